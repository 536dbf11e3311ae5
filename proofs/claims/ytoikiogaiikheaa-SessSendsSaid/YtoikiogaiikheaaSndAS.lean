/- Code of a function over slots: ids may be given anew between its parts. -/
import Derived.Test.YtoikiogaiikheaaSndAR
set_option linter.unusedSectionVars false
set_option linter.unusedVariables false
set_option linter.unusedSimpArgs false
namespace Ide
open Go Go.RowKit

/-- How a function was entered: only ids of its caller's are known outside. -/
structure Root where
  β : Emb
  w : World
  m : Nat
  dom : ∀ id l, β.loc id = some l → 64 ≤ id ∧ id < m
  held : ∀ id, β.held id → 64 ≤ id ∧ id < m

def IWR (r : Root) (ro : Option Nat) (P : Program) (nt : Nat) (c : Code) (Q : IExit → Env → IHeap → Prop) (env : Env) (H : IHeap) : Prop :=
  ∀ (n0 : Nat) (β : Emb) (w : World) (a : Act), Step r.β r.w β w → Sim β H w → TRel β.loc nt env a.tmps → Mk n0 β w a.defers → c.wpIn (Fz ro) 0 P (QR n0 nt r.β r.w Q) a w

def LWQ (r : Root) (ro : Option Nat) (P : Program) (nt : Nat) (c : Code) (Q : IExit → Env → IHeap → Prop) (env : Env) (H : IHeap) : Prop :=
  ∀ (n0 : Nat) (β : Emb) (w : World) (a : Act), Step r.β r.w β w → Sim β H w → TRel β.loc nt env a.tmps → Mk n0 β w a.defers →
    ∀ (b : Frame) (k : List Item) (cs : List Frame), b.roundOf = (Fz ro).round → (Fz ro).fn b.fn → (Fz ro).room (cs.length + 1 + 0) →
      ∃ e a' w', QR n0 nt r.β r.w Q e a' w' ∧ ArrivesIn (Machine.fenced P (Fz ro)) P (lone (b.atR a (.code c :: .inLoop c :: k)) cs w) b k cs e a' w'

section
variable {r : Root} {ro : Option Nat} {P : Program} {nt : Nat}

theorem IWR.of_iw {c : Code} {Q : IExit → Env → IHeap → Prop} {env : Env} {H : IHeap} (h : IW ro P nt c Q env H) : IWR r ro P nt c Q env H :=
  fun n0 β w a St S hT hM => wpIn_mono (h n0 β w a S hT hM) fun e a' w' hq => hq.trans St

theorem IWR.mono {c : Code} {Q Q' : IExit → Env → IHeap → Prop} {env : Env} {H : IHeap} (h : IWR r ro P nt c Q env H) (hq : ∀ e env H, Q e env H → Q' e env H) : IWR r ro P nt c Q' env H := by
  intro n0 β w a St S hT hM
  refine wpIn_mono (h n0 β w a St S hT hM) fun e a' w' h => ?_
  cases e with
  | normal => obtain ⟨β', H', env', St, S', hT', hM', hn⟩ := h; exact ⟨β', H', env', St, S', hT', hM', hq _ _ _ hn⟩
  | exit id => obtain ⟨β', H', env', St, S', hT', hM', hn⟩ := h; exact ⟨β', H', env', St, S', hT', hM', hq _ _ _ hn⟩
  | ret => obtain ⟨β', H', env', St, S', hT', hM', hn⟩ := h; exact ⟨β', H', env', St, S', hT', hM', hq _ _ _ hn⟩
  | panic ch => obtain ⟨β', H', env', v, v', St, S', hch, hv, hM', hsz, hn⟩ := h; exact ⟨β', H', env', v, v', St, S', hch, hv, hM', hsz, hq _ _ _ hn⟩
  | goto t => exact h
  | outgrown => exact h

theorem IWR.weaken {c : Code} {Q : IExit → Env → IHeap → Prop} {env env' : Env} {H : IHeap} (h : IWR r ro P nt c Q env' H) (hw : ∀ t, lk env' t = lk env t ∨ lk env' t = anyV) : IWR r ro P nt c Q env H := by
  intro n0 β w a St S hT hM
  exact h n0 β w a St S ⟨hT.1, fun t ht => by rcases hw t with e | e <;> rw [e] <;> first | exact hT.2 t ht | exact .any _⟩ hM
theorem LWQ.weaken {c : Code} {Q : IExit → Env → IHeap → Prop} {env env' : Env} {H : IHeap} (h : LWQ r ro P nt c Q env' H) (hw : ∀ t, lk env' t = lk env t ∨ lk env' t = anyV) : LWQ r ro P nt c Q env H := by
  intro n0 β w a St S hT hM
  exact h n0 β w a St S ⟨hT.1, fun t ht => by rcases hw t with e | e <;> rw [e] <;> first | exact hT.2 t ht | exact .any _⟩ hM

theorem iwr_seq {x y : Code} {Q : IExit → Env → IHeap → Prop} {env : Env} {H : IHeap} (h : IWR r ro P nt x (thn (fun env H => IWR r ro P nt y Q env H) Q) env H) : IWR r ro P nt (.seq x y) Q env H := by
  intro n0 β w a St S hT hM
  refine wpIn_seq (wpIn_mono (h n0 β w a St S hT hM) fun e a' w' hq => ?_)
  cases e with
  | normal =>
    obtain ⟨β', H', env', St, S', hT', hM', hn⟩ := hq
    exact hn n0 β' w' a' St S' hT' hM'
  | exit id => exact hq
  | goto l => exact hq
  | ret => exact hq
  | panic ch => exact hq
  | outgrown => exact hq

theorem iwr_block {id : Nat} {x : Code} {Q : IExit → Env → IHeap → Prop} {env : Env} {H : IHeap} (h : IWR r ro P nt x (inB id Q) env H) : IWR r ro P nt (.block id x) Q env H := by
  intro n0 β w a St S hT hM
  refine wpIn_block (wpIn_mono (h n0 β w a St S hT hM) fun e a' w' hq => ?_)
  cases e with
  | normal => exact hq
  | exit i =>
    obtain ⟨β', H', env', St, S', hT', hM', hn⟩ := hq
    simp only [inB] at hn
    by_cases e : i = id
    · subst e
      simp only [Nat.beq_refl, cond_true] at hn
      simp only [Exit.inBlock, if_true]
      exact ⟨β', H', env', St, S', hT', hM', hn⟩
    · rw [beq_false e] at hn
      simp only [Exit.inBlock, e, if_false]
      exact ⟨β', H', env', St, S', hT', hM', hn⟩
  | goto l => exact hq
  | ret => exact hq
  | panic ch => exact hq
  | outgrown => exact hq

theorem iwr_loop {c : Code} {Q : IExit → Env → IHeap → Prop} {env : Env} {H : IHeap} (h : LWQ r ro P nt c Q env H) : IWR r ro P nt (.loop c) Q env H := by
  intro n0 β w a St S hT hM b k cs hro hb hr
  obtain ⟨e, a', w', hq, harr⟩ := h n0 β w a St S hT hM b k cs hro hb hr
  exact ⟨e, a', w', hq, .of_steps (.one (fenced_calm hb hr rfl) stepR_loop) harr⟩

theorem iwr_cond {c : Operand} {x y : Code} {t : Bool} {Q : IExit → Env → IHeap → Prop} {env : Env} {H : IHeap} (hok : okOpd nt c = true) (hc : iev env c = .bool t) (h : IWR r ro P nt (if t then x else y) Q env H) : IWR r ro P nt (.cond c x y) Q env H := by
  intro n0 β w a St S hT hM
  have hc' := iev_rel (a := a) hT hok
  rw [hc] at hc'
  exact wpIn_cond hc'.inv_bool (h n0 β w a St S hT hM)

theorem iwr_scope {c : Code} {Q : IExit → Env → IHeap → Prop} {env : Env} {H : IHeap} (h : IWR r ro P nt c Q env H) : IWR r ro P nt (.scope c) Q env H := by
  intro n0 β w a St S hT hM b k cs hro hb hr
  have h0 : (lone (b.atR a (.code (.scope c) :: k)) cs w).fenced P (Fz ro) := fenced_calm hb hr rfl
  obtain ⟨e, a₁, w₁, hq, harr⟩ := h n0 β w a St S hT hM b (.inScope c :: k) cs hro hb hr
  cases e with
  | normal => exact ⟨.normal, a₁, w₁, hq, .head h0 stepR_scope (StepsIn.trans harr (.one (fenced_calm hb hr rfl) stepR_inScope))⟩
  | exit id =>
    have hx : exitTo id (.inScope c :: k) = exitTo id k := by simp [exitTo]
    exact ⟨.exit id, a₁, w₁, hq, fun k' hk => .head h0 stepR_scope (harr.1 k' (by rw [hx]; exact hk)),
      fun hr' hk => let ⟨k₁, h1, h2⟩ := harr.2 hr' (by rw [hx]; exact hk); ⟨k₁, h1, .head h0 stepR_scope h2⟩⟩
  | goto l => exact hq.elim
  | ret => exact ⟨_, a₁, w₁, hq, .of_steps (.one h0 stepR_scope) harr⟩
  | panic ch => exact ⟨_, a₁, w₁, hq, .of_steps (.one h0 stepR_scope) harr⟩
  | outgrown => exact hq.elim

theorem lwq_step {c : Code} {Q : IExit → Env → IHeap → Prop} {env : Env} {H : IHeap} (h : IWR r ro P nt c (thn (fun env H => LWQ r ro P nt c Q env H) Q) env H) : LWQ r ro P nt c Q env H := by
  intro n0 β w a St S hT hM b k cs hro hb hr
  obtain ⟨e, a₁, w₁, hq, harr⟩ := h n0 β w a St S hT hM b (.inLoop c :: k) cs hro hb hr
  cases e with
  | normal =>
    obtain ⟨β', H', env', St', S', hT', hM', hn⟩ := hq
    obtain ⟨e₂, a₂, w₂, hq₂, harr₂⟩ := hn n0 β' w₁ a₁ St' S' hT' hM' b k cs hro hb hr
    exact ⟨e₂, a₂, w₂, hq₂, .of_steps (StepsIn.trans harr (.one (fenced_calm hb hr rfl) stepR_inLoop)) harr₂⟩
  | exit id => exact ⟨.exit id, a₁, w₁, hq, .pass (x := .inLoop c) rfl (fun _ _ => .inl (by simp)) harr⟩
  | goto l => exact hq.elim
  | ret => exact ⟨.ret, a₁, w₁, hq, .pass (x := .inLoop c) rfl (fun _ _ => .inl (by simp)) harr⟩
  | panic ch => exact ⟨.panic ch, a₁, w₁, hq, .pass (x := .inLoop c) rfl (fun _ _ => .inl (by simp)) harr⟩
  | outgrown => exact hq.elim

/-! ### ids are given anew -/
structure Move (m : Nat) (env : Env) (H : IHeap) (env2 : Env) (H2 : IHeap) (σ τ : Nat → Option Nat) : Prop where
  inv : ∀ i j, (i < H.length ∧ σ i = some j) ↔ τ j = some i
  stab : ∀ i, 64 ≤ i → i < m → i < H.length ∧ σ i = some i
  obj : ∀ i j o2, τ j = some i → H2[j]? = some o2 → o2 = .dead ∨ ∃ o, H[i]? = some o ∧ (o = .free ∨ LessO (mvO σ o) o2)
  dom : ∀ i j, τ j = some i → j < H2.length
  env : ∀ t, lk env2 t = anyV ∨ Less (mvV σ (lk env t)) (lk env2 t)

/-- Where things lie then. -/
def mvEmb (τ : Nat → Option Nat) (β : Emb) : Emb := { w0 := β.w0, loc := fun j => (τ j).bind β.loc, held := β.held }

theorem mvEmb_src {τ : Nat → Option Nat} {β : Emb} {j : Nat} {l : Loc} (h : (mvEmb τ β).loc j = some l) : ∃ i, τ j = some i ∧ β.loc i = some l := Option.bind_eq_some_iff.1 h

theorem Move.loc {m : Nat} {env env2 : Env} {H H2 : IHeap} {σ τ : Nat → Option Nat} (M : Move m env H env2 H2 σ τ) {β : Emb} {w : World} (S : Sim β H w) (i j : Nat) (l : Loc) (hs : σ i = some j) (hl : β.loc i = some l) : (mvEmb τ β).loc j = some l := by
  show (τ j).bind β.loc = some l
  rw [(M.inv i j).1 ⟨S.dom i l hl, hs⟩]
  exact hl

theorem Move.sim {m : Nat} {env env2 : Env} {H H2 : IHeap} {σ τ : Nat → Option Nat} (M : Move m env H env2 H2 σ τ) {β : Emb} {w : World} (S : Sim β H w) (hh : ∀ id, β.held id → 64 ≤ id ∧ id < m) : Sim (mvEmb τ β) H2 w where
  below := S.below
  dom := fun j l hl => by obtain ⟨i, h1, _⟩ := mvEmb_src hl; exact M.dom i j h1
  held := fun id h => by
    obtain ⟨h1, h2⟩ := hh id h
    obtain ⟨h3, h4⟩ := M.stab id h1 h2
    have ht := (M.inv id id).1 ⟨h3, h4⟩
    obtain ⟨_, h5, h6⟩ := S.held id h
    refine ⟨M.dom _ _ ht, ?_, fun h7 => ?_⟩
    · show (τ id).bind β.loc = none
      rw [ht]; exact h5
    · rcases M.obj id id _ ht h7 with h | ⟨o, h8, rfl | h9⟩
      · cases h
      · exact h6 h8
      · rw [mvO_free h9.free] at h8; exact h6 h8
  blk := fun j l hl => by obtain ⟨i, _, h2⟩ := mvEmb_src hl; exact S.blk i l h2
  obj := fun j l o hl ho => by
    obtain ⟨i, h1, h2⟩ := mvEmb_src hl
    rcases M.obj i j o h1 ho with rfl | ⟨o', h3, rfl | h4⟩
    · trivial
    · exact (S.obj i l _ h2 h3).elim
    · exact h4.rel ((S.obj i l o' h2 h3).mv (fun i j l hs hl => M.loc S i j l hs hl))
  inj := fun a b la lb o o' hl hl' ho ho' hown hown' hb => by
    obtain ⟨i, a1, a2⟩ := mvEmb_src hl
    obtain ⟨j, b1, b2⟩ := mvEmb_src hl'
    rcases M.obj i a o a1 ho with rfl | ⟨p, p1, rfl | hp⟩
    · cases hown
    · exact (S.obj i la _ a2 p1).elim
    rcases M.obj j b o' b1 ho' with rfl | ⟨q, q1, rfl | hq⟩
    · cases hown'
    · exact (S.obj j lb _ b2 q1).elim
    have := S.inj i j la lb p q a2 b2 p1 q1 (mvO_own (hp.own hown)) (mvO_own (hq.own hown')) hb
    subst this
    have h1 := ((M.inv i a).2 a1).2
    have h2 := ((M.inv i b).2 b1).2
    rw [h1] at h2
    exact Option.some.inj h2

theorem Move.step {r : Root} {env env2 : Env} {H H2 : IHeap} {σ τ : Nat → Option Nat} (M : Move r.m env H env2 H2 σ τ) {β : Emb} {w : World} (St : Step r.β r.w β w) : Step r.β r.w (mvEmb τ β) w where
  le := ⟨St.le.1, fun id l hl => by
    obtain ⟨h1, h2⟩ := r.dom id l hl
    show (τ id).bind β.loc = some l
    rw [(M.inv id id).1 (M.stab id h1 h2)]
    exact St.le.2 id l hl⟩
  size := St.size
  newb := fun j l hl => by obtain ⟨i, _, h2⟩ := mvEmb_src hl; exact St.newb i l h2
  frame := St.frame

theorem Move.trel {m : Nat} {env env2 : Env} {H H2 : IHeap} {σ τ : Nat → Option Nat} (M : Move m env H env2 H2 σ τ) {β : Emb} {w : World} (S : Sim β H w) {tm : Array Value} (hT : TRel β.loc nt env tm) : TRel (mvEmb τ β).loc nt env2 tm :=
  ⟨hT.1, fun t ht => by
    rcases M.env t with e | e
    · rw [e]; exact .any _
    · exact e _ _ ((hT.2 t ht).mv (fun i j l hs hl => M.loc S i j l hs hl))⟩

theorem move_mk {τ : Nat → Option Nat} {β : Emb} {w : World} {n0 : Nat} {ds : List Deferred} (h : Mk n0 β w ds) : Mk n0 (mvEmb τ β) w ds := by
  refine ⟨h.1, ?_⟩
  have go : ∀ ds : List Deferred, MkL n0 β w ds → MkL n0 (mvEmb τ β) w ds := by
    intro ds
    induction ds with
    | nil => intro _; trivial
    | cons d ds ih =>
      rintro ⟨⟨r, h1, ⟨h2, h3, h4⟩, h5⟩, h6⟩
      refine ⟨⟨r, h1, ⟨h2, fun id l hl => ?_, h4⟩, h5⟩, ih h6⟩
      obtain ⟨i, _, k2⟩ := mvEmb_src hl
      exact h3 _ _ k2
  exact go _ h.2

theorem IWR.move {c : Code} {Q : IExit → Env → IHeap → Prop} {env env2 : Env} {H H2 : IHeap} {σ τ : Nat → Option Nat} (M : Move r.m env H env2 H2 σ τ) (h : IWR r ro P nt c Q env2 H2) : IWR r ro P nt c Q env H := by
  intro n0 β w a St S hT hM
  have hh : ∀ id, β.held id → 64 ≤ id ∧ id < r.m := fun id h => r.held id (by have := St.le.1.2; rw [← this]; exact h)
  exact h n0 _ w a (M.step St) (M.sim S hh) (M.trel S hT) (move_mk hM)
theorem LWQ.move {c : Code} {Q : IExit → Env → IHeap → Prop} {env env2 : Env} {H H2 : IHeap} {σ τ : Nat → Option Nat} (M : Move r.m env H env2 H2 σ τ) (h : LWQ r ro P nt c Q env2 H2) : LWQ r ro P nt c Q env H := by
  intro n0 β w a St S hT hM
  have hh : ∀ id, β.held id → 64 ≤ id ∧ id < r.m := fun id h => r.held id (by have := St.le.1.2; rw [← this]; exact h)
  exact h n0 _ w a (M.step St) (M.sim S hh) (M.trel S hT) (move_mk hM)

/-- A function's contract over any heap. -/
theorem icalls_root {f : FuncId} {args : List Value} {H : IHeap} {R : IEnd → IHeap → Prop} (hok : fnOkN P f args.length = true)
    (h : ∀ r : Root, r.m = 64 + H.length → IWR r none P (ntOf P f) (bodyOf P f) (bodyS P (ressOf P f) (slotR H.length R)) (envOf 0 (mvV.goL shU args)) (pad 64 [] (H.map (mvO shU)))) : ICalls P f args H R := by
  refine ICalls.slots ?_
  simp only [fnOkN, Bool.and_eq_true] at hok
  obtain ⟨hok, hn⟩ := hok
  unfold fnOk at hok
  unfold ntOf ressOf bodyOf at h
  unfold ntOf at hn
  split at hok
  · rename_i fn h2
    simp only [h2] at h hn
    split at hok
    · rename_i c h3
      simp only [h3] at h
      simp only [Bool.and_eq_true, Bool.not_eq_true'] at hok
      refine icalls_of_iw ⟨h2, h3, hok.1.1, hok.1.2, hok.2, by rw [mvL_len]; exact Nat.le_of_ble_eq_true hn⟩ (IW.mono ?_ bodyS_sound)
      intro n0 β w a S hT hM
      have low : ∀ id, id < 64 → (pad 64 [] (H.map (mvO shU)))[id]? = some .free := fun id hid => by rw [pad_low 64 _ _ id hid]; rfl
      refine h ⟨β, w, 64 + H.length, fun id l hl => ?_, fun id hh => ?_⟩ rfl n0 β w a (Step.refl _ _) S hT hM
      · have h1 := S.dom id l hl
        rw [pad_len, List.length_map] at h1
        refine ⟨?_, h1⟩
        rcases Nat.lt_or_ge id 64 with h2 | h2
        · exact (S.obj id l _ hl (low id h2)).elim
        · exact h2
      · obtain ⟨h1, _, h3⟩ := S.held id hh
        rw [pad_len, List.length_map] at h1
        refine ⟨?_, h1⟩
        rcases Nat.lt_or_ge id 64 with h2 | h2
        · exact absurd (low id h2) h3
        · exact h2
    · cases hok
  · cases hok

/-! ### slots are given up; some are kept, behind all else -/
/-- The first s slots stay; those of ks come last; the others are given up. -/
def sgT (s : Nat) (ks : List Nat) (N : Nat) (i : Nat) : Option Nat := bif Nat.blt i s then some i else bif Nat.ble 64 i then some i else bif memN i ks then some (N + posN i ks) else none

theorem Move.slots {m s : Nat} {ks : List Nat} {env env2 : Env} {l l2 : List IObj} {base base2 objs : IHeap} (hm : m ≤ 64 + base.length) (hs : s ≤ 64) (hnd : ks.Nodup) (hks : ks.all (fun k => Nat.ble s k && Nat.blt k 64) = true)
    (hl : ∀ j, j < s → LessO (mvO (sgT s ks (64 + base.length)) (l.getD j .free)) (l2.getD j .free))
    (hb : LessOs (base.map (mvO (sgT s ks (64 + base.length)))) base2) (ho : NewsAt (sgT s ks (64 + base.length)) l ks objs)
    (he : ∀ t, lk env2 t = anyV ∨ Less (mvV (sgT s ks (64 + base.length)) (lk env t)) (lk env2 t)) :
    Move m env (pad 64 l base) env2 (pad 64 l2 (base2 ++ objs)) (sgT s ks (64 + base.length)) (fun j => if j < s then some j else if j < 64 then none else if j < 64 + base.length then some j else ks[j - (64 + base.length)]?) := by
  have hbl : base2.length = base.length := by rw [hb.len]; simp
  have hol := ho.len
  have ho' := ho
  clear ho
  have hlen : (pad 64 l base).length = 64 + base.length := pad_len _ _ _
  have hk : ∀ {p k : Nat}, ks[p]? = some k → s ≤ k ∧ k < 64 := fun {p k} hp => by
    have := List.all_eq_true.1 hks k (List.mem_of_getElem? hp)
    simp only [Bool.and_eq_true, Nat.blt_eq] at this
    exact ⟨Nat.le_of_ble_eq_true this.1, this.2⟩
  -- what sgT is
  have s1 : ∀ {i}, i < s → sgT s ks (64 + base.length) i = some i := fun {i} h => by unfold sgT; rw [show Nat.blt i s = true by simpa [Nat.blt_eq] using h]; rfl
  have s2 : ∀ {i}, 64 ≤ i → sgT s ks (64 + base.length) i = some i := fun {i} h => by
    unfold sgT
    rw [Nat.ble_eq_true_of_le h]
    cases Nat.blt i s <;> rfl
  have s3 : ∀ {i}, s ≤ i → i < 64 → sgT s ks (64 + base.length) i = (bif memN i ks then some (64 + base.length + posN i ks) else none) := fun {i} h h' => by
    unfold sgT
    have e1 : Nat.blt i s = false := by cases h2 : Nat.blt i s with | false => rfl | true => simp [Nat.blt_eq] at h2; omega
    have e2 : Nat.ble 64 i = false := by cases h2 : Nat.ble 64 i with | false => rfl | true => have := Nat.le_of_ble_eq_true h2; omega
    rw [e1, e2]; rfl
  refine ⟨fun i j => ?_, fun i h1 h2 => ⟨by rw [hlen]; omega, s2 h1⟩, fun i j o2 hj ho => ?_, fun i j hj => ?_, he⟩
  · rw [hlen]
    constructor
    · rintro ⟨h1, h2⟩
      rcases Nat.lt_or_ge i s with h3 | h3
      · rw [s1 h3] at h2; cases h2
        simp [h3]
      · rcases Nat.lt_or_ge i 64 with h4 | h4
        · rw [s3 h3 h4] at h2
          cases hmem : memN i ks with
          | false => rw [hmem] at h2; cases h2
          | true =>
            rw [hmem] at h2
            simp only [cond_true] at h2
            cases h2
            rw [if_neg (by omega), if_neg (by omega), if_neg (by omega), Nat.add_sub_cancel_left]
            exact posN_get (memN_iff.1 hmem)
        · rw [s2 h4] at h2; cases h2
          rw [if_neg (by omega), if_neg (by omega), if_pos h1]
    · intro h
      split at h
      · cases h; rename_i h3; exact ⟨by omega, s1 h3⟩
      · split at h
        · cases h
        · split at h
          · cases h; rename_i h3 h4 h5; exact ⟨h5, s2 (by omega)⟩
          · rename_i h3 h4 h5
            obtain ⟨h6, h7⟩ := hk h
            refine ⟨by omega, ?_⟩
            have hmem := memN_iff.2 (List.mem_of_getElem? h)
            rw [s3 h6 h7, hmem]
            simp only [cond_true]
            have := nod_inj hnd (posN_get (memN_iff.1 hmem)) h
            rw [this]
            congr 1
            omega
  · split at hj
    · cases hj
      rename_i h3
      rw [pad_low 64 _ _ _ (by omega)] at ho
      cases ho
      exact .inr ⟨_, pad_low 64 l base i (by omega), .inr (hl i h3)⟩
    · split at hj
      · cases hj
      · split at hj
        · cases hj
          rename_i h3 h4 h5
          rw [pad_get _ _ (by omega), List.getElem?_append_left (by omega)] at ho
          obtain ⟨p, hp, hle⟩ := hb.get ho
          rw [List.getElem?_map] at hp
          obtain ⟨o', h6, rfl⟩ := Option.map_eq_some_iff.1 hp
          exact .inr ⟨o', by rw [pad_get _ _ (by omega)]; exact h6, .inr hle⟩
        · rename_i h3 h4 h5
          rw [pad_get _ _ (by omega), List.getElem?_append_right (by omega), hbl, show j - 64 - base.length = j - (64 + base.length) by omega] at ho
          exact .inr ⟨_, pad_low 64 l base i (hk hj).2, ho'.get hj ho⟩
  · rw [pad_len, List.length_append, hbl, hol]
    split at hj
    · cases hj; omega
    · split at hj
      · omega
      · split at hj
        · omega
        · have := (List.getElem?_eq_some_iff.1 hj).1; omega

/-- Environments, one telling less than the other. -/
def EnvLess (σ : Nat → Option Nat) : Env → Env → Prop
  | [], [] => True
  | (t, v) :: e, (t', u) :: e' => (t' = t ∧ Less (mvV σ v) u) ∧ EnvLess σ e e'
  | _, _ => False
theorem EnvLess.lk {σ : Nat → Option Nat} : ∀ {e e' : Env}, EnvLess σ e e' → ∀ t, lk e' t = anyV ∨ Less (mvV σ (Ide.lk e t)) (Ide.lk e' t)
  | [], [], _, t => .inl rfl
  | (u, v) :: e, (u', v') :: e', h, t => by
    obtain ⟨⟨rfl, h1⟩, h2⟩ := h
    simp only [Ide.lk]
    cases Nat.beq u' t with
    | true => exact .inr h1
    | false => exact h2.lk t
  | [], _ :: _, h, _ => h.elim
  | _ :: _, [], h, _ => h.elim

end
end Ide
