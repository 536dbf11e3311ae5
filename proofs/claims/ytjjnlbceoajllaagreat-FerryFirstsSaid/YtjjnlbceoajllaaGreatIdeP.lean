/- Regions in the text's order. -/
import Derived.Test.YtjjnlbceoajllaaGreatIdeO
import Derived.RangeFuncLeaves
import Derived.OrdersIn
set_option linter.unusedVariables false
set_option linter.unusedSimpArgs false
namespace Ide
open Go Go.RowKit

/-! ### marks of ranges over functions among the deferred calls -/
/-- A block of deferred calls that holds none, and that nothing else lies in; not older than n0. -/
def MkAt (n0 : Nat) (β : Emb) (w : World) (r : Nat) : Prop := w.heap[r]? = some (.deferred (some [])) ∧ (∀ id l, β.loc id = some l → l.block ≠ r) ∧ n0 ≤ r

def MkL (n0 : Nat) (β : Emb) (w : World) : List Deferred → Prop
  | [] => True
  | d :: ds => (∃ r, d.target = .collected r ∧ MkAt n0 β w r ∧ ∀ d' ∈ ds, d'.target ≠ .collected r) ∧ MkL n0 β w ds

def Mk (n0 : Nat) (β : Emb) (w : World) (ds : List Deferred) : Prop := n0 ≤ w.heap.size ∧ MkL n0 β w ds

theorem MkAt.step {n0 : Nat} {β β' : Emb} {w w' : World} (h : Step β w β' w') {r : Nat} (hm : MkAt n0 β w r) : MkAt n0 β' w' r := by
  have hlt : r < w.heap.size := (Array.getElem?_eq_some_iff.1 hm.1).1
  refine ⟨(h.frame r hlt hm.2.1).trans hm.1, fun id l hl => ?_, hm.2.2⟩
  rcases h.newb id l hl with ⟨i, l0, h0, e⟩ | hge
  · rw [← e]; exact hm.2.1 i l0 h0
  · omega

theorem MkL.step {n0 : Nat} {β β' : Emb} {w w' : World} (h : Step β w β' w') : ∀ {ds : List Deferred}, MkL n0 β w ds → MkL n0 β' w' ds
  | [], _ => trivial
  | _ :: _, ⟨⟨r, h1, h2, h3⟩, h4⟩ => ⟨⟨r, h1, h2.step h, h3⟩, h4.step h⟩

theorem Mk.step {n0 : Nat} {β β' : Emb} {w w' : World} (h : Step β w β' w') {ds : List Deferred} (hm : Mk n0 β w ds) : Mk n0 β' w' ds := ⟨Nat.le_trans hm.1 h.size, hm.2.step h⟩

/-! ### how code is left -/
def QR (n0 nt : Nat) (β : Emb) (w : World) (Q : IExit → Env → IHeap → Prop) : Exit → Act → World → Prop
  | .normal, a, w' => ∃ β' H' env', Step β w β' w' ∧ Sim β' H' w' ∧ TRel β'.loc nt env' a.tmps ∧ Mk n0 β' w' a.defers ∧ Q .normal env' H'
  | .exit id, a, w' => ∃ β' H' env', Step β w β' w' ∧ Sim β' H' w' ∧ TRel β'.loc nt env' a.tmps ∧ Mk n0 β' w' a.defers ∧ Q (.exit id) env' H'
  | .ret, a, w' => ∃ β' H' env', Step β w β' w' ∧ Sim β' H' w' ∧ TRel β'.loc nt env' a.tmps ∧ Mk n0 β' w' a.defers ∧ Q .ret env' H'
  | .panic chain, a, w' => ∃ β' H' env' v v', Step β w β' w' ∧ Sim β' H' w' ∧ chain = [{ v := v', recovered := false }] ∧ VRel β'.loc v v' ∧ Mk n0 β' w' a.defers ∧ a.tmps.size = nt ∧ Q (.panic v) env' H'
  | _, _, _ => False

theorem QR.trans {n0 nt : Nat} {β β' : Emb} {w w' : World} {Q : IExit → Env → IHeap → Prop} (h : Step β w β' w') {e : Exit} {a : Act} {w'' : World} (hq : QR n0 nt β' w' Q e a w'') : QR n0 nt β w Q e a w'' := by
  cases e with
  | normal => obtain ⟨b, H, env, h1, r⟩ := hq; exact ⟨b, H, env, h.trans h1, r⟩
  | exit id => obtain ⟨b, H, env, h1, r⟩ := hq; exact ⟨b, H, env, h.trans h1, r⟩
  | ret => obtain ⟨b, H, env, h1, r⟩ := hq; exact ⟨b, H, env, h.trans h1, r⟩
  | panic c => obtain ⟨b, H, env, v, v', h1, r⟩ := hq; exact ⟨b, H, env, v, v', h.trans h1, r⟩
  | goto l => exact hq.elim
  | outgrown => exact hq.elim

/-- The ideal meaning of code, in the machine. -/
def IW (ro : Option Nat) (P : Program) (nt : Nat) (c : Code) (Q : IExit → Env → IHeap → Prop) (env : Env) (H : IHeap) : Prop :=
  ∀ (n0 : Nat) (β : Emb) (w : World) (a : Act), Sim β H w → TRel β.loc nt env a.tmps → Mk n0 β w a.defers → c.wpIn (Fz ro) 0 P (QR n0 nt β w Q) a w

theorem act_put_tmps (a : Act) (d : Option Nat) (v : Value) : (a.put d v).defers = a.defers := by cases d <;> rfl
theorem act_put_size (a : Act) (d : Option Nat) (v : Value) : (a.put d v).tmps.size = a.tmps.size := by cases d <;> simp [Act.put]

theorem lk_put (env : Env) (d : Option Nat) (v : Value) (t : Nat) : lk (put env d v) t = if d = some t then v else lk env t := by
  cases d with
  | none => simp [put]
  | some s =>
    simp only [put, lk]
    by_cases e : s = t
    · subst e; simp
    · rw [beq_false e]; simp [e]

theorem put_getD (a : Act) (d : Option Nat) (v : Value) (t : Nat) (hd : ∀ s, d = some s → s < a.tmps.size) : (a.put d v).tmps.getD t undef = if d = some t then v else a.tmps.getD t undef := by
  cases d with
  | none => simp [Act.put]
  | some s =>
    simp only [Act.put]
    by_cases e : s = t
    · subst e
      rw [if_pos rfl, Array.getD_eq_getD_getElem?, Array.getElem?_setIfInBounds_self_of_lt (hd s rfl)]; rfl
    · rw [if_neg (by simp [e]), Array.getD_eq_getD_getElem?, Array.getElem?_setIfInBounds_ne e, ← Array.getD_eq_getD_getElem?]

theorem TRel.put {L : LMap} {nt : Nat} {env : Env} {a : Act} (h : TRel L nt env a.tmps) {d : Option Nat} (hd : (match d with | none => true | some d => Nat.blt d nt) = true) {v v' : Value} (hv : VRel L v v') :
    TRel L nt (Ide.put env d v) (a.put d v').tmps := by
  have hd' : ∀ s, d = some s → s < a.tmps.size := by
    rintro s rfl
    have : s < nt := by simpa [Nat.blt_eq] using hd
    rw [h.1]; exact this
  refine ⟨by rw [act_put_size]; exact h.1, fun t ht => ?_⟩
  rw [lk_put, put_getD a d v' t hd']
  by_cases e : d = some t
  · rw [if_pos e, if_pos e]; exact hv
  · rw [if_neg e, if_neg e]; exact h.2 t ht

/-- The same values for every temporary. -/
def Env.same (e e' : Env) : Prop := ∀ t, lk e' t = lk e t
theorem Env.same.refl (e : Env) : e.same e := fun _ => rfl

theorem same_cons {env : Env} {t : Nat} {v : Value} (h : lk env t = v) : env.same ((t, v) :: env) := by
  intro s
  simp only [lk]
  by_cases e : t = s
  · subst e; simp [h]
  · rw [beq_false e]; simp

/-- Is the operation wanted? -/
def gval (all : List Oper) (g : Option (Nat × Bool)) (env : Env) : Bool :=
  match g with
  | none => true
  | some (j, want) =>
    match dstAt all j with
    | none => false
    | some t =>
      match lk env t with
      | .bool b => b == want
      | _ => false

def gok (all : List Oper) (g : Option (Nat × Bool)) (env : Env) : Prop :=
  ∀ j b t, g = some (j, b) → dstAt all j = some t → (∃ c, lk env t = .bool c) ∨ lk env t = .tuple ⟨[]⟩

theorem guarded_cases {all : List Oper} {g : Option (Nat × Bool)} {env : Env} {Y N : Env → Prop} (h : guarded all g env Y N) :
    gok all g env ∧ ∃ env', env.same env' ∧ ((gval all g env = true ∧ Y env') ∨ (gval all g env = false ∧ N env')) := by
  unfold guarded at h
  unfold gval gok
  split at h
  · exact ⟨(fun _ _ _ e => by cases e), env, .refl _, .inl ⟨rfl, h⟩⟩
  · rename_i j want
    split at h
    · rename_i hd
      refine ⟨fun j' b' t' e e' => ?_, env, .refl _, .inr ⟨by simp [hd], h⟩⟩
      cases e; rw [hd] at e'; cases e'
    · rename_i t hd
      simp only [hd]
      split at h
      · rename_i b hb
        refine ⟨fun j' b' t' e e' => ?_, ?_⟩
        · cases e; rw [hd] at e'; cases e'; exact .inl ⟨b, hb⟩
        obtain ⟨h1, h2⟩ := bcase_sound h
        simp only [hb]
        cases b with
        | true =>
          have := h1 rfl
          refine ⟨_, same_cons hb, ?_⟩
          cases want
          · exact .inr ⟨rfl, this⟩
          · exact .inl ⟨rfl, this⟩
        | false =>
          have := h2 rfl
          refine ⟨_, same_cons hb, ?_⟩
          cases want
          · exact .inl ⟨rfl, this⟩
          · exact .inr ⟨rfl, this⟩
      · rename_i hb
        refine ⟨fun j' b' t' e e' => ?_, env, .refl _, .inr ⟨by simp [hb], h⟩⟩
        cases e; rw [hd] at e'; cases e'; exact .inr hb
      · exact h.elim

theorem wanted_eq {all : List Oper} {g : Option (Nat × Bool)} {env : Env} {L : LMap} {a : Act} {o : Oper} (ho : o.guard = g) (hg : gok all g env)
    (hr : ∀ j b t, g = some (j, b) → dstAt all j = some t → t < a.tmps.size ∧ VRel L (lk env t) (a.tmps.getD t undef)) : Region.wanted o (yielded all.toArray a.tmps) = gval all g env := by
  unfold Region.wanted gval
  rw [ho]
  split
  · rfl
  · rename_i j want
    have hy : yielded all.toArray a.tmps j = match (dstAt all j).bind (a.tmps[·]?) with | some (.bool b) => some b | _ => none := by
      simp only [yielded, dstAt, List.getElem?_toArray]
      rfl
    simp only [hy]
    cases hd : dstAt all j with
    | none => rfl
    | some t =>
      obtain ⟨hlt, hv⟩ := hr j want t rfl hd
      have hget : a.tmps[t]? = some (a.tmps.getD t undef) := by
        rw [Array.getD_eq_getD_getElem?, Array.getElem?_eq_getElem hlt]; rfl
      simp only [Option.bind_some, hget]
      rcases hg j want t rfl hd with ⟨c, hc⟩ | hc
      · rw [hc] at hv ⊢
        rw [hv.inv_bool]
        rfl
      · rw [hc] at hv ⊢
        generalize a.tmps.getD t undef = z at hv
        cases hv with
        | tuple h => rfl

theorem guarded_sound {all : List Oper} {g : Option (Nat × Bool)} {env : Env} {Y N : Env → Prop} {L : LMap} {a : Act} {o : Oper} (ho : o.guard = g) (h : guarded all g env Y N)
    (hr : ∀ j b t, g = some (j, b) → dstAt all j = some t → t < a.tmps.size ∧ VRel L (lk env t) (a.tmps.getD t undef)) :
    ∃ env', env.same env' ∧ ((Region.wanted o (yielded all.toArray a.tmps) = true ∧ Y env') ∨ (Region.wanted o (yielded all.toArray a.tmps) = false ∧ N env')) := by
  obtain ⟨hg, h⟩ := guarded_cases h
  rw [wanted_eq ho hg hr]
  exact h

theorem TRel.same {L : LMap} {nt : Nat} {e e' : Env} {tm : Array Value} (h : TRel L nt e tm) (he : e.same e') : TRel L nt e' tm := ⟨h.1, fun t ht => by rw [he t]; exact h.2 t ht⟩

section
variable {P : Program} {nt : Nat} {ro : Option Nat}

theorem irun_sound {all : List Oper} (hok : all.all (okOper nt) = true) {n0 : Nat} {β0 : Emb} {w0 : World} {Q : IExit → Env → IHeap → Prop} :
    ∀ (l pre : List Oper), pre ++ l = all → ∀ (env : Env) (H : IHeap) (β : Emb) (w : World) (a : Act), Step β0 w0 β w → Sim β H w → TRel β.loc nt env a.tmps → Mk n0 β w a.defers →
      irun P all l env H (Q .normal) (fun v => Q (.panic v) []) → wpOpsIn (Fz ro) 0 P all.toArray (QR n0 nt β0 w0 Q) (List.range' pre.length l.length) a w := by
  intro l
  induction l with
  | nil => intro pre _ env H β w a St S hT hM h; exact ⟨β, H, env, St, S, hT, hM, h⟩
  | cons o l ih =>
    intro pre hpre env H β w a St S hT hM h
    have hall : ∀ x ∈ all, okOper nt x = true := List.all_eq_true.1 hok
    have hget : all[pre.length]? = some o := by rw [← hpre]; simp
    have hoo := hall o (List.mem_of_getElem? hget)
    have hdst : (match o.dst with | none => true | some d => Nat.blt d nt) = true := by
      simp only [okOper, Bool.and_eq_true] at hoo; exact hoo.1.1
    simp only [List.length_cons, List.range'_succ, wpOpsIn, List.getElem?_toArray, hget]
    simp only [irun] at h
    obtain ⟨env', he, h⟩ := guarded_sound (L := β.loc) (a := a) (o := o) rfl h (fun j b t _ hd => by
      unfold dstAt at hd
      cases hj : all[j]? with
      | none => rw [hj] at hd; cases hd
      | some x =>
        rw [hj] at hd
        have hx := hall x (List.mem_of_getElem? hj)
        simp only [okOper, Bool.and_eq_true] at hx
        have hxd : x.dst = some t := hd
        have := hx.1.1
        rw [hxd] at this
        have hlt : t < nt := by simpa [Nat.blt_eq] using this
        exact ⟨by rw [hT.1]; exact hlt, hT.2 t hlt⟩)
    have hT' := hT.same he
    have hnext : ∀ (β' : Emb) (H' : IHeap) (v v' : Value) (w' : World), Step β w β' w' → Sim β' H' w' → VRel β'.loc v v' → irun P all l (put env' o.dst v) H' (Q .normal) (fun v => Q (.panic v) []) →
        wpOpsIn (Fz ro) 0 P all.toArray (QR n0 nt β0 w0 Q) (List.range' (pre.length + 1) l.length) (a.put o.dst v') w' := by
      intro β' H' v v' w' St' S' hv hr
      have := ih (pre ++ [o]) (by rw [← hpre]; simp) (put env' o.dst v) H' β' w' (a.put o.dst v') (St.trans St') S' (TRel.put (hT'.mono St'.le.2) hdst hv) (by rw [act_put_tmps]; exact hM.step St') hr
      simpa using this
    rcases h with ⟨hw, h⟩ | ⟨hw, h⟩
    · rw [if_pos hw]
      exact iop_sound hoo S (hT'.opd (by simp only [okOper, Bool.and_eq_true] at hoo; exact hoo.1.2)) h (fun β' H' v v' w' St' S' hv hr => hnext β' H' v v' w' St' S' hv hr)
        (fun β' H' v v' w' St' S' hv hq => ⟨β', H', [], v, v', St.trans St', S', rfl, hv, hM.step St', hT.1, hq⟩)
    · rw [if_neg (by simp [hw])]
      refine ⟨fun _ _ => trivial, ?_⟩
      exact hnext β H undef undef w (Step.refl _ _) S (.tuple .nil) h

theorem region_sound {id : Nat} {ops : Array Oper} (hok : ops.toList.all (okOper nt) = true) {Q : IExit → Env → IHeap → Prop} {env : Env} {H : IHeap}
    (h : irun P ops.toList ops.toList env H (Q .normal) (fun v => Q (.panic v) [])) : IW ro P nt (.region id ops false) Q env H := by
  intro n0 β w a S hT hM
  refine wpIn_region ?_
  have := irun_sound (ro := ro) hok ops.toList [] rfl env H β w a (Step.refl _ _) S hT hM h
  simpa [List.range_eq_range'] using this

end
end Ide
