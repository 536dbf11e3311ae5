/- Regions whose order is open: the ideal run is ahead of the machine's. -/
import Derived.Test.YtoikiogaiikheaaSndAG
set_option linter.unusedSectionVars false
set_option linter.unusedVariables false
set_option linter.unusedSimpArgs false
namespace Ide
open Go Go.RowKit
variable [Pol]

/-- An operation that has come in the ideal run, and not yet in the machine. -/
structure Pd where
  o : Oper
  env : Env
  wt : Bool
  made : Option Nat
  v : Value
  ok : IHeap → Prop

structure Pd.Good (P : Program) (all : List Oper) (i : Nat) (env : Env) (H : IHeap) (ws : Watch) (p : Pd) : Prop where
  get : all[i]? = some p.o
  act : isActs p.o = false
  gok : gok all p.o.guard p.env
  gval : gval all p.o.guard p.env = p.wt
  reads : ∀ t, readsB all p.o t = true → lk p.env t = lk env t
  dst : ∀ t, p.o.dst = some t → lk env t = p.v
  yes : p.wt = true → Again P p.o p.env p.made p.v p.ok ∧ p.ok H ∧ (∀ H' ob, p.ok H' → p.ok (newO H' ob)) ∧ (∀ H', (∀ q ∈ ws, q.1 = i → q.2 H') → p.ok H')
  no : p.wt = false → p.v = undef ∧ p.made = none

def Emb.hold (β : Emb) (h : Nat → Prop) : Emb := { w0 := β.w0, loc := β.loc, held := h }

theorem Sim.hold {β : Emb} {H : IHeap} {w : World} (S : Sim β H w) {h : Nat → Prop} (hh : ∀ k, h k → k < H.length ∧ β.loc k = none ∧ H[k]? ≠ some .free) : Sim (β.hold h) H w where
  below := S.below
  dom := S.dom
  held := hh
  blk := S.blk
  obj := S.obj
  inj := S.inj

theorem Step.hold {β β' : Emb} {w w' : World} (h : Step β w β' w') (k : Nat → Prop) : Step (β.hold k) w (β'.hold k) w' where
  le := ⟨⟨h.le.1.1, rfl⟩, h.le.2⟩
  size := h.size
  newb := h.newb
  frame := h.frame

theorem MkL.hold {n0 : Nat} {β : Emb} {w : World} {k : Nat → Prop} : ∀ {ds : List Deferred}, MkL n0 β w ds → MkL n0 (β.hold k) w ds
  | [], _ => trivial
  | _ :: _, ⟨⟨r, h1, h2, h3⟩, h4⟩ => ⟨⟨r, h1, h2, h3⟩, h4.hold⟩
theorem Mk.hold {n0 : Nat} {β : Emb} {w : World} {k : Nat → Prop} {ds : List Deferred} (h : Mk n0 β w ds) : Mk n0 (β.hold k) w ds := ⟨h.1, h.2.hold⟩

structure Inv (n0 : Nat) (P : Program) (nt : Nat) (all : List Oper) (Q : IExit → Env → IHeap → Prop) (β0 : Emb) (w0 : World)
    (dn : Nat → Prop) (c : List Nat) (d : Nat) (env : Env) (H : IHeap) (ws : Watch) (pd : Nat → Option Pd) (β : Emb) (a : Act) (w : World) : Prop where
  irun : irunD P all (befores all []) c env H ws (Q .normal) (fun v => Q (.panic v) [])
  canon : canonOk all (befores all []) c d = true
  dnd : ∀ i, dn i → d.testBit i = true
  pdn : ∀ i p, pd i = some p → d.testBit i = true ∧ ¬ dn i
  cov : ∀ i, i < all.length → d.testBit i = true → dn i ∨ ∃ p, pd i = some p
  down : ∀ i j, dn i → bf (befores all []) i j → dn j
  closed : ∀ i j, d.testBit i = true → bf (befores all []) i j → d.testBit j = true
  good : ∀ i p, pd i = some p → p.Good P all i env H ws
  mkinj : ∀ i j p q k, pd i = some p → pd j = some q → p.made = some k → q.made = some k → i = j
  sim : Sim β H w
  held : ∀ k, β.held k ↔ β0.held k ∨ ∃ i p, pd i = some p ∧ p.made = some k
  heldNew : ∀ i p k, pd i = some p → p.made = some k → ¬ β0.held k
  step : Step β0 w0 (β.hold β0.held) w
  size : a.tmps.size = nt
  rel : ∀ t, t < nt → (∀ i p, pd i = some p → p.o.dst ≠ some t) → VRel β.loc (lk env t) (a.tmps.getD t undef)
  mks : Mk n0 β w a.defers

theorem watchOf_fst {i : Nat} {o : Oper} {env : Env} {v : Value} {H H1 : IHeap} : ∀ q ∈ watchOf i o env v H H1, q.1 = i := by
  intro q hq
  unfold watchOf at hq
  split at hq <;> first | (simp at hq; done) | (simp at hq; subst hq; rfl) | (simp only [List.mem_singleton] at hq; subst hq; rfl)

theorem gok_same {all : List Oper} {g : Option (Nat × Bool)} {e e' : Env} (h : e.same e') (hg : gok all g e) : gok all g e' := fun j b t h1 h2 => by rw [h t]; exact hg j b t h1 h2
theorem gval_same {all : List Oper} {g : Option (Nat × Bool)} {e e' : Env} (h : e.same e') : gval all g e' = gval all g e := by
  unfold gval
  split
  · rfl
  · split
    · rfl
    · rename_i t _; rw [h t]

section
variable {n0 : Nat} {P : Program} {nt : Nat} {all : List Oper} {Q : IExit → Env → IHeap → Prop} {β0 : Emb} {w0 : World}
variable {dn : Nat → Prop} {c : List Nat} {d : Nat} {env : Env} {H : IHeap} {ws : Watch} {pd : Nat → Option Pd} {β : Emb} {a : Act} {w : World}

structure Texts (P : Program) (nt : Nat) (all : List Oper) : Prop where
  oper : ∀ (i : Nat) (o : Oper), all[i]? = some o → okOper nt o = true
  plain : ∀ (i : Nat) (o : Oper), all[i]? = some o → isActs o = false → plainOp P o.op = true
  edge : ∀ (i : Nat) (o : Oper), all[i]? = some o → ∀ e ∈ o.after.toList, Region.binds .any e = true → e.on < i
  guard : ∀ (i : Nat) (o : Oper), all[i]? = some o → ∀ j b, o.guard = some (j, b) → bf (befores all []) i j
  own : ∀ (i : Nat) (o : Oper) (t : Nat), all[i]? = some o → o.dst = some t → readsB all o t = false
  other : ∀ (i j : Nat) (o p : Oper) (t : Nat), all[i]? = some o → all[j]? = some p → p.dst = some t → i ≠ j → o.dst ≠ some t ∧ (readsB all o t = true → bf (befores all []) i j ∨ (bf (befores all []) j i ∧ isActs p = true))

theorem texts_of (h : allIdx (opOk P nt all (befores all [])) 0 all = true) : Texts P nt all := by
  have key : ∀ (i : Nat) (o : Oper), all[i]? = some o → opOk P nt all (befores all []) i o = true := fun i o ho => by have := allIdx_spec h i o ho; simpa using this
  have pair : ∀ (i j : Nat) (o p : Oper), all[i]? = some o → all[j]? = some p → pairOk all (befores all []) i o j p = true := by
    intro i j o p hi hj
    have := key i o hi
    simp only [opOk, Bool.and_eq_true] at this
    have := allIdx_spec this.2 j p hj
    simpa using this
  refine ⟨fun i o ho => ?_, fun i o ho ha => ?_, fun i o ho e he hbd => ?_, fun i o ho j b hg => ?_, fun i o t ho hd => ?_, fun i j o p t hi hj hd hne => ?_⟩
  · have := key i o ho
    simp only [opOk, Bool.and_eq_true] at this
    exact this.1.1.1.1
  · have := key i o ho
    simp only [opOk, Bool.and_eq_true, Bool.or_eq_true] at this
    rcases this.1.1.1.2 with h | h
    · rw [ha] at h; cases h
    · exact h
  · have := key i o ho
    simp only [opOk, Bool.and_eq_true] at this
    have := List.all_eq_true.1 this.1.1.2 e he
    rw [hbd] at this
    simpa [Nat.blt_eq] using this
  · have := key i o ho
    simp only [opOk, Bool.and_eq_true, hg] at this
    exact this.1.2
  · have := pair i i o o ho ho
    unfold pairOk at this
    simpa [hd] using this
  · have := pair i j o p hi hj
    unfold pairOk at this
    simp only [hd, beq_false hne, cond_false, Bool.and_eq_true, Bool.not_eq_true'] at this
    refine ⟨fun e => ?_, fun hr => ?_⟩
    · have h1 := this.1
      simp [dstIs, e] at h1
    · have h2 := this.2
      rw [hr] at h2
      simpa [bf] using h2

theorem reads_operand {o : Oper} {t : Nat} (h : Operand.tmp t ∈ o.op.operands.toList) : readsB all o t = true := by
  unfold readsB
  rw [Bool.or_eq_true]
  exact .inl (List.any_eq_true.2 ⟨_, h, by simp⟩)
theorem reads_guard {o : Oper} {t j : Nat} {b : Bool} (h : o.guard = some (j, b)) (hd : dstAt all j = some t) : readsB all o t = true := by
  unfold readsB
  simp [h, hd]

/-- The ideal run goes on to what acts next. -/
theorem settle (T : Texts P nt all) : ∀ (c : List Nat) {d : Nat} {env : Env} {H : IHeap} {ws : Watch} {pd : Nat → Option Pd} {β : Emb},
    Inv n0 P nt all Q β0 w0 dn c d env H ws pd β a w →
    ∃ c' d' env' H' ws' pd' β', Inv n0 P nt all Q β0 w0 dn c' d' env' H' ws' pd' β' a w ∧ ∀ i r o, c' = i :: r → all[i]? = some o → isActs o = true
  | [], d, env, H, ws, pd, β, I => ⟨[], d, env, H, ws, pd, β, I, fun i r o h => by cases h⟩
  | i :: c, d, env, H, ws, pd, β, I => by
    have hc := I.canon
    simp only [canonOk, Bool.and_eq_true, Bool.not_eq_true'] at hc
    obtain ⟨⟨⟨hdi, hbs⟩, hact⟩, hrest⟩ := hc
    have hr := I.irun
    simp only [irunD] at hr
    cases ho : all[i]? with
    | none => rw [ho] at hact; cases hact
    | some o =>
      rw [ho] at hr
      simp only at hr
      cases ha : isActs o with
      | true => exact ⟨i :: c, d, env, H, ws, pd, β, I, fun i' r o' h h' => by cases h; rw [ho] at h'; cases h'; exact ha⟩
      | false =>
        obtain ⟨hg, env2, hsame, hcase⟩ := guarded_cases hr
        -- what is alike for a wanted and an unwanted operation
        have go : ∀ (wt : Bool) (v : Value) (H1 : IHeap) (mk : Option Nat) (ok : IHeap → Prop) (ws1 : Watch),
            gval all o.guard env = wt → irunD P all (befores all []) c (put env2 o.dst v) H1 (ws1 ++ ws) (Q .normal) (fun v => Q (.panic v) []) → (mk = none ∧ H1 = H ∨ mk = some (Pol.pos H) ∧ ∃ ob, ob ≠ .free ∧ H1 = newO H ob) →
            (wt = true → Again P o env2 mk v ok ∧ ok H1 ∧ (∀ H' ob, ok H' → ok (newO H' ob)) ∧ (∀ H', (∀ q ∈ ws1 ++ ws, q.1 = i → q.2 H') → ok H')) → (wt = false → v = undef ∧ mk = none) →
            ∃ d' env' H' ws' pd' β', Inv n0 P nt all Q β0 w0 dn c d' env' H' ws' pd' β' a w := by
          intro wt v H1 mk ok ws1 hwt hrun hH hyes hno
          have hsim1 : Sim (β.hold fun k => β.held k ∨ mk = some k) H1 w := by
            rcases hH with ⟨rfl, rfl⟩ | ⟨rfl, ob, hob, rfl⟩
            · exact I.sim.hold fun k hk => I.sim.held k (by rcases hk with h | h; exact h; cases h)
            · refine (I.sim.ghost ob).hold fun k hk => ?_
              rcases hk with h | h
              · exact (I.sim.ghost ob).held k h
              · cases h; exact ⟨(newO_len _ _).2, I.sim.unplaced.1, by rw [newO_self]; simpa using hob⟩
          have hmknew : ∀ k, mk = some k → ¬ β.held k := by
            intro k hk
            rcases hH with ⟨rfl, rfl⟩ | ⟨rfl, ob, hob, rfl⟩
            · cases hk
            · cases hk; exact I.sim.unplaced.2
          have hpdi : pd i = none := by
            cases h : pd i with
            | none => rfl
            | some p => have := (I.pdn i p h).1; rw [hdi] at this; cases this
          refine ⟨d ||| 2 ^ i, put env2 o.dst v, H1, ws1 ++ ws, fun j => if j = i then some ⟨o, env2, wt, mk, v, ok⟩ else pd j, β.hold fun k => β.held k ∨ mk = some k, ?_⟩
          have bit : ∀ j, (d ||| 2 ^ i).testBit j = true ↔ d.testBit j = true ∨ j = i := by
            intro j
            rw [Nat.testBit_or, Nat.testBit_two_pow]
            simp
            constructor <;> (rintro (h | h); exact .inl h; exact .inr h.symm)
          refine {
            irun := hrun
            canon := hrest
            dnd := fun j hj => (bit j).2 (.inl (I.dnd j hj))
            pdn := fun j p hp => ?_
            cov := fun j hj hb => ?_
            down := I.down
            closed := fun j k hj hjk => ?_
            good := fun j p hp => ?_
            mkinj := fun j j' p q k h1 h2 h3 h4 => ?_
            sim := hsim1
            held := fun k => ?_
            heldNew := fun j p k hp hk h0 => by
              split at hp
              · cases hp; exact hmknew k hk ((I.held k).2 (.inl h0))
              · exact I.heldNew j p k hp hk h0
            step := I.step
            size := I.size
            rel := fun t ht hn => ?_
            mks := I.mks.hold }
          · split at hp
            · rename_i e; subst e
              exact ⟨(bit j).2 (.inr rfl), fun h => by have := I.dnd j h; rw [hdi] at this; cases this⟩
            · exact ⟨(bit j).2 (.inl (I.pdn j p hp).1), (I.pdn j p hp).2⟩
          · rcases (bit j).1 hb with h | h
            · rcases I.cov j hj h with h | ⟨p, h⟩
              · exact .inl h
              · right
                by_cases e : j = i
                · exact ⟨_, by rw [if_pos e]⟩
                · exact ⟨p, by rw [if_neg e]; exact h⟩
            · exact .inr ⟨_, by rw [if_pos h]⟩
          · rcases (bit j).1 hj with h | h
            · exact (bit k).2 (.inl (I.closed j k h hjk))
            · subst h
              exact (bit k).2 (.inl (bitsIn_spec hbs hjk))
          · split at hp
            · rename_i e; subst e
              cases hp
              exact {
                get := ho
                act := ha
                gok := gok_same hsame hg
                gval := (gval_same hsame).trans hwt
                reads := fun t ht => by
                  rw [lk_put, if_neg]
                  intro e
                  rw [T.own j o t ho e] at ht; cases ht
                dst := fun t ht => by rw [lk_put, if_pos ht]
                yes := hyes
                no := hno }
            · rename_i e
              have G := I.good j p hp
              have hdj := (I.pdn j p hp).1
              exact {
                get := G.get
                act := G.act
                gok := G.gok
                gval := G.gval
                reads := fun t ht => by
                  rw [lk_put, if_neg, hsame t]
                  · exact G.reads t ht
                  · intro ed
                    rcases (T.other j i p.o o t G.get ho ed e).2 ht with hb | ⟨_, hb⟩
                    · have := I.closed j i hdj hb; rw [hdi] at this; cases this
                    · rw [ha] at hb; cases hb
                dst := fun t ht => by
                  rw [lk_put, if_neg, hsame t]
                  · exact G.dst t ht
                  · exact fun ed => (T.other j i p.o o t G.get ho ed e).1 ht
                yes := fun h => by
                  obtain ⟨g1, g2, g3, g4⟩ := G.yes h
                  refine ⟨g1, ?_, g3, fun H' hq => g4 H' fun q hq' => hq q (by simp [hq'])⟩
                  rcases hH with ⟨_, rfl⟩ | ⟨_, ob, hob, rfl⟩
                  · exact g2
                  · exact g3 _ _ g2
                no := G.no }
          · have side : ∀ (x : Nat) (r : Pd), pd x = some r → r.made = some k → mk = some k → False := fun x r hx hr hm => hmknew k hm ((I.held k).2 (.inr ⟨x, r, hx, hr⟩))
            by_cases e1 : j = i
            · by_cases e2 : j' = i
              · rw [e1, e2]
              · rw [if_pos e1] at h1; rw [if_neg e2] at h2
                cases h1
                exact (side j' q h2 h4 h3).elim
            · rw [if_neg e1] at h1
              by_cases e2 : j' = i
              · rw [if_pos e2] at h2; cases h2
                exact (side j p h1 h3 h4).elim
              · rw [if_neg e2] at h2
                exact I.mkinj j j' p q k h1 h2 h3 h4
          · show β.held k ∨ mk = some k ↔ _
            rw [I.held k]
            constructor
            · rintro ((h | ⟨j, p, h1, h2⟩) | h)
              · exact .inl h
              · refine .inr ⟨j, p, ?_, h2⟩
                have e : j ≠ i := fun e => by rw [e, hpdi] at h1; cases h1
                rw [if_neg e]; exact h1
              · exact .inr ⟨i, _, if_pos rfl, h⟩
            · rintro (h | ⟨j, p, h1, h2⟩)
              · exact .inl (.inl h)
              · by_cases e : j = i
                · rw [if_pos e] at h1; cases h1; exact .inr h2
                · rw [if_neg e] at h1; exact .inl (.inr ⟨j, p, h1, h2⟩)
          · have hd : o.dst ≠ some t := hn i _ (if_pos rfl)
            rw [lk_put, if_neg hd, hsame t]
            refine I.rel t ht fun j p hp => ?_
            have e : j ≠ i := fun e => by rw [e, hpdi] at hp; cases hp
            exact hn j p (by rw [if_neg e]; exact hp)
        have fin : ∃ d' env' H' ws' pd' β', Inv n0 P nt all Q β0 w0 dn c d' env' H' ws' pd' β' a w := by
          rcases hcase with ⟨hw, h⟩ | ⟨hw, h⟩
          · obtain ⟨v, H1, mk, hK, hH, hok, hst, hag⟩ := iop_came (i := i) (T.oper i o ho) ha (T.plain i o ho ha) h
            simp only [ha, cond_false] at hK
            exact go true v H1 mk _ _ hw hK hH (fun _ => ⟨hag, hok, hst, fun H' hq p hp => hq p (by simp [hp]) (watchOf_fst p hp)⟩) (fun h => by cases h)
          · exact go false undef H none (fun _ => True) [] hw (by simpa using h) (.inl ⟨rfl, rfl⟩) (fun h => by cases h) (fun _ => ⟨rfl, rfl⟩)
        obtain ⟨d', env', H', ws', pd', β', I'⟩ := fin
        exact settle T c I'

theorem irunD_watch {ws : Watch} {bm : Nat} {H : IHeap} {X : Prop} (h : watching ws bm H X) : X ∧ ∀ q ∈ ws, bm.testBit q.1 = false → q.2 H := by
  induction ws with
  | nil => exact ⟨h, fun q hq => by cases hq⟩
  | cons p r ih =>
    obtain ⟨k, W⟩ := p
    simp only [watching] at h
    cases hb : bm.testBit k with
    | true =>
      rw [hb] at h
      obtain ⟨h1, h2⟩ := ih h
      refine ⟨h1, fun q hq hf => ?_⟩
      rcases List.mem_cons.1 hq with rfl | hq
      · rw [hb] at hf; cases hf
      · exact h2 q hq hf
    | false =>
      rw [hb] at h
      obtain ⟨h1, h2⟩ := ih h.2
      refine ⟨h1, fun q hq hf => ?_⟩
      rcases List.mem_cons.1 hq with rfl | hq
      · exact h.1
      · exact h2 q hq hf

/-- One operation of the machine. -/
theorem one_step {ro : Option Nat} (T : Texts P nt all) (I : Inv n0 P nt all Q β0 w0 dn c d env H ws pd β a w) (hc : ∀ i r o, c = i :: r → all[i]? = some o → isActs o = true)
    {i : Nat} {o : Oper} (ho : all[i]? = some o) (hnd : ¬ dn i) (hbf : ∀ j, bf (befores all []) i j → dn j) {K : Act → World → Prop}
    (hK : ∀ a' w', (∃ c' d' env' H' ws' pd' β', Inv n0 P nt all Q β0 w0 (fun j => dn j ∨ j = i) c' d' env' H' ws' pd' β' a' w') → K a' w') :
    wpOpIn (Fz ro) 0 P all.toArray (QR n0 nt β0 w0 Q) i K a w := by
  have hdst : ∀ s, o.dst = some s → s < nt := by
    intro s hs
    have := T.oper i o ho
    simp only [okOper, Bool.and_eq_true, hs] at this
    simpa [Nat.blt_eq] using this.1.1
  have hdsta : ∀ s, o.dst = some s → s < a.tmps.size := fun s hs => by rw [I.size]; exact hdst s hs
  -- what is read is no longer awaited
  have nopend : ∀ t, readsB all o t = true → ∀ j p, pd j = some p → p.o.dst ≠ some t := by
    intro t ht j p hp hd
    have G := I.good j p hp
    by_cases e : i = j
    · subst e
      have : p.o = o := by have := G.get; rw [ho] at this; cases this; rfl
      rw [this] at hd
      rw [T.own i o t ho hd] at ht; cases ht
    · rcases (T.other i j o p.o t ho G.get hd e).2 ht with h | ⟨_, h⟩
      · exact (I.pdn j p hp).2 (hbf j h)
      · rw [G.act] at h; cases h
  have tlt : ∀ t, readsB all o t = true → t < nt ∨ True := fun _ _ => .inr trivial
  have slot : ∀ t, t < nt → readsB all o t = true → VRel β.loc (lk env t) (a.tmps.getD t undef) := fun t ht hr => I.rel t ht (nopend t hr)
  have gslot : ∀ j b t, o.guard = some (j, b) → dstAt all j = some t → t < a.tmps.size ∧ VRel β.loc (lk env t) (a.tmps.getD t undef) := by
    intro j b t hg hd
    have hd0 := hd
    unfold dstAt at hd
    cases hj : all[j]? with
    | none => rw [hj] at hd; cases hd
    | some x =>
      rw [hj] at hd
      have hx := T.oper j x hj
      have hxd : x.dst = some t := hd
      simp only [okOper, Bool.and_eq_true, hxd] at hx
      have hlt : t < nt := by simpa [Nat.blt_eq] using hx.1.1
      exact ⟨by rw [I.size]; exact hlt, slot t hlt (reads_guard hg hd0)⟩
  have opd : OpdRel β.loc env a o.op := by
    intro x hx
    have hxo : okOpd nt x = true := by
      have := T.oper i o ho
      simp only [okOper, Bool.and_eq_true] at this
      exact List.all_eq_true.1 this.1.2 x hx
    cases x with
    | tmp t => exact slot t (by simpa [okOpd, Nat.blt_eq] using hxo) (reads_operand hx)
    | const v => exact VRel.of_ground _ v hxo
    | global g => simp [okOpd] at hxo
    | func f => exact .func .nil .nil
  unfold Go.wpOpIn
  simp only [List.getElem?_toArray, ho]
  cases hp : pd i with
  | some p =>
    have G := I.good i p hp
    have hpo : p.o = o := by have := G.get; rw [ho] at this; cases this; rfl
    have hsame : ∀ t, readsB all o t = true → lk p.env t = lk env t := fun t ht => G.reads t (by rw [hpo]; exact ht)
    -- the rest, once its value is known
    have rest : ∀ (v' : Value) (w' : World) (β' : Emb), Step (β.hold fun k => β.held k ∧ p.made ≠ some k) w β' w' → Sim β' H w' → VRel β'.loc p.v v' →
        (∀ j, some j ≠ p.made → β'.loc j = β.loc j) → K (a.put o.dst v') w' := by
      intro v' w' β' St S' hv hloc
      refine hK _ _ ⟨c, d, env, H, ws, fun j => if j = i then none else pd j, β', {
        irun := I.irun
        canon := I.canon
        dnd := fun j hj => by
          rcases hj with h | h
          · exact I.dnd j h
          · rw [h]; exact (I.pdn i p hp).1
        pdn := fun j q hq => ?_
        cov := fun j hj hb => ?_
        down := fun j k hj hjk => by
          rcases hj with h | h
          · exact .inl (I.down j k h hjk)
          · rw [h] at hjk; exact .inl (hbf k hjk)
        closed := I.closed
        good := fun j q hq => ?_
        mkinj := fun j j' q q' k h1 h2 h3 h4 => ?_
        sim := S'
        held := fun k => ?_
        heldNew := fun j q k hq hk => by
          split at hq
          · cases hq
          · exact I.heldNew j q k hq hk
        step := ?_
        size := by rw [act_put_size]; exact I.size
        rel := fun t ht hn => ?_
        mks := by rw [act_put_tmps]; exact (I.mks.hold (k := fun k => β.held k ∧ p.made ≠ some k)).step St }⟩
      · split at hq
        · cases hq
        · rename_i e
          have := I.pdn j q hq
          exact ⟨this.1, fun h => by rcases h with h | h; exact this.2 h; exact e h⟩
      · by_cases e : j = i
        · exact .inl (.inr e)
        · rcases I.cov j hj hb with h | ⟨q, h⟩
          · exact .inl (.inl h)
          · exact .inr ⟨q, by rw [if_neg e]; exact h⟩
      · split at hq
        · cases hq
        · exact I.good j q hq
      · split at h1
        · cases h1
        · split at h2
          · cases h2
          · exact I.mkinj j j' q q' k h1 h2 h3 h4
      · rw [St.le.1.2]
        show (β.held k ∧ p.made ≠ some k) ↔ _
        rw [I.held k]
        constructor
        · rintro ⟨h | ⟨j, q, h1, h2⟩, h3⟩
          · exact .inl h
          · refine .inr ⟨j, q, ?_, h2⟩
            have e : j ≠ i := fun e => by rw [e, hp] at h1; cases h1; exact h3 h2
            rw [if_neg e]; exact h1
        · rintro (h | ⟨j, q, h1, h2⟩)
          · refine ⟨.inl h, fun h3 => ?_⟩
            exact I.heldNew i p k hp h3 h
          · split at h1
            · cases h1
            · rename_i e
              exact ⟨.inr ⟨j, q, h1, h2⟩, fun h3 => e (I.mkinj j i q p k h1 hp h2 h3)⟩
      · exact I.step.trans (St.hold β0.held)
      · by_cases hd : o.dst = some t
        · have := G.dst t (by rw [hpo]; exact hd)
          rw [put_getD a _ _ _ hdsta, if_pos hd, this]
          exact hv
        · rw [put_getD a _ _ _ hdsta, if_neg hd]
          refine (I.rel t ht fun j q hq => ?_).mono St.le.2
          by_cases e : j = i
          · rw [e, hp] at hq; cases hq; rw [hpo]; exact hd
          · exact hn j q (by rw [if_neg e]; exact hq)
    have hw := wanted_eq (o := o) (a := a) (L := β.loc) (env := p.env) (all := all) rfl (by have := G.gok; rwa [hpo] at this) (fun j b t hg hd => by
      rw [hsame t (reads_guard hg hd)]; exact gslot j b t hg hd)
    have hgv := G.gval
    rw [hpo] at hgv
    rw [hw, hgv]
    cases hwt : p.wt with
    | true =>
      simp only [if_true]
      obtain ⟨hag, hok, _, _⟩ := G.yes hwt
      have hopd : OpdRel (β.hold fun k => β.held k ∧ p.made ≠ some k).loc p.env a p.o.op := by
        rw [hpo]
        intro x hx
        have := opd x hx
        cases x with
        | tmp t => have e := hsame t (reads_operand hx); show VRel _ (lk p.env t) _; rw [e]; exact this
        | const v => exact this
        | global g => exact this
        | func f => exact this
      obtain ⟨v', w', β', hrun, St, S', hv, hloc⟩ := hag _ H w a (I.sim.hold fun k hk => I.sim.held k hk.1) hok hopd (fun k hk => ⟨(I.sim.held k ((I.held k).2 (.inr ⟨i, p, hp, hk⟩))).2.1, fun h => h.2 hk⟩)
      rw [hpo] at hrun
      refine ⟨fun _ _ => trivial, ?_⟩
      have hnd' : ∀ c, o.op ≠ .defer c := by
        intro c hc
        have := G.act
        rw [hpo] at this
        simp [isActs, kindOf, hc] at this
      rw [Oper.semAt_eq _ _ _ hnd', hrun, Oper.uponIn_value]
      exact rest v' w' β' St S' hv hloc
    | false =>
      simp only [Bool.false_eq_true, if_false]
      refine ⟨fun _ _ => trivial, ?_⟩
      obtain ⟨hv, hm⟩ := G.no hwt
      refine rest undef w _ (Step.refl _ _) (I.sim.hold fun k hk => I.sim.held k hk.1) (by rw [hv]; exact .tuple .nil) (fun _ _ => rfl)
  | none =>
    have hlt : i < all.length := get_lt ho
    have hdi : d.testBit i = false := by
      cases h : d.testBit i with
      | false => rfl
      | true =>
        rcases I.cov i hlt h with h | ⟨p, h⟩
        · exact absurd h hnd
        · rw [hp] at h; cases h
    have hmem := canonOk_all I.canon i hlt hdi
    cases c with
    | nil => cases hmem
    | cons x r =>
      have hcan := I.canon
      simp only [canonOk, Bool.and_eq_true, Bool.not_eq_true'] at hcan
      obtain ⟨⟨⟨hdx, hbs⟩, hact⟩, hrest⟩ := hcan
      cases hox : all[x]? with
      | none => rw [hox] at hact; cases hact
      | some ox =>
        have hax := hc x r ox rfl hox
        rw [hox] at hact
        simp only [hax, Bool.not_true, Bool.false_or] at hact
        have hxi : x = i := by
          rcases List.mem_cons.1 hmem with h | h
          · exact h.symm
          · have := List.all_eq_true.1 hact i h
            have := I.dnd x (hbf x this)
            rw [hdx] at this; cases this
        subst hxi
        rw [ho] at hox
        cases hox
        have hr := I.irun
        simp only [irunD, ho, hax, cond_true] at hr
        obtain ⟨hg, env2, hsame, hcase⟩ := guarded_cases hr
        have hw := wanted_eq (o := o) (a := a) (L := β.loc) (env := env) (all := all) rfl hg gslot
        rw [hw]
        -- the rest
        have rest : ∀ (β' : Emb) (H' : IHeap) (v v' : Value) (w' : World), Step β w β' w' → Sim β' H' w' → VRel β'.loc v v' →
            irunD P all (befores all []) r (put env2 o.dst v) H' ws (Q .normal) (fun v => Q (.panic v) []) → (∀ j q, pd j = some q → q.wt = true → q.ok H') → K (a.put o.dst v') w' := by
          intro β' H' v v' w' St S' hv hrun hoks
          have bit : ∀ j, (d ||| 2 ^ x).testBit j = true ↔ d.testBit j = true ∨ j = x := by
            intro j
            rw [Nat.testBit_or, Nat.testBit_two_pow]
            simp
            constructor <;> (rintro (h | h); exact .inl h; exact .inr h.symm)
          have hne : ∀ j q, pd j = some q → j ≠ x := fun j q hq e => by rw [e, hp] at hq; cases hq
          refine hK _ _ ⟨r, d ||| 2 ^ x, put env2 o.dst v, H', ws, pd, β', {
            irun := hrun
            canon := hrest
            dnd := fun j hj => by
              rcases hj with h | h
              · exact (bit j).2 (.inl (I.dnd j h))
              · exact (bit j).2 (.inr h)
            pdn := fun j q hq => ⟨(bit j).2 (.inl (I.pdn j q hq).1), fun h => by rcases h with h | h; exact (I.pdn j q hq).2 h; exact hne j q hq h⟩
            cov := fun j hj hb => by
              rcases (bit j).1 hb with h | h
              · rcases I.cov j hj h with h | h
                · exact .inl (.inl h)
                · exact .inr h
              · exact .inl (.inr h)
            down := fun j k hj hjk => by
              rcases hj with h | h
              · exact .inl (I.down j k h hjk)
              · rw [h] at hjk; exact .inl (hbf k hjk)
            closed := fun j k hj hjk => by
              rcases (bit j).1 hj with h | h
              · exact (bit k).2 (.inl (I.closed j k h hjk))
              · rw [h] at hjk; exact (bit k).2 (.inl (bitsIn_spec hbs hjk))
            good := fun j q hq => ?_
            mkinj := I.mkinj
            sim := S'
            held := fun k => by rw [St.le.1.2]; exact I.held k
            heldNew := I.heldNew
            step := I.step.trans (St.hold β0.held)
            size := by rw [act_put_size]; exact I.size
            rel := fun t ht hn => ?_
            mks := by rw [act_put_tmps]; exact I.mks.step St }⟩
          · have G := I.good j q hq
            have e := hne j q hq
            exact {
              get := G.get
              act := G.act
              gok := G.gok
              gval := G.gval
              reads := fun t ht => by
                rw [lk_put, if_neg, hsame t]
                · exact G.reads t ht
                · intro ed
                  rcases (T.other j x q.o o t G.get ho ed e).2 ht with hb | ⟨hb, _⟩
                  · have := I.closed j x (I.pdn j q hq).1 hb; rw [hdi] at this; cases this
                  · exact (I.pdn j q hq).2 (hbf j hb)
              dst := fun t ht => by
                rw [lk_put, if_neg, hsame t]
                · exact G.dst t ht
                · exact fun ed => (T.other j x q.o o t G.get ho ed e).1 ht
              yes := fun h => by
                obtain ⟨g1, g2, g3, g4⟩ := G.yes h
                exact ⟨g1, hoks j q hq h, g3, g4⟩
              no := G.no }
          · rw [lk_put, put_getD a _ _ _ hdsta]
            by_cases hd : o.dst = some t
            · rw [if_pos hd, if_pos hd]; exact hv
            · rw [if_neg hd, if_neg hd, hsame t]
              exact (I.rel t ht hn).mono St.le.2
        rcases hcase with ⟨hwv, h⟩ | ⟨hwv, h⟩
        · rw [hwv]
          simp only [if_true]
          have opd2 : OpdRel β.loc env2 a o.op := by
            intro y hy
            have := opd y hy
            cases y with
            | tmp t => show VRel _ (lk env2 t) _; rw [hsame t]; exact this
            | const v => exact this
            | global g => exact this
            | func f => exact this
          refine iop_sound (T.oper x o ho) I.sim opd2 h (fun β' H' v v' w' St S' hv hk => ?_) (fun β' H' v v' w' St S' hv hq => ?_)
          · obtain ⟨hrun, hwat⟩ := irunD_watch hk
            refine rest β' H' v v' w' St S' hv hrun fun j q hq hwt => ?_
            obtain ⟨_, _, _, g4⟩ := (I.good j q hq).yes hwt
            refine g4 H' fun y hy hyj => hwat y hy ?_
            cases hb : ((befores all []).getD x 0).testBit y.1 with
            | false => rfl
            | true => rw [hyj] at hb; exact absurd (hbf j hb) (I.pdn j q hq).2
          · exact ⟨β'.hold β0.held, H', [], v, v', I.step.trans (St.hold β0.held), S'.hold (fun k hk => S'.held k (by rw [St.le.1.2]; exact (I.held k).2 (.inl hk))), rfl, hv, (I.mks.step St).hold, I.size, hq⟩
        · rw [hwv]
          simp only [Bool.false_eq_true, if_false]
          refine ⟨fun _ _ => trivial, rest β H undef undef w (Step.refl _ _) I.sim (.tuple .nil) h fun j q hq hwt => ((I.good j q hq).yes hwt).2.1⟩

theorem Inv.fin (I : Inv n0 P nt all Q β0 w0 dn c d env H ws pd β a w) (h : ∀ i, i < all.length → dn i) : QR n0 nt β0 w0 Q .normal a w := by
  have hc : c = [] := by
    cases c with
    | nil => rfl
    | cons x r =>
      have hcan := I.canon
      simp only [canonOk, Bool.and_eq_true, Bool.not_eq_true'] at hcan
      obtain ⟨⟨⟨hdx, _⟩, hact⟩, _⟩ := hcan
      cases hox : all[x]? with
      | none => rw [hox] at hact; cases hact
      | some ox => have := I.dnd x (h x (get_lt hox)); rw [hdx] at this; cases this
  subst hc
  have hpd : ∀ i p, pd i = some p → False := fun i p hp => (I.pdn i p hp).2 (h i (get_lt (I.good i p hp).get))
  exact ⟨β.hold β0.held, H, env, I.step, I.sim.hold (fun k hk => I.sim.held k ((I.held k).2 (.inl hk))), ⟨I.size, fun t ht => I.rel t ht fun i p hp => (hpd i p hp).elim⟩, I.mks.hold, I.irun⟩

theorem ready_mem {listed : Array Bool} {i : Nat} : i ∈ Region.ready .any all.toArray listed ↔ i < all.length ∧ (!listed.getD i true) = true ∧ ∃ o, all[i]? = some o ∧ ∀ e ∈ o.after.toList, Region.binds .any e = true → listed.getD e.on false = true := by
  unfold Region.ready
  rw [List.mem_filter]
  simp only [List.mem_range, List.size_toArray, Bool.and_eq_true, List.getElem?_toArray]
  refine and_congr_right fun hi => and_congr_right fun _ => ?_
  cases ho : all[i]? with
  | none => simp
  | some o =>
    simp only [Option.map_some, Option.getD_some, Option.some.injEq, exists_eq_left']
    rw [← Array.all_toList, List.all_eq_true]
    refine forall_congr' fun e => forall_congr' fun he => ?_
    cases Region.binds .any e <;> simp

theorem all_listed (T : Texts P nt all) {listed : Array Bool} (hs : listed.size = all.length) (h : Region.ready .any all.toArray listed = []) : ∀ i, i < all.length → listed.getD i false = true := by
  intro i
  induction i using Nat.strongRecOn with
  | _ i ih =>
    intro hi
    cases hl : listed.getD i false with
    | true => rfl
    | false =>
      exfalso
      have : i ∈ Region.ready .any all.toArray listed := by
        rw [ready_mem]
        refine ⟨hi, ?_, all[i], List.getElem?_eq_getElem hi, fun e he hbd => ?_⟩
        · rw [Array.getD_eq_getD_getElem?, Array.getElem?_eq_getElem (by omega)] at hl ⊢
          simpa using hl
        · have := T.edge i _ (List.getElem?_eq_getElem hi) e he hbd
          exact ih _ this (by omega)
      rw [h] at this; cases this

theorem wpAny_sound {ro : Option Nat} (T : Texts P nt all) : ∀ (fuel : Nat) (listed : Array Bool) (U : List Nat) (a : Act) (w : World), listed.size = all.length → U.length = fuel →
    (∀ i, i < all.length → listed.getD i false = false → i ∈ U) →
    (∃ c d env H ws pd β, Inv n0 P nt all Q β0 w0 (fun j => listed.getD j false = true) c d env H ws pd β a w) →
    wpAnyIn (Fz ro) 0 P .any all.toArray (QR n0 nt β0 w0 Q) fuel listed a w := by
  intro fuel
  induction fuel with
  | zero =>
    intro listed U a w hs hU hmem ⟨c, d, env, H, ws, pd, β, I⟩
    have hall : ∀ i, i < all.length → listed.getD i false = true := by
      intro i hi
      cases hl : listed.getD i false with
      | true => rfl
      | false =>
        have := hmem i hi hl
        have hnil : U = [] := List.length_eq_zero_iff.1 hU
        rw [hnil] at this; cases this
    refine ⟨?_, I.fin hall⟩
    rw [List.eq_nil_iff_forall_not_mem]
    intro i hi
    rw [ready_mem] at hi
    have h1 := hall i hi.1
    have h2 := hi.2.1
    rw [Array.getD_eq_getD_getElem?, Array.getElem?_eq_getElem (by omega)] at h1 h2
    simp at h1 h2
    rw [h1] at h2; cases h2
  | succ fuel ih =>
    intro listed U a w hs hU hmem ⟨c, d, env, H, ws, pd, β, I⟩
    refine ⟨fun h => I.fin (all_listed T hs h), fun i hi => ?_⟩
    rw [ready_mem] at hi
    obtain ⟨hlt, hnot, o, ho, hedge⟩ := hi
    have hnl : listed.getD i false = false := by
      rw [Array.getD_eq_getD_getElem?, Array.getElem?_eq_getElem (by omega)] at hnot ⊢
      simpa using hnot
    obtain ⟨c', d', env', H', ws', pd', β', I', hc'⟩ := settle T c I
    have hbits := befores_spec all [] [] rfl (fun i o ho _ => T.edge i o ho) i o ho (Nat.zero_le _)
    refine one_step T I' hc' ho (by rw [hnl]; simp) (fun j hj => ?_) (fun a' w' hI => ?_)
    · obtain ⟨e, he, hb, h⟩ := (hbits j).1 hj
      have h1 := hedge e he hb
      rcases h with h | h
      · rw [← h]; exact h1
      · exact I.down _ _ h1 h
    · refine ih _ (U.erase i) a' w' (by simpa using hs) ?_ (fun j hj hl => ?_) ?_
      · rw [List.length_erase_of_mem (hmem i hlt hnl), hU]; rfl
      · have hne : j ≠ i := by
          rintro rfl
          rw [Array.getD_eq_getD_getElem?, Array.getElem?_setIfInBounds_self_of_lt (by omega)] at hl
          cases hl
        rw [Array.getD_eq_getD_getElem?, Array.getElem?_setIfInBounds_ne (fun e => hne e.symm), ← Array.getD_eq_getD_getElem?] at hl
        exact (List.mem_erase_of_ne hne).2 (hmem j hj hl)
      · have hfun : (fun j => (listed.setIfInBounds i true).getD j false = true) = (fun j => listed.getD j false = true ∨ j = i) := by
          funext j
          by_cases e : j = i
          · subst e
            rw [Array.getD_eq_getD_getElem?, Array.getElem?_setIfInBounds_self_of_lt (by omega)]
            simp
          · rw [Array.getD_eq_getD_getElem?, Array.getElem?_setIfInBounds_ne (fun h => e h.symm), ← Array.getD_eq_getD_getElem?]
            simp [e]
        rw [hfun]
        exact hI

theorem draw_sound {ro : Option Nat} {id : Nat} {ops : Array Oper} (hm : P.follows .mixedOrders = true) (hok : drawOk P nt ops.toList = true) {env : Env} {H : IHeap}
    (h : irunD P ops.toList (befores ops.toList []) (canon ops.toList) env H [] (Q .normal) (fun v => Q (.panic v) [])) : IW ro P nt (.region id ops true) Q env H := by
  intro n0 β w a S hT hM
  simp only [drawOk, Bool.and_eq_true] at hok
  have T := texts_of hok.1
  refine wpIn_region_any hm ?_
  have S' : Sim β H { w with drawn := w.drawn + 1 } := S.drawn
  have St : Step β w β { w with drawn := w.drawn + 1 } := Step.of_heap rfl
  have := wpAny_sound (n0 := n0) (ro := ro) (Q := Q) (β0 := β) (w0 := w) T ops.size (Array.replicate ops.size false) (List.range ops.size) a { w with drawn := w.drawn + 1 } (by simp) (by simp) (fun i hi _ => by simpa using hi)
    ⟨canon ops.toList, 0, env, H, [], fun _ => none, β, {
      irun := h
      canon := hok.2
      dnd := fun i hi => by simp [Array.getD_eq_getD_getElem?, Array.getElem?_replicate] at hi; split at hi <;> cases hi
      pdn := fun i p hp => by cases hp
      cov := fun i hi hb => by simp at hb
      down := fun i j hi hj => by simp [Array.getD_eq_getD_getElem?, Array.getElem?_replicate] at hi; split at hi <;> cases hi
      closed := fun i j hi hj => by simp at hi
      good := fun i p hp => by cases hp
      mkinj := fun i j p q k h1 => by cases h1
      sim := S'
      held := fun k => ⟨.inl, fun h => by rcases h with h | ⟨i, p, h, _⟩; exact h; cases h⟩
      heldNew := fun i p k hp => by cases hp
      step := St
      size := hT.1
      rel := fun t ht _ => hT.2 t ht
      mks := hM.step St }⟩
  exact this

end
end Ide

/- Code. -/
set_option linter.unusedVariables false
set_option linter.unusedSimpArgs false
namespace Ide
open Go Go.RowKit
variable [Pol]

/-- What is asked of the text of code. rf: a range over a function may stand in it. -/
def codeOk (P : Program) (nt : Nat) : Bool → Code → Bool
  | _, .skip => true
  | _, .region _ ops false => ops.toList.all (okOper nt)
  | _, .region _ ops true => drawOk P nt ops.toList
  | rf, .seq a b => codeOk P nt rf a && codeOk P nt rf b
  | rf, .cond c a b => okOpd nt c && codeOk P nt rf a && codeOk P nt rf b
  | rf, .block _ a => codeOk P nt rf a
  | rf, .loop a => codeOk P nt rf a
  | rf, .scope a => codeOk P nt rf a
  | rf, .rangeFunc g ps assign body => rf && okOpd nt g && ps.toList.all (Nat.blt · nt) && codeOk P nt false assign && codeOk P nt false body
  | _, .exit _ => true
  | _, .label _ => true
  | _, .ret => true
  | _, _ => false

theorem has_false : ∀ {e : Env} {t : Nat}, has e t = false → lk e t = anyV
  | [], t, _ => rfl
  | (s, v) :: r, t, h => by
    simp only [has] at h
    simp only [lk]
    cases hb : Nat.beq s t with
    | true => rw [hb] at h; cases h
    | false => rw [hb] at h; exact has_false h

theorem lk_keep : ∀ (l : List Nat) (e : Env) (t : Nat), lk (keep l e) t = lk e t ∨ lk (keep l e) t = anyV
  | [], e, t => .inr rfl
  | x :: l, e, t => by
    simp only [keep]
    cases h : has e x with
    | false => exact lk_keep l e t
    | true =>
      simp only [cond_true, lk]
      cases hb : Nat.beq x t with
      | true =>
        have := Nat.eq_of_beq_eq_true hb
        subst this
        exact .inl rfl
      | false => exact lk_keep l e t

theorem TRel.keep {L : LMap} {nt : Nat} {e : Env} {tm : Array Value} (h : TRel L nt e tm) (l : List Nat) : TRel L nt (Ide.keep l e) tm :=
  ⟨h.1, fun t ht => by
    rcases lk_keep l e t with e' | e' <;> rw [e']
    · exact h.2 t ht
    · exact .any _⟩

section
variable {P : Program} {nt : Nat} {ro : Option Nat}

/-- A loop, in the machine, at the head of a round. -/
def LW (ro : Option Nat) (P : Program) (nt : Nat) (c : Code) (Q : IExit → Env → IHeap → Prop) (env : Env) (H : IHeap) : Prop :=
  ∀ (n0 : Nat) (β : Emb) (w : World) (a : Act), Sim β H w → TRel β.loc nt env a.tmps → Mk n0 β w a.defers →
    ∀ (b : Frame) (k : List Item) (cs : List Frame), b.roundOf = (Fz ro).round → (Fz ro).fn b.fn → (Fz ro).room (cs.length + 1 + 0) →
      ∃ e a' w', QR n0 nt β w Q e a' w' ∧ ArrivesIn (Machine.fenced P (Fz ro)) P (lone (b.atR a (.code c :: .inLoop c :: k)) cs w) b k cs e a' w'

theorem loop_step {c : Code} {l : List Nat} {Q : IExit → Env → IHeap → Prop} {env : Env} {H : IHeap} (h : IW ro P nt c (thn (fun env H => LW ro P nt c Q (keep l env) H) Q) env H) : LW ro P nt c Q env H := by
  intro n0 β w a S hT hM b k cs hro hb hr
  obtain ⟨e, a₁, w₁, hq, harr⟩ := h n0 β w a S hT hM b (.inLoop c :: k) cs hro hb hr
  cases e with
  | normal =>
    obtain ⟨β', H', env', St, S', hT', hM', hn⟩ := hq
    obtain ⟨e₂, a₂, w₂, hq₂, harr₂⟩ := hn n0 β' w₁ a₁ S' (hT'.keep l) hM' b k cs hro hb hr
    exact ⟨e₂, a₂, w₂, hq₂.trans St, .of_steps (StepsIn.trans harr (.one (fenced_calm hb hr rfl) stepR_inLoop)) harr₂⟩
  | exit id => exact ⟨.exit id, a₁, w₁, hq, .pass (x := .inLoop c) rfl (fun _ _ => .inl (by simp)) harr⟩
  | goto l => exact hq.elim
  | ret => exact ⟨.ret, a₁, w₁, hq, .pass (x := .inLoop c) rfl (fun _ _ => .inl (by simp)) harr⟩
  | panic ch => exact ⟨.panic ch, a₁, w₁, hq, .pass (x := .inLoop c) rfl (fun _ _ => .inl (by simp)) harr⟩
  | outgrown => exact hq.elim

theorem loop_of {c : Code} {Q : IExit → Env → IHeap → Prop} {env : Env} {H : IHeap} {l : List Nat} (h : LW ro P nt c Q (keep l env) H) : IW ro P nt (.loop c) Q env H := by
  intro n0 β w a S hT hM b k cs hro hb hr
  obtain ⟨e, a', w', hq, harr⟩ := h n0 β w a S (hT.keep l) hM b k cs hro hb hr
  exact ⟨e, a', w', hq, .of_steps (.one (fenced_calm hb hr rfl) stepR_loop) harr⟩

theorem stepR_scope {b : Frame} {a : Act} {k : List Item} {cs : List Frame} {w : World} {c : Code} : step P (lone (b.atR a (.code (.scope c) :: k)) cs w) = .next (lone (b.atR a (.code c :: .inScope c :: k)) cs w) :=
  step_lone_go (by simp [stepG, stepG.exec, Frame.atR])
theorem stepR_inScope {b : Frame} {a : Act} {k : List Item} {cs : List Frame} {w : World} {c : Code} : step P (lone (b.atR a (.inScope c :: k)) cs w) = .next (lone (b.atR a k) cs w) :=
  step_lone_go (by simp [stepG, stepG.exec, Frame.atR])

theorem scope_of {c : Code} {Q : IExit → Env → IHeap → Prop} {env : Env} {H : IHeap} (h : IW ro P nt c Q env H) : IW ro P nt (.scope c) Q env H := by
  intro n0 β w a S hT hM b k cs hro hb hr
  have h0 : (lone (b.atR a (.code (.scope c) :: k)) cs w).fenced P (Fz ro) := fenced_calm hb hr rfl
  obtain ⟨e, a₁, w₁, hq, harr⟩ := h n0 β w a S hT hM b (.inScope c :: k) cs hro hb hr
  cases e with
  | normal => exact ⟨.normal, a₁, w₁, hq, .head h0 stepR_scope (StepsIn.trans harr (.one (fenced_calm hb hr rfl) stepR_inScope))⟩
  | exit id =>
    have hx : exitTo id (.inScope c :: k) = exitTo id k := by simp [exitTo]
    exact ⟨.exit id, a₁, w₁, hq, fun k' hk => .head h0 stepR_scope (harr.1 k' (by rw [hx]; exact hk)),
      fun hr' hk => let ⟨k₁, h1, h2⟩ := harr.2 hr' (by rw [hx]; exact hk); ⟨k₁, h1, .head h0 stepR_scope h2⟩⟩
  | goto l => exact hq.elim
  | ret => exact ⟨_, a₁, w₁, hq, .of_steps (.one h0 stepR_scope) harr⟩
  | panic ch => exact ⟨_, a₁, w₁, hq, .of_steps (.one h0 stepR_scope) harr⟩
  | outgrown => exact hq.elim

theorem iwp_sound_at (hm : P.follows .mixedOrders = true) (rf : Bool)
    (hrf : ∀ (g : Operand) (ps : Array Tmp) (assign body : Code) (lo : List Nat) (Q : IExit → Env → IHeap → Prop) (env : Env) (H : IHeap), codeOk P nt rf (.rangeFunc g ps assign body) = true → iwp P nt (.rangeFunc g ps assign body) lo Q env H → IW ro P nt (.rangeFunc g ps assign body) Q env H) :
    ∀ (c : Code) (lo : List Nat) (Q : IExit → Env → IHeap → Prop) (env : Env) (H : IHeap), codeOk P nt rf c = true → iwp P nt c lo Q env H → IW ro P nt c Q env H := by
  intro c
  induction c with
  | skip => intro lo Q env H _ h n0 β w a S hT hM; exact wpIn_skip ⟨β, H, env, Step.refl _ _, S, hT, hM, h⟩
  | region id ops draws =>
    intro lo Q env H hok h
    cases draws with
    | false => exact region_sound hok h
    | true => exact draw_sound hm hok h
  | seq x y ihx ihy =>
    intro lo Q env H hok h n0 β w a S hT hM
    simp only [codeOk, Bool.and_eq_true] at hok
    simp only [iwp] at h
    refine wpIn_seq (wpIn_mono (ihx _ _ _ _ hok.1 h n0 β w a S hT hM) fun e a' w' hq => ?_)
    cases e with
    | normal =>
      obtain ⟨β', H', env', St, S', hT', hM', hn⟩ := hq
      exact wpIn_mono (ihy _ _ _ _ hok.2 hn n0 β' w' a' S' (hT'.keep _) hM') fun e a w hq => hq.trans St
    | exit id => exact hq
    | goto l => exact hq
    | ret => exact hq
    | panic ch => exact hq
    | outgrown => exact hq
  | cond c x y ihx ihy =>
    intro lo Q env H hok h n0 β w a S hT hM
    simp only [codeOk, Bool.and_eq_true] at hok
    simp only [iwp] at h
    split at h
    · rename_i t ht
      have hc := iev_rel (a := a) hT hok.1.1
      rw [ht] at hc
      obtain ⟨h1, h2⟩ := bcase_sound h
      refine wpIn_cond_split hc.inv_bool (fun e => ihx _ _ _ _ hok.1.2 (h1 e) n0 β w a S hT hM) (fun e => ihy _ _ _ _ hok.2 (h2 e) n0 β w a S hT hM)
    · exact h.elim
  | block id x ih =>
    intro lo Q env H hok h n0 β w a S hT hM
    simp only [codeOk] at hok
    simp only [iwp] at h
    refine wpIn_block (wpIn_mono (ih _ _ _ _ hok h n0 β w a S hT hM) fun e a' w' hq => ?_)
    cases e with
    | normal => exact hq
    | exit i =>
      obtain ⟨β', H', env', St, S', hT', hM', hn⟩ := hq
      simp only [inB] at hn
      by_cases e : i = id
      · subst e
        simp only [Nat.beq_refl, cond_true] at hn
        simp only [Exit.inBlock, if_true]
        exact ⟨β', H', env', St, S', hT', hM', hn⟩
      · rw [beq_false e] at hn
        simp only [Exit.inBlock, e, if_false]
        exact ⟨β', H', env', St, S', hT', hM', hn⟩
    | goto l => exact hq
    | ret => exact hq
    | panic ch => exact hq
    | outgrown => exact hq
  | loop x ih =>
    intro lo Q env H hok h
    simp only [codeOk] at hok
    simp only [iwp] at h
    refine loop_of (h (LW ro P nt x Q) fun env H hx => ?_)
    exact loop_step (ih _ _ _ _ hok hx)
  | scope x ih =>
    intro lo Q env H hok h
    simp only [codeOk] at hok
    simp only [iwp] at h
    exact scope_of (ih _ _ _ _ hok h)
  | rangeFunc g ps assign body iha ihb => intro lo Q env H hok h; exact hrf g ps assign body lo Q env H hok h
  | exit id => intro lo Q env H _ h n0 β w a S hT hM; exact wpIn_exit ⟨β, H, env, Step.refl _ _, S, hT, hM, h⟩
  | label l => intro lo Q env H _ h n0 β w a S hT hM; exact wpIn_label ⟨β, H, env, Step.refl _ _, S, hT, hM, h⟩
  | ret => intro lo Q env H _ h n0 β w a S hT hM; exact wpIn_ret ⟨β, H, env, Step.refl _ _, S, hT, hM, h⟩
  | _ => intro lo Q env H hok _; simp [codeOk] at hok

/-- Code without ranges over functions: also within a round of one. -/
theorem iwp_sound_plain (hm : P.follows .mixedOrders = true) {c : Code} {lo : List Nat} {Q : IExit → Env → IHeap → Prop} {env : Env} {H : IHeap} (hok : codeOk P nt false c = true) (h : iwp P nt c lo Q env H) : IW ro P nt c Q env H :=
  iwp_sound_at hm false (fun g ps assign body lo Q env H hok _ => by simp [codeOk] at hok) c lo Q env H hok h

end
end Ide
