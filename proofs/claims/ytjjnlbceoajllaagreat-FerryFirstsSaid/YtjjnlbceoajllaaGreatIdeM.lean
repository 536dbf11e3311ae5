/- Every operation. -/
import Derived.Test.YtjjnlbceoajllaaGreatIdeL
set_option linter.unusedVariables false
set_option linter.unusedSimpArgs false
namespace Ide
open Go Go.RowKit

/-- Every function, no bound on the depth; in a round, or not. -/
def Fz (ro : Option Nat) : Fence := { Fence.wide with round := ro }
theorem Fz_none : Fz none = Fence.wide := rfl

theorem room_fz (ro : Option Nat) (n : Nat) : (Fz ro).room n := fun d hd => by cases hd

theorem callsIn_fz {ro : Option Nat} {n : Nat} {P : Program} {f : FuncId} {args : Array Value} {w : World} {R : Ending → World → Prop} (h : CallsIn Fence.wide 0 P f args w R) : CallsIn (Fz ro) n P f args w R :=
  ⟨trivial, fun cs _ => h.2 cs (fun d hd => by cases hd)⟩

theorem roundIn_fz {ro : Option Nat} {n : Nat} {P : Program} {l : Nat} {f : FuncId} {tmps : Array Value} {assign body : Code} {w : World} {R : Ending → World → Prop} (h : RoundIn Fence.wide 0 P l f tmps assign body w R) : RoundIn (Fz ro) n P l f tmps assign body w R :=
  ⟨trivial, fun c cs _ => h.2 c cs (fun d hd => by cases hd)⟩

def OpdRel (L : LMap) (env : Env) (a : Act) (op : Op) : Prop := ∀ x ∈ op.operands.toList, VRel L (iev env x) (a.eval x)

theorem TRel.opd {L : LMap} {nt : Nat} {env : Env} {a : Act} (h : TRel L nt env a.tmps) {op : Op} (ho : op.operands.toList.all (okOpd nt) = true) : OpdRel L env a op :=
  fun x hx => iev_rel h (List.all_eq_true.mp ho x hx)

/-- Calls of builtins with two operands have two types. -/
def okCall : Op → Bool
  | .call { callee := .builtin .append, args := ⟨[_, _]⟩, argTypes := ⟨[_, _]⟩ } => true
  | .call { callee := .builtin .copy, args := ⟨[_, _]⟩, argTypes := ⟨[_, _]⟩ } => true
  | .call { callee := .builtin .delete, args := ⟨[_, _]⟩, argTypes := ⟨_⟩ } => true
  | .call { callee := .builtin .append, .. } => false
  | .call { callee := .builtin .copy, .. } => false
  | .call { callee := .builtin .delete, .. } => false
  | .defer _ => false
  | _ => true

def okOper (nt : Nat) (o : Oper) : Bool :=
  (match o.dst with | none => true | some d => Nat.blt d nt) && o.op.operands.toList.all (okOpd nt) && okCall o.op

section
variable {P : Program} {β : Emb} {H : IHeap} {w : World} {nt : Nat} {env : Env} {a : Act} {o : Oper} {next : Act → World → Prop} {Q : Exit → Act → World → Prop} {K Qp : Value → IHeap → Prop} {ro : Option Nat}

theorem wpIn_fits (hnd : ∀ c, o.op ≠ .defer c) (h : Fits β w K ((execOp a.eval o).run P w))
    (hN : ∀ β' H' v v' w', Step β w β' w' → Sim β' H' w' → VRel β'.loc v v' → K v H' → next (a.put o.dst v') w') : o.wpIn (Fz ro) 0 P a w next Q := by
  obtain ⟨x, v', w', hr, hx, β', H', v, h1, h2, h3, h4⟩ := h
  refine ⟨fun _ _ => trivial, ?_⟩
  rw [Oper.semAt_eq _ _ _ hnd, hr]
  rcases hx with rfl | ⟨rfl, rfl⟩
  · rw [Oper.uponIn_value]
    exact hN β' H' v v' w' h1 h2 h3 h4
  · rw [Oper.uponIn_skip]
    exact hN β' H' v undef w' h1 h2 h3 h4

theorem run_callFunc {g : FuncId} {args : Array Value} (h : callable P g = true) : (callFunc g args).run P w = .ok (.enter g args) w := by
  unfold callable at h
  split at h
  · rename_i fn hf
    simp only [Bool.and_eq_true, Bool.not_eq_true'] at h
    unfold callFunc
    obtain ⟨h1, h2⟩ := h
    have hn : fn.name ≠ "runtime.NumGoroutine" := by simpa using h1
    have hb : fn.body ≠ none := by intro hb; rw [hb] at h2; cases h2
    simp [hf, hn, hb]
  · cases h

/-- Behind a call. -/
theorem after_call {t : TypeId} (hN : ∀ β' H' v v' w', Step β w β' w' → Sim β' H' w' → VRel β'.loc v v' → K v H' → next (a.put o.dst v') w')
    (hP : ∀ β' H' v v' w', Step β w β' w' → Sim β' H' w' → VRel β'.loc v v' → Qp v H' → Q (.panic [{ v := v', recovered := false }]) a w') :
    ∀ (e : Ending) (w' : World), After β w (endK P t K Qp) e w' → (match e with | .returned v => next (a.put o.dst v) w' | .panicked chain => Q (.panic chain) a w' | .outgrown => LetsOut Q) := by
  rintro e w' ⟨β', H', h1, h2, h3⟩
  cases e with
  | returned v' =>
    obtain ⟨v, h4, h5⟩ := h3
    exact hN β' H' v v' w' h1 h2 h4 (result_sound (K := fun v => K v H') h5)
  | panicked chain =>
    obtain ⟨v, v', rfl, h4, h5⟩ := h3
    exact hP β' H' v v' w' h1 h2 h4 h5
  | outgrown => exact h3.elim

theorem putAll_rel {L : LMap} : ∀ {ps : List Tmp} {xs xs' : List Value} {e : Env} {tm : Array Value}, VsRel L xs xs' → ps.all (Nat.blt · nt) = true → TRel L nt e tm → TRel L nt (putAll ps xs e) ((ps.zip xs').foldl (fun tmps (t, a) => tmps.setIfInBounds t a) tm)
  | [], _, _, e, tm, _, _, h => by simpa [putAll] using h
  | _ :: _, _, _, e, tm, .nil, _, h => by simpa [putAll] using h
  | p :: ps, _, _, e, tm, .cons (v := v) (v' := v') hv ht, hp, h => by
    have hp' : Nat.blt p nt = true ∧ ps.all (Nat.blt · nt) = true := by simpa using hp
    have hlt : p < nt := by simpa [Nat.blt_eq] using hp'.1
    simp only [putAll, List.zip_cons_cons, List.foldl_cons]
    refine putAll_rel ht hp'.2 ⟨by simp [h.1], fun t ht => ?_⟩
    simp only [lk]
    by_cases e : p = t
    · subst e
      have : Nat.beq p p = true := by simp
      rw [this, cond_true, Array.getD_eq_getD_getElem?, Array.getElem?_setIfInBounds_self_of_lt (by rw [h.1]; exact hlt)]
      exact hv
    · rw [beq_false e, cond_false, Array.getD_eq_getD_getElem?, Array.getElem?_setIfInBounds_ne e, ← Array.getD_eq_getD_getElem?]
      exact h.2 t ht

theorem icallV_sound (hnd : ∀ c, o.op ≠ .defer c) (S : Sim β H w) {f f' : Value} {args args' : List Value} {t : TypeId} (hf : VRel β.loc f f') (ha : VsRel β.loc args args') (h : icallV P f args H (endK P t K Qp))
    (hrun : (execOp a.eval o).run P w = ((do let d ← Deferred.ofValue f' ⟨args'⟩; invoke d.target d.args) : Sem Next).run P w)
    (hN : ∀ β' H' v v' w', Step β w β' w' → Sim β' H' w' → VRel β'.loc v v' → K v H' → next (a.put o.dst v') w')
    (hP : ∀ β' H' v v' w', Step β w β' w' → Sim β' H' w' → VRel β'.loc v v' → Qp v H' → Q (.panic [{ v := v', recovered := false }]) a w') : o.wpIn (Fz ro) 0 P a w next Q := by
  refine ⟨fun _ _ => trivial, ?_⟩
  rw [Oper.semAt_eq _ _ _ hnd, hrun]
  unfold icallV at h
  split at h
  · rename_i g first cap
    generalize hff : Value.func (.func g) ⟨first⟩ ⟨cap⟩ = F at hf
    cases hf <;> cases hff
    rename_i b d h1 h2
    have hres : ((do let d ← Deferred.ofValue (.func (.func g) ⟨b⟩ ⟨d⟩) ⟨args'⟩; invoke d.target d.args) : Sem Next).run P w = .ok (.enter g ⟨b ++ args' ++ d⟩) w := by
      simp only [Deferred.ofValue, Sem.run_bind, Sem.run_pure, Result.andThen_ok, invoke]
      rw [run_callFunc h.1]
      simp
    rw [hres, Oper.uponIn_enter]
    refine ⟨(fun hd => by cases hd), callsIn_fz ((h.2 β w _ S ((h1.append ha).append h2)).mono fun e w' hA => ?_)⟩
    have := after_call (o := o) (a := a) (next := next) hN hP e w' hA
    cases e <;> exact this
  · rename_i l x y
    generalize hff : Value.func (.yield l) x y = F at hf
    cases hf <;> cases hff
    rename_i ll hl
    obtain ⟨st, pend, fn, tm, nt', params, assign, body, hH, hlen, hpar, hround⟩ := h
    obtain ⟨_, tm', df, fn', ht, hw⟩ := S.obj l ll _ hl hH
    have hres : ((do let d ← Deferred.ofValue (.func (.yield ll.block) #[] #[]) ⟨args'⟩; invoke d.target d.args) : Sem Next).run P w =
        .ok (.round ll.block fn' ((params.toList.zip args').foldl (fun tmps (t, a) => tmps.setIfInBounds t a) tm') assign body) w := by
      simp only [Deferred.ofValue, Sem.run_bind, Sem.run_pure, Result.andThen_ok, invoke, Instr.yield, Instr.getLoop]
      rw [run_getObj hw trivial]
      simp only [Result.andThen_ok, Sem.run_pure, Sem.run_ite]
      have hsz : (#[] ++ (⟨args'⟩ : Array Value)).size = params.size := by
        simp [ha.length, hlen]
      rw [if_neg (by simp [ha.length, hlen])]
      congr 2
      rw [← Array.foldl_toList]
      simp
    rw [hres, Oper.uponIn_round]
    refine ⟨(fun hd => by cases hd), roundIn_fz ((hround fn' β w _ ll S hl (putAll_rel ha hpar ht)).mono fun e w' hA => ?_)⟩
    have := after_call (o := o) (a := a) (next := next) hN hP e w' hA
    cases e <;> exact this
  · exact h.elim

theorem Fits.unit {s : Sem Unit} {K : Value → IHeap → Prop} (h : ∃ w' H', s.run P w = .ok () w' ∧ Step β w β w' ∧ Sim β H' w' ∧ K anyV H') : Fits β w K ((do s; pure Next.skip : Sem Next).run P w) := by
  obtain ⟨w', H', h1, h2, h3, h4⟩ := h
  exact .skip (by simp [h1]) h2 h3 h4

theorem Fits.empty {s : Sem Value} {K : Value → IHeap → Prop} (h : ∃ w' H', s.run P w = .ok (.tuple #[]) w' ∧ Step β w β w' ∧ Sim β H' w' ∧ K (.tuple ⟨[]⟩) H') : Fits β w K ((do pure (Next.value (← s)) : Sem Next).run P w) := by
  obtain ⟨w', H', h1, h2, h3, h4⟩ := h
  exact .val (by simp [h1]) h2 h3 (.tuple .nil) h4

theorem iop_sound (ho : okOper nt o = true) (S : Sim β H w) (hev : OpdRel β.loc env a o.op) (h : iop P o env H K Qp)
    (hN : ∀ β' H' v v' w', Step β w β' w' → Sim β' H' w' → VRel β'.loc v v' → K v H' → next (a.put o.dst v') w')
    (hP : ∀ β' H' v v' w', Step β w β' w' → Sim β' H' w' → VRel β'.loc v v' → Qp v H' → Q (.panic [{ v := v', recovered := false }]) a w') : o.wpIn (Fz ro) 0 P a w next Q := by
  obtain ⟨dst, op, type, pos, after, guard⟩ := o
  simp only [okOper, Bool.and_eq_true] at ho
  obtain ⟨⟨hd, hall⟩, hc⟩ := ho
  have ev : ∀ {x : Operand}, x ∈ op.operands.toList → VRel β.loc (iev env x) (a.eval x) := fun hx => hev _ hx
  have key : ∀ l : List Operand, (∀ x ∈ l, VRel β.loc (iev env x) (a.eval x)) → VsRel β.loc (l.map (iev env)) (l.map a.eval) := by
    intro l
    induction l with
    | nil => intro _; exact .nil
    | cons x l ih => intro hh; exact .cons (hh x (by simp)) (ih fun y hy => hh y (by simp [hy]))
  by_cases hnd : ∀ c, op ≠ .defer c
  case neg => cases op <;> simp [okCall] at hnd hc
  have fit := fun (hf : Fits β w K ((execOp a.eval ⟨dst, op, type, pos, after, guard⟩).run P w)) => wpIn_fits (o := ⟨dst, op, type, pos, after, guard⟩) (ro := ro) (next := next) (Q := Q) hnd hf hN
  cases op with
  | move x => exact fit (.same S rfl (ev (by simp [Op.operands])) h)
  | assign x => exact fit (.same S rfl (ev (by simp [Op.operands])) h)
  | pick c x y =>
    simp only [iop] at h
    have hcv := ev (x := c) (by simp [Op.operands])
    split at h
    · rename_i b hb
      rw [hb] at hcv
      obtain ⟨v, h1, h2⟩ := pick_pg (ev (x := x) (by simp [Op.operands])) (ev (x := y) (by simp [Op.operands])) h
      exact fit (.same S (by simp [execOp, asBool, hcv.inv_bool]) h1 h2)
    · exact h.elim
  | alloc t => exact fit (Gives.fits (alloc_gives S h))
  | box t x => exact fit (Gives.fits (box_gives S (ev (x := x) (by simp [Op.operands])) h))
  | build t ps => exact fit (Gives.fits (PG.gives S (build_pg (fun p hp => ev (x := p.2) (by simp only [Op.operands]; exact List.mem_map.2 ⟨p, hp, rfl⟩)) h)))
  | buildSlice t n ps => exact fit (Gives.fits (buildSlice_gives S (fun p hp => ev (x := p.2) (by simp only [Op.operands]; exact List.mem_map.2 ⟨p, hp, rfl⟩)) h))
  | load t x => exact fit (Gives.fits (load_gives S (ev (x := x) (by simp [Op.operands])) h))
  | store t x y => exact fit (Fits.unit (store_sound S (K := fun H' => K anyV H') (ev (x := x) (by simp [Op.operands])) (ev (x := y) (by simp [Op.operands])) h))
  | nilCheck x =>
    simp only [iop] at h
    have hx := ev (x := x) (by simp [Op.operands])
    split at h
    · rename_i p hp
      obtain ⟨i, f, rfl, hk⟩ := pcase_sound h
      rw [hp] at hx
      obtain ⟨l, hl, hx'⟩ := hx.inv_ptr
      exact fit (.same S (by simp [execOp, hx']) hx hk)
    · rename_i f x' y' hp
      rw [hp] at hx
      generalize hz : a.eval x = z at hx
      cases hx with
      | func h1 h2 => exact fit (.same S (by simp [execOp, hz]) (.func h1 h2) h)
      | yield hl => exact fit (.same S (by simp [execOp, hz]) (.yield hl) h)
    · exact h.elim
  | binOp op t x y z => exact fit (Gives.fits (PG.gives S (binOp_sound (ev (x := x) (by simp [Op.operands])) (ev (x := y) (by simp [Op.operands])) h)))
  | unOp op t x => exact fit (Gives.fits (PG.gives S (unOp_sound (ev (x := x) (by simp [Op.operands])) h)))
  | convert s d x => exact fit (Gives.fits (PG.gives S (convert_sound (ev (x := x) (by simp [Op.operands])) h)))
  | makeInterface t x =>
    simp only [iop] at h
    have hx := ev (x := x) (by simp [Op.operands])
    split at h
    · exact h.elim
    · rename_i d hn hu
      refine fit (.same S (v' := .iface t (a.eval x)) ?_ (.iface hx) h)
      simp only [execOp, Instr.makeInterface, Sem.run_bind, run_und hu, Result.andThen_ok]
      cases d <;> first | rfl | exact (hn _ rfl).elim
    · exact h.elim
  | makeFunc fn first cap =>
    cases fn <;> try exact (h : False).elim
    rename_i f
    obtain ⟨first⟩ := first
    obtain ⟨cap⟩ := cap
    refine fit (.same S (v' := .func (.func f) ⟨first.map a.eval⟩ ⟨cap.map a.eval⟩) (by simp [execOp, Instr.makeFunc]) (.func (key _ fun x hx => ev (by simp [Op.operands, hx])) (key _ fun x hx => ev (by simp [Op.operands, hx]))) h)
  | makeMap t r =>
    cases r with
    | none => exact fit (Gives.fits (makeMap_gives S h))
    | some r => exact (h : False).elim
  | makeSlice t l c => exact fit (Gives.fits (makeSlice_gives S (ev (x := l) (by simp [Op.operands])) (ev (x := c) (by simp [Op.operands])) h))
  | slice t x lo hi mx =>
    have hopt : ∀ {y : Option Operand}, (∀ z, y = some z → z ∈ (Op.slice t x lo hi mx).operands.toList) → ORelV β.loc (y.map (iev env)) (y.map a.eval) := by
      intro y hy
      cases y with
      | none => trivial
      | some z => exact ev (hy z rfl)
    exact fit (Gives.fits (PG.gives S (slice_pg S (ev (x := x) (by simp [Op.operands])) (hopt (by rintro z rfl; simp [Op.operands])) (hopt (by rintro z rfl; simp [Op.operands])) (hopt (by rintro z rfl; simp [Op.operands])) h)))
  | fieldAddr t x f => exact fit (Gives.fits (PG.gives S (fieldAddr_sound (ev (x := x) (by simp [Op.operands])) h)))
  | field t x f => exact fit (Gives.fits (PG.gives S (field_sound (ev (x := x) (by simp [Op.operands])) h)))
  | indexAddr t x i => exact fit (Gives.fits (PG.gives S (indexAddr_sound (ev (x := x) (by simp [Op.operands])) (ev (x := i) (by simp [Op.operands])) h)))
  | index t x i => exact fit (Gives.fits (PG.gives S (index_sound (ev (x := x) (by simp [Op.operands])) (ev (x := i) (by simp [Op.operands])) h)))
  | lookup t m k ok => exact fit (Gives.fits (PG.gives S (lookup_pg S (ev (x := m) (by simp [Op.operands])) (ev (x := k) (by simp [Op.operands])) h)))
  | mapUpdate t m k v => exact fit (Fits.unit (mapUpdate_sound S (K := fun H' => K anyV H') (ev (x := m) (by simp [Op.operands])) (ev (x := k) (by simp [Op.operands])) (ev (x := v) (by simp [Op.operands])) h))
  | insert t m k v => exact fit (Fits.unit (mapUpdate_sound S (K := fun H' => K anyV H') (ev (x := m) (by simp [Op.operands])) (ev (x := k) (by simp [Op.operands])) (ev (x := v) (by simp [Op.operands])) h))
  | mapEntry t m k => exact fit (Gives.fits (mapEntry_gives S (ev (x := m) (by simp [Op.operands])) (ev (x := k) (by simp [Op.operands])) h))
  | entryStore t m s v => exact fit (Fits.unit (entryStore_sound S (K := fun H' => K anyV H') (ev (x := m) (by simp [Op.operands])) (ev (x := s) (by simp [Op.operands])) (ev (x := v) (by simp [Op.operands])) h))
  | range t x => exact fit (Gives.fits (range_gives S (ev (x := x) (by simp [Op.operands])) h))
  | next it isS =>
    cases isS with
    | true => exact (h : False).elim
    | false => exact fit (Gives.fits (next_gives S (ev (x := it) (by simp [Op.operands])) h))
  | entry it => exact fit (Gives.fits (PG.gives S (entry_pg S (ev (x := it) (by simp [Op.operands])) h)))
  | typeAssert x xt t ok => exact fit (Gives.fits (PG.gives S (typeAssert_pg (ev (x := x) (by simp [Op.operands])) h)))
  | extract x i => exact fit (Gives.fits (PG.gives S (extract_pg (ev (x := x) (by simp [Op.operands])) h)))
  | call c =>
    obtain ⟨callee, args, tys⟩ := c
    simp only [iop, icall] at h
    cases callee with
    | value f =>
      obtain ⟨args⟩ := args
      refine icallV_sound hnd S (ev (x := f) (by simp [Op.operands, Call.operands])) (args' := args.map a.eval) (key _ fun x hx => ev (by simp [Op.operands, Call.operands, hx])) h ?_ hN hP
      · simp [execOp, resolve]
    | invoke r n => exact h.elim
    | builtin b =>
      obtain ⟨ts⟩ := tys
      obtain ⟨as⟩ := args
      have hrun : (∀ cs, Fits β w K ((builtin b ⟨ts⟩ type cs ⟨as.map a.eval⟩ : Sem Next).run P w)) → Fits β w K ((execOp a.eval ⟨dst, .call ⟨.builtin b, ⟨as⟩, ⟨ts⟩⟩, type, pos, after, guard⟩).run P w) := by
        intro hf
        simp only [execOp, resolve, invoke, Sem.run_bind, Sem.run_pure, Result.andThen_ok, List.map_toArray]
        exact hf _
      have hvs : VsRel β.loc (as.map (iev env)) (as.map a.eval) := key _ fun x hx => ev (by simp [Op.operands, Call.operands, hx])
      refine fit (hrun fun cs => ?_)
      simp only at h
      cases b with
      | append =>
        obtain ⟨x, y, rfl⟩ : ∃ x y, as = [x, y] := by revert hc; rcases as with _ | ⟨x, _ | ⟨y, _ | _⟩⟩ <;> simp [okCall]
        obtain ⟨t, u, rfl⟩ : ∃ t u, ts = [t, u] := by revert hc; rcases ts with _ | ⟨x, _ | ⟨y, _ | _⟩⟩ <;> simp [okCall]
        simp only [icallB, List.map_cons, List.map_nil] at h
        split at h
        · rename_i e' hu
          exact Gives.fits (append_gives S hu (ev (x := x) (by simp [Op.operands, Call.operands])) (ev (x := y) (by simp [Op.operands, Call.operands])) h)
        · exact h.elim
      | copy =>
        obtain ⟨x, y, rfl⟩ : ∃ x y, as = [x, y] := by revert hc; rcases as with _ | ⟨x, _ | ⟨y, _ | _⟩⟩ <;> simp [okCall]
        obtain ⟨t, u, rfl⟩ : ∃ t u, ts = [t, u] := by revert hc; rcases ts with _ | ⟨x, _ | ⟨y, _ | _⟩⟩ <;> simp [okCall]
        simp only [icallB, List.map_cons, List.map_nil] at h
        split at h
        · exact Gives.fits (copy_gives S (ev (x := x) (by simp [Op.operands, Call.operands])) (ev (x := y) (by simp [Op.operands, Call.operands])) h)
        · exact h.elim
      | delete =>
        obtain ⟨x, y, rfl⟩ : ∃ x y, as = [x, y] := by revert hc; rcases as with _ | ⟨x, _ | ⟨y, _ | _⟩⟩ <;> simp [okCall]
        rcases ts with _ | ⟨t, ts⟩
        · exact h.elim
        · exact Fits.empty (mapDelete_sound S (K := fun H' => K (.tuple ⟨[]⟩) H') (ev (x := x) (by simp [Op.operands, Call.operands])) (ev (x := y) (by simp [Op.operands, Call.operands])) h)
      | len =>
        rcases ts with _ | ⟨t, ts⟩
        · exact h.elim
        rcases as with _ | ⟨x, as⟩
        · exact h.elim
        exact Gives.fits (PG.gives S (len_pg S (ev (x := x) (by simp [Op.operands, Call.operands])) h))
      | clear =>
        rcases ts with _ | ⟨t, ts⟩
        · exact h.elim
        rcases as with _ | ⟨x, as⟩
        · exact h.elim
        exact Fits.empty (clear_sound S (K := fun H' => K (.tuple ⟨[]⟩) H') (ev (x := x) (by simp [Op.operands, Call.operands])) h)
      | min => exact Gives.fits (PG.gives S (minMax_pg (mx := false) hvs (by cases ts <;> exact h)))
      | max => exact Gives.fits (PG.gives S (minMax_pg (mx := true) hvs (by cases ts <;> exact h)))
      | _ => exact (by revert h; rcases ts with _ | ⟨t, _ | ⟨u, ts⟩⟩ <;> rcases as with _ | ⟨x, _ | ⟨y, as⟩⟩ <;> exact fun h => h.elim)
  | panic x =>
    simp only [iop] at h
    have hx := ev (x := x) (by simp [Op.operands])
    split at h
    · rename_i t v hv
      rw [hv] at hx
      generalize hz : a.eval x = z at hx
      cases hx with
      | @iface _ _ v' hx' =>
        refine ⟨fun _ _ => trivial, ?_⟩
        rw [Oper.semAt_eq _ _ _ hnd]
        have : (execOp a.eval ⟨dst, .panic x, type, pos, after, guard⟩).run P w = .halt (.panic (.iface t v')) w := by
          simp only [execOp, hz, Instr.panic, goPanic]
          rfl
        rw [this, Oper.uponIn_panic]
        exact hP β H _ _ w (Step.refl _ _) S (.iface hx') h
    · exact h.elim
  | _ => exact (h : False).elim

end
end Ide
