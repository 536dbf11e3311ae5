/- What does not act may come later. -/
import Derived.Test.YtoikiogaiikheaaSndAF
import Derived.RangeFuncLeaves
import Derived.OrdersIn
set_option linter.unusedSectionVars false
set_option linter.unusedVariables false
set_option linter.unusedSimpArgs false
namespace Ide
open Go Go.RowKit
variable [Pol]

/-- What must hold of the heap for the operation to give the same once more. -/
def okOf (i : Nat) (o : Oper) (env : Env) (v : Value) (H H1 : IHeap) (H' : IHeap) : Prop := ∀ p ∈ watchOf i o env v H H1, p.2 H'

def Again (P : Program) (o : Oper) (env : Env) (mk : Option Nat) (v : Value) (ok : IHeap → Prop) : Prop :=
  ∀ (β : Emb) (H : IHeap) (w : World) (a : Act), Sim β H w → ok H → OpdRel β.loc env a o.op → (∀ k, mk = some k → β.loc k = none ∧ ¬ β.held k) →
    ∃ (v' : Value) (w' : World) (β' : Emb), (execOp a.eval o).run P w = .ok (.value v') w' ∧ Step β w β' w' ∧ Sim β' H w' ∧ VRel β'.loc v v' ∧ ∀ j, some j ≠ mk → β'.loc j = β.loc j

/-- It has come, and would give the same later. -/
def Came (P : Program) (i : Nat) (o : Oper) (env : Env) (H : IHeap) (K : Value → IHeap → Prop) : Prop :=
  ∃ (v : Value) (H1 : IHeap) (mk : Option Nat), K v H1 ∧ (mk = none ∧ H1 = H ∨ mk = some (Pol.pos H) ∧ ∃ ob, ob ≠ .free ∧ H1 = newO H ob) ∧ okOf i o env v H H1 H1 ∧
    (∀ H' ob, okOf i o env v H H1 H' → okOf i o env v H H1 (newO H' ob)) ∧ Again P o env mk v (okOf i o env v H H1)

section
variable {P : Program} {H : IHeap} {env : Env} {o : Oper} {i : Nat} {K : Value → IHeap → Prop}

theorem Came.plain {F : (Value → Prop) → Prop} (hd : Det F) (h : F fun v => K v H) (hw : ∀ v, watchOf i o env v H H = [])
    (hs : ∀ (β : Emb) (H' : IHeap) (w : World) (a : Act) (v : Value), Sim β H' w → OpdRel β.loc env a o.op → F (fun u => u = v) → ∃ v', (execOp a.eval o).run P w = .ok (.value v') w ∧ VRel β.loc v v') : Came P i o env H K := by
  obtain ⟨v, h1, h2⟩ := hd _ h
  refine ⟨v, H, none, h1, .inl ⟨rfl, rfl⟩, ?_, ?_, ?_⟩
  · intro p hp; rw [hw] at hp; cases hp
  · intro H' ob _ p hp; rw [hw] at hp; cases hp
  · intro β H' w a S _ hr _
    obtain ⟨v', g1, g2⟩ := hs β H' w a v S hr (h2 _ rfl)
    exact ⟨v', w, β, g1, Step.refl _ _, S, g2, fun _ _ => rfl⟩

theorem PG.val {β : Emb} {w : World} {v : Value} {s : Sem Value} (h : PG β w P (fun u => u = v) s) : ∃ v', (do pure (Next.value (← s)) : Sem Next).run P w = .ok (.value v') w ∧ VRel β.loc v v' := by
  obtain ⟨v', u, h1, h2, rfl⟩ := h
  exact ⟨v', by simp [h1], h2⟩

theorem Came.read {F : IHeap → (Value → Prop) → Prop} {W : Value → IHeap → Prop} (hd : Det (F H)) (h : F H fun v => K v H) (hw : ∀ v, watchOf i o env v H H = [(i, W v)]) (h0 : ∀ v, F H (fun u => u = v) → W v H)
    (h1 : ∀ v H' ob, W v H' → W v (newO H' ob))
    (hs : ∀ (β : Emb) (H' : IHeap) (w : World) (a : Act) (v : Value), Sim β H' w → OpdRel β.loc env a o.op → F H (fun u => u = v) → W v H' → ∃ v', (execOp a.eval o).run P w = .ok (.value v') w ∧ VRel β.loc v v') : Came P i o env H K := by
  obtain ⟨v, h2, h3⟩ := hd _ h
  have hok : ∀ H', okOf i o env v H H H' ↔ W v H' := fun H' => by unfold okOf; rw [hw]; simp
  refine ⟨v, H, none, h2, .inl ⟨rfl, rfl⟩, (hok _).2 (h0 v (h3 _ rfl)), fun H' ob hh => (hok _).2 (h1 _ _ _ ((hok _).1 hh)), ?_⟩
  intro β H' w a S hh hr _
  obtain ⟨v', g1, g2⟩ := hs β H' w a v S hr (h3 _ rfl) ((hok _).1 hh)
  exact ⟨v', w, β, g1, Step.refl _ _, S, g2, fun _ _ => rfl⟩

theorem Came.make {s : Act → Sem Value} {v : Value} {ob : IObj} (hf : ob ≠ .free) (h : K v (newO H ob)) (hw : watchOf i o env v H (newO H ob) = [(i, fun H' => ∃ x, (newO H ob)[Pol.pos H]? = some x ∧ H'[Pol.pos H]? = some x)])
    (hx : ∀ a : Act, execOp a.eval o = (do pure (Next.value (← s a)) : Sem Next))
    (hs : ∀ (β : Emb) (w : World) (a : Act), OpdRel β.loc env a o.op → MakesAt β w P H (fun u H' => u = v ∧ H' = newO H ob) (s a)) : Came P i o env H K := by
  have hok : ∀ H', okOf i o env v H (newO H ob) H' ↔ H'[Pol.pos H]? = some ob := fun H' => by unfold okOf; rw [hw]; simp [newO_self]
  refine ⟨v, newO H ob, some (Pol.pos H), h, .inr ⟨rfl, ob, hf, rfl⟩, (hok _).2 (newO_self _ _), fun H' ob' hh => (hok _).2 ?_, ?_⟩
  · exact newO_get ob' ((hok _).1 hh) hf
  · intro β Hc w a S hh hr hm
    obtain ⟨u, x, v', y, l, ⟨rfl, hH⟩, hrun, hl, hL⟩ := hs β w a hr
    obtain rfl : x = ob := by have := newO_self H x; rw [hH, newO_self] at this; exact (Option.some.inj this).symm
    have hn := hm _ rfl
    obtain ⟨a1, a2⟩ := hL (β.with (Pol.pos H) l).loc (Emb.with_self _ _ _) (Emb.with_le _ hn.1).2
    obtain ⟨St, Sm⟩ := S.make (id := Pol.pos H) (o := x) ((hok _).1 hh) hn y l hl (a2 S.base_le)
    refine ⟨v', _, _, ?_, St, Sm, a1, fun j hj => ?_⟩
    · rw [hx]; simp [hrun]
    · have : j ≠ Pol.pos H := fun e => hj (by rw [e])
      simp [Emb.with, this]

theorem get_append {α : Type} {l : List α} {i : Nat} {x y : α} (h : l[i]? = some x) : (l ++ [y])[i]? = some x := by
  rw [List.getElem?_append_left (get_lt h)]; exact h

theorem cellsAt_append {i o n : Nat} {cs : List Value} {ob : IObj} {H : IHeap} (h : cellsAt H i o n = some cs) : cellsAt (newO H ob) i o n = some cs := by
  unfold cellsAt at h ⊢
  split at h
  · rename_i cs0 rw hH
    rw [newO_get ob hH (by simp)]; exact h
  · cases h
theorem cellAt_append {i o : Nat} {v : Value} {ob : IObj} {H : IHeap} (h : cellAt H i o = some v) : cellAt (newO H ob) i o = some v := by
  unfold cellAt at h ⊢
  split at h
  · rename_i cs0 rw hH
    rw [newO_get ob hH (by simp)]; exact h
  · cases h

theorem reload_append {a v : Value} {ob : IObj} {H : IHeap} (h : reload a v H) : reload a v (newO H ob) := by
  unfold reload at h ⊢
  split at h
  · exact cellsAt_append h
  · exact cellAt_append h
  · exact h.elim

theorem remap_append {m : Value} {ob : IObj} {G H : IHeap} (h : remap m G H) : remap m G (newO H ob) := by
  unfold remap at h ⊢
  split at h
  · obtain ⟨es, c, h1, h2⟩ := h
    exact ⟨es, c, h1, newO_get _ h2 (by simp)⟩
  · trivial
  · trivial
  · trivial
  · exact h.elim

theorem rearr_append {x : Value} {ob : IObj} {G H : IHeap} (h : rearr x G H) : rearr x G (newO H ob) := by
  unfold rearr at h ⊢
  split at h
  · obtain ⟨cs, cs', h1, h2, h3⟩ := h
    exact ⟨cs, cs', h1, newO_get _ h2 (by simp), h3⟩
  · trivial

theorem bound_mono {v : Option Value} {d : Int} {K K' : Int → Prop} (h : bound v d K) (hk : ∀ i, K i → K' i) : bound v d K' := by
  unfold bound at h ⊢
  split at h <;> first | exact hk _ h | exact h.elim
theorem boundq_mono {v : Option Value} {K K' : Option Int → Prop} (h : bound? v K) (hk : ∀ i, K i → K' i) : bound? v K' := by
  unfold bound? at h ⊢
  split at h <;> first | exact hk _ h | exact h.elim

theorem slice_rearr {t : TypeId} {x : Value} {lo hi mx : Option Value} {K : Value → Prop} (h : slice P t H x lo hi mx K) : rearr x H H ∧ ∀ H', rearr x H H' → slice P t H' x lo hi mx K := by
  unfold slice at h
  split at h
  · rename_i e a n c hu
    exact ⟨trivial, fun H' _ => by unfold slice; simp only [hu]; exact h⟩
  · rename_i s hu
    exact ⟨trivial, fun H' _ => by unfold slice; simp only [hu]; exact h⟩
  · rename_i n e a hu
    obtain ⟨hb, h⟩ := bif_sound h
    obtain ⟨l, _, h1⟩ := bound_sound h
    obtain ⟨hh, _, h2⟩ := bound_sound h1
    have hc : ∃ K', cutArr H a n (ssz P e) l hh K' := by
      rcases boundq_sound h2 with ⟨_, _, h3⟩ | ⟨_, _, _, h3, _⟩
      · exact ⟨_, h3⟩
      · cases h3
    obtain ⟨K', g0, g1, g2, g3⟩ := hc
    obtain ⟨i, o, rfl, ⟨cs, hcs, hle⟩, _⟩ := pcase_sound g3
    refine ⟨⟨cs, cs, hcs, hcs, rfl⟩, fun H' hr => ?_⟩
    obtain ⟨cs1, cs', r1, r2, r3⟩ := hr
    rw [hcs] at r1
    cases r1
    unfold slice
    simp only [hu, hb, cond_true]
    refine bound_mono h fun l hl => bound_mono hl fun hh hhh => boundq_mono hhh fun m hm => ⟨hm.1, ?_⟩
    obtain ⟨k0, k1, k2, k3⟩ := hm.2
    obtain ⟨_, _, e, ⟨_, _⟩, hk⟩ := pcase_sound k3
    cases e
    exact ⟨k0, k1, k2, ⟨cs', r2, by rw [r3]; exact hle⟩, hk⟩
  · exact h.elim

theorem load_reload {t : TypeId} {b f : Nat} {v : Value} {H : IHeap} (h : load P t H b f (fun u => u = v)) : reload (ptrTo b f) v H ∧ ∀ H', reload (ptrTo b f) v H' → load P t H' b f (fun u => u = v) := by
  unfold load at h ⊢
  split at h
  · obtain ⟨n, hc, rfl⟩ := h; exact ⟨hc, fun H' h' => by simp only [*]; exact ⟨n, h', rfl⟩⟩
  · obtain ⟨n, hc, rfl⟩ := h; exact ⟨hc, fun H' h' => by simp only [*]; exact ⟨n, h', rfl⟩⟩
  · obtain ⟨n, hc, rfl⟩ := h; exact ⟨hc, fun H' h' => by simp only [*]; exact ⟨n, h', rfl⟩⟩
  · obtain ⟨n, hc, rfl⟩ := h; exact ⟨hc, fun H' h' => by simp only [*]; exact ⟨n, h', rfl⟩⟩
  · obtain ⟨n, m, s, hc, rfl⟩ := h; exact ⟨hc, fun H' h' => by simp only [*]; exact ⟨n, m, s, h', rfl⟩⟩
  · obtain ⟨n, hc, rfl⟩ := h; exact ⟨hc, fun H' h' => by simp only [*]; exact ⟨n, h', rfl⟩⟩
  · obtain ⟨n, hc, rfl⟩ := h
    have hl := cellsAt_length hc
    exact ⟨by show cellsAt H b f n.length = some n; rw [hl]; exact hc, fun H' h' => by simp only [*]; exact ⟨n, by have h'' : cellsAt H' b f n.length = some n := h'; rwa [hl] at h'', rfl⟩⟩
  · obtain ⟨n, hc, rfl⟩ := h
    have hl := cellsAt_length hc
    exact ⟨by show cellsAt H b f n.length = some n; rw [hl]; exact hc, fun H' h' => by simp only [*]; exact ⟨n, by have h'' : cellsAt H' b f n.length = some n := h'; rwa [hl] at h'', rfl⟩⟩
  · obtain ⟨n, hc, hn, rfl⟩ := h
    cases n <;> first
      | (cases hn; done)
      | exact ⟨hc, fun H' h' => ⟨_, h', rfl, rfl⟩⟩
  · exact h.elim

theorem lookup_remap {t : TypeId} {m k v : Value} {ok : Bool} (h : lookup P t H m k ok (fun u => u = v)) : remap m H H ∧ ∀ H', remap m H H' → lookup P t H' m k ok (fun u => u = v) := by
  unfold lookup at h ⊢
  split at h
  · rename_i kt et r hu
    split at h
    · rename_i z hz
      obtain ⟨hk, h⟩ := h
      simp only [hz]
      cases r with
      | none => exact ⟨trivial, fun H' _ => ⟨hk, h⟩⟩
      | some r =>
        obtain ⟨es, c, h1, h2⟩ := h
        refine ⟨⟨es, c, h1, h1⟩, fun H' h' => ⟨hk, ?_⟩⟩
        obtain ⟨es', c', h3, h4⟩ := h'
        rw [h1] at h3
        cases h3
        exact ⟨es, c, h4, h2⟩
    · exact h.elim
  · exact h.elim

theorem len_remap {t : TypeId} {m v : Value} (ht : (match P.underlying t with | some .string => true | some (.slice _) => true | some (.map ..) => true | _ => false) = true) (h : lenOf P t H m (fun u => u = v)) : remap m H H ∧ ∀ H', remap m H H' → lenOf P t H' m (fun u => u = v) := by
  unfold lenOf at h ⊢
  split at h
  · exact ⟨trivial, fun H' _ => by simp only [*]⟩
  · exact ⟨trivial, fun H' _ => by simp only [*]⟩
  · rename_i hu; rw [hu] at ht; cases ht
  · rename_i hu; rw [hu] at ht; cases ht
  · rename_i r hu
    simp only [hu]
    cases r with
    | none => exact ⟨trivial, fun H' _ => h⟩
    | some r =>
      obtain ⟨es, c, h1, h2⟩ := h
      refine ⟨⟨es, c, h1, h1⟩, fun H' h' => ?_⟩
      obtain ⟨es', c', h3, h4⟩ := h'
      rw [h1] at h3
      cases h3
      exact ⟨es, c, h4, h2⟩
  · exact h.elim

/-- Operations that a region with an open order may have without acting. -/
def plainOp (P : Program) : Op → Bool
  | .call { callee := .builtin .len, args := ⟨[_]⟩, argTypes := ⟨t :: _⟩ } => match P.underlying t with | some .string => true | some (.slice _) => true | some (.map ..) => true | _ => false
  | .call { callee := .builtin .len, .. } => false
  | _ => true

set_option maxHeartbeats 1000000 in
theorem iop_came {nt : Nat} {Qp : Value → IHeap → Prop} (ho : okOper nt o = true) (hk : isActs o = false) (hp : plainOp P o.op = true) (h : iop P o env H K Qp) : Came P i o env H K := by
  obtain ⟨dst, op, type, pos, after, guard⟩ := o
  simp only [okOper, Bool.and_eq_true] at ho
  obtain ⟨⟨hd, hall⟩, hc⟩ := ho
  cases op with
  | move x => exact Came.plain (F := fun K => K (iev env x)) (.pure _) h (fun _ => rfl) fun β H' w a v S hr hv => ⟨a.eval x, rfl, hv ▸ hr x (by simp [Op.operands])⟩
  | pick c x y =>
    simp only [iop] at h
    split at h
    · rename_i b hb
      refine Came.plain det_pickV h (fun _ => rfl) fun β H' w a v S hr hv => ?_
      have hcv := hr c (by simp [Op.operands])
      rw [hb] at hcv
      obtain ⟨u, h1, h2⟩ := pick_pg (hr x (by simp [Op.operands])) (hr y (by simp [Op.operands])) hv
      exact ⟨_, by simp [execOp, asBool, hcv.inv_bool], h2 ▸ h1⟩
    · exact h.elim
  | nilCheck x =>
    simp only [iop] at h
    split at h
    · rename_i p hp
      refine Came.plain (F := fun K => pcase p fun i f => K (ptrTo i f)) (pcase_bind fun _ _ => .pure _) h (fun _ => rfl) fun β H' w a v S hr hv => ?_
      have hx := hr x (by simp [Op.operands])
      obtain ⟨i, f, rfl, rfl⟩ := pcase_sound hv
      rw [hp] at hx
      obtain ⟨_, l, hl, hx'⟩ := hx.inv_ptr
      exact ⟨a.eval x, by simp [execOp, hx'], hx⟩
    · rename_i f x' y' hp
      refine Came.plain (F := fun K => K (.func f x' y')) (.pure _) h (fun _ => rfl) fun β H' w a v S hr hv => ?_
      have hx := hr x (by simp [Op.operands])
      rw [hp] at hx
      generalize hz : a.eval x = z at hx
      rw [← hv]
      cases hx with
      | func h1 h2 => exact ⟨_, by simp only [execOp, hz]; rfl, .func h1 h2⟩
      | yield hl => exact ⟨_, by simp only [execOp, hz]; rfl, .yield hl⟩
    · exact h.elim
  | binOp op t x y z => exact Came.plain det_binOp h (fun _ => rfl) fun β H' w a v S hr hv => PG.val (binOp_sound (hr x (by simp [Op.operands])) (hr y (by simp [Op.operands])) hv)
  | unOp op t x => exact Came.plain det_unOp h (fun _ => rfl) fun β H' w a v S hr hv => PG.val (unOp_sound (hr x (by simp [Op.operands])) hv)
  | convert s d x => exact Came.plain det_convert h (fun _ => rfl) fun β H' w a v S hr hv => PG.val (convert_sound (hr x (by simp [Op.operands])) hv)
  | fieldAddr t x f => exact Came.plain det_fieldAddr h (fun _ => rfl) fun β H' w a v S hr hv => PG.val (fieldAddr_sound (hr x (by simp [Op.operands])) hv)
  | indexAddr t x i => exact Came.plain det_indexAddr h (fun _ => rfl) fun β H' w a v S hr hv => PG.val (indexAddr_sound (hr x (by simp [Op.operands])) (hr i (by simp [Op.operands])) hv)
  | extract x i => exact Came.plain det_extract h (fun _ => rfl) fun β H' w a v S hr hv => PG.val (extract_pg (hr x (by simp [Op.operands])) hv)
  | build t ps => exact Came.plain det_build h (fun _ => rfl) fun β H' w a v S hr hv => PG.val (build_pg (fun p hp => hr p.2 (by simp only [Op.operands]; exact List.mem_map.2 ⟨p, hp, rfl⟩)) hv)
  | makeFunc fn first cap =>
    cases fn <;> try exact (h : False).elim
    rename_i f
    obtain ⟨first⟩ := first
    obtain ⟨cap⟩ := cap
    refine Came.plain (F := fun K => K (.func (.func f) ⟨first.map (iev env)⟩ ⟨cap.map (iev env)⟩)) (.pure _) h (fun _ => rfl) fun β H' w a v S hr hv => ⟨.func (.func f) ⟨first.map a.eval⟩ ⟨cap.map a.eval⟩, by simp [execOp, Instr.makeFunc], ?_⟩
    rw [← hv]
    have key : ∀ l : List Operand, (∀ x ∈ l, VRel β.loc (iev env x) (a.eval x)) → VsRel β.loc (l.map (iev env)) (l.map a.eval) := by
      intro l
      induction l with
      | nil => intro _; exact .nil
      | cons x l ih => intro hh; exact .cons (hh x (by simp)) (ih fun y hy => hh y (by simp [hy]))
    exact .func (key _ fun x hx => hr x (by simp [Op.operands, hx])) (key _ fun x hx => hr x (by simp [Op.operands, hx]))
  | slice t x lo hi mx =>
    refine Came.read (F := fun H K => slice P t H (iev env x) (lo.map (iev env)) (hi.map (iev env)) (mx.map (iev env)) K) (W := fun v => rearr (iev env x) H) det_slice h (fun _ => rfl) (fun v hv => (slice_rearr hv).1) (fun v H' ob hh => rearr_append hh) fun β H' w a v S hr hv hw => ?_
    have hopt : ∀ {y : Option Operand}, (∀ z, y = some z → z ∈ (Op.slice t x lo hi mx).operands.toList) → ORelV β.loc (y.map (iev env)) (y.map a.eval) := by
      intro y hy
      cases y with
      | none => trivial
      | some z => exact hr z (hy z rfl)
    refine PG.val (slice_pg S (hr x (by simp [Op.operands])) (hopt (by rintro z rfl; simp [Op.operands])) (hopt (by rintro z rfl; simp [Op.operands])) (hopt (by rintro z rfl; simp [Op.operands])) ((slice_rearr hv).2 H' hw))
  | load t x =>
    refine Came.read (F := fun H K => ptrAt (iev env x) fun i f => load P t H i f K) (W := fun v => reload (iev env x) v) ?_ h (fun _ => rfl) ?_ ?_ ?_
    · unfold ptrAt; split
      · exact pcase_bind fun i f => det_load
      · exact .no
    · intro v hv
      unfold ptrAt at hv
      split at hv
      · rename_i p hp
        obtain ⟨b, f, rfl, hv⟩ := pcase_sound hv
        rw [hp]; exact (load_reload hv).1
      · exact hv.elim
    · exact fun v H' ob hh => reload_append hh
    · intro β H' w a v S hr hv hw
      unfold ptrAt at hv
      split at hv
      · rename_i p hp
        obtain ⟨b, f, rfl, hv⟩ := pcase_sound hv
        rw [hp] at hw
        have hx := hr x (by simp [Op.operands])
        rw [hp] at hx
        obtain ⟨_, l, hl, hx'⟩ := hx.inv_ptr
        obtain ⟨u, v', h1, h2, rfl, _⟩ := load_sound S hl ((load_reload hv).2 H' hw)
        refine ⟨v', ?_, h2⟩
        simp only [execOp, hx']
        unfold Instr.loadAt
        simp [Instr.sureAddr, h1]
      · exact hv.elim
  | lookup t m k ok =>
    refine Came.read (F := fun H K => lookup P t H (iev env m) (iev env k) ok K) (W := fun v => remap (iev env m) H) det_lookup h (fun _ => rfl) (fun v hv => (lookup_remap hv).1) (fun v H' ob hh => remap_append hh) ?_
    intro β H' w a v S hr hv hw
    exact PG.val (lookup_pg S (hr m (by simp [Op.operands])) (hr k (by simp [Op.operands])) ((lookup_remap hv).2 H' hw))
  | alloc t =>
    have h : alloc P t H K := h
    have h' := h
    unfold alloc at h
    split at h
    · rename_i cs hz
      exact Came.make (s := fun _ => Instr.alloc t true (.tuple #[])) (by simp) h rfl (fun _ => rfl) fun β w a hr => alloc_makes (by unfold alloc; rw [hz]; exact ⟨rfl, rfl⟩)
    · exact h.elim
  | box t x =>
    have h : box (iev env x) H K := h
    have hdet : ∃ v ob, ob ≠ IObj.free ∧ K v (newO H ob) ∧ ∀ K', K' v (newO H ob) → box (iev env x) H K' := by
      unfold box at h ⊢
      split at h
      · exact ⟨_, _, by simp, h, fun K' h' => h'⟩
      · exact h.elim
      · exact h.elim
      · rename_i h1 h2 h3
        exact ⟨_, _, by simp, h, fun K' h' => h'⟩
    obtain ⟨v, ob, hf, hv, hK⟩ := hdet
    exact Came.make (s := fun a => Instr.box t (a.eval x)) hf hv rfl (fun _ => rfl) fun β w a hr => box_makes (hr x (by simp [Op.operands])) (hK _ ⟨rfl, rfl⟩)
  | buildSlice t n ps =>
    have h : buildSlice P t n (ps.toList.map fun p => (p.1, iev env p.2)) H K := h
    have hdet : ∃ v ob, ob ≠ IObj.free ∧ K v (newO H ob) ∧ ∀ K', K' v (newO H ob) → buildSlice P t n (ps.toList.map fun p => (p.1, iev env p.2)) H K' := by
      unfold buildSlice at h ⊢
      split at h
      · split at h
        · obtain ⟨hb, h⟩ := bif_sound h
          obtain ⟨cs, h1, h2⟩ := det_fillL _ h
          refine ⟨_, _, by simp, h1, fun K' h' => ?_⟩
          simp only [*, cond_true]
        · exact h.elim
      · exact h.elim
    obtain ⟨v, ob, hf, hv, hK⟩ := hdet
    exact Came.make (s := fun a => Instr.buildSlice t n (ps.map fun (i, x) => (i, a.eval x))) hf hv rfl (fun a => by simp only [execOp]) fun β w a hr => buildSlice_makes (fun p hp => hr p.2 (by simp only [Op.operands]; exact List.mem_map.2 ⟨p, hp, rfl⟩)) (hK _ ⟨rfl, rfl⟩)
  | makeMap t r =>
    cases r with
    | none => exact Came.make (s := fun _ => Instr.makeMap t none) (by simp) h rfl (fun _ => rfl) fun β w a hr => makeMap_makes ⟨rfl, rfl⟩
    | some r => exact (h : False).elim
  | makeSlice t l c =>
    have h : makeSlice P t (iev env l) (iev env c) H K := h
    have hdet : ∃ v ob, ob ≠ IObj.free ∧ K v (newO H ob) ∧ ∀ K', K' v (newO H ob) → makeSlice P t (iev env l) (iev env c) H K' := by
      unfold makeSlice at h ⊢
      split at h
      · split at h
        · obtain ⟨hb, rfl, h1, h2, h3, h4⟩ := bif_sound h
          refine ⟨_, _, by simp, h4, fun K' h' => ?_⟩
          simp only [*, cond_true]
          exact ⟨trivial, h1, h2, h3, h'⟩
        · exact h.elim
      · exact h.elim
    obtain ⟨v, ob, hf, hv, hK⟩ := hdet
    exact Came.make (s := fun a => Instr.makeSlice t (a.eval l) (a.eval c)) hf hv rfl (fun _ => rfl) fun β w a hr => makeSlice_makes (hr l (by simp [Op.operands])) (hr c (by simp [Op.operands])) (hK _ ⟨rfl, rfl⟩)
  | call c =>
    obtain ⟨callee, ⟨as⟩, ⟨ts⟩⟩ := c
    cases callee with
    | value f => simp [isActs, kindOf] at hk
    | invoke r n => exact (h : False).elim
    | builtin b =>
      have hrun : ∀ a : Act, ∃ cs, execOp a.eval ⟨dst, .call ⟨.builtin b, ⟨as⟩, ⟨ts⟩⟩, type, pos, after, guard⟩ = (do let d ← (pure { target := .builtin b ⟨ts⟩ type cs, args := ⟨as.map a.eval⟩ } : Sem Deferred); invoke d.target d.args) := by
        intro a
        exact ⟨_, by simp only [execOp, resolve, List.map_toArray]; rfl⟩
      have key : ∀ l : List Operand, ∀ (β : Emb) (a : Act), (∀ x ∈ l, VRel β.loc (iev env x) (a.eval x)) → VsRel β.loc (l.map (iev env)) (l.map a.eval) := by
        intro l β a
        induction l with
        | nil => intro _; exact .nil
        | cons x l ih => intro hh; exact .cons (hh x (by simp)) (ih fun y hy => hh y (by simp [hy]))
      cases b with
      | len =>
        rcases ts with _ | ⟨t, ts⟩
        · exact (h : False).elim
        rcases as with _ | ⟨x, _ | ⟨y, as⟩⟩
        · exact (h : False).elim
        · have ht : (match P.underlying t with | some .string => true | some (.slice _) => true | some (.map ..) => true | _ => false) = true := hp
          refine Came.read (F := fun H K => lenOf P t H (iev env x) K) (W := fun v => remap (iev env x) H) det_lenOf h (fun _ => rfl) (fun v hv => (len_remap ht hv).1) (fun v H' ob hh => remap_append hh) ?_
          intro β H' w a v S hr hv hw
          obtain ⟨cs, e⟩ := hrun a
          rw [e]
          have := PG.val (len_pg (u := type) (ts := ts) (xs := []) S (hr x (by simp [Op.operands, Call.operands])) ((len_remap ht hv).2 H' hw))
          simpa [invoke, builtin] using this
        · simp [plainOp] at hp
      | min =>
        refine Came.plain (det_minMax (mx := false) (vs := as.map (iev env))) (by cases ts <;> exact h) (fun _ => rfl) fun β H' w a v S hr hv => ?_
        obtain ⟨cs, e⟩ := hrun a
        rw [e]
        have := PG.val (P := P) (w := w) (minMax_pg (ts := ⟨ts⟩) (u := type) (mx := false) (key as β a fun x hx => hr x (by simp [Op.operands, Call.operands, hx])) hv)
        simpa [invoke, builtin] using this
      | max =>
        refine Came.plain (det_minMax (mx := true) (vs := as.map (iev env))) (by cases ts <;> exact h) (fun _ => rfl) fun β H' w a v S hr hv => ?_
        obtain ⟨cs, e⟩ := hrun a
        rw [e]
        have := PG.val (P := P) (w := w) (minMax_pg (ts := ⟨ts⟩) (u := type) (mx := true) (key as β a fun x hx => hr x (by simp [Op.operands, Call.operands, hx])) hv)
        simpa [invoke, builtin] using this
      | _ => simp [isActs, kindOf] at hk
  | _ => simp [isActs, kindOf] at hk

end
end Ide

/- Regions in the text's order. -/
set_option linter.unusedVariables false
set_option linter.unusedSimpArgs false
namespace Ide
open Go Go.RowKit
variable [Pol]

/-! ### marks of ranges over functions among the deferred calls -/
/-- A block of deferred calls that holds none, and that nothing else lies in; not older than n0. -/
def MkAt (n0 : Nat) (β : Emb) (w : World) (r : Nat) : Prop := w.heap[r]? = some (.deferred (some [])) ∧ (∀ id l, β.loc id = some l → l.block ≠ r) ∧ n0 ≤ r

def MkL (n0 : Nat) (β : Emb) (w : World) : List Deferred → Prop
  | [] => True
  | d :: ds => (∃ r, d.target = .collected r ∧ MkAt n0 β w r ∧ ∀ d' ∈ ds, d'.target ≠ .collected r) ∧ MkL n0 β w ds

def Mk (n0 : Nat) (β : Emb) (w : World) (ds : List Deferred) : Prop := n0 ≤ w.heap.size ∧ MkL n0 β w ds

theorem MkAt.step {n0 : Nat} {β β' : Emb} {w w' : World} (h : Step β w β' w') {r : Nat} (hm : MkAt n0 β w r) : MkAt n0 β' w' r := by
  have hlt : r < w.heap.size := (Array.getElem?_eq_some_iff.1 hm.1).1
  refine ⟨(h.frame r hlt hm.2.1).trans hm.1, fun id l hl => ?_, hm.2.2⟩
  rcases h.newb id l hl with ⟨i, l0, h0, e⟩ | hge
  · rw [← e]; exact hm.2.1 i l0 h0
  · omega

theorem MkL.step {n0 : Nat} {β β' : Emb} {w w' : World} (h : Step β w β' w') : ∀ {ds : List Deferred}, MkL n0 β w ds → MkL n0 β' w' ds
  | [], _ => trivial
  | _ :: _, ⟨⟨r, h1, h2, h3⟩, h4⟩ => ⟨⟨r, h1, h2.step h, h3⟩, h4.step h⟩

theorem Mk.step {n0 : Nat} {β β' : Emb} {w w' : World} (h : Step β w β' w') {ds : List Deferred} (hm : Mk n0 β w ds) : Mk n0 β' w' ds := ⟨Nat.le_trans hm.1 h.size, hm.2.step h⟩

/-! ### how code is left -/
def QR (n0 nt : Nat) (β : Emb) (w : World) (Q : IExit → Env → IHeap → Prop) : Exit → Act → World → Prop
  | .normal, a, w' => ∃ β' H' env', Step β w β' w' ∧ Sim β' H' w' ∧ TRel β'.loc nt env' a.tmps ∧ Mk n0 β' w' a.defers ∧ Q .normal env' H'
  | .exit id, a, w' => ∃ β' H' env', Step β w β' w' ∧ Sim β' H' w' ∧ TRel β'.loc nt env' a.tmps ∧ Mk n0 β' w' a.defers ∧ Q (.exit id) env' H'
  | .ret, a, w' => ∃ β' H' env', Step β w β' w' ∧ Sim β' H' w' ∧ TRel β'.loc nt env' a.tmps ∧ Mk n0 β' w' a.defers ∧ Q .ret env' H'
  | .panic chain, a, w' => ∃ β' H' env' v v', Step β w β' w' ∧ Sim β' H' w' ∧ chain = [{ v := v', recovered := false }] ∧ VRel β'.loc v v' ∧ Mk n0 β' w' a.defers ∧ a.tmps.size = nt ∧ Q (.panic v) env' H'
  | _, _, _ => False

theorem QR.trans {n0 nt : Nat} {β β' : Emb} {w w' : World} {Q : IExit → Env → IHeap → Prop} (h : Step β w β' w') {e : Exit} {a : Act} {w'' : World} (hq : QR n0 nt β' w' Q e a w'') : QR n0 nt β w Q e a w'' := by
  cases e with
  | normal => obtain ⟨b, H, env, h1, r⟩ := hq; exact ⟨b, H, env, h.trans h1, r⟩
  | exit id => obtain ⟨b, H, env, h1, r⟩ := hq; exact ⟨b, H, env, h.trans h1, r⟩
  | ret => obtain ⟨b, H, env, h1, r⟩ := hq; exact ⟨b, H, env, h.trans h1, r⟩
  | panic c => obtain ⟨b, H, env, v, v', h1, r⟩ := hq; exact ⟨b, H, env, v, v', h.trans h1, r⟩
  | goto l => exact hq.elim
  | outgrown => exact hq.elim

/-- The ideal meaning of code, in the machine. -/
def IW (ro : Option Nat) (P : Program) (nt : Nat) (c : Code) (Q : IExit → Env → IHeap → Prop) (env : Env) (H : IHeap) : Prop :=
  ∀ (n0 : Nat) (β : Emb) (w : World) (a : Act), Sim β H w → TRel β.loc nt env a.tmps → Mk n0 β w a.defers → c.wpIn (Fz ro) 0 P (QR n0 nt β w Q) a w

theorem act_put_tmps (a : Act) (d : Option Nat) (v : Value) : (a.put d v).defers = a.defers := by cases d <;> rfl
theorem act_put_size (a : Act) (d : Option Nat) (v : Value) : (a.put d v).tmps.size = a.tmps.size := by cases d <;> simp [Act.put]

theorem lk_put (env : Env) (d : Option Nat) (v : Value) (t : Nat) : lk (put env d v) t = if d = some t then v else lk env t := by
  cases d with
  | none => simp [put]
  | some s =>
    simp only [put, lk]
    by_cases e : s = t
    · subst e; simp
    · rw [beq_false e]; simp [e]

theorem put_getD (a : Act) (d : Option Nat) (v : Value) (t : Nat) (hd : ∀ s, d = some s → s < a.tmps.size) : (a.put d v).tmps.getD t undef = if d = some t then v else a.tmps.getD t undef := by
  cases d with
  | none => simp [Act.put]
  | some s =>
    simp only [Act.put]
    by_cases e : s = t
    · subst e
      rw [if_pos rfl, Array.getD_eq_getD_getElem?, Array.getElem?_setIfInBounds_self_of_lt (hd s rfl)]; rfl
    · rw [if_neg (by simp [e]), Array.getD_eq_getD_getElem?, Array.getElem?_setIfInBounds_ne e, ← Array.getD_eq_getD_getElem?]

theorem TRel.put {L : LMap} {nt : Nat} {env : Env} {a : Act} (h : TRel L nt env a.tmps) {d : Option Nat} (hd : (match d with | none => true | some d => Nat.blt d nt) = true) {v v' : Value} (hv : VRel L v v') :
    TRel L nt (Ide.put env d v) (a.put d v').tmps := by
  have hd' : ∀ s, d = some s → s < a.tmps.size := by
    rintro s rfl
    have : s < nt := by simpa [Nat.blt_eq] using hd
    rw [h.1]; exact this
  refine ⟨by rw [act_put_size]; exact h.1, fun t ht => ?_⟩
  rw [lk_put, put_getD a d v' t hd']
  by_cases e : d = some t
  · rw [if_pos e, if_pos e]; exact hv
  · rw [if_neg e, if_neg e]; exact h.2 t ht

/-- The same values for every temporary. -/
def Env.same (e e' : Env) : Prop := ∀ t, lk e' t = lk e t
theorem Env.same.refl (e : Env) : e.same e := fun _ => rfl

theorem same_cons {env : Env} {t : Nat} {v : Value} (h : lk env t = v) : env.same ((t, v) :: env) := by
  intro s
  simp only [lk]
  by_cases e : t = s
  · subst e; simp [h]
  · rw [beq_false e]; simp

/-- Is the operation wanted? -/
def gval (all : List Oper) (g : Option (Nat × Bool)) (env : Env) : Bool :=
  match g with
  | none => true
  | some (j, want) =>
    match dstAt all j with
    | none => false
    | some t =>
      match lk env t with
      | .bool b => b == want
      | _ => false

def gok (all : List Oper) (g : Option (Nat × Bool)) (env : Env) : Prop :=
  ∀ j b t, g = some (j, b) → dstAt all j = some t → (∃ c, lk env t = .bool c) ∨ lk env t = .tuple ⟨[]⟩

theorem guarded_cases {all : List Oper} {g : Option (Nat × Bool)} {env : Env} {Y N : Env → Prop} (h : guarded all g env Y N) :
    gok all g env ∧ ∃ env', env.same env' ∧ ((gval all g env = true ∧ Y env') ∨ (gval all g env = false ∧ N env')) := by
  unfold guarded at h
  unfold gval gok
  split at h
  · exact ⟨(fun _ _ _ e => by cases e), env, .refl _, .inl ⟨rfl, h⟩⟩
  · rename_i j want
    split at h
    · rename_i hd
      refine ⟨fun j' b' t' e e' => ?_, env, .refl _, .inr ⟨by simp [hd], h⟩⟩
      cases e; rw [hd] at e'; cases e'
    · rename_i t hd
      simp only [hd]
      split at h
      · rename_i b hb
        refine ⟨fun j' b' t' e e' => ?_, ?_⟩
        · cases e; rw [hd] at e'; cases e'; exact .inl ⟨b, hb⟩
        obtain ⟨h1, h2⟩ := bcase_sound h
        simp only [hb]
        cases b with
        | true =>
          have := h1 rfl
          refine ⟨_, same_cons hb, ?_⟩
          cases want
          · exact .inr ⟨rfl, this⟩
          · exact .inl ⟨rfl, this⟩
        | false =>
          have := h2 rfl
          refine ⟨_, same_cons hb, ?_⟩
          cases want
          · exact .inl ⟨rfl, this⟩
          · exact .inr ⟨rfl, this⟩
      · rename_i hb
        refine ⟨fun j' b' t' e e' => ?_, env, .refl _, .inr ⟨by simp [hb], h⟩⟩
        cases e; rw [hd] at e'; cases e'; exact .inr hb
      · exact h.elim

theorem wanted_eq {all : List Oper} {g : Option (Nat × Bool)} {env : Env} {L : LMap} {a : Act} {o : Oper} (ho : o.guard = g) (hg : gok all g env)
    (hr : ∀ j b t, g = some (j, b) → dstAt all j = some t → t < a.tmps.size ∧ VRel L (lk env t) (a.tmps.getD t undef)) : Region.wanted o (yielded all.toArray a.tmps) = gval all g env := by
  unfold Region.wanted gval
  rw [ho]
  split
  · rfl
  · rename_i j want
    have hy : yielded all.toArray a.tmps j = match (dstAt all j).bind (a.tmps[·]?) with | some (.bool b) => some b | _ => none := by
      simp only [yielded, dstAt, List.getElem?_toArray]
      rfl
    simp only [hy]
    cases hd : dstAt all j with
    | none => rfl
    | some t =>
      obtain ⟨hlt, hv⟩ := hr j want t rfl hd
      have hget : a.tmps[t]? = some (a.tmps.getD t undef) := by
        rw [Array.getD_eq_getD_getElem?, Array.getElem?_eq_getElem hlt]; rfl
      simp only [Option.bind_some, hget]
      rcases hg j want t rfl hd with ⟨c, hc⟩ | hc
      · rw [hc] at hv ⊢
        rw [hv.inv_bool]
        rfl
      · rw [hc] at hv ⊢
        generalize a.tmps.getD t undef = z at hv
        cases hv with
        | tuple h => rfl

theorem guarded_sound {all : List Oper} {g : Option (Nat × Bool)} {env : Env} {Y N : Env → Prop} {L : LMap} {a : Act} {o : Oper} (ho : o.guard = g) (h : guarded all g env Y N)
    (hr : ∀ j b t, g = some (j, b) → dstAt all j = some t → t < a.tmps.size ∧ VRel L (lk env t) (a.tmps.getD t undef)) :
    ∃ env', env.same env' ∧ ((Region.wanted o (yielded all.toArray a.tmps) = true ∧ Y env') ∨ (Region.wanted o (yielded all.toArray a.tmps) = false ∧ N env')) := by
  obtain ⟨hg, h⟩ := guarded_cases h
  rw [wanted_eq ho hg hr]
  exact h

theorem TRel.same {L : LMap} {nt : Nat} {e e' : Env} {tm : Array Value} (h : TRel L nt e tm) (he : e.same e') : TRel L nt e' tm := ⟨h.1, fun t ht => by rw [he t]; exact h.2 t ht⟩

section
variable {P : Program} {nt : Nat} {ro : Option Nat}

theorem irun_sound {all : List Oper} (hok : all.all (okOper nt) = true) {n0 : Nat} {β0 : Emb} {w0 : World} {Q : IExit → Env → IHeap → Prop} :
    ∀ (l pre : List Oper), pre ++ l = all → ∀ (env : Env) (H : IHeap) (β : Emb) (w : World) (a : Act), Step β0 w0 β w → Sim β H w → TRel β.loc nt env a.tmps → Mk n0 β w a.defers →
      irun P all l env H (Q .normal) (fun v => Q (.panic v) []) → wpOpsIn (Fz ro) 0 P all.toArray (QR n0 nt β0 w0 Q) (List.range' pre.length l.length) a w := by
  intro l
  induction l with
  | nil => intro pre _ env H β w a St S hT hM h; exact ⟨β, H, env, St, S, hT, hM, h⟩
  | cons o l ih =>
    intro pre hpre env H β w a St S hT hM h
    have hall : ∀ x ∈ all, okOper nt x = true := List.all_eq_true.1 hok
    have hget : all[pre.length]? = some o := by rw [← hpre]; simp
    have hoo := hall o (List.mem_of_getElem? hget)
    have hdst : (match o.dst with | none => true | some d => Nat.blt d nt) = true := by
      simp only [okOper, Bool.and_eq_true] at hoo; exact hoo.1.1
    simp only [List.length_cons, List.range'_succ, wpOpsIn, List.getElem?_toArray, hget]
    simp only [irun] at h
    obtain ⟨env', he, h⟩ := guarded_sound (L := β.loc) (a := a) (o := o) rfl h (fun j b t _ hd => by
      unfold dstAt at hd
      cases hj : all[j]? with
      | none => rw [hj] at hd; cases hd
      | some x =>
        rw [hj] at hd
        have hx := hall x (List.mem_of_getElem? hj)
        simp only [okOper, Bool.and_eq_true] at hx
        have hxd : x.dst = some t := hd
        have := hx.1.1
        rw [hxd] at this
        have hlt : t < nt := by simpa [Nat.blt_eq] using this
        exact ⟨by rw [hT.1]; exact hlt, hT.2 t hlt⟩)
    have hT' := hT.same he
    have hnext : ∀ (β' : Emb) (H' : IHeap) (v v' : Value) (w' : World), Step β w β' w' → Sim β' H' w' → VRel β'.loc v v' → irun P all l (put env' o.dst v) H' (Q .normal) (fun v => Q (.panic v) []) →
        wpOpsIn (Fz ro) 0 P all.toArray (QR n0 nt β0 w0 Q) (List.range' (pre.length + 1) l.length) (a.put o.dst v') w' := by
      intro β' H' v v' w' St' S' hv hr
      have := ih (pre ++ [o]) (by rw [← hpre]; simp) (put env' o.dst v) H' β' w' (a.put o.dst v') (St.trans St') S' (TRel.put (hT'.mono St'.le.2) hdst hv) (by rw [act_put_tmps]; exact hM.step St') hr
      simpa using this
    rcases h with ⟨hw, h⟩ | ⟨hw, h⟩
    · rw [if_pos hw]
      exact iop_sound hoo S (hT'.opd (by simp only [okOper, Bool.and_eq_true] at hoo; exact hoo.1.2)) h (fun β' H' v v' w' St' S' hv hr => hnext β' H' v v' w' St' S' hv hr)
        (fun β' H' v v' w' St' S' hv hq => ⟨β', H', [], v, v', St.trans St', S', rfl, hv, hM.step St', hT.1, hq⟩)
    · rw [if_neg (by simp [hw])]
      refine ⟨fun _ _ => trivial, ?_⟩
      exact hnext β H undef undef w (Step.refl _ _) S (.tuple .nil) h

theorem region_sound {id : Nat} {ops : Array Oper} (hok : ops.toList.all (okOper nt) = true) {Q : IExit → Env → IHeap → Prop} {env : Env} {H : IHeap}
    (h : irun P ops.toList ops.toList env H (Q .normal) (fun v => Q (.panic v) [])) : IW ro P nt (.region id ops false) Q env H := by
  intro n0 β w a S hT hM
  refine wpIn_region ?_
  have := irun_sound (ro := ro) hok ops.toList [] rfl env H β w a (Step.refl _ _) S hT hM h
  simpa [List.range_eq_range'] using this

end
end Ide

/- Regions whose order is open. -/
set_option linter.unusedVariables false
set_option linter.unusedSimpArgs false
namespace Ide
open Go Go.RowKit
variable [Pol]

/-! ### what is asked of the text -/
def readsB (all : List Oper) (o : Oper) (t : Nat) : Bool :=
  o.op.operands.toList.any (fun x => match x with | .tmp s => Nat.beq s t | _ => false) ||
  (match o.guard with | some (j, _) => (match dstAt all j with | some s => Nat.beq s t | none => false) | none => false)

def dstIs (p : Oper) (t : Nat) : Bool := match p.dst with | some s => Nat.beq s t | none => false

/-- The temporaries of i, against what j writes. -/
def pairOk (all : List Oper) (bs : List Nat) (i : Nat) (o : Oper) (j : Nat) (p : Oper) : Bool :=
  match p.dst with
  | none => true
  | some t => bif Nat.beq i j then !readsB all o t else !dstIs o t && (!readsB all o t || (bs.getD i 0).testBit j || ((bs.getD j 0).testBit i && isActs p))

def allIdx (f : Nat → Oper → Bool) : Nat → List Oper → Bool
  | _, [] => true
  | i, o :: l => f i o && allIdx f (i + 1) l

theorem allIdx_spec {f : Nat → Oper → Bool} : ∀ {l : List Oper} {k : Nat}, allIdx f k l = true → ∀ i o, l[i]? = some o → f (k + i) o = true
  | [], _, _, i, o, h => by simp at h
  | x :: l, k, h, i, o, hi => by
    have h' : f k x = true ∧ allIdx f (k + 1) l = true := by simpa [allIdx] using h
    cases i with
    | zero => simp at hi; subst hi; exact h'.1
    | succ i => have := allIdx_spec h'.2 i o (by simpa using hi); rwa [show k + 1 + i = k + (i + 1) by omega] at this

def opOk (P : Program) (nt : Nat) (all : List Oper) (bs : List Nat) (i : Nat) (o : Oper) : Bool :=
  okOper nt o && (isActs o || plainOp P o.op) && o.after.toList.all (fun e => !Region.binds .any e || Nat.blt e.on i) &&
  (match o.guard with | some (j, _) => (bs.getD i 0).testBit j | none => true) && allIdx (pairOk all bs i o) 0 all

def canonOk (all : List Oper) (bs : List Nat) : List Nat → Nat → Bool
  | [], d => (List.range all.length).all (fun i => d.testBit i)
  | i :: r, d => !d.testBit i && bitsIn (bs.getD i 0) d &&
      (match all[i]? with | some o => !isActs o || r.all (fun j => (bs.getD j 0).testBit i) | none => false) && canonOk all bs r (d ||| 2 ^ i)

def drawOk (P : Program) (nt : Nat) (all : List Oper) : Bool :=
  allIdx (opOk P nt all (befores all [])) 0 all && canonOk all (befores all []) (canon all) 0

/-! ### what is ahead of what -/
theorem fold_bits {acc : List Nat} (j : Nat) : ∀ (es : List Edge) (s : Nat),
    (es.foldl (fun s e => bif Region.binds .any e then s ||| 2 ^ e.on ||| acc.getD e.on 0 else s) s).testBit j = true ↔
      s.testBit j = true ∨ ∃ e ∈ es, Region.binds .any e = true ∧ (e.on = j ∨ (acc.getD e.on 0).testBit j = true)
  | [], s => by simp
  | e :: es, s => by
    rw [List.foldl_cons, fold_bits j es]
    cases hb : Region.binds .any e with
    | false => simp [hb]
    | true =>
      simp only [cond_true, Nat.testBit_or, Bool.or_eq_true, Nat.testBit_two_pow, decide_eq_true_eq]
      simp only [List.mem_cons, exists_eq_or_imp, hb, true_and]
      constructor
      · rintro (((h | h) | h) | h)
        · exact .inl h
        · exact .inr (.inl (.inl h))
        · exact .inr (.inl (.inr h))
        · exact .inr (.inr h)
      · rintro (h | (h | h) | h)
        · exact .inl (.inl (.inl h))
        · exact .inl (.inl (.inr h))
        · exact .inl (.inr h)
        · exact .inr h

def bf (bs : List Nat) (i j : Nat) : Prop := (bs.getD i 0).testBit j = true

theorem befores_length : ∀ (l : List Oper) (acc : List Nat), (befores l acc).length = acc.length + l.length
  | [], acc => by simp [befores]
  | o :: l, acc => by rw [befores, befores_length l]; simp; omega

theorem befores_get : ∀ (l : List Oper) (acc : List Nat) (i : Nat), i < acc.length → (befores l acc).getD i 0 = acc.getD i 0
  | [], acc, i, _ => rfl
  | o :: l, acc, i, h => by
    rw [befores, befores_get l _ i (by simp; omega)]
    simp only [List.getD_eq_getElem?_getD]
    rw [List.getElem?_append_left h]

/-- The bits of an operation are its edges' ends and their bits. -/
theorem befores_spec : ∀ (l pre : List Oper) (acc : List Nat), acc.length = pre.length → (∀ i o, (pre ++ l)[i]? = some o → pre.length ≤ i → ∀ e ∈ o.after.toList, Region.binds .any e = true → e.on < i) →
    ∀ i o, (pre ++ l)[i]? = some o → pre.length ≤ i → ∀ j, bf (befores l acc) i j ↔ ∃ e ∈ o.after.toList, Region.binds .any e = true ∧ (e.on = j ∨ bf (befores l acc) e.on j)
  | [], pre, acc, hl, hb, i, o, ho, hi, j => by
    have := get_lt ho; simp at this; omega
  | x :: l, pre, acc, hl, hb, i, o, ho, hi, j => by
    rw [befores]
    rcases Nat.lt_or_ge pre.length i with h | h
    · refine befores_spec l (pre ++ [x]) _ (by simp [hl]) (fun i o ho hi => hb i o (by simpa using ho) (by simp at hi; omega)) i o (by simpa using ho) (by simp; omega) j
    · have e : i = pre.length := by omega
      have hx : o = x := by
        rw [e] at ho
        simp at ho
        exact ho.symm
      subst hx
      have hlt : i < (acc ++ [o.after.toList.foldl (fun s e => bif Region.binds .any e then s ||| 2 ^ e.on ||| acc.getD e.on 0 else s) 0]).length := by simp [hl]; omega
      have hthis : (befores l (acc ++ [o.after.toList.foldl (fun s e => bif Region.binds .any e then s ||| 2 ^ e.on ||| acc.getD e.on 0 else s) 0])).getD i 0 = o.after.toList.foldl (fun s e => bif Region.binds .any e then s ||| 2 ^ e.on ||| acc.getD e.on 0 else s) 0 := by
        rw [befores_get l _ i hlt]
        simp only [List.getD_eq_getElem?_getD]
        rw [List.getElem?_append_right (by omega), e, hl]
        simp
      have hbits : bf (befores l (acc ++ [o.after.toList.foldl (fun s e => bif Region.binds .any e then s ||| 2 ^ e.on ||| acc.getD e.on 0 else s) 0])) i j ↔
          ∃ e ∈ o.after.toList, Region.binds .any e = true ∧ (e.on = j ∨ (acc.getD e.on 0).testBit j = true) := by
        unfold bf
        rw [hthis, fold_bits]
        simp
      rw [hbits]
      have hone : ∀ ed ∈ o.after.toList, Region.binds .any ed = true → acc.getD ed.on 0 = (befores l (acc ++ [o.after.toList.foldl (fun s e => bif Region.binds .any e then s ||| 2 ^ e.on ||| acc.getD e.on 0 else s) 0])).getD ed.on 0 := by
        intro ed hed hbd
        have := hb i o ho hi ed hed hbd
        rw [befores_get l _ _ (by simp; omega)]
        simp only [List.getD_eq_getElem?_getD]
        rw [List.getElem?_append_left (by omega)]
      constructor
      · rintro ⟨ed, h1, h2, h3⟩
        refine ⟨ed, h1, h2, ?_⟩
        unfold bf
        rw [← hone ed h1 h2]
        exact h3
      · rintro ⟨ed, h1, h2, h3⟩
        refine ⟨ed, h1, h2, ?_⟩
        unfold bf at h3
        rw [← hone ed h1 h2] at h3
        exact h3

theorem bitsIn_spec {a b : Nat} (h : bitsIn a b = true) {j : Nat} (hj : a.testBit j = true) : b.testBit j = true := by
  unfold bitsIn at h
  have := Nat.eq_of_beq_eq_true h
  rw [← this] at hj
  rw [Nat.testBit_and] at hj
  simp at hj
  exact hj.2

theorem canonOk_all {all : List Oper} {bs : List Nat} : ∀ {c : List Nat} {d : Nat}, canonOk all bs c d = true → ∀ i, i < all.length → d.testBit i = false → i ∈ c
  | [], d, h, i, hi, hd => by
    have := List.all_eq_true.1 h i (by simpa using hi)
    rw [hd] at this; cases this
  | x :: c, d, h, i, hi, hd => by
    simp only [canonOk, Bool.and_eq_true] at h
    by_cases e : i = x
    · subst e; simp
    · refine List.mem_cons_of_mem _ (canonOk_all h.2 i hi ?_)
      rw [Nat.testBit_or, hd, Nat.testBit_two_pow]
      simp; exact fun e' => e e'.symm

theorem canonOk_not {all : List Oper} {bs : List Nat} : ∀ {c : List Nat} {d : Nat}, canonOk all bs c d = true → ∀ i ∈ c, d.testBit i = false
  | [], d, h, i, hi => by cases hi
  | x :: c, d, h, i, hi => by
    simp only [canonOk, Bool.and_eq_true, Bool.not_eq_true'] at h
    rcases List.mem_cons.1 hi with rfl | hi
    · exact h.1.1.1
    · have := canonOk_not h.2 i hi
      rw [Nat.testBit_or] at this
      simp at this
      exact this.1

end Ide
