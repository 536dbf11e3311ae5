/- What does not act may come later. -/
import Derived.Test.YtjjnlbceoajllaaGreatIdeN
set_option linter.unusedVariables false
set_option linter.unusedSimpArgs false
namespace Ide
open Go Go.RowKit

/-- What must hold of the heap for the operation to give the same once more. -/
def okOf (i : Nat) (o : Oper) (env : Env) (v : Value) (H H1 : IHeap) (H' : IHeap) : Prop := ∀ p ∈ watchOf i o env v H H1, p.2 H'

def Again (P : Program) (o : Oper) (env : Env) (mk : Option Nat) (v : Value) (ok : IHeap → Prop) : Prop :=
  ∀ (β : Emb) (H : IHeap) (w : World) (a : Act), Sim β H w → ok H → OpdRel β.loc env a o.op → (∀ k, mk = some k → β.loc k = none ∧ ¬ β.held k) →
    ∃ (v' : Value) (w' : World) (β' : Emb), (execOp a.eval o).run P w = .ok (.value v') w' ∧ Step β w β' w' ∧ Sim β' H w' ∧ VRel β'.loc v v' ∧ ∀ j, some j ≠ mk → β'.loc j = β.loc j

/-- It has come, and would give the same later. -/
def Came (P : Program) (i : Nat) (o : Oper) (env : Env) (H : IHeap) (K : Value → IHeap → Prop) : Prop :=
  ∃ (v : Value) (H1 : IHeap) (mk : Option Nat), K v H1 ∧ (mk = none ∧ H1 = H ∨ mk = some H.length ∧ ∃ ob, H1 = H ++ [ob]) ∧ okOf i o env v H H1 H1 ∧
    (∀ H' ob, okOf i o env v H H1 H' → okOf i o env v H H1 (H' ++ [ob])) ∧ Again P o env mk v (okOf i o env v H H1)

section
variable {P : Program} {H : IHeap} {env : Env} {o : Oper} {i : Nat} {K : Value → IHeap → Prop}

theorem Came.plain {F : (Value → Prop) → Prop} (hd : Det F) (h : F fun v => K v H) (hw : ∀ v, watchOf i o env v H H = [])
    (hs : ∀ (β : Emb) (H' : IHeap) (w : World) (a : Act) (v : Value), Sim β H' w → OpdRel β.loc env a o.op → F (fun u => u = v) → ∃ v', (execOp a.eval o).run P w = .ok (.value v') w ∧ VRel β.loc v v') : Came P i o env H K := by
  obtain ⟨v, h1, h2⟩ := hd _ h
  refine ⟨v, H, none, h1, .inl ⟨rfl, rfl⟩, ?_, ?_, ?_⟩
  · intro p hp; rw [hw] at hp; cases hp
  · intro H' ob _ p hp; rw [hw] at hp; cases hp
  · intro β H' w a S _ hr _
    obtain ⟨v', g1, g2⟩ := hs β H' w a v S hr (h2 _ rfl)
    exact ⟨v', w, β, g1, Step.refl _ _, S, g2, fun _ _ => rfl⟩

theorem PG.val {β : Emb} {w : World} {v : Value} {s : Sem Value} (h : PG β w P (fun u => u = v) s) : ∃ v', (do pure (Next.value (← s)) : Sem Next).run P w = .ok (.value v') w ∧ VRel β.loc v v' := by
  obtain ⟨v', u, h1, h2, rfl⟩ := h
  exact ⟨v', by simp [h1], h2⟩

theorem Came.read {F : IHeap → (Value → Prop) → Prop} {W : Value → IHeap → Prop} (hd : Det (F H)) (h : F H fun v => K v H) (hw : ∀ v, watchOf i o env v H H = [(i, W v)]) (h0 : ∀ v, F H (fun u => u = v) → W v H)
    (h1 : ∀ v H' ob, W v H' → W v (H' ++ [ob]))
    (hs : ∀ (β : Emb) (H' : IHeap) (w : World) (a : Act) (v : Value), Sim β H' w → OpdRel β.loc env a o.op → F H (fun u => u = v) → W v H' → ∃ v', (execOp a.eval o).run P w = .ok (.value v') w ∧ VRel β.loc v v') : Came P i o env H K := by
  obtain ⟨v, h2, h3⟩ := hd _ h
  have hok : ∀ H', okOf i o env v H H H' ↔ W v H' := fun H' => by unfold okOf; rw [hw]; simp
  refine ⟨v, H, none, h2, .inl ⟨rfl, rfl⟩, (hok _).2 (h0 v (h3 _ rfl)), fun H' ob hh => (hok _).2 (h1 _ _ _ ((hok _).1 hh)), ?_⟩
  intro β H' w a S hh hr _
  obtain ⟨v', g1, g2⟩ := hs β H' w a v S hr (h3 _ rfl) ((hok _).1 hh)
  exact ⟨v', w, β, g1, Step.refl _ _, S, g2, fun _ _ => rfl⟩

theorem Came.make {s : Act → Sem Value} {v : Value} {ob : IObj} (h : K v (H ++ [ob])) (hw : watchOf i o env v H (H ++ [ob]) = [(i, fun H' => ∃ x, (H ++ [ob])[H.length]? = some x ∧ H'[H.length]? = some x)])
    (hx : ∀ a : Act, execOp a.eval o = (do pure (Next.value (← s a)) : Sem Next))
    (hs : ∀ (β : Emb) (w : World) (a : Act), OpdRel β.loc env a o.op → MakesAt β w P H (fun u H' => u = v ∧ H' = H ++ [ob]) (s a)) : Came P i o env H K := by
  have hok : ∀ H', okOf i o env v H (H ++ [ob]) H' ↔ H'[H.length]? = some ob := fun H' => by unfold okOf; rw [hw]; simp
  refine ⟨v, H ++ [ob], some H.length, h, .inr ⟨rfl, ob, rfl⟩, (hok _).2 (by simp), fun H' ob' hh => (hok _).2 ?_, ?_⟩
  · have := (hok _).1 hh
    rw [List.getElem?_append_left (get_lt this)]; exact this
  · intro β Hc w a S hh hr hm
    obtain ⟨u, x, v', y, l, ⟨rfl, hH⟩, hrun, hl, hL⟩ := hs β w a hr
    obtain rfl : x = ob := by simpa using hH
    have hn := hm _ rfl
    obtain ⟨a1, a2⟩ := hL (β.with H.length l).loc (Emb.with_self _ _ _) (Emb.with_le _ hn.1).2
    obtain ⟨St, Sm⟩ := S.make (id := H.length) (o := x) ((hok _).1 hh) hn y l hl (a2 S.base_le)
    refine ⟨v', _, _, ?_, St, Sm, a1, fun j hj => ?_⟩
    · rw [hx]; simp [hrun]
    · have : j ≠ H.length := fun e => hj (by rw [e])
      simp [Emb.with, this]

theorem get_append {α : Type} {l : List α} {i : Nat} {x y : α} (h : l[i]? = some x) : (l ++ [y])[i]? = some x := by
  rw [List.getElem?_append_left (get_lt h)]; exact h

theorem cellsAt_append {i o n : Nat} {cs : List Value} {ob : IObj} {H : IHeap} (h : cellsAt H i o n = some cs) : cellsAt (H ++ [ob]) i o n = some cs := by
  unfold cellsAt at h ⊢
  split at h
  · rename_i cs0 rw hH
    rw [get_append hH]; exact h
  · cases h
theorem cellAt_append {i o : Nat} {v : Value} {ob : IObj} {H : IHeap} (h : cellAt H i o = some v) : cellAt (H ++ [ob]) i o = some v := by
  unfold cellAt at h ⊢
  split at h
  · rename_i cs0 rw hH
    rw [get_append hH]; exact h
  · cases h

theorem reload_append {a v : Value} {ob : IObj} {H : IHeap} (h : reload a v H) : reload a v (H ++ [ob]) := by
  unfold reload at h ⊢
  split at h
  · exact cellsAt_append h
  · exact cellAt_append h
  · exact h.elim

theorem remap_append {m : Value} {ob : IObj} {G H : IHeap} (h : remap m G H) : remap m G (H ++ [ob]) := by
  unfold remap at h ⊢
  split at h
  · obtain ⟨es, c, h1, h2⟩ := h
    exact ⟨es, c, h1, get_append h2⟩
  · trivial
  · trivial
  · trivial
  · exact h.elim

theorem rearr_append {x : Value} {ob : IObj} {G H : IHeap} (h : rearr x G H) : rearr x G (H ++ [ob]) := by
  unfold rearr at h ⊢
  split at h
  · obtain ⟨cs, cs', h1, h2, h3⟩ := h
    exact ⟨cs, cs', h1, get_append h2, h3⟩
  · trivial

theorem bound_mono {v : Option Value} {d : Int} {K K' : Int → Prop} (h : bound v d K) (hk : ∀ i, K i → K' i) : bound v d K' := by
  unfold bound at h ⊢
  split at h <;> first | exact hk _ h | exact h.elim
theorem boundq_mono {v : Option Value} {K K' : Option Int → Prop} (h : bound? v K) (hk : ∀ i, K i → K' i) : bound? v K' := by
  unfold bound? at h ⊢
  split at h <;> first | exact hk _ h | exact h.elim

theorem slice_rearr {t : TypeId} {x : Value} {lo hi mx : Option Value} {K : Value → Prop} (h : slice P t H x lo hi mx K) : rearr x H H ∧ ∀ H', rearr x H H' → slice P t H' x lo hi mx K := by
  unfold slice at h
  split at h
  · rename_i e a n c hu
    exact ⟨trivial, fun H' _ => by unfold slice; simp only [hu]; exact h⟩
  · rename_i s hu
    exact ⟨trivial, fun H' _ => by unfold slice; simp only [hu]; exact h⟩
  · rename_i n e a hu
    obtain ⟨hb, h⟩ := bif_sound h
    obtain ⟨l, _, h1⟩ := bound_sound h
    obtain ⟨hh, _, h2⟩ := bound_sound h1
    have hc : ∃ K', cutArr H a n (ssz P e) l hh K' := by
      rcases boundq_sound h2 with ⟨_, _, h3⟩ | ⟨_, _, _, h3, _⟩
      · exact ⟨_, h3⟩
      · cases h3
    obtain ⟨K', g0, g1, g2, g3⟩ := hc
    obtain ⟨i, o, rfl, ⟨cs, hcs, hle⟩, _⟩ := pcase_sound g3
    refine ⟨⟨cs, cs, hcs, hcs, rfl⟩, fun H' hr => ?_⟩
    obtain ⟨cs1, cs', r1, r2, r3⟩ := hr
    rw [hcs] at r1
    cases r1
    unfold slice
    simp only [hu, hb, cond_true]
    refine bound_mono h fun l hl => bound_mono hl fun hh hhh => boundq_mono hhh fun m hm => ⟨hm.1, ?_⟩
    obtain ⟨k0, k1, k2, k3⟩ := hm.2
    obtain ⟨_, _, e, ⟨_, _⟩, hk⟩ := pcase_sound k3
    cases e
    exact ⟨k0, k1, k2, ⟨cs', r2, by rw [r3]; exact hle⟩, hk⟩
  · exact h.elim

theorem load_reload {t : TypeId} {b f : Nat} {v : Value} {H : IHeap} (h : load P t H b f (fun u => u = v)) : reload (ptrTo b f) v H ∧ ∀ H', reload (ptrTo b f) v H' → load P t H' b f (fun u => u = v) := by
  unfold load at h ⊢
  split at h
  · obtain ⟨n, hc, rfl⟩ := h; exact ⟨hc, fun H' h' => by simp only [*]; exact ⟨n, h', rfl⟩⟩
  · obtain ⟨n, hc, rfl⟩ := h; exact ⟨hc, fun H' h' => by simp only [*]; exact ⟨n, h', rfl⟩⟩
  · obtain ⟨n, hc, rfl⟩ := h; exact ⟨hc, fun H' h' => by simp only [*]; exact ⟨n, h', rfl⟩⟩
  · obtain ⟨n, hc, rfl⟩ := h; exact ⟨hc, fun H' h' => by simp only [*]; exact ⟨n, h', rfl⟩⟩
  · obtain ⟨n, m, s, hc, rfl⟩ := h; exact ⟨hc, fun H' h' => by simp only [*]; exact ⟨n, m, s, h', rfl⟩⟩
  · obtain ⟨n, hc, rfl⟩ := h; exact ⟨hc, fun H' h' => by simp only [*]; exact ⟨n, h', rfl⟩⟩
  · obtain ⟨n, hc, rfl⟩ := h
    have hl := cellsAt_length hc
    exact ⟨by show cellsAt H b f n.length = some n; rw [hl]; exact hc, fun H' h' => by simp only [*]; exact ⟨n, by have h'' : cellsAt H' b f n.length = some n := h'; rwa [hl] at h'', rfl⟩⟩
  · obtain ⟨n, hc, rfl⟩ := h
    have hl := cellsAt_length hc
    exact ⟨by show cellsAt H b f n.length = some n; rw [hl]; exact hc, fun H' h' => by simp only [*]; exact ⟨n, by have h'' : cellsAt H' b f n.length = some n := h'; rwa [hl] at h'', rfl⟩⟩
  · obtain ⟨n, hc, hn, rfl⟩ := h
    cases n <;> first
      | (cases hn; done)
      | exact ⟨hc, fun H' h' => ⟨_, h', rfl, rfl⟩⟩
  · exact h.elim

theorem lookup_remap {t : TypeId} {m k v : Value} {ok : Bool} (h : lookup P t H m k ok (fun u => u = v)) : remap m H H ∧ ∀ H', remap m H H' → lookup P t H' m k ok (fun u => u = v) := by
  unfold lookup at h ⊢
  split at h
  · rename_i kt et r hu
    split at h
    · rename_i z hz
      obtain ⟨hk, h⟩ := h
      simp only [hz]
      cases r with
      | none => exact ⟨trivial, fun H' _ => ⟨hk, h⟩⟩
      | some r =>
        obtain ⟨es, c, h1, h2⟩ := h
        refine ⟨⟨es, c, h1, h1⟩, fun H' h' => ⟨hk, ?_⟩⟩
        obtain ⟨es', c', h3, h4⟩ := h'
        rw [h1] at h3
        cases h3
        exact ⟨es, c, h4, h2⟩
    · exact h.elim
  · exact h.elim

theorem len_remap {t : TypeId} {m v : Value} (ht : (match P.underlying t with | some .string => true | some (.slice _) => true | some (.map ..) => true | _ => false) = true) (h : lenOf P t H m (fun u => u = v)) : remap m H H ∧ ∀ H', remap m H H' → lenOf P t H' m (fun u => u = v) := by
  unfold lenOf at h ⊢
  split at h
  · exact ⟨trivial, fun H' _ => by simp only [*]⟩
  · exact ⟨trivial, fun H' _ => by simp only [*]⟩
  · rename_i hu; rw [hu] at ht; cases ht
  · rename_i hu; rw [hu] at ht; cases ht
  · rename_i r hu
    simp only [hu]
    cases r with
    | none => exact ⟨trivial, fun H' _ => h⟩
    | some r =>
      obtain ⟨es, c, h1, h2⟩ := h
      refine ⟨⟨es, c, h1, h1⟩, fun H' h' => ?_⟩
      obtain ⟨es', c', h3, h4⟩ := h'
      rw [h1] at h3
      cases h3
      exact ⟨es, c, h4, h2⟩
  · exact h.elim

/-- Operations that a region with an open order may have without acting. -/
def plainOp (P : Program) : Op → Bool
  | .call { callee := .builtin .len, args := ⟨[_]⟩, argTypes := ⟨t :: _⟩ } => match P.underlying t with | some .string => true | some (.slice _) => true | some (.map ..) => true | _ => false
  | .call { callee := .builtin .len, .. } => false
  | _ => true

set_option maxHeartbeats 1000000 in
theorem iop_came {nt : Nat} {Qp : Value → IHeap → Prop} (ho : okOper nt o = true) (hk : isActs o = false) (hp : plainOp P o.op = true) (h : iop P o env H K Qp) : Came P i o env H K := by
  obtain ⟨dst, op, type, pos, after, guard⟩ := o
  simp only [okOper, Bool.and_eq_true] at ho
  obtain ⟨⟨hd, hall⟩, hc⟩ := ho
  cases op with
  | move x => exact Came.plain (F := fun K => K (iev env x)) (.pure _) h (fun _ => rfl) fun β H' w a v S hr hv => ⟨a.eval x, rfl, hv ▸ hr x (by simp [Op.operands])⟩
  | pick c x y =>
    simp only [iop] at h
    split at h
    · rename_i b hb
      refine Came.plain det_pickV h (fun _ => rfl) fun β H' w a v S hr hv => ?_
      have hcv := hr c (by simp [Op.operands])
      rw [hb] at hcv
      obtain ⟨u, h1, h2⟩ := pick_pg (hr x (by simp [Op.operands])) (hr y (by simp [Op.operands])) hv
      exact ⟨_, by simp [execOp, asBool, hcv.inv_bool], h2 ▸ h1⟩
    · exact h.elim
  | nilCheck x =>
    simp only [iop] at h
    split at h
    · rename_i p hp
      refine Came.plain (F := fun K => pcase p fun i f => K (ptrTo i f)) (pcase_bind fun _ _ => .pure _) h (fun _ => rfl) fun β H' w a v S hr hv => ?_
      have hx := hr x (by simp [Op.operands])
      obtain ⟨i, f, rfl, rfl⟩ := pcase_sound hv
      rw [hp] at hx
      obtain ⟨_, l, hl, hx'⟩ := hx.inv_ptr
      exact ⟨a.eval x, by simp [execOp, hx'], hx⟩
    · rename_i f x' y' hp
      refine Came.plain (F := fun K => K (.func f x' y')) (.pure _) h (fun _ => rfl) fun β H' w a v S hr hv => ?_
      have hx := hr x (by simp [Op.operands])
      rw [hp] at hx
      generalize hz : a.eval x = z at hx
      rw [← hv]
      cases hx with
      | func h1 h2 => exact ⟨_, by simp only [execOp, hz]; rfl, .func h1 h2⟩
      | yield hl => exact ⟨_, by simp only [execOp, hz]; rfl, .yield hl⟩
    · exact h.elim
  | binOp op t x y z => exact Came.plain det_binOp h (fun _ => rfl) fun β H' w a v S hr hv => PG.val (binOp_sound (hr x (by simp [Op.operands])) (hr y (by simp [Op.operands])) hv)
  | unOp op t x => exact Came.plain det_unOp h (fun _ => rfl) fun β H' w a v S hr hv => PG.val (unOp_sound (hr x (by simp [Op.operands])) hv)
  | convert s d x => exact Came.plain det_convert h (fun _ => rfl) fun β H' w a v S hr hv => PG.val (convert_sound (hr x (by simp [Op.operands])) hv)
  | fieldAddr t x f => exact Came.plain det_fieldAddr h (fun _ => rfl) fun β H' w a v S hr hv => PG.val (fieldAddr_sound (hr x (by simp [Op.operands])) hv)
  | indexAddr t x i => exact Came.plain det_indexAddr h (fun _ => rfl) fun β H' w a v S hr hv => PG.val (indexAddr_sound (hr x (by simp [Op.operands])) (hr i (by simp [Op.operands])) hv)
  | extract x i => exact Came.plain det_extract h (fun _ => rfl) fun β H' w a v S hr hv => PG.val (extract_pg (hr x (by simp [Op.operands])) hv)
  | build t ps => exact Came.plain det_build h (fun _ => rfl) fun β H' w a v S hr hv => PG.val (build_pg (fun p hp => hr p.2 (by simp only [Op.operands]; exact List.mem_map.2 ⟨p, hp, rfl⟩)) hv)
  | makeFunc fn first cap =>
    cases fn <;> try exact (h : False).elim
    rename_i f
    obtain ⟨first⟩ := first
    obtain ⟨cap⟩ := cap
    refine Came.plain (F := fun K => K (.func (.func f) ⟨first.map (iev env)⟩ ⟨cap.map (iev env)⟩)) (.pure _) h (fun _ => rfl) fun β H' w a v S hr hv => ⟨.func (.func f) ⟨first.map a.eval⟩ ⟨cap.map a.eval⟩, by simp [execOp, Instr.makeFunc], ?_⟩
    rw [← hv]
    have key : ∀ l : List Operand, (∀ x ∈ l, VRel β.loc (iev env x) (a.eval x)) → VsRel β.loc (l.map (iev env)) (l.map a.eval) := by
      intro l
      induction l with
      | nil => intro _; exact .nil
      | cons x l ih => intro hh; exact .cons (hh x (by simp)) (ih fun y hy => hh y (by simp [hy]))
    exact .func (key _ fun x hx => hr x (by simp [Op.operands, hx])) (key _ fun x hx => hr x (by simp [Op.operands, hx]))
  | slice t x lo hi mx =>
    refine Came.read (F := fun H K => slice P t H (iev env x) (lo.map (iev env)) (hi.map (iev env)) (mx.map (iev env)) K) (W := fun v => rearr (iev env x) H) det_slice h (fun _ => rfl) (fun v hv => (slice_rearr hv).1) (fun v H' ob hh => rearr_append hh) fun β H' w a v S hr hv hw => ?_
    have hopt : ∀ {y : Option Operand}, (∀ z, y = some z → z ∈ (Op.slice t x lo hi mx).operands.toList) → ORelV β.loc (y.map (iev env)) (y.map a.eval) := by
      intro y hy
      cases y with
      | none => trivial
      | some z => exact hr z (hy z rfl)
    refine PG.val (slice_pg S (hr x (by simp [Op.operands])) (hopt (by rintro z rfl; simp [Op.operands])) (hopt (by rintro z rfl; simp [Op.operands])) (hopt (by rintro z rfl; simp [Op.operands])) ((slice_rearr hv).2 H' hw))
  | load t x =>
    refine Came.read (F := fun H K => ptrAt (iev env x) fun i f => load P t H i f K) (W := fun v => reload (iev env x) v) ?_ h (fun _ => rfl) ?_ ?_ ?_
    · unfold ptrAt; split
      · exact pcase_bind fun i f => det_load
      · exact .no
    · intro v hv
      unfold ptrAt at hv
      split at hv
      · rename_i p hp
        obtain ⟨b, f, rfl, hv⟩ := pcase_sound hv
        rw [hp]; exact (load_reload hv).1
      · exact hv.elim
    · exact fun v H' ob hh => reload_append hh
    · intro β H' w a v S hr hv hw
      unfold ptrAt at hv
      split at hv
      · rename_i p hp
        obtain ⟨b, f, rfl, hv⟩ := pcase_sound hv
        rw [hp] at hw
        have hx := hr x (by simp [Op.operands])
        rw [hp] at hx
        obtain ⟨_, l, hl, hx'⟩ := hx.inv_ptr
        obtain ⟨u, v', h1, h2, rfl, _⟩ := load_sound S hl ((load_reload hv).2 H' hw)
        refine ⟨v', ?_, h2⟩
        simp only [execOp, hx']
        unfold Instr.loadAt
        simp [Instr.sureAddr, h1]
      · exact hv.elim
  | lookup t m k ok =>
    refine Came.read (F := fun H K => lookup P t H (iev env m) (iev env k) ok K) (W := fun v => remap (iev env m) H) det_lookup h (fun _ => rfl) (fun v hv => (lookup_remap hv).1) (fun v H' ob hh => remap_append hh) ?_
    intro β H' w a v S hr hv hw
    exact PG.val (lookup_pg S (hr m (by simp [Op.operands])) (hr k (by simp [Op.operands])) ((lookup_remap hv).2 H' hw))
  | alloc t =>
    have h : alloc P t H K := h
    have h' := h
    unfold alloc at h
    split at h
    · rename_i cs hz
      exact Came.make (s := fun _ => Instr.alloc t true (.tuple #[])) h rfl (fun _ => rfl) fun β w a hr => alloc_makes (by unfold alloc; rw [hz]; exact ⟨rfl, rfl⟩)
    · exact h.elim
  | box t x =>
    have h : box (iev env x) H K := h
    have hdet : ∃ v ob, K v (H ++ [ob]) ∧ ∀ K', K' v (H ++ [ob]) → box (iev env x) H K' := by
      unfold box at h ⊢
      split at h
      · exact ⟨_, _, h, fun K' h' => h'⟩
      · exact h.elim
      · exact h.elim
      · rename_i h1 h2 h3
        exact ⟨_, _, h, fun K' h' => h'⟩
    obtain ⟨v, ob, hv, hK⟩ := hdet
    exact Came.make (s := fun a => Instr.box t (a.eval x)) hv rfl (fun _ => rfl) fun β w a hr => box_makes (hr x (by simp [Op.operands])) (hK _ ⟨rfl, rfl⟩)
  | buildSlice t n ps =>
    have h : buildSlice P t n (ps.toList.map fun p => (p.1, iev env p.2)) H K := h
    have hdet : ∃ v ob, K v (H ++ [ob]) ∧ ∀ K', K' v (H ++ [ob]) → buildSlice P t n (ps.toList.map fun p => (p.1, iev env p.2)) H K' := by
      unfold buildSlice at h ⊢
      split at h
      · split at h
        · obtain ⟨hb, h⟩ := bif_sound h
          obtain ⟨cs, h1, h2⟩ := det_fillL _ h
          refine ⟨_, _, h1, fun K' h' => ?_⟩
          simp only [*, cond_true]
        · exact h.elim
      · exact h.elim
    obtain ⟨v, ob, hv, hK⟩ := hdet
    exact Came.make (s := fun a => Instr.buildSlice t n (ps.map fun (i, x) => (i, a.eval x))) hv rfl (fun a => by simp only [execOp]) fun β w a hr => buildSlice_makes (fun p hp => hr p.2 (by simp only [Op.operands]; exact List.mem_map.2 ⟨p, hp, rfl⟩)) (hK _ ⟨rfl, rfl⟩)
  | makeMap t r =>
    cases r with
    | none => exact Came.make (s := fun _ => Instr.makeMap t none) h rfl (fun _ => rfl) fun β w a hr => makeMap_makes ⟨rfl, rfl⟩
    | some r => exact (h : False).elim
  | makeSlice t l c =>
    have h : makeSlice P t (iev env l) (iev env c) H K := h
    have hdet : ∃ v ob, K v (H ++ [ob]) ∧ ∀ K', K' v (H ++ [ob]) → makeSlice P t (iev env l) (iev env c) H K' := by
      unfold makeSlice at h ⊢
      split at h
      · split at h
        · obtain ⟨hb, rfl, h1, h2, h3, h4⟩ := bif_sound h
          refine ⟨_, _, h4, fun K' h' => ?_⟩
          simp only [*, cond_true]
          exact ⟨trivial, h1, h2, h3, h'⟩
        · exact h.elim
      · exact h.elim
    obtain ⟨v, ob, hv, hK⟩ := hdet
    exact Came.make (s := fun a => Instr.makeSlice t (a.eval l) (a.eval c)) hv rfl (fun _ => rfl) fun β w a hr => makeSlice_makes (hr l (by simp [Op.operands])) (hr c (by simp [Op.operands])) (hK _ ⟨rfl, rfl⟩)
  | call c =>
    obtain ⟨callee, ⟨as⟩, ⟨ts⟩⟩ := c
    cases callee with
    | value f => simp [isActs, kindOf] at hk
    | invoke r n => exact (h : False).elim
    | builtin b =>
      have hrun : ∀ a : Act, ∃ cs, execOp a.eval ⟨dst, .call ⟨.builtin b, ⟨as⟩, ⟨ts⟩⟩, type, pos, after, guard⟩ = (do let d ← (pure { target := .builtin b ⟨ts⟩ type cs, args := ⟨as.map a.eval⟩ } : Sem Deferred); invoke d.target d.args) := by
        intro a
        exact ⟨_, by simp only [execOp, resolve, List.map_toArray]; rfl⟩
      have key : ∀ l : List Operand, ∀ (β : Emb) (a : Act), (∀ x ∈ l, VRel β.loc (iev env x) (a.eval x)) → VsRel β.loc (l.map (iev env)) (l.map a.eval) := by
        intro l β a
        induction l with
        | nil => intro _; exact .nil
        | cons x l ih => intro hh; exact .cons (hh x (by simp)) (ih fun y hy => hh y (by simp [hy]))
      cases b with
      | len =>
        rcases ts with _ | ⟨t, ts⟩
        · exact (h : False).elim
        rcases as with _ | ⟨x, _ | ⟨y, as⟩⟩
        · exact (h : False).elim
        · have ht : (match P.underlying t with | some .string => true | some (.slice _) => true | some (.map ..) => true | _ => false) = true := hp
          refine Came.read (F := fun H K => lenOf P t H (iev env x) K) (W := fun v => remap (iev env x) H) det_lenOf h (fun _ => rfl) (fun v hv => (len_remap ht hv).1) (fun v H' ob hh => remap_append hh) ?_
          intro β H' w a v S hr hv hw
          obtain ⟨cs, e⟩ := hrun a
          rw [e]
          have := PG.val (len_pg (u := type) (ts := ts) (xs := []) S (hr x (by simp [Op.operands, Call.operands])) ((len_remap ht hv).2 H' hw))
          simpa [invoke, builtin] using this
        · simp [plainOp] at hp
      | min =>
        refine Came.plain (det_minMax (mx := false) (vs := as.map (iev env))) (by cases ts <;> exact h) (fun _ => rfl) fun β H' w a v S hr hv => ?_
        obtain ⟨cs, e⟩ := hrun a
        rw [e]
        have := PG.val (P := P) (w := w) (minMax_pg (ts := ⟨ts⟩) (u := type) (mx := false) (key as β a fun x hx => hr x (by simp [Op.operands, Call.operands, hx])) hv)
        simpa [invoke, builtin] using this
      | max =>
        refine Came.plain (det_minMax (mx := true) (vs := as.map (iev env))) (by cases ts <;> exact h) (fun _ => rfl) fun β H' w a v S hr hv => ?_
        obtain ⟨cs, e⟩ := hrun a
        rw [e]
        have := PG.val (P := P) (w := w) (minMax_pg (ts := ⟨ts⟩) (u := type) (mx := true) (key as β a fun x hx => hr x (by simp [Op.operands, Call.operands, hx])) hv)
        simpa [invoke, builtin] using this
      | _ => simp [isActs, kindOf] at hk
  | _ => simp [isActs, kindOf] at hk

end
end Ide
