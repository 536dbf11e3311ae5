/- A reckoner for the ideal meaning: operations are as reckoned. -/
import Derived.Test.YtjjnlbceoajllaaGreatIdeY
set_option linter.unusedVariables false
set_option linter.unusedSimpArgs false
namespace Ide
open Go Go.RowKit

section
variable {P : Program} {H : IHeap} {h : XHeap}

theorem xpure {x : Option Value} {h : XHeap} {r : Value × XHeap} (hx : (match x with | some v => some (v, h) | none => none) = some r) : x = some r.1 ∧ r.2 = h := by
  cases x <;> cases hx; exact ⟨rfl, rfl⟩
theorem xunit {x : Option XHeap} {r : Value × XHeap} (hx : (match x with | some h' => some (anyV, h') | none => none) = some r) : x = some r.2 ∧ r.1 = anyV := by
  cases x <;> cases hx; exact ⟨rfl, rfl⟩
theorem xempty {x : Option XHeap} {r : Value × XHeap} (hx : (match x with | some h' => some (Value.tuple ⟨[]⟩, h') | none => none) = some r) : x = some r.2 ∧ r.1 = .tuple ⟨[]⟩ := by
  cases x <;> cases hx; exact ⟨rfl, rfl⟩

set_option maxHeartbeats 1000000 in
theorem xop_sound {o : Oper} {env : Env} {e : XEnv} {r : Value × XHeap} (he : RepE env e) (hr : RepH H h) (hx : xop P o e h = some r) :
    ∃ H', RepH H' r.2 ∧ ∀ (K : Value → IHeap → Prop) (Qp : Value → IHeap → Prop), K r.1 H' → iop P o env H K Qp := by
  have hev : iev env = xev e := funext fun x => xev_eq he x
  obtain ⟨dst, op, type, pos, after, guard⟩ := o
  have pv : ∀ {x : Option Value} {F : (Value → Prop) → Prop}, (match x with | some v => some (v, h) | none => none) = some r → (∀ v, x = some v → ∀ K, K v → F K) → ∃ H', RepH H' r.2 ∧ ∀ K : Value → IHeap → Prop, K r.1 H' → F fun v => K v H := by
    intro x F hx hF
    obtain ⟨h1, h2⟩ := xpure hx
    exact ⟨H, by rw [h2]; exact hr, fun K hk => hF _ h1 _ hk⟩
  have uv : ∀ {x : Option XHeap} {F : (IHeap → Prop) → Prop}, (match x with | some h' => some (anyV, h') | none => none) = some r → (∀ h', x = some h' → ∃ H', RepH H' h' ∧ ∀ K : IHeap → Prop, K H' → F K) → ∃ H', RepH H' r.2 ∧ ∀ K : Value → IHeap → Prop, K r.1 H' → F fun H' => K anyV H' := by
    intro x F hx hF
    obtain ⟨h1, h2⟩ := xunit hx
    obtain ⟨H', h3, h4⟩ := hF _ h1
    exact ⟨H', h3, fun K hk => h4 _ (by rw [h2] at hk; exact hk)⟩
  have tv : ∀ {x : Option XHeap} {F : (IHeap → Prop) → Prop}, (match x with | some h' => some (Value.tuple ⟨[]⟩, h') | none => none) = some r → (∀ h', x = some h' → ∃ H', RepH H' h' ∧ ∀ K : IHeap → Prop, K H' → F K) → ∃ H', RepH H' r.2 ∧ ∀ K : Value → IHeap → Prop, K r.1 H' → F fun H' => K (.tuple ⟨[]⟩) H' := by
    intro x F hx hF
    obtain ⟨h1, h2⟩ := xempty hx
    obtain ⟨H', h3, h4⟩ := hF _ h1
    exact ⟨H', h3, fun K hk => h4 _ (by rw [h2] at hk; exact hk)⟩
  have fin : ∀ {F : (Value → IHeap → Prop) → Prop}, (∃ H', RepH H' r.2 ∧ ∀ K : Value → IHeap → Prop, K r.1 H' → F K) → (∀ K Qp, F K → iop P ⟨dst, op, type, pos, after, guard⟩ env H K Qp) → ∃ H', RepH H' r.2 ∧ ∀ (K : Value → IHeap → Prop) (Qp : Value → IHeap → Prop), K r.1 H' → iop P ⟨dst, op, type, pos, after, guard⟩ env H K Qp := by
    rintro F ⟨H', h1, h2⟩ hF
    exact ⟨H', h1, fun K Qp hk => hF K Qp (h2 K hk)⟩
  cases op with
  | move x => simp only [xop] at hx; cases hx; exact ⟨H, hr, fun K Qp hk => by simp only [iop, hev]; exact hk⟩
  | assign x => simp only [xop] at hx; cases hx; exact ⟨H, hr, fun K Qp hk => by simp only [iop, hev]; exact hk⟩
  | pick c a b =>
    simp only [xop] at hx
    split at hx
    · rename_i c' hc
      cases hx
      refine ⟨H, hr, fun K Qp hk => ?_⟩
      simp only [iop, hev, hc]
      unfold pickV
      split
      · rename_i x y h1 h2
        rw [h1, h2] at hk
        cases c' <;> exact hk
      · cases c' <;> exact hk
    · cases hx
  | alloc t => exact fin (xalloc_sound hr hx) fun K Qp h => h
  | box t x => exact fin (xbox_sound hr hx) fun K Qp h => by simp only [iop, hev]; exact h
  | build t ps => exact fin (pv hx fun v hv K hk => xbuild_sound hv hk) fun K Qp h => by simp only [iop, hev]; exact h
  | buildSlice t n ps => exact fin (xbuildSlice_sound hr hx) fun K Qp h => by simp only [iop, hev]; exact h
  | load t x =>
    simp only [xop] at hx
    split at hx
    · rename_i i f hp
      exact fin (pv hx fun v hv K hk => xload_sound hr hv hk) fun K Qp h => by simp only [iop, hev]; rw [xptr_sound hp]; exact h
    · cases hx
  | store t x y =>
    simp only [xop] at hx
    split at hx
    · rename_i i f hp
      exact fin (uv hx fun h' hv => xstV_sound hr hv) fun K Qp h => by simp only [iop, hev]; rw [xptr_sound hp]; exact h
    · cases hx
  | nilCheck x =>
    simp only [xop] at hx
    split at hx
    · rename_i i f hp
      cases hx
      refine ⟨H, hr, fun K Qp hk => ?_⟩
      simp only [iop, hev]
      rw [xptr_sound hp]
      exact hk
    · split at hx
      · rename_i f a b hf
        cases hx
        refine ⟨H, hr, fun K Qp hk => ?_⟩
        simp only [iop, hev, hf]
        exact hk
      · cases hx
  | binOp op t x y z => exact fin (pv hx fun v hv K hk => xbinOp_sound hv hk) fun K Qp h => by simp only [iop, hev]; exact h
  | unOp op t x => exact fin (pv hx fun v hv K hk => xunOp_sound hv hk) fun K Qp h => by simp only [iop, hev]; exact h
  | convert s d x => exact fin (pv hx fun v hv K hk => xconvert_sound hv hk) fun K Qp h => by simp only [iop, hev]; exact h
  | makeFunc fn first cap =>
    cases fn <;> first | (cases hx; done) | skip
    simp only [xop] at hx
    cases hx
    exact ⟨H, hr, fun K Qp hk => by simp only [iop, hev]; exact hk⟩
  | makeMap t rr =>
    cases rr with
    | some rr => cases hx
    | none =>
      simp only [xop] at hx
      split at hx
      · rename_i h' hp
        cases hx
        refine ⟨_, push_rep hr hp, fun K Qp hk => ?_⟩
        simp only [iop]
        rw [hr.1]
        exact hk
      · cases hx
  | makeSlice t l c => exact fin (xmakeSlice_sound hr hx) fun K Qp h => by simp only [iop, hev]; exact h
  | slice t x lo hi mx => exact fin (pv hx fun v hv K hk => xslice_sound hr hv hk) fun K Qp h => by simp only [iop, hev]; exact h
  | fieldAddr t x f => exact fin (pv hx fun v hv K hk => xfieldAddr_sound hv hk) fun K Qp h => by simp only [iop, hev]; exact h
  | field t x f => exact fin (pv hx fun v hv K hk => xfield_sound hv hk) fun K Qp h => by simp only [iop, hev]; exact h
  | indexAddr t x i => exact fin (pv hx fun v hv K hk => xindexAddr_sound hv hk) fun K Qp h => by simp only [iop, hev]; exact h
  | index t x i => exact fin (pv hx fun v hv K hk => xindex_sound hv hk) fun K Qp h => by simp only [iop, hev]; exact h
  | lookup t m k ok => exact fin (pv hx fun v hv K hk => xlookup_sound hr hv hk) fun K Qp h => by simp only [iop, hev]; exact h
  | mapUpdate t m k v => exact fin (uv hx fun h' hv => xmapUpdate_sound hr hv) fun K Qp h => by simp only [iop, hev]; exact h
  | insert t m k v => exact fin (uv hx fun h' hv => xmapUpdate_sound hr hv) fun K Qp h => by simp only [iop, hev]; exact h
  | mapEntry t m k => exact fin (xmapEntry_sound hr hx) fun K Qp h => by simp only [iop, hev]; exact h
  | entryStore t m s v => exact fin (uv hx fun h' hv => xentryStore_sound hr hv) fun K Qp h => by simp only [iop, hev]; exact h
  | extract x i => exact fin (pv hx fun v hv K hk => xextract_sound hv hk) fun K Qp h => by simp only [iop, hev]; exact h
  | call c =>
    obtain ⟨callee, ⟨as⟩, ⟨ts⟩⟩ := c
    cases callee with
    | value f => cases hx
    | invoke a b => cases hx
    | builtin b =>
      simp only [xop] at hx
      split at hx
      · rename_i t u ts x y as
        split at hx
        · rename_i e' hu
          exact fin (xappend_sound hr hx) fun K Qp h => by simp only [iop, icall, icallB, hev, List.map_cons, hu]; exact h
        · cases hx
      · exact fin (pv hx fun v hv K hk => xlen_sound hr hv hk) fun K Qp h => by simp only [iop, icall, icallB, hev, List.map_cons]; exact h
      · exact fin (pv hx fun v hv K hk => xminMax_sound hv hk) fun K Qp h => by simp only [iop, icall, icallB, hev]; exact h
      · exact fin (pv hx fun v hv K hk => xminMax_sound hv hk) fun K Qp h => by simp only [iop, icall, icallB, hev]; exact h
      · exact fin (tv hx fun h' hv => xmapDelete_sound hr hv) fun K Qp h => by simp only [iop, icall, icallB, hev, List.map_cons]; exact h
      · exact fin (tv hx fun h' hv => xclear_sound hr hv) fun K Qp h => by simp only [iop, icall, icallB, hev, List.map_cons]; exact h
      · rename_i t u ts x y as
        split at hx
        · rename_i e' hu
          exact fin (xcopy_sound hr hx) fun K Qp h => by simp only [iop, icall, icallB, hev, List.map_cons, hu]; exact h
        · cases hx
      · cases hx
  | _ => first | (cases hx; done) | (rename_i x; cases x <;> cases hx)

end
end Ide
