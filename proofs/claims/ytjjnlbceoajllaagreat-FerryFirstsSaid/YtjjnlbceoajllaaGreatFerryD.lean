/- FerryFirsts returns true for every number of machines and all homes, and leaves its arguments as they were. -/
import Derived.Test.YtjjnlbceoajllaaGreatRows
import Derived.Test.YtjjnlbceoajllaaGreatFerryC
import Derived.WalkKit
import Derived.ProofKit
import Derived.OpenShut
import Derived.Below
import Derived.SizedLaws
namespace Go.Proofs.YtjjnlbceoajllaaGreat.FerryFirsts
open Go Go.RowKit Go.ChangeShapes Go.WideShapes Go.ChangeAt Go.Proofs Ide Go.Proofs.YtjjnlbceoajllaaGreat.Firsts
set_option linter.unusedVariables false
set_option maxRecDepth 10000
theorem own : ownKnob Tryz.prog.godebug = none := by kernel_rfl
theorem laidOut : laidOutB Tryz.prog = true := by kernel_rfl

theorem add_eq (b o n : Nat) : (⟨b, o, none⟩ : Addr).add n = ⟨b, o + n, none⟩ := by
  unfold Addr.add
  by_cases h : n = 0
  · rw [if_pos h, h]; rfl
  · rw [if_neg h]

theorem cells_one {w : World} {a : Addr} {cs : List Value} (h : w.cells? 0 a 1 = some cs) : ∃ x, cs = [x] ∧ w.cell? (a.add 0) = some x := by
  unfold World.cells? at h
  rw [if_pos (Nat.zero_le _)] at h
  have e : List.range 1 = [0] := rfl
  rw [e] at h
  simp only [List.mapM_cons, List.mapM_nil] at h
  cases h0 : w.cell? (a.add 0) with
  | none => simp [h0] at h
  | some x => simp [h0] at h; exact ⟨x, h.symm, rfl⟩

theorem ints_get (l : List Int) (j : Nat) (v : Value) (h : (ints l)[j]? = some v) : ∃ n, l[j]? = some n ∧ v = .int .i64 n := by
  unfold ints at h
  rw [List.getElem?_map] at h
  cases hl : l[j]? with
  | none => rw [hl] at h; cases h
  | some n => rw [hl] at h; exact ⟨n, rfl, (Option.some.inj h).symm⟩

section
variable {H : Type} {enc : TypeId × Value → H} {W : World} {sp : Nat → Bool} {held : Bool}
/-- Homes that came in. -/
theorem open_homes {base : Nat} {v : Value} {d : DataW H} {ps : List MemPlace} (ho : Value.okWide Pr W .any base 22 v) (ht : DataW.Trod enc Pr W 0 sp held 22 v d ps) :
    ∃ (l : List Int) (z : Bool) (loc : Option Ide.Loc), (z = true → l = []) ∧ Sim (embRo W [loc]) [.cells (ints l) false] W ∧ VRel (embRo W [loc]).loc (.slice (adr z) l.length l.length) v := by
  obtain ⟨a0, len0, cap0, rfl⟩ := okWide_slice Tryz.underlying22 ho
  obtain ⟨fuel, hf⟩ := ht
  have hc : (Value.slice a0 len0 cap0).cells.toList = [Value.slice a0 len0 cap0] := rfl
  rw [hc] at hf
  have hcell : Cell.okWide Pr W .any base 22 (.slice a0 len0 cap0) := by
    unfold Value.okWide at ho
    rw [Tryz.underlying22] at ho
    exact ho
  rcases trod_slice Tryz.underlying22 hf with he | ⟨a, len, cap, he, h1, h2, fuel', h3⟩
  · rw [he]
    refine ⟨[], true, none, fun _ => rfl, sim_ro W [none] _ rfl fun i l hl => ?_, .sliceNil⟩
    match i, hl with
    | 0, hl => cases hl
    | i + 1, hl => simp at hl
  · cases he
    unfold Cell.okWide at hcell
    rw [Tryz.underlying22] at hcell
    simp only [Cell.ok, Tryz.underlying22] at hcell
    obtain ⟨_, _, _, hs, row, cells, hsh, _⟩ := hcell
    have hb : a.block < W.heap.size := by
      unfold World.shape? at hsh
      split at hsh
      · rename_i hh; exact (Array.getElem?_eq_some_iff.1 hh).1
      · cases hsh
    obtain ⟨ab, ao, asp⟩ := a
    have hs : asp = none := hs
    subst hs
    simp only [add_eq] at h3
    obtain ⟨l, hl, hp⟩ := list_of (p := fun i (x : Int) => W.cell? ⟨ab, ao + i, none⟩ = some (.int .i64 x)) len0 fun i hi => by
      obtain ⟨cs, r, g1, g2⟩ := h3 i hi
      have e1 : Pr.cellsOf 3 = 1 := by kernel_rfl
      rw [e1] at g1
      obtain ⟨x, rfl, h0⟩ := cells_one g1
      rw [add_eq] at h0
      obtain ⟨n, e3, _⟩ := trod_int' Tryz.underlying3 g2
      cases e3
      exact ⟨n, by rw [show ao + i = ao + i * 1 + 0 by omega]; exact h0⟩
    subst hl
    refine ⟨l, false, some ⟨ab, ao, 0, false⟩, (fun h => by cases h), sim_ro W [some ⟨ab, ao, 0, false⟩] _ rfl fun i lc hl => ?_, ?_⟩
    · match i, hl with
      | 0, hl =>
        cases hl
        refine ⟨hb, rfl, _, rfl, ground_ints _, fun j v hj => ?_⟩
        obtain ⟨n, g1, rfl⟩ := ints_get l j v hj
        exact hp j n g1
      | i + 1, hl => simp at hl
    · exact .slice (l := ⟨ab, ao, 0, false⟩) rfl (Nat.le_refl _) h1 (fun h => by cases h) (.inl rfl) (fun h => by cases h)
end

set_option maxRecDepth 100000 in
theorem lifted (os : Os) (started : os.Started) (H : Type) (enc : TypeId × Value → H) :
    ReturnsInHanded {} Tryz.checked os 3 .any (Rows.ferryFirstsSpec.pre6 enc Tryz.prog Tryz.f3 Rows.ferryFirstsRow.domain false) (Rows.ferryFirstsSpec.post enc Tryz.prog Tryz.f3 false true false false) := by
  refine returnsInHanded_of_change (C := Tryz.checked) own started (by kernel_rfl) Tryz.func3
    (ChangeSpec.witness6 (enc := enc) (C := Tryz.checked) false ⟨#[], #[.int .i64 0, .slice none 0 0], []⟩ 8 (by kernel_rfl) (by kernel_rfl) (by kernel_rfl) (by kernel_rfl)) ?_
  intro W base args ds gs before hval0 hW hcnd _
  have hval : ∀ (j : Nat) t v, Tryz.f3.params[j]? = some t → args[j]? = some v → Value.okWide Tryz.prog W .any base t v := hval0
  have hW' := hW
  obtain ⟨p, q, hA0, hV, rfl, hfz, hnd⟩ := hW
  have hA : DataW.TrodAll enc Tryz.prog W 0 (fun _ => true) true Tryz.f3.params.toList args.toList ds p := hA0
  rw [Tryz.params3] at hA hval
  obtain ⟨v0, vs0, d0, ds0, p0, q0, hargs, rfl, rfl, h0, r0⟩ := trodAll_cons hA
  obtain ⟨v1, vs1, d1, ds1, p1, q1, rfl, rfl, rfl, h1, r1⟩ := trodAll_cons r0
  obtain ⟨rfl, rfl, rfl⟩ := trodAll_nil r1
  obtain rfl : args = #[v0, v1] := by cases args; simp_all
  obtain ⟨rfl, rfl⟩ := trodVars_none hV
  obtain ⟨m, rfl, rfl, rfl, wm⟩ := open_int Tryz.underlying3 (hval 0 3 v0 rfl rfl) h0
  obtain ⟨l, z, loc, hz, S, hR⟩ := open_homes (hval 1 22 v1 rfl rfl) h1
  have lt1 : ∀ x ∈ p1, x.block < W.heap.size := by obtain ⟨k, hk⟩ := h1; exact DataW.trod_lt k _ _ _ hk
  refine (Ide.calls_true (law_ok m l z hz) S rfl (.cons (.int _ _) (.cons hR .nil))).mono fun r W' ⟨he, bel⟩ => ?_
  subst he
  exact ⟨_, rfl, _, _, _, [], _, [], hW', trodAll_mk1 (shut_bool Tryz.underlying4 _), trodAll_cons_mk (shut_int Tryz.underlying3 wm) (trodAll_cons_mk (Below.trod laidOut (by kernel_rfl) (of_decide_eq_true (by kernel_rfl)) h1 bel lt1) trodAll_mk0), rfl, bel.frame _, fun h => by cases h⟩
theorem over : Rows.ferryFirstsRow.holds Tryz.pinned (OpenSpec.ofChange Rows.ferryFirstsSpec) :=
  OpenClaim.holds_of_wide 3 Tryz.f3 rfl rfl rfl rfl rfl rfl rfl ⟨rfl, rfl, rfl, rfl, rfl⟩ rfl rfl rfl rfl rfl (by kernel_rfl) Tryz.func3 (by kernel_rfl)
    (of_decide_eq_true (by kernel_rfl)) (by unfold Func.isWrapper; first | (rw [if_pos (by decide +kernel)]; kernel_rfl) | (rw [if_neg (by decide +kernel)]; exact ⟨rfl, rfl⟩))
    (fun os started H enc _ => lifted os started H enc)
end Go.Proofs.YtjjnlbceoajllaaGreat.FerryFirsts
namespace Go.Proofs.YtjjnlbceoajllaaGreat
/-- The row. -/
theorem ferryFirsts_holds : Rows.FerryFirstsSaid := FerryFirsts.over
#print axioms ferryFirsts_holds
end Go.Proofs.YtjjnlbceoajllaaGreat
