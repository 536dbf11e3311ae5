/- An end that came in. -/
import Derived.Test.YtoikiogaiikheaaSndAO
import Derived.Test.YtoikiogaiikheaaRows
import Derived.Test.YtoikiogaiikheaaSndAZ
import Derived.WalkKit
import Derived.ProofKit
import Derived.OpenShut
import Derived.ShutString
import Derived.ChangeMaps5
import Derived.Below
import Derived.SizedLaws
set_option linter.unusedSectionVars false
set_option linter.unusedVariables false
set_option linter.unusedSimpArgs false
set_option maxRecDepth 10000
namespace Go.Proofs.Ytoikiogaiikheaa.Sess
open Go Go.RowKit Ide Go.Proofs

theorem outC_idx : ∀ (l : List (ByteArray × Bool)) (j : Nat) (v : Value), (outC l)[j]? = some v → ∃ i x, l[i]? = some x ∧ ((j = 2 * i ∧ v = .string x.1) ∨ (j = 2 * i + 1 ∧ v = .bool x.2))
  | [], j, v, h => by simp [outC] at h
  | x :: l, 0, v, h => by
    have h : some (Value.string x.1) = some v := h
    exact ⟨0, x, rfl, .inl ⟨rfl, (Option.some.inj h).symm⟩⟩
  | x :: l, 1, v, h => by
    have h : some (Value.bool x.2) = some v := h
    exact ⟨0, x, rfl, .inr ⟨rfl, (Option.some.inj h).symm⟩⟩
  | x :: l, j + 2, v, h => by
    obtain ⟨i, y, h1, h2⟩ := outC_idx l j v h
    refine ⟨i + 1, y, by simpa using h1, ?_⟩
    rcases h2 with ⟨h2, h3⟩ | ⟨h2, h3⟩
    · exact .inl ⟨by omega, h3⟩
    · exact .inr ⟨by omega, h3⟩
theorem inC_idx : ∀ (l : List (Int × ByteArray)) (j : Nat) (v : Value), (inC l)[j]? = some v → ∃ i x, l[i]? = some x ∧ ((j = 2 * i ∧ v = .int .i64 x.1) ∨ (j = 2 * i + 1 ∧ v = .string x.2))
  | [], j, v, h => by simp [inC] at h
  | x :: l, 0, v, h => by
    have h : some (Value.int .i64 x.1) = some v := h
    exact ⟨0, x, rfl, .inl ⟨rfl, (Option.some.inj h).symm⟩⟩
  | x :: l, 1, v, h => by
    have h : some (Value.string x.2) = some v := h
    exact ⟨0, x, rfl, .inr ⟨rfl, (Option.some.inj h).symm⟩⟩
  | x :: l, j + 2, v, h => by
    obtain ⟨i, y, h1, h2⟩ := inC_idx l j v h
    refine ⟨i + 1, y, by simpa using h1, ?_⟩
    rcases h2 with ⟨h2, h3⟩ | ⟨h2, h3⟩
    · exact .inl ⟨by omega, h3⟩
    · exact .inr ⟨by omega, h3⟩

theorem inR_of {n : Int} (h : (Lit.int .i64 n).wf = true) : inR n := by
  simp only [Lit.wf, Bool.and_eq_true, decide_eq_true_eq] at h
  have e1 : IntKind.min .i64 = -9223372036854775808 := by decide
  have e2 : IntKind.max .i64 = 9223372036854775807 := by decide
  unfold inR
  omega

section
variable {H : Type} {enc : TypeId × Value → H} {W : World} {sp : Nat → Bool} {held : Bool}

/-- What a slice of the messages that were sent is. -/
structure IsOut (W : World) (c : Value) (z : Bool) (l : List (ByteArray × Bool)) (loc : Option Ide.Loc) : Prop where
  nil : z = true → l = [] ∧ c = .slice none 0 0 ∧ loc = none
  row : z = false → ∃ a cap, a.spot = none ∧ c = .slice (some a) l.length cap ∧ l.length ≤ cap ∧ cap ≤ maxLen ∧ loc = some ⟨a.block, a.off, 0, false⟩ ∧ a.block < W.heap.size ∧ ∀ j v, (outC l)[j]? = some v → W.cell? ⟨a.block, a.off + j, none⟩ = some v
structure IsIn (W : World) (c : Value) (z : Bool) (l : List (Int × ByteArray)) (loc : Option Ide.Loc) : Prop where
  nil : z = true → l = [] ∧ c = .slice none 0 0 ∧ loc = none
  row : z = false → ∃ a cap, a.spot = none ∧ c = .slice (some a) l.length cap ∧ l.length ≤ cap ∧ cap ≤ maxLen ∧ loc = some ⟨a.block, a.off, 0, false⟩ ∧ a.block < W.heap.size ∧ ∀ j v, (inC l)[j]? = some v → W.cell? ⟨a.block, a.off + j, none⟩ = some v

theorem add_eq (b o n : Nat) : (⟨b, o, none⟩ : Addr).add n = ⟨b, o + n, none⟩ := by
  unfold Addr.add
  by_cases h : n = 0
  · rw [if_pos h, h]; rfl
  · rw [if_neg h]

theorem cell_ok {t e : TypeId} {base : Nat} {a : Addr} {len cap : Nat} (hu : Pr.underlying t = some (.slice e)) (h : Cell.okWide Pr W .any base t (.slice (some a) len cap)) : a.spot = none ∧ a.block < W.heap.size := by
  unfold Cell.okWide at h
  rw [hu] at h
  simp only [Cell.ok, hu] at h
  obtain ⟨_, _, _, h1, row, cells, h2, _⟩ := h
  refine ⟨h1, ?_⟩
  unfold World.shape? at h2
  split at h2
  · rename_i hh; exact (Array.getElem?_eq_some_iff.1 hh).1
  · cases h2

theorem open_out {fuel base : Nat} {c : Value} {r : DataW H × List MemPlace} (ho : Cell.okWide Pr W .any base 23 c) (h : DataW.trod enc Pr W 0 sp held fuel 23 [c] = some r) : ∃ z l loc, IsOut W c z l loc := by
  rcases trod_slice Try.underlying23 h with rfl | ⟨a, len, cap, rfl, h1, h2, fuel', h3⟩
  · exact ⟨true, [], none, fun _ => ⟨rfl, rfl, rfl⟩, fun h => by cases h⟩
  · obtain ⟨hs, hb⟩ := cell_ok Try.underlying23 ho
    obtain ⟨ab, ao, asp⟩ := a
    have hs : asp = none := hs
    subst hs
    simp only [add_eq] at h3
    obtain ⟨l, hl, hp⟩ := list_of (p := fun i (x : ByteArray × Bool) => W.cell? ⟨ab, ao + 2 * i, none⟩ = some (.string x.1) ∧ W.cell? ⟨ab, ao + (2 * i + 1), none⟩ = some (.bool x.2)) len fun i hi => by
      obtain ⟨cs, r, g1, g2⟩ := h3 i hi
      have e2 : Pr.cellsOf 66 = 2 := by kernel_rfl
      rw [e2] at g1
      obtain ⟨x, y, rfl, g3, g4⟩ := cells_two g1
      simp only [add_eq] at g3 g4
      obtain ⟨_, f2, g5⟩ := trod_fields Try.underlying66 g2
      obtain ⟨r1, k1⟩ := g5 { name := "Text", type := 9, offset := 0, embedded := false, tag := "", pkgPath := "", byteOffset := 0 } (by simp)
      obtain ⟨r2, k2⟩ := g5 { name := "Held", type := 4, offset := 1, embedded := false, tag := "", pkgPath := "", byteOffset := 16 } (by simp)
      have c9 : Pr.cellsOf 9 = 1 := by kernel_rfl
      have c4 : Pr.cellsOf 4 = 1 := by kernel_rfl
      simp only [c9, List.drop_zero, List.take_succ_cons, List.take_zero] at k1
      simp only [c4, List.drop_succ_cons, List.drop_zero, List.take_succ_cons, List.take_zero] at k2
      obtain ⟨s, e3, _⟩ := trod_str' Try.underlying9 k1
      obtain ⟨b, e4⟩ := trod_bool' Try.underlying4 k2
      cases e3
      cases e4
      refine ⟨(s, b), ?_, ?_⟩
      · rw [show ao + 2 * i = ao + i * 2 + 0 by omega]; exact g3
      · rw [show ao + (2 * i + 1) = ao + i * 2 + 1 by omega]; exact g4
    subst hl
    refine ⟨false, l, some ⟨ab, ao, 0, false⟩, (fun h => by cases h), fun _ => ⟨⟨ab, ao, none⟩, cap, rfl, rfl, h1, h2, rfl, hb, fun j v hj => ?_⟩⟩
    obtain ⟨i, x, g1, g2⟩ := outC_idx l j v hj
    obtain ⟨k1, k2⟩ := hp i x g1
    rcases g2 with ⟨rfl, rfl⟩ | ⟨rfl, rfl⟩
    · exact k1
    · exact k2

theorem open_in {fuel base : Nat} {c : Value} {r : DataW H × List MemPlace} (ho : Cell.okWide Pr W .any base 24 c) (h : DataW.trod enc Pr W 0 sp held fuel 24 [c] = some r) : ∃ z l loc, IsIn W c z l loc ∧ ∀ x ∈ l, inR x.1 := by
  rcases trod_slice Try.underlying24 h with rfl | ⟨a, len, cap, rfl, h1, h2, fuel', h3⟩
  · exact ⟨true, [], none, ⟨fun _ => ⟨rfl, rfl, rfl⟩, fun h => by cases h⟩, fun x hx => by cases hx⟩
  · obtain ⟨hs, hb⟩ := cell_ok Try.underlying24 ho
    obtain ⟨ab, ao, asp⟩ := a
    have hs : asp = none := hs
    subst hs
    simp only [add_eq] at h3
    obtain ⟨l, hl, hp⟩ := list_of (p := fun i (x : Int × ByteArray) => inR x.1 ∧ W.cell? ⟨ab, ao + 2 * i, none⟩ = some (.int .i64 x.1) ∧ W.cell? ⟨ab, ao + (2 * i + 1), none⟩ = some (.string x.2)) len fun i hi => by
      obtain ⟨cs, r, g1, g2⟩ := h3 i hi
      have e2 : Pr.cellsOf 68 = 2 := by kernel_rfl
      rw [e2] at g1
      obtain ⟨x, y, rfl, g3, g4⟩ := cells_two g1
      simp only [add_eq] at g3 g4
      obtain ⟨_, f2, g5⟩ := trod_fields Try.underlying68 g2
      obtain ⟨r1, k1⟩ := g5 { name := "Num", type := 3, offset := 0, embedded := false, tag := "", pkgPath := "", byteOffset := 0 } (by simp)
      obtain ⟨r2, k2⟩ := g5 { name := "Text", type := 9, offset := 1, embedded := false, tag := "", pkgPath := "", byteOffset := 8 } (by simp)
      have c9 : Pr.cellsOf 9 = 1 := by kernel_rfl
      have c3 : Pr.cellsOf 3 = 1 := by kernel_rfl
      simp only [c3, List.drop_zero, List.take_succ_cons, List.take_zero] at k1
      simp only [c9, List.drop_succ_cons, List.drop_zero, List.take_succ_cons, List.take_zero] at k2
      obtain ⟨n, e3, hw⟩ := trod_int' Try.underlying3 k1
      obtain ⟨s, e4, _⟩ := trod_str' Try.underlying9 k2
      cases e3
      cases e4
      refine ⟨(n, s), inR_of hw, ?_, ?_⟩
      · rw [show ao + 2 * i = ao + i * 2 + 0 by omega]; exact g3
      · rw [show ao + (2 * i + 1) = ao + i * 2 + 1 by omega]; exact g4
    subst hl
    refine ⟨false, l, some ⟨ab, ao, 0, false⟩, ⟨(fun h => by cases h), fun _ => ⟨⟨ab, ao, none⟩, cap, rfl, rfl, h1, h2, rfl, hb, fun j v hj => ?_⟩⟩, fun x hx => ?_⟩
    · obtain ⟨i, x, g1, g2⟩ := inC_idx l j v hj
      obtain ⟨_, k1, k2⟩ := hp i x g1
      rcases g2 with ⟨rfl, rfl⟩ | ⟨rfl, rfl⟩
      · exact k1
      · exact k2
    · obtain ⟨i, hi⟩ := List.mem_iff_getElem?.1 hx
      exact (hp i x hi).1

/-- An end that came in: what it is, and where its lists lie. -/
theorem open_end {base : Nat} {v : Value} {d : DataW H} {ps : List MemPlace} (ho : Value.okWide Pr W .any base 26 v) (ht : DataW.Trod enc Pr W 0 sp held 26 v d ps) :
    ∃ (e : SE) (l0 l1 : Option Ide.Loc), Wf e ∧ inR e.base ∧ inR e.want ∧ (∀ x ∈ e.ins, inR x.1) ∧ Sim (embRo W [l0, l1]) (endH e) W ∧ VRel (embRo W [l0, l1]).loc (endV e) v := by
  unfold Value.okWide at ho
  rw [Try.underlying26] at ho
  obtain ⟨cs, rfl, hsz, ts, hts, _, hrow⟩ := ho
  have e7 : Pr.cellsOf 26 = 7 := by kernel_rfl
  rw [e7] at hsz
  obtain ⟨fuel, hf⟩ := ht
  have hc : (Value.agg cs).cells.toList = cs.toList := by simp [Value.cells]
  rw [hc] at hf
  obtain ⟨_, f2, hf⟩ := trod_fields Try.underlying26 hf
  have hts' : ts = [3, 3, 22, 3, 23, 3, 24] := by
    have : Pr.cellTypes Pr.depth 26 = some [3, 3, 22, 3, 23, 3, 24] := by kernel_rfl
    rw [this] at hts
    exact (Option.some.inj hts).symm
  subst hts'
  obtain ⟨cs⟩ := cs
  match cs, hsz, hf, hrow with
  | [c0, c1, c2, c3, c4, c5, c6], _, hf, hrow =>
    have k3 : Pr.cellsOf 3 = 1 := by kernel_rfl
    have k22 : Pr.cellsOf 22 = 1 := by kernel_rfl
    have k23 : Pr.cellsOf 23 = 1 := by kernel_rfl
    have k24 : Pr.cellsOf 24 = 1 := by kernel_rfl
    obtain ⟨r0, g0⟩ := hf { name := "Life", type := 3, offset := 0, embedded := false, tag := "", pkgPath := "", byteOffset := 0 } (by simp)
    obtain ⟨r1, g1⟩ := hf { name := "Peer", type := 3, offset := 1, embedded := false, tag := "", pkgPath := "", byteOffset := 8 } (by simp)
    obtain ⟨r2, g2⟩ := hf { name := "Phase", type := 22, offset := 2, embedded := false, tag := "", pkgPath := "", byteOffset := 16 } (by simp)
    obtain ⟨r3, g3⟩ := hf { name := "Base", type := 3, offset := 3, embedded := false, tag := "", pkgPath := "", byteOffset := 24 } (by simp)
    obtain ⟨r4, g4⟩ := hf { name := "Out", type := 23, offset := 4, embedded := false, tag := "", pkgPath := "", byteOffset := 32 } (by simp)
    obtain ⟨r5, g5⟩ := hf { name := "Want", type := 3, offset := 5, embedded := false, tag := "", pkgPath := "", byteOffset := 56 } (by simp)
    obtain ⟨r6, g6⟩ := hf { name := "In", type := 24, offset := 6, embedded := false, tag := "", pkgPath := "", byteOffset := 64 } (by simp)
    simp only [k3, k22, k23, k24, List.drop_succ_cons, List.drop_zero, List.take_succ_cons, List.take_zero] at g0 g1 g2 g3 g4 g5 g6
    obtain ⟨n0, e0, _⟩ := trod_int' Try.underlying3 g0
    obtain ⟨n1, e1, _⟩ := trod_int' Try.underlying3 g1
    obtain ⟨n2, e2, _⟩ := trod_int' Try.underlying22 g2
    obtain ⟨n3, e3, w3⟩ := trod_int' Try.underlying3 g3
    obtain ⟨n5, e5, w5⟩ := trod_int' Try.underlying3 g5
    cases e0; cases e1; cases e2; cases e3; cases e5
    have o4 : Cell.okWide Pr W .any base 23 c4 := by
      obtain ⟨u, hu, hk⟩ := hrow 4 c4 rfl
      cases hu
      exact hk
    have o6 : Cell.okWide Pr W .any base 24 c6 := by
      obtain ⟨u, hu, hk⟩ := hrow 6 c6 rfl
      cases hu
      exact hk
    obtain ⟨oz, outs, l0, hO⟩ := open_out o4 g4
    obtain ⟨iz, ins, l1, hI, hin⟩ := open_in o6 g6
    refine ⟨⟨n0, n1, n2, n3, n5, oz, iz, outs, ins⟩, l0, l1, ⟨fun h => (hO.nil h).1, fun h => (hI.nil h).1, ?_, ?_⟩, inR_of w3, inR_of w5, hin, ?_, ?_⟩
    · cases oz with
      | true => show outs.length ≤ _; rw [(hO.nil rfl).1]; simp
      | false => obtain ⟨a, cap, _, _, h1, h2, _⟩ := hO.row rfl; have : maxLen ≤ 9223372036854775807 := by decide
                 show outs.length ≤ _
                 omega
    · cases iz with
      | true => show ins.length ≤ _; rw [(hI.nil rfl).1]; simp
      | false => obtain ⟨a, cap, _, _, h1, h2, _⟩ := hI.row rfl; have : maxLen ≤ 9223372036854775807 := by decide
                 show ins.length ≤ _
                 omega
    · refine sim_ro W [l0, l1] _ rfl fun i l hl => ?_
      match i, hl with
      | 0, hl =>
        have hl : l0 = some l := Option.some.inj hl
        cases oz with
        | true => rw [(hO.nil rfl).2.2] at hl; cases hl
        | false =>
          obtain ⟨a, cap, _, _, _, _, hloc, hb, hcell⟩ := hO.row rfl
          rw [hloc] at hl
          cases hl
          exact ⟨hb, rfl, _, rfl, ground_outC _, hcell⟩
      | 1, hl =>
        have hl : l1 = some l := Option.some.inj hl
        cases iz with
        | true => rw [(hI.nil rfl).2.2] at hl; cases hl
        | false =>
          obtain ⟨a, cap, _, _, _, _, hloc, hb, hcell⟩ := hI.row rfl
          rw [hloc] at hl
          cases hl
          exact ⟨hb, rfl, _, rfl, ground_inC _, hcell⟩
      | i + 2, hl => simp at hl
    · have s4 : VRel (embRo W [l0, l1]).loc (.slice (adr oz 0) outs.length outs.length) c4 := by
        cases oz with
        | true => obtain ⟨h1, h2, _⟩ := hO.nil rfl; rw [h1, h2]; exact .sliceNil
        | false =>
          obtain ⟨a, cap, hs, h1, h2, _, hloc, _⟩ := hO.row rfl
          obtain ⟨ab, ao, asp⟩ := a
          simp at hs
          subst hs
          rw [h1]
          exact .slice (l := ⟨ab, ao, 0, false⟩) (by rw [hloc]; rfl) (Nat.le_refl _) h2 (fun h => by cases h) (.inl rfl) (fun h => by cases h)
      have s6 : VRel (embRo W [l0, l1]).loc (.slice (adr iz 1) ins.length ins.length) c6 := by
        cases iz with
        | true => obtain ⟨h1, h2, _⟩ := hI.nil rfl; rw [h1, h2]; exact .sliceNil
        | false =>
          obtain ⟨a, cap, hs, h1, h2, _, hloc, _⟩ := hI.row rfl
          obtain ⟨ab, ao, asp⟩ := a
          simp at hs
          subst hs
          rw [h1]
          exact .slice (l := ⟨ab, ao, 0, false⟩) (by rw [hloc]; rfl) (Nat.le_refl _) h2 (fun h => by cases h) (.inl rfl) (fun h => by cases h)
      exact .agg (.cons (.int _ _) (.cons (.int _ _) (.cons (.int _ _) (.cons (.int _ _) (.cons s4 (.cons (.int _ _) (.cons s6 .nil)))))))

end
end Go.Proofs.Ytoikiogaiikheaa.Sess

/- SessSends returns true for every end and every text, and leaves its arguments as they were. -/
namespace Go.Proofs.Ytoikiogaiikheaa.Sess
open Go Go.RowKit Ide Go.Proofs
/-- The end, its empty lists told as lists. -/
def flat (e : SE) : SE := { e with oz := false, iz := false }
theorem flat_less {e : SE} (w : Wf e) : Less (endV e) (endP (flat e) 0 1) := by
  obtain ⟨life, peer, phase, base, want, oz, iz, outs, ins⟩ := e
  have s1 : Less (.slice (adr oz 0) outs.length outs.length) (.slice (some ⟨0, 0, some 4⟩) outs.length outs.length) := by
    cases oz with
    | true =>
      have h : outs = [] := w.oz rfl
      subst h
      exact Less.nil _ _ _
    | false => exact Less.refl _
  have s2 : Less (.slice (adr iz 1) ins.length ins.length) (.slice (some ⟨1, 0, some 4⟩) ins.length ins.length) := by
    cases iz with
    | true =>
      have h : ins = [] := w.iz rfl
      subst h
      exact Less.nil _ _ _
    | false => exact Less.refl _
  exact Less.agg ⟨Less.refl _, Less.refl _, Less.refl _, Less.refl _, s1, Less.refl _, s2, trivial⟩
theorem flat_wf {e : SE} (w : Wf e) : Wf (flat e) := ⟨fun h => Bool.noConfusion (show false = true from h), fun h => Bool.noConfusion (show false = true from h), w.on, w.inn⟩
end Go.Proofs.Ytoikiogaiikheaa.Sess
namespace Go.Proofs.Ytoikiogaiikheaa.SessSends
open Go Go.RowKit Go.ChangeShapes Go.WideShapes Go.ChangeAt Go.Proofs
open Go.ChangeMaps (open_string shut_string)
set_option linter.unusedVariables false
theorem own : ownKnob Try.prog.godebug = none := by kernel_rfl
theorem laidOut : laidOutB Try.prog = true := by kernel_rfl
set_option maxRecDepth 100000 in
theorem lifted (os : Os) (started : os.Started) (H : Type) (enc : TypeId × Value → H) :
    ReturnsInHanded {} Try.checked os 4 .any (Rows.sessSendsSpec.pre6 enc Try.prog Try.f4 Rows.sessSendsRow.domain false) (Rows.sessSendsSpec.post enc Try.prog Try.f4 false true false false) := by
  refine returnsInHanded_of_change (C := Try.checked) own started (by kernel_rfl) Try.func4
    (ChangeSpec.witness6 (enc := enc) (C := Try.checked) false ⟨#[], #[.agg #[.int .i64 0, .int .i64 0, .int .i64 0, .int .i64 0, .slice none 0 0, .int .i64 0, .slice none 0 0], .string ⟨#[]⟩], []⟩ 8 (by kernel_rfl) (by kernel_rfl) (by kernel_rfl) (by kernel_rfl)) ?_
  intro W base args ds gs before hval0 hW hcnd _
  have hval : ∀ (j : Nat) t v, Try.f4.params[j]? = some t → args[j]? = some v → Value.okWide Try.prog W .any base t v := hval0
  have hW' := hW
  obtain ⟨p, q, hA0, hV, rfl, hfz, hnd⟩ := hW
  have hA : DataW.TrodAll enc Try.prog W 0 (fun _ => true) true Try.f4.params.toList args.toList ds p := hA0
  rw [Try.params4] at hA hval
  obtain ⟨v0, vs0, d0, ds0, p0, q0, hargs, rfl, rfl, h0, r0⟩ := trodAll_cons hA
  obtain ⟨v1, vs1, d1, ds1, p1, q1, rfl, rfl, rfl, h1, r1⟩ := trodAll_cons r0
  obtain ⟨rfl, rfl, rfl⟩ := trodAll_nil r1
  obtain rfl : args = #[v0, v1] := by cases args; simp_all
  obtain ⟨rfl, rfl⟩ := trodVars_none hV
  obtain ⟨s, rfl, rfl, rfl, ws⟩ := open_string Try.underlying9 (hval 1 9 v1 rfl rfl) h1
  obtain ⟨e, l0, l1, we, hb, hw, hi, S, hR⟩ := Sess.open_end (hval 0 26 v0 rfl rfl) h0
  have lt0 : ∀ x ∈ p0, x.block < W.heap.size := by obtain ⟨m, hm⟩ := h0; exact DataW.trod_lt m _ _ _ hm
  have hR2 := Sess.flat_less we _ _ hR
  have hC := Sess.sends_ok (e := Sess.flat e) (i := 0) (j := 1) (r1 := false) (r2 := false) (H := Sess.endH e) ⟨rfl, rfl⟩ (Sess.flat_wf we) hb hw hi ⟨rfl, rfl, by decide⟩ s
  refine (Ide.calls_true hC S rfl (.cons hR2 (.cons (.str _) .nil))).mono fun r W' ⟨he, bel⟩ => ?_
  subst he
  exact ⟨_, rfl, _, _, _, [], _, [], hW', trodAll_mk1 (shut_bool Try.underlying4 _), trodAll_cons_mk (Below.trod laidOut (by kernel_rfl) (of_decide_eq_true (by kernel_rfl)) h0 bel lt0) (trodAll_cons_mk (shut_string Try.underlying9 ws) trodAll_mk0), rfl, bel.frame _, fun h => by cases h⟩
theorem over : Rows.sessSendsRow.holds Try.pinned (OpenSpec.ofChange Rows.sessSendsSpec) :=
  OpenClaim.holds_of_wide 4 Try.f4 rfl rfl rfl rfl rfl rfl rfl ⟨rfl, rfl, rfl, rfl, rfl⟩ rfl rfl rfl rfl rfl (by kernel_rfl) Try.func4 (by kernel_rfl)
    (of_decide_eq_true (by kernel_rfl)) (by unfold Func.isWrapper; first | (rw [if_pos (by decide +kernel)]; kernel_rfl) | (rw [if_neg (by decide +kernel)]; exact ⟨rfl, rfl⟩))
    (fun os started H enc _ => lifted os started H enc)
end Go.Proofs.Ytoikiogaiikheaa.SessSends
namespace Go.Proofs.Ytoikiogaiikheaa
/-- The row. -/
theorem sessSends_holds : Rows.SessSendsSaid := SessSends.over
#print axioms sessSends_holds
end Go.Proofs.Ytoikiogaiikheaa
