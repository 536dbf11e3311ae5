/- Each operation of the machine does what its ideal meaning says. -/
import Derived.Test.YtjjnlbceoajllaaGreatIdeD
set_option linter.unusedVariables false
set_option linter.unusedSimpArgs false
namespace Ide
open Go Go.RowKit

/-! ### facts on types -/
section types
variable {P : Program} {w : World} {t : TypeId}
theorem info_of_underlying {d : TypeDesc} (h : P.underlying t = some d) : ∃ i, P.info? t = some i := by
  unfold Program.underlying at h
  split at h <;> first | exact ⟨_, ‹_›⟩ | cases h
theorem run_und {d : TypeDesc} (h : P.underlying t = some d) : (underlying t).run P w = .ok d w := run_underlying h w
theorem run_ti {i : TypeInfo} (h : P.info? t = some i) : (typeInfo t).run P w = .ok i w := by
  unfold typeInfo; simp [h]
theorem run_sz {i : TypeInfo} (h : P.info? t = some i) : (Go.sizeOf t).run P w = .ok i.size w := by
  unfold Go.sizeOf; simp [run_ti h]
theorem run_zero {i : TypeInfo} {v : Value} (h : P.info? t = some i) (hz : i.zero = some v) : (zeroValue t).run P w = .ok v w := by
  unfold zeroValue; simp [run_ti h, hz]
theorem ssz_of {i : TypeInfo} (h : P.info? t = some i) : ssz P t = i.size := by simp [ssz, h]
theorem sby_of {i : TypeInfo} (h : P.info? t = some i) : sby P t = i.bytes := by simp [sby, h]
theorem info_of_ssz (h : ssz P t ≠ 0) : ∃ i, P.info? t = some i := by
  unfold ssz at h
  cases hi : P.info? t with
  | none => simp [hi] at h
  | some i => exact ⟨i, rfl⟩
def aggD : TypeDesc → Bool
  | .struct _ | .array _ _ => true
  | _ => false
theorem run_isAgg {d : TypeDesc} (h : P.underlying t = some d) : (isAgg t).run P w = .ok (aggD d) w := by
  unfold isAgg; simp only [Sem.run_bind, run_und h, Result.andThen_ok]
  cases d <;> rfl
end types

theorem zeroV_spec {P : Program} {t : TypeId} {v : Value} (h : zeroV P t = some v) : ∃ i, P.info? t = some i ∧ i.zero = some v ∧ ground v = true := by
  unfold zeroV at h
  cases hi : P.info? t with
  | none => simp [hi] at h
  | some i =>
    simp only [hi, Option.bind_some] at h
    cases hz : i.zero with
    | none => simp [hz] at h
    | some x =>
      simp only [hz] at h
      cases hg : ground x with
      | false => simp [hg] at h
      | true => simp [hg] at h; subst h; exact ⟨i, rfl, hz, hg⟩

theorem vcells_cells {v : Value} {cs : List Value} (h : vcells v = some cs) : v.cells = ⟨cs⟩ := by
  cases v <;> simp_all [vcells, Value.cells]
  all_goals (first | (subst h; rfl) | skip)

theorem zeroOf_spec {P : Program} {t : TypeId} {cs : List Value} (h : zeroOf P t = some cs) : ∃ i v, P.info? t = some i ∧ i.zero = some v ∧ ground v = true ∧ vcells v = some cs ∧ v.cells = ⟨cs⟩ ∧ ground.groundL cs = true := by
  unfold zeroOf at h
  cases hi : P.info? t with
  | none => simp [hi] at h
  | some i =>
    simp only [hi, Option.bind_some] at h
    cases hz : i.zero with
    | none => simp [hz] at h
    | some x =>
      simp only [hz] at h
      cases hg : ground x with
      | false => simp [hg] at h
      | true =>
        simp only [hg, cond_true] at h
        refine ⟨i, x, rfl, hz, hg, h, vcells_cells h, ?_⟩
        cases x <;> simp_all [vcells, ground, ground.groundA, ground.groundL]
        all_goals (first | (subst h; simp_all [ground, ground.groundL]) | skip)
        rename_i cells
        cases cells with | mk l => simp only at h; subst h; simpa [ground.groundA] using hg

/-- Related values have related cells. -/
theorem VRel.vcells {L : LMap} {v v' : Value} {cs : List Value} (h : VRel L v v') (hc : Ide.vcells v = some cs) : ∃ cs', v'.cells = ⟨cs'⟩ ∧ VsRel L cs cs' := by
  cases h <;> simp only [Ide.vcells, anyV, Option.some.injEq, reduceCtorEq] at hc <;> first
    | (subst hc; exact ⟨_, rfl, ‹_›⟩)
    | (subst hc; exact ⟨[_], rfl, .cons (by constructor <;> assumption) .nil⟩)

/-! ### operands -/
def okOpd (nt : Nat) : Operand → Bool
  | .tmp t => Nat.blt t nt
  | .const v => ground v
  | .global _ => false
  | .func _ => true

theorem iev_rel {L : LMap} {nt : Nat} {env : Env} {a : Act} (hT : TRel L nt env a.tmps) {x : Operand} (h : okOpd nt x = true) : VRel L (iev env x) (a.eval x) := by
  cases x with
  | tmp t => exact hT.2 t (by simpa [okOpd, Nat.blt_eq] using h)
  | const v => exact VRel.of_ground L v h
  | global g => simp [okOpd] at h
  | func f => exact .func .nil .nil

theorem ievs_rel {L : LMap} {nt : Nat} {env : Env} {a : Act} (hT : TRel L nt env a.tmps) : ∀ {xs : List Operand}, xs.all (okOpd nt) = true → VsRel L (xs.map (iev env)) (xs.map a.eval)
  | [], _ => .nil
  | x :: xs, h => by
    have h' : okOpd nt x = true ∧ xs.all (okOpd nt) = true := by simpa using h
    exact .cons (iev_rel hT h'.1) (ievs_rel hT h'.2)

/-! ### what an operation comes to -/
def Fits (β : Emb) (w : World) (K : Value → IHeap → Prop) (r : Result Next) : Prop :=
  ∃ (x : Next) (v' : Value) (w' : World), r = .ok x w' ∧ (x = .value v' ∨ x = .skip ∧ v' = undef) ∧ ∃ (β' : Emb) (H' : IHeap) (v : Value), Step β w β' w' ∧ Sim β' H' w' ∧ VRel β'.loc v v' ∧ K v H'

theorem Fits.same {β : Emb} {H : IHeap} {w : World} {K : Value → IHeap → Prop} {r : Result Next} (S : Sim β H w) {v v' : Value} (hr : r = .ok (.value v') w) (hv : VRel β.loc v v') (hk : K v H) : Fits β w K r :=
  ⟨_, v', w, hr, .inl rfl, β, H, v, Step.refl _ _, S, hv, hk⟩

theorem Fits.val {β β' : Emb} {H' : IHeap} {w w' : World} {K : Value → IHeap → Prop} {r : Result Next} {v v' : Value} (hr : r = .ok (.value v') w') (St : Step β w β' w') (S : Sim β' H' w') (hv : VRel β'.loc v v') (hk : K v H') : Fits β w K r :=
  ⟨_, v', w', hr, .inl rfl, β', H', v, St, S, hv, hk⟩

theorem Fits.skip {β β' : Emb} {H' : IHeap} {w w' : World} {K : Value → IHeap → Prop} {r : Result Next} (hr : r = .ok .skip w') (St : Step β w β' w') (S : Sim β' H' w') (hk : K anyV H') : Fits β w K r :=
  ⟨_, undef, w', hr, .inr ⟨rfl, rfl⟩, β', H', anyV, St, S, .any _, hk⟩

/-- A value of the machine's that is made of an ideal one. -/
def Gives (β : Emb) (w : World) (K : Value → IHeap → Prop) (r : Result Value) : Prop :=
  ∃ (v' : Value) (w' : World), r = .ok v' w' ∧ ∃ (β' : Emb) (H' : IHeap) (v : Value), Step β w β' w' ∧ Sim β' H' w' ∧ VRel β'.loc v v' ∧ K v H'

theorem Gives.same {β : Emb} {H : IHeap} {w : World} {K : Value → IHeap → Prop} {r : Result Value} (S : Sim β H w) {v v' : Value} (hr : r = .ok v' w) (hv : VRel β.loc v v') (hk : K v H) : Gives β w K r :=
  ⟨v', w, hr, β, H, v, Step.refl _ _, S, hv, hk⟩

theorem Gives.fits {β : Emb} {w : World} {K : Value → IHeap → Prop} {P : Program} {s : Sem Value} (h : Gives β w K (s.run P w)) : Fits β w K ((do pure (Next.value (← s)) : Sem Next).run P w) := by
  obtain ⟨v', w', hr, β', H', v, h1, h2, h3, h4⟩ := h
  exact .val (by simp [hr]) h1 h2 h3 h4

/-! ### shapes -/
theorem shaped_sound {d : Option TypeDesc} {v : Value} {K : Value → Prop} (h : shaped d v K) : K v := by
  unfold shaped at h
  split at h <;> (first | (simp only [isI, isB, isS, isP, isL, isM, isA] at h; split at h <;> first | exact h | exact h.elim | skip) | exact h)
  rename_i k _ j n
  cases hb : kbeq j k with
  | false => simp [hb] at h
  | true =>
    have : j = k := by cases j <;> cases k <;> first | rfl | simp [kbeq] at hb
    subst this
    simpa [hb] using h

theorem parts_sound {P : Program} : ∀ {ts : List TypeId} {vs acc : List Value} {K : List Value → Prop}, parts P ts vs acc K → K (acc ++ vs)
  | [], vs, acc, K, h => by
    unfold parts tl at h
    split at h
    · exact h.elim
    · simpa using h
  | t :: ts, vs, acc, K, h => by
    unfold parts hd at h
    split at h
    · have := parts_sound (shaped_sound h)
      simpa using this
    · exact h.elim

theorem result_sound {P : Program} {t : TypeId} {v : Value} {K : Value → Prop} (h : result P t v K) : K v := by
  unfold result at h
  split at h
  · unfold isT at h
    split at h
    · simpa using parts_sound h
    · exact h.elim
  · exact shaped_sound h

theorem pcase_sound {a : Option Addr} {K : Nat → Nat → Prop} (h : pcase a K) : ∃ i o, a = some ⟨i, o, none⟩ ∧ K i o := by
  unfold pcase at h
  split at h
  · exact ⟨_, _, rfl, h⟩
  · exact h.elim

theorem acase_sound {a : Option Addr} {K : Nat → Nat → Nat → Prop} (h : acase a K) : ∃ i o q, a = some ⟨i, o, some q⟩ ∧ K i o q := by
  unfold acase at h
  split at h
  · exact ⟨_, _, _, rfl, h⟩
  · exact h.elim

theorem bcase_sound {b : Bool} {X Y : Prop} (h : bcase b X Y) : (b = true → X) ∧ (b = false → Y) := by
  cases b
  · exact ⟨by simp, fun _ => h⟩
  · exact ⟨fun _ => h, by simp⟩

/-! ### loads -/
theorem load_sound {P : Program} {β : Emb} {H : IHeap} {w : World} (S : Sim β H w) {t : TypeId} {i o : Nat} {l : Loc} (hl : β.loc i = some l) {K : Value → Prop} (h : load P t H i o K) :
    ∃ v v', (loadVar t ⟨l.block, l.base + o, none⟩).run P w = .ok v' w ∧ VRel β.loc v v' ∧ K v ∧ (match v with | .agg ⟨cs⟩ => cellsAt H i o cs.length = some cs | v => cellAt H i o = some v) := by
  have one : ∀ {d : TypeDesc} {v : Value}, P.underlying t = some d → aggD d = false → cellAt H i o = some v → (match v with | .agg _ => False | _ => True) → K v → ∃ v v', (loadVar t ⟨l.block, l.base + o, none⟩).run P w = .ok v' w ∧ VRel β.loc v v' ∧ K v ∧ (match v with | .agg ⟨cs⟩ => cellsAt H i o cs.length = some cs | v => cellAt H i o = some v) := by
    intro d v hd hag hc hna hk
    obtain ⟨v', h1, h2⟩ := S.cell hl hc
    refine ⟨v, v', ?_, h2, hk, ?_⟩
    · unfold loadVar
      simp [run_isAgg hd, hag, h1]
    · cases v <;> first | exact hc | exact hna.elim
  have many : ∀ {d : TypeDesc}, P.underlying t = some d → aggD d = true → ldA H i o (ssz P t) (fun cs => K (.agg ⟨cs⟩)) → ∃ v v', (loadVar t ⟨l.block, l.base + o, none⟩).run P w = .ok v' w ∧ VRel β.loc v v' ∧ K v ∧ (match v with | .agg ⟨cs⟩ => cellsAt H i o cs.length = some cs | v => cellAt H i o = some v) := by
    intro d hd hag ⟨cs, hc, hk⟩
    obtain ⟨inf, hi⟩ := info_of_underlying hd
    obtain ⟨cs', h1, h2⟩ := S.loadCells P hl hc
    refine ⟨.agg ⟨cs⟩, .agg ⟨cs'⟩, ?_, .agg h1, hk, ?_⟩
    · unfold loadVar
      rw [ssz_of hi] at h2
      simp [run_isAgg hd, hag, run_sz hi, h2]
    · simp only; rw [cellsAt_length hc]; exact hc
  unfold load at h
  split at h
  · obtain ⟨n, h1, h2⟩ := h; exact one ‹_› rfl h1 trivial h2
  · obtain ⟨n, h1, h2⟩ := h; exact one ‹_› rfl h1 trivial h2
  · obtain ⟨n, h1, h2⟩ := h; exact one ‹_› rfl h1 trivial h2
  · obtain ⟨n, h1, h2⟩ := h; exact one ‹_› rfl h1 trivial h2
  · obtain ⟨a, n, s, h1, h2⟩ := h; exact one ‹_› rfl h1 trivial h2
  · obtain ⟨n, h1, h2⟩ := h; exact one ‹_› rfl h1 trivial h2
  · exact many ‹_› rfl h
  · exact many ‹_› rfl h
  · rename_i d _ _ _ _ _ _ _ _ hd
    obtain ⟨v, h1, hna, h2⟩ := h
    refine one hd ?_ h1 (by cases v <;> simp_all [noAgg]) h2
    cases d <;> first | rfl | simp_all
  · exact h.elim

end Ide
