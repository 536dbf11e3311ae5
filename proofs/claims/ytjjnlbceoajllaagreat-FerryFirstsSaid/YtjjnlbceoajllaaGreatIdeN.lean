/- What does not act gives one value, and gives it again later. -/
import Derived.Test.YtjjnlbceoajllaaGreatIdeM
set_option linter.unusedVariables false
set_option linter.unusedSimpArgs false
namespace Ide
open Go Go.RowKit

/-- The continuation is asked about one thing alone. -/
def Det {α : Type} (F : (α → Prop) → Prop) : Prop := ∀ K, F K → ∃ v, K v ∧ ∀ K', K' v → F K'

theorem Det.pure {α : Type} (x : α) : Det fun K => K x := fun K h => ⟨x, h, fun _ h => h⟩
theorem Det.no {α : Type} : Det fun (_ : α → Prop) => False := fun K h => h.elim
theorem Det.bind {α γ : Type} {F : (α → Prop) → Prop} {G : α → (γ → Prop) → Prop} (hF : Det F) (hG : ∀ a, Det (G a)) : Det fun K => F fun a => G a K := by
  intro K h
  obtain ⟨a, h1, h2⟩ := hF _ h
  obtain ⟨b, h3, h4⟩ := hG a K h1
  exact ⟨b, h3, fun K' h => h2 _ (h4 K' h)⟩
theorem Det.map {α γ : Type} {F : (α → Prop) → Prop} (hF : Det F) (g : α → γ) : Det fun K => F fun a => K (g a) := hF.bind fun a => .pure (g a)
theorem Det.and {α : Type} {F : (α → Prop) → Prop} {p : Prop} (hF : Det F) : Det fun K => p ∧ F K := by
  intro K h
  obtain ⟨a, h1, h2⟩ := hF _ h.2
  exact ⟨a, h1, fun K' h' => ⟨h.1, h2 K' h'⟩⟩
theorem Det.bif {α : Type} {F G : (α → Prop) → Prop} {b : Bool} (hF : Det F) (hG : Det G) : Det fun K => bif b then F K else G K := by
  cases b
  · exact hG
  · exact hF
theorem Det.ex {α γ : Type} {p : γ → Prop} {F : γ → (α → Prop) → Prop} (hF : ∀ a, Det (F a)) : Det fun K => ∃ x, p x ∧ F x K := by
  rintro K ⟨x, hx, h⟩
  obtain ⟨a, h1, h2⟩ := hF x _ h
  exact ⟨a, h1, fun K' h' => ⟨x, hx, h2 K' h'⟩⟩

/-- Two things in a row. -/
def c2 {α γ : Type} (F : (α → γ → Prop) → Prop) : (α × γ → Prop) → Prop := fun K => F fun a b => K (a, b)

section
variable {P : Program} {H : IHeap}

theorem det_pcase {a : Option Addr} : Det (c2 (pcase a)) := by
  unfold c2 pcase; split
  · exact .pure _
  · exact .no
theorem pcase_bind {a : Option Addr} {γ : Type} {G : Nat → Nat → (γ → Prop) → Prop} (hG : ∀ i o, Det (G i o)) : Det fun K => pcase a fun i o => G i o K := by
  unfold pcase; split
  · exact hG _ _
  · exact .no
theorem acase_bind {a : Option Addr} {γ : Type} {G : Nat → Nat → Nat → (γ → Prop) → Prop} (hG : ∀ i o q, Det (G i o q)) : Det fun K => acase a fun i o q => G i o q K := by
  unfold acase; split
  · exact hG _ _ _
  · exact .no
theorem bcase_det {α : Type} {F G : (α → Prop) → Prop} {b : Bool} (hF : Det F) (hG : Det G) : Det fun K => bcase b (F K) (G K) := by
  unfold bcase; cases b
  · exact hG
  · exact hF

theorem det_shaped {d : Option TypeDesc} {v : Value} : Det (shaped d v) := by
  unfold shaped
  split
  · unfold isI; split
    · exact .bif (.pure _) .no
    · exact .no
  · unfold isB; split <;> first | exact .pure _ | exact .no
  · unfold isS; split <;> first | exact .pure _ | exact .no
  · unfold isP; split <;> first | exact .pure _ | exact .no
  · unfold isL; split <;> first | exact .pure _ | exact .no
  · unfold isM; split <;> first | exact .pure _ | exact .no
  · unfold isA; split <;> first | exact .pure _ | exact .no
  · unfold isA; split <;> first | exact .pure _ | exact .no
  · exact .pure _

theorem det_fieldAddr {t : TypeId} {v : Value} {f : Nat} : Det (fieldAddr P t v f) := by
  unfold fieldAddr; split
  · exact pcase_bind fun i o => .pure _
  · exact .no

theorem det_cellOf {cs : List Value} {i : Nat} : Det (cellOf cs i) := by
  unfold cellOf; split
  · exact .pure _
  · exact .no

theorem det_extract {v : Value} {i : Nat} : Det (extractOf v i) := by
  unfold extractOf; split
  · exact det_cellOf
  · exact .no

theorem det_indexAddr {t : TypeId} {v i : Value} : Det (indexAddr P t v i) := by
  unfold indexAddr; split
  · refine .bif ?_ .no
    unfold ixS
    exact .and (.and (acase_bind fun b o q => .pure _))
  · refine .bif ?_ .no
    unfold ixA
    exact .and (.and (pcase_bind fun b o => .pure _))
  · exact .no

theorem det_intBin {op : BinOp} {k : IntKind} {a b : Int} : Det (intBin op k a b) := by
  unfold intBin; split <;> first | exact .pure _ | exact .and (.pure _) | exact .no

theorem det_strBin {op : BinOp} {a b : ByteArray} : Det (strBin op a b) := by
  unfold strBin; split <;> first | exact .pure _ | exact .no

theorem det_eqAgg {t : TypeId} {xs ys : List Value} : Det (eqAgg P t xs ys) := by
  unfold eqAgg; split
  · refine .bif .no ?_
    split
    · exact .pure _
    · exact .no
  · exact .no

theorem det_nilEq {d : Option TypeDesc} {x y : Value} : Det (nilEq d x y) := by
  unfold nilEq; split <;> first | exact .pure _ | exact .no

theorem det_binOp {op : BinOp} {t : TypeId} {x y : Value} : Det (binOp P op t x y) := by
  unfold binOp; split
  · split
    · exact .and (.pure _)
    · exact .and (.pure _)
    · exact .and det_intBin
  · exact det_strBin
  · split
    · split <;> first | exact .pure _ | exact .no
    · split <;> first | exact .pure _ | exact .no
    · exact .no
  · split
    · exact det_eqAgg.map _
    · exact det_eqAgg.map _
    · exact .no
  · split
    · exact det_nilEq.map _
    · exact det_nilEq.map _
    · exact .no

theorem det_unOp {op : UnOp} {x : Value} : Det (unOp op x) := by
  unfold unOp; split <;> first | exact .pure _ | exact .no

theorem det_convert {s d : TypeId} {x : Value} : Det (convert P s d x) := by
  unfold convert; split <;> first | exact .pure _ | exact .no

theorem cut_bind {a : Option Addr} {c sz : Nat} {l h : Int} {m : Option Int} {γ : Type} {G : Option Addr → Nat → Nat → (γ → Prop) → Prop} (hG : ∀ i o q, Det (G i o q)) : Det fun K => cut a c sz l h m fun i o q => G i o q K := by
  unfold cut; split
  · exact .and (.and (.and (hG _ _ _)))
  · split
    · exact .and (.and (.and (.and (hG _ _ _))))
    · exact .and (.and (.and (.and (.and (hG _ _ _)))))
  · exact .no

theorem det_bound {v : Option Value} {d : Int} : Det (bound v d) := by
  unfold bound; split <;> first | exact .pure _ | exact .no
theorem det_boundq {v : Option Value} : Det (bound? v) := by
  unfold bound?; split <;> first | exact .pure _ | exact .no

theorem det_slice {t : TypeId} {x : Value} {lo hi mx : Option Value} : Det (slice P t H x lo hi mx) := by
  unfold slice; split
  · refine .bif ?_ .no
    exact det_bound.bind fun l => det_bound.bind fun h => det_boundq.bind fun m => cut_bind fun a n c => .pure _
  · exact det_bound.bind fun l => det_bound.bind fun h => det_boundq.bind fun m => .and (.and (.and (.and (.pure _))))
  · refine .bif ?_ .no
    refine det_bound.bind fun l => det_bound.bind fun h => det_boundq.bind fun m => .and ?_
    unfold cutArr
    exact .and (.and (.and (pcase_bind fun i o => .and (.pure _))))
  · exact .no

theorem slice_heap {t : TypeId} {x : Value} {lo hi mx : Option Value} {K : Value → Prop} {H' : IHeap} (ha : ∀ n e, P.underlying t ≠ some (.array n e)) (h : slice P t H x lo hi mx K) : slice P t H' x lo hi mx K := by
  unfold slice at h ⊢
  split at h
  · simp only [*]
  · simp only [*]
  · rename_i hu; exact (ha _ _ hu).elim
  · exact h.elim

theorem det_fillL {place : Nat → Option (Nat × Nat)} : ∀ {ps : List (Nat × Value)} {cells : List Value}, Det (fillL place cells ps)
  | [], _ => .pure _
  | (i, v) :: rest, cells => by
    show Det fun K => fillL place cells ((i, v) :: rest) K
    simp only [fillL]; split
    · exact .and det_fillL
    · exact .no

theorem det_build {t : TypeId} {ps : List (Nat × Value)} : Det (build P t ps) := by
  unfold build; split
  · exact .bif (det_fillL.map _) .no
  · exact .bif (det_fillL.map _) .no
  · exact .no

theorem det_pickV {c : Bool} {a b : Value} : Det (pickV c a b) := by
  unfold pickV; split
  · exact .pure _
  · exact bcase_det (.pure _) (.pure _)

theorem det_minMaxGo {mx : Bool} {k : IntKind} : ∀ {vs : List Value} {a : Int}, Det (minMaxGo mx k a vs)
  | [], a => by show Det fun K => minMaxGo mx k a [] K; simp only [minMaxGo]; exact .pure _
  | v :: r, a => by
    show Det fun K => minMaxGo mx k a (v :: r) K
    cases v <;> simp only [minMaxGo] <;> first | exact .no | exact det_minMaxGo

theorem det_minMax {mx : Bool} {vs : List Value} : Det (minMax mx vs) := by
  unfold minMax; split
  · exact det_minMaxGo
  · exact .no

theorem det_mapLook {m : Option Nat} : Det (mapLook H m) := by
  unfold mapLook; split
  · exact .pure _
  · unfold mapAt
    rintro K ⟨es, c, h1, h2⟩
    exact ⟨es, h2, fun K' h' => ⟨es, c, h1, h'⟩⟩

theorem det_lookup {t : TypeId} {m k : Value} {ok : Bool} : Det (lookup P t H m k ok) := by
  unfold lookup; split
  · split
    · refine .and (det_mapLook.bind fun es => ?_)
      unfold lookE; split
      · exact det_shaped.map _
      · exact .pure _
      · exact .no
    · exact .no
  · exact .no

theorem det_lenOf {t : TypeId} {v : Value} : Det (lenOf P t H v) := by
  unfold lenOf; split
  · exact .pure _
  · exact .pure _
  · exact .pure _
  · split
    · exact .pure _
    · exact .no
  · exact det_mapLook.map _
  · exact .no

theorem det_load {t : TypeId} {i o : Nat} : Det (load P t H i o) := by
  unfold load; split
  · unfold ldI; exact .ex fun _ => .pure _
  · unfold ldB; exact .ex fun _ => .pure _
  · unfold ldS; exact .ex fun _ => .pure _
  · unfold ldP; exact .ex fun _ => .pure _
  · unfold ldL
    rintro K ⟨a, n, s, h1, h2⟩
    exact ⟨_, h2, fun K' h' => ⟨a, n, s, h1, h'⟩⟩
  · unfold ldM; exact .ex fun _ => .pure _
  · unfold ldA; exact .ex fun _ => .pure _
  · unfold ldA; exact .ex fun _ => .pure _
  · unfold ldV
    rintro K ⟨v, h1, h2, h3⟩
    exact ⟨v, h3, fun K' h' => ⟨v, h1, h2, h'⟩⟩
  · exact .no

end
end Ide
