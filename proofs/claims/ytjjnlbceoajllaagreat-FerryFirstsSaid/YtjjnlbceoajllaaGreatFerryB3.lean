/- Runs with 3 machines. -/
import Derived.Test.YtjjnlbceoajllaaGreatFerryA
set_option linter.unusedVariables false
set_option linter.unusedSimpArgs false
set_option maxRecDepth 100000
open Go Go.RowKit Ide
namespace Go.Proofs.YtjjnlbceoajllaaGreat.Firsts
open Go.Proofs

theorem good_3_1 (h0 : Int) (a0 : 0 ≤ h0) (b0 : h0 < 3) : runLaw 3 [h0] := by
  refine Eq.mp (α := ((decide (h0 < 0)) = false ∧ (false = false ∧ (false = false ∧ ((decide (h0 ≥ 3)) = false ∧ ((decide (h0 < 0)) = false ∧ (false = false ∧ (false = false ∧ ((decide (h0 ≥ 3)) = false ∧ ((!(((h0 == 0) == (h0 == 0)) && ((h0 == h0) && (true && true)))) = false ∧ ((!(((h0 == 1) == (h0 == 1)) && ((h0 == h0) && (true && true)))) = false ∧ ((!(((h0 == 2) == (h0 == 2)) && ((h0 == h0) && (true && true)))) = false ∧ (Value.bool true = Value.bool true))))))))))))) (by kernel_rfl) ?_
  refine ⟨?_, ?_, ?_, ?_, ?_, ?_, ?_, ?_, ?_, ?_, ?_, rfl⟩ <;> simp <;> omega

theorem good_3_2 (h0 h1 : Int) (a0 : 0 ≤ h0) (b0 : h0 < 3) (a1 : 0 ≤ h1) (b1 : h1 < 3) : runLaw 3 [h0, h1] := by
  refine Eq.mp (α := ((decide (h0 < 0)) = false ∧ (false = false ∧ (false = false ∧ ((decide (h0 ≥ 3)) = false ∧ ((decide (h1 < 0)) = false ∧ (false = false ∧ (false = false ∧ ((decide (h1 ≥ 3)) = false ∧ ((decide (h0 < 0)) = false ∧ (false = false ∧ (false = false ∧ ((decide (h0 ≥ 3)) = false ∧ ((decide (h1 < 0)) = false ∧ (false = false ∧ (false = false ∧ ((decide (h1 ≥ 3)) = false ∧ ((!(((h0 == 0) == (h0 == 0)) && ((h0 == h0) && (true && true)))) = false ∧ ((!(((h1 == 0) == (h1 == 0)) && ((h1 == h1) && (true && true)))) = false ∧ ((!(((h0 == 1) == (h0 == 1)) && ((h0 == h0) && (true && true)))) = false ∧ ((!(((h1 == 1) == (h1 == 1)) && ((h1 == h1) && (true && true)))) = false ∧ ((!(((h0 == 2) == (h0 == 2)) && ((h0 == h0) && (true && true)))) = false ∧ ((!(((h1 == 2) == (h1 == 2)) && ((h1 == h1) && (true && true)))) = false ∧ (Value.bool true = Value.bool true)))))))))))))))))))))))) (by kernel_rfl) ?_
  refine ⟨?_, ?_, ?_, ?_, ?_, ?_, ?_, ?_, ?_, ?_, ?_, ?_, ?_, ?_, ?_, ?_, ?_, ?_, ?_, ?_, ?_, ?_, rfl⟩ <;> simp <;> omega

theorem good_3_3 (h0 h1 h2 : Int) (a0 : 0 ≤ h0) (b0 : h0 < 3) (a1 : 0 ≤ h1) (b1 : h1 < 3) (a2 : 0 ≤ h2) (b2 : h2 < 3) : runLaw 3 [h0, h1, h2] := by
  refine Eq.mp (α := ((decide (h0 < 0)) = false ∧ (false = false ∧ (false = false ∧ ((decide (h0 ≥ 3)) = false ∧ ((decide (h1 < 0)) = false ∧ (false = false ∧ (false = false ∧ ((decide (h1 ≥ 3)) = false ∧ ((decide (h2 < 0)) = false ∧ (false = false ∧ (false = false ∧ ((decide (h2 ≥ 3)) = false ∧ ((decide (h0 < 0)) = false ∧ (false = false ∧ (false = false ∧ ((decide (h0 ≥ 3)) = false ∧ ((decide (h1 < 0)) = false ∧ (false = false ∧ (false = false ∧ ((decide (h1 ≥ 3)) = false ∧ ((decide (h2 < 0)) = false ∧ (false = false ∧ (false = false ∧ ((decide (h2 ≥ 3)) = false ∧ ((!(((h0 == 0) == (h0 == 0)) && ((h0 == h0) && (true && true)))) = false ∧ ((!(((h1 == 0) == (h1 == 0)) && ((h1 == h1) && (true && true)))) = false ∧ ((!(((h2 == 0) == (h2 == 0)) && ((h2 == h2) && (true && true)))) = false ∧ ((!(((h0 == 1) == (h0 == 1)) && ((h0 == h0) && (true && true)))) = false ∧ ((!(((h1 == 1) == (h1 == 1)) && ((h1 == h1) && (true && true)))) = false ∧ ((!(((h2 == 1) == (h2 == 1)) && ((h2 == h2) && (true && true)))) = false ∧ ((!(((h0 == 2) == (h0 == 2)) && ((h0 == h0) && (true && true)))) = false ∧ ((!(((h1 == 2) == (h1 == 2)) && ((h1 == h1) && (true && true)))) = false ∧ ((!(((h2 == 2) == (h2 == 2)) && ((h2 == h2) && (true && true)))) = false ∧ (Value.bool true = Value.bool true))))))))))))))))))))))))))))))))))) (by kernel_rfl) ?_
  refine ⟨?_, ?_, ?_, ?_, ?_, ?_, ?_, ?_, ?_, ?_, ?_, ?_, ?_, ?_, ?_, ?_, ?_, ?_, ?_, ?_, ?_, ?_, ?_, ?_, ?_, ?_, ?_, ?_, ?_, ?_, ?_, ?_, ?_, rfl⟩ <;> simp <;> omega

theorem good_3_4 (h0 h1 h2 h3 : Int) (a0 : 0 ≤ h0) (b0 : h0 < 3) (a1 : 0 ≤ h1) (b1 : h1 < 3) (a2 : 0 ≤ h2) (b2 : h2 < 3) (a3 : 0 ≤ h3) (b3 : h3 < 3) : runLaw 3 [h0, h1, h2, h3] := by
  refine Eq.mp (α := ((decide (h0 < 0)) = false ∧ (false = false ∧ (false = false ∧ ((decide (h0 ≥ 3)) = false ∧ ((decide (h1 < 0)) = false ∧ (false = false ∧ (false = false ∧ ((decide (h1 ≥ 3)) = false ∧ ((decide (h2 < 0)) = false ∧ (false = false ∧ (false = false ∧ ((decide (h2 ≥ 3)) = false ∧ ((decide (h3 < 0)) = false ∧ (false = false ∧ (false = false ∧ ((decide (h3 ≥ 3)) = false ∧ ((decide (h0 < 0)) = false ∧ (false = false ∧ (false = false ∧ ((decide (h0 ≥ 3)) = false ∧ ((decide (h1 < 0)) = false ∧ (false = false ∧ (false = false ∧ ((decide (h1 ≥ 3)) = false ∧ ((decide (h2 < 0)) = false ∧ (false = false ∧ (false = false ∧ ((decide (h2 ≥ 3)) = false ∧ ((decide (h3 < 0)) = false ∧ (false = false ∧ (false = false ∧ ((decide (h3 ≥ 3)) = false ∧ ((!(((h0 == 0) == (h0 == 0)) && ((h0 == h0) && (true && true)))) = false ∧ ((!(((h1 == 0) == (h1 == 0)) && ((h1 == h1) && (true && true)))) = false ∧ ((!(((h2 == 0) == (h2 == 0)) && ((h2 == h2) && (true && true)))) = false ∧ ((!(((h3 == 0) == (h3 == 0)) && ((h3 == h3) && (true && true)))) = false ∧ ((!(((h0 == 1) == (h0 == 1)) && ((h0 == h0) && (true && true)))) = false ∧ ((!(((h1 == 1) == (h1 == 1)) && ((h1 == h1) && (true && true)))) = false ∧ ((!(((h2 == 1) == (h2 == 1)) && ((h2 == h2) && (true && true)))) = false ∧ ((!(((h3 == 1) == (h3 == 1)) && ((h3 == h3) && (true && true)))) = false ∧ ((!(((h0 == 2) == (h0 == 2)) && ((h0 == h0) && (true && true)))) = false ∧ ((!(((h1 == 2) == (h1 == 2)) && ((h1 == h1) && (true && true)))) = false ∧ ((!(((h2 == 2) == (h2 == 2)) && ((h2 == h2) && (true && true)))) = false ∧ ((!(((h3 == 2) == (h3 == 2)) && ((h3 == h3) && (true && true)))) = false ∧ (Value.bool true = Value.bool true)))))))))))))))))))))))))))))))))))))))))))))) (by kernel_rfl) ?_
  refine ⟨?_, ?_, ?_, ?_, ?_, ?_, ?_, ?_, ?_, ?_, ?_, ?_, ?_, ?_, ?_, ?_, ?_, ?_, ?_, ?_, ?_, ?_, ?_, ?_, ?_, ?_, ?_, ?_, ?_, ?_, ?_, ?_, ?_, ?_, ?_, ?_, ?_, ?_, ?_, ?_, ?_, ?_, ?_, ?_, rfl⟩ <;> simp <;> omega

theorem good_3_5 (h0 h1 h2 h3 h4 : Int) (a0 : 0 ≤ h0) (b0 : h0 < 3) (a1 : 0 ≤ h1) (b1 : h1 < 3) (a2 : 0 ≤ h2) (b2 : h2 < 3) (a3 : 0 ≤ h3) (b3 : h3 < 3) (a4 : 0 ≤ h4) (b4 : h4 < 3) : runLaw 3 [h0, h1, h2, h3, h4] := by
  refine Eq.mp (α := ((decide (h0 < 0)) = false ∧ (false = false ∧ (false = false ∧ ((decide (h0 ≥ 3)) = false ∧ ((decide (h1 < 0)) = false ∧ (false = false ∧ (false = false ∧ ((decide (h1 ≥ 3)) = false ∧ ((decide (h2 < 0)) = false ∧ (false = false ∧ (false = false ∧ ((decide (h2 ≥ 3)) = false ∧ ((decide (h3 < 0)) = false ∧ (false = false ∧ (false = false ∧ ((decide (h3 ≥ 3)) = false ∧ ((decide (h4 < 0)) = false ∧ (false = false ∧ (false = false ∧ ((decide (h4 ≥ 3)) = false ∧ ((decide (h0 < 0)) = false ∧ (false = false ∧ (false = false ∧ ((decide (h0 ≥ 3)) = false ∧ ((decide (h1 < 0)) = false ∧ (false = false ∧ (false = false ∧ ((decide (h1 ≥ 3)) = false ∧ ((decide (h2 < 0)) = false ∧ (false = false ∧ (false = false ∧ ((decide (h2 ≥ 3)) = false ∧ ((decide (h3 < 0)) = false ∧ (false = false ∧ (false = false ∧ ((decide (h3 ≥ 3)) = false ∧ ((decide (h4 < 0)) = false ∧ (false = false ∧ (false = false ∧ ((decide (h4 ≥ 3)) = false ∧ ((!(((h0 == 0) == (h0 == 0)) && ((h0 == h0) && (true && true)))) = false ∧ ((!(((h1 == 0) == (h1 == 0)) && ((h1 == h1) && (true && true)))) = false ∧ ((!(((h2 == 0) == (h2 == 0)) && ((h2 == h2) && (true && true)))) = false ∧ ((!(((h3 == 0) == (h3 == 0)) && ((h3 == h3) && (true && true)))) = false ∧ ((!(((h4 == 0) == (h4 == 0)) && ((h4 == h4) && (true && true)))) = false ∧ ((!(((h0 == 1) == (h0 == 1)) && ((h0 == h0) && (true && true)))) = false ∧ ((!(((h1 == 1) == (h1 == 1)) && ((h1 == h1) && (true && true)))) = false ∧ ((!(((h2 == 1) == (h2 == 1)) && ((h2 == h2) && (true && true)))) = false ∧ ((!(((h3 == 1) == (h3 == 1)) && ((h3 == h3) && (true && true)))) = false ∧ ((!(((h4 == 1) == (h4 == 1)) && ((h4 == h4) && (true && true)))) = false ∧ ((!(((h0 == 2) == (h0 == 2)) && ((h0 == h0) && (true && true)))) = false ∧ ((!(((h1 == 2) == (h1 == 2)) && ((h1 == h1) && (true && true)))) = false ∧ ((!(((h2 == 2) == (h2 == 2)) && ((h2 == h2) && (true && true)))) = false ∧ ((!(((h3 == 2) == (h3 == 2)) && ((h3 == h3) && (true && true)))) = false ∧ ((!(((h4 == 2) == (h4 == 2)) && ((h4 == h4) && (true && true)))) = false ∧ (Value.bool true = Value.bool true))))))))))))))))))))))))))))))))))))))))))))))))))))))))) (by kernel_rfl) ?_
  refine ⟨?_, ?_, ?_, ?_, ?_, ?_, ?_, ?_, ?_, ?_, ?_, ?_, ?_, ?_, ?_, ?_, ?_, ?_, ?_, ?_, ?_, ?_, ?_, ?_, ?_, ?_, ?_, ?_, ?_, ?_, ?_, ?_, ?_, ?_, ?_, ?_, ?_, ?_, ?_, ?_, ?_, ?_, ?_, ?_, ?_, ?_, ?_, ?_, ?_, ?_, ?_, ?_, ?_, ?_, ?_, rfl⟩ <;> simp <;> omega

theorem good_3_6 (h0 h1 h2 h3 h4 h5 : Int) (a0 : 0 ≤ h0) (b0 : h0 < 3) (a1 : 0 ≤ h1) (b1 : h1 < 3) (a2 : 0 ≤ h2) (b2 : h2 < 3) (a3 : 0 ≤ h3) (b3 : h3 < 3) (a4 : 0 ≤ h4) (b4 : h4 < 3) (a5 : 0 ≤ h5) (b5 : h5 < 3) : runLaw 3 [h0, h1, h2, h3, h4, h5] := by
  refine Eq.mp (α := ((decide (h0 < 0)) = false ∧ (false = false ∧ (false = false ∧ ((decide (h0 ≥ 3)) = false ∧ ((decide (h1 < 0)) = false ∧ (false = false ∧ (false = false ∧ ((decide (h1 ≥ 3)) = false ∧ ((decide (h2 < 0)) = false ∧ (false = false ∧ (false = false ∧ ((decide (h2 ≥ 3)) = false ∧ ((decide (h3 < 0)) = false ∧ (false = false ∧ (false = false ∧ ((decide (h3 ≥ 3)) = false ∧ ((decide (h4 < 0)) = false ∧ (false = false ∧ (false = false ∧ ((decide (h4 ≥ 3)) = false ∧ ((decide (h5 < 0)) = false ∧ (false = false ∧ (false = false ∧ ((decide (h5 ≥ 3)) = false ∧ ((decide (h0 < 0)) = false ∧ (false = false ∧ (false = false ∧ ((decide (h0 ≥ 3)) = false ∧ ((decide (h1 < 0)) = false ∧ (false = false ∧ (false = false ∧ ((decide (h1 ≥ 3)) = false ∧ ((decide (h2 < 0)) = false ∧ (false = false ∧ (false = false ∧ ((decide (h2 ≥ 3)) = false ∧ ((decide (h3 < 0)) = false ∧ (false = false ∧ (false = false ∧ ((decide (h3 ≥ 3)) = false ∧ ((decide (h4 < 0)) = false ∧ (false = false ∧ (false = false ∧ ((decide (h4 ≥ 3)) = false ∧ ((decide (h5 < 0)) = false ∧ (false = false ∧ (false = false ∧ ((decide (h5 ≥ 3)) = false ∧ ((!(((h0 == 0) == (h0 == 0)) && ((h0 == h0) && (true && true)))) = false ∧ ((!(((h1 == 0) == (h1 == 0)) && ((h1 == h1) && (true && true)))) = false ∧ ((!(((h2 == 0) == (h2 == 0)) && ((h2 == h2) && (true && true)))) = false ∧ ((!(((h3 == 0) == (h3 == 0)) && ((h3 == h3) && (true && true)))) = false ∧ ((!(((h4 == 0) == (h4 == 0)) && ((h4 == h4) && (true && true)))) = false ∧ ((!(((h5 == 0) == (h5 == 0)) && ((h5 == h5) && (true && true)))) = false ∧ ((!(((h0 == 1) == (h0 == 1)) && ((h0 == h0) && (true && true)))) = false ∧ ((!(((h1 == 1) == (h1 == 1)) && ((h1 == h1) && (true && true)))) = false ∧ ((!(((h2 == 1) == (h2 == 1)) && ((h2 == h2) && (true && true)))) = false ∧ ((!(((h3 == 1) == (h3 == 1)) && ((h3 == h3) && (true && true)))) = false ∧ ((!(((h4 == 1) == (h4 == 1)) && ((h4 == h4) && (true && true)))) = false ∧ ((!(((h5 == 1) == (h5 == 1)) && ((h5 == h5) && (true && true)))) = false ∧ ((!(((h0 == 2) == (h0 == 2)) && ((h0 == h0) && (true && true)))) = false ∧ ((!(((h1 == 2) == (h1 == 2)) && ((h1 == h1) && (true && true)))) = false ∧ ((!(((h2 == 2) == (h2 == 2)) && ((h2 == h2) && (true && true)))) = false ∧ ((!(((h3 == 2) == (h3 == 2)) && ((h3 == h3) && (true && true)))) = false ∧ ((!(((h4 == 2) == (h4 == 2)) && ((h4 == h4) && (true && true)))) = false ∧ ((!(((h5 == 2) == (h5 == 2)) && ((h5 == h5) && (true && true)))) = false ∧ (Value.bool true = Value.bool true)))))))))))))))))))))))))))))))))))))))))))))))))))))))))))))))))))) (by kernel_rfl) ?_
  refine ⟨?_, ?_, ?_, ?_, ?_, ?_, ?_, ?_, ?_, ?_, ?_, ?_, ?_, ?_, ?_, ?_, ?_, ?_, ?_, ?_, ?_, ?_, ?_, ?_, ?_, ?_, ?_, ?_, ?_, ?_, ?_, ?_, ?_, ?_, ?_, ?_, ?_, ?_, ?_, ?_, ?_, ?_, ?_, ?_, ?_, ?_, ?_, ?_, ?_, ?_, ?_, ?_, ?_, ?_, ?_, ?_, ?_, ?_, ?_, ?_, ?_, ?_, ?_, ?_, ?_, ?_, rfl⟩ <;> simp <;> omega

theorem good_3_7 (h0 h1 h2 h3 h4 h5 h6 : Int) (a0 : 0 ≤ h0) (b0 : h0 < 3) (a1 : 0 ≤ h1) (b1 : h1 < 3) (a2 : 0 ≤ h2) (b2 : h2 < 3) (a3 : 0 ≤ h3) (b3 : h3 < 3) (a4 : 0 ≤ h4) (b4 : h4 < 3) (a5 : 0 ≤ h5) (b5 : h5 < 3) (a6 : 0 ≤ h6) (b6 : h6 < 3) : runLaw 3 [h0, h1, h2, h3, h4, h5, h6] := by
  refine Eq.mp (α := ((decide (h0 < 0)) = false ∧ (false = false ∧ (false = false ∧ ((decide (h0 ≥ 3)) = false ∧ ((decide (h1 < 0)) = false ∧ (false = false ∧ (false = false ∧ ((decide (h1 ≥ 3)) = false ∧ ((decide (h2 < 0)) = false ∧ (false = false ∧ (false = false ∧ ((decide (h2 ≥ 3)) = false ∧ ((decide (h3 < 0)) = false ∧ (false = false ∧ (false = false ∧ ((decide (h3 ≥ 3)) = false ∧ ((decide (h4 < 0)) = false ∧ (false = false ∧ (false = false ∧ ((decide (h4 ≥ 3)) = false ∧ ((decide (h5 < 0)) = false ∧ (false = false ∧ (false = false ∧ ((decide (h5 ≥ 3)) = false ∧ ((decide (h6 < 0)) = false ∧ (false = false ∧ (false = false ∧ ((decide (h6 ≥ 3)) = false ∧ ((decide (h0 < 0)) = false ∧ (false = false ∧ (false = false ∧ ((decide (h0 ≥ 3)) = false ∧ ((decide (h1 < 0)) = false ∧ (false = false ∧ (false = false ∧ ((decide (h1 ≥ 3)) = false ∧ ((decide (h2 < 0)) = false ∧ (false = false ∧ (false = false ∧ ((decide (h2 ≥ 3)) = false ∧ ((decide (h3 < 0)) = false ∧ (false = false ∧ (false = false ∧ ((decide (h3 ≥ 3)) = false ∧ ((decide (h4 < 0)) = false ∧ (false = false ∧ (false = false ∧ ((decide (h4 ≥ 3)) = false ∧ ((decide (h5 < 0)) = false ∧ (false = false ∧ (false = false ∧ ((decide (h5 ≥ 3)) = false ∧ ((decide (h6 < 0)) = false ∧ (false = false ∧ (false = false ∧ ((decide (h6 ≥ 3)) = false ∧ ((!(((h0 == 0) == (h0 == 0)) && ((h0 == h0) && (true && true)))) = false ∧ ((!(((h1 == 0) == (h1 == 0)) && ((h1 == h1) && (true && true)))) = false ∧ ((!(((h2 == 0) == (h2 == 0)) && ((h2 == h2) && (true && true)))) = false ∧ ((!(((h3 == 0) == (h3 == 0)) && ((h3 == h3) && (true && true)))) = false ∧ ((!(((h4 == 0) == (h4 == 0)) && ((h4 == h4) && (true && true)))) = false ∧ ((!(((h5 == 0) == (h5 == 0)) && ((h5 == h5) && (true && true)))) = false ∧ ((!(((h6 == 0) == (h6 == 0)) && ((h6 == h6) && (true && true)))) = false ∧ ((!(((h0 == 1) == (h0 == 1)) && ((h0 == h0) && (true && true)))) = false ∧ ((!(((h1 == 1) == (h1 == 1)) && ((h1 == h1) && (true && true)))) = false ∧ ((!(((h2 == 1) == (h2 == 1)) && ((h2 == h2) && (true && true)))) = false ∧ ((!(((h3 == 1) == (h3 == 1)) && ((h3 == h3) && (true && true)))) = false ∧ ((!(((h4 == 1) == (h4 == 1)) && ((h4 == h4) && (true && true)))) = false ∧ ((!(((h5 == 1) == (h5 == 1)) && ((h5 == h5) && (true && true)))) = false ∧ ((!(((h6 == 1) == (h6 == 1)) && ((h6 == h6) && (true && true)))) = false ∧ ((!(((h0 == 2) == (h0 == 2)) && ((h0 == h0) && (true && true)))) = false ∧ ((!(((h1 == 2) == (h1 == 2)) && ((h1 == h1) && (true && true)))) = false ∧ ((!(((h2 == 2) == (h2 == 2)) && ((h2 == h2) && (true && true)))) = false ∧ ((!(((h3 == 2) == (h3 == 2)) && ((h3 == h3) && (true && true)))) = false ∧ ((!(((h4 == 2) == (h4 == 2)) && ((h4 == h4) && (true && true)))) = false ∧ ((!(((h5 == 2) == (h5 == 2)) && ((h5 == h5) && (true && true)))) = false ∧ ((!(((h6 == 2) == (h6 == 2)) && ((h6 == h6) && (true && true)))) = false ∧ (Value.bool true = Value.bool true))))))))))))))))))))))))))))))))))))))))))))))))))))))))))))))))))))))))))))))) (by kernel_rfl) ?_
  refine ⟨?_, ?_, ?_, ?_, ?_, ?_, ?_, ?_, ?_, ?_, ?_, ?_, ?_, ?_, ?_, ?_, ?_, ?_, ?_, ?_, ?_, ?_, ?_, ?_, ?_, ?_, ?_, ?_, ?_, ?_, ?_, ?_, ?_, ?_, ?_, ?_, ?_, ?_, ?_, ?_, ?_, ?_, ?_, ?_, ?_, ?_, ?_, ?_, ?_, ?_, ?_, ?_, ?_, ?_, ?_, ?_, ?_, ?_, ?_, ?_, ?_, ?_, ?_, ?_, ?_, ?_, ?_, ?_, ?_, ?_, ?_, ?_, ?_, ?_, ?_, ?_, ?_, rfl⟩ <;> simp <;> omega

theorem good_3_8 (h0 h1 h2 h3 h4 h5 h6 h7 : Int) (a0 : 0 ≤ h0) (b0 : h0 < 3) (a1 : 0 ≤ h1) (b1 : h1 < 3) (a2 : 0 ≤ h2) (b2 : h2 < 3) (a3 : 0 ≤ h3) (b3 : h3 < 3) (a4 : 0 ≤ h4) (b4 : h4 < 3) (a5 : 0 ≤ h5) (b5 : h5 < 3) (a6 : 0 ≤ h6) (b6 : h6 < 3) (a7 : 0 ≤ h7) (b7 : h7 < 3) : runLaw 3 [h0, h1, h2, h3, h4, h5, h6, h7] := by
  refine Eq.mp (α := ((decide (h0 < 0)) = false ∧ (false = false ∧ (false = false ∧ ((decide (h0 ≥ 3)) = false ∧ ((decide (h1 < 0)) = false ∧ (false = false ∧ (false = false ∧ ((decide (h1 ≥ 3)) = false ∧ ((decide (h2 < 0)) = false ∧ (false = false ∧ (false = false ∧ ((decide (h2 ≥ 3)) = false ∧ ((decide (h3 < 0)) = false ∧ (false = false ∧ (false = false ∧ ((decide (h3 ≥ 3)) = false ∧ ((decide (h4 < 0)) = false ∧ (false = false ∧ (false = false ∧ ((decide (h4 ≥ 3)) = false ∧ ((decide (h5 < 0)) = false ∧ (false = false ∧ (false = false ∧ ((decide (h5 ≥ 3)) = false ∧ ((decide (h6 < 0)) = false ∧ (false = false ∧ (false = false ∧ ((decide (h6 ≥ 3)) = false ∧ ((decide (h7 < 0)) = false ∧ (false = false ∧ (false = false ∧ ((decide (h7 ≥ 3)) = false ∧ ((decide (h0 < 0)) = false ∧ (false = false ∧ (false = false ∧ ((decide (h0 ≥ 3)) = false ∧ ((decide (h1 < 0)) = false ∧ (false = false ∧ (false = false ∧ ((decide (h1 ≥ 3)) = false ∧ ((decide (h2 < 0)) = false ∧ (false = false ∧ (false = false ∧ ((decide (h2 ≥ 3)) = false ∧ ((decide (h3 < 0)) = false ∧ (false = false ∧ (false = false ∧ ((decide (h3 ≥ 3)) = false ∧ ((decide (h4 < 0)) = false ∧ (false = false ∧ (false = false ∧ ((decide (h4 ≥ 3)) = false ∧ ((decide (h5 < 0)) = false ∧ (false = false ∧ (false = false ∧ ((decide (h5 ≥ 3)) = false ∧ ((decide (h6 < 0)) = false ∧ (false = false ∧ (false = false ∧ ((decide (h6 ≥ 3)) = false ∧ ((decide (h7 < 0)) = false ∧ (false = false ∧ (false = false ∧ ((decide (h7 ≥ 3)) = false ∧ ((!(((h0 == 0) == (h0 == 0)) && ((h0 == h0) && (true && true)))) = false ∧ ((!(((h1 == 0) == (h1 == 0)) && ((h1 == h1) && (true && true)))) = false ∧ ((!(((h2 == 0) == (h2 == 0)) && ((h2 == h2) && (true && true)))) = false ∧ ((!(((h3 == 0) == (h3 == 0)) && ((h3 == h3) && (true && true)))) = false ∧ ((!(((h4 == 0) == (h4 == 0)) && ((h4 == h4) && (true && true)))) = false ∧ ((!(((h5 == 0) == (h5 == 0)) && ((h5 == h5) && (true && true)))) = false ∧ ((!(((h6 == 0) == (h6 == 0)) && ((h6 == h6) && (true && true)))) = false ∧ ((!(((h7 == 0) == (h7 == 0)) && ((h7 == h7) && (true && true)))) = false ∧ ((!(((h0 == 1) == (h0 == 1)) && ((h0 == h0) && (true && true)))) = false ∧ ((!(((h1 == 1) == (h1 == 1)) && ((h1 == h1) && (true && true)))) = false ∧ ((!(((h2 == 1) == (h2 == 1)) && ((h2 == h2) && (true && true)))) = false ∧ ((!(((h3 == 1) == (h3 == 1)) && ((h3 == h3) && (true && true)))) = false ∧ ((!(((h4 == 1) == (h4 == 1)) && ((h4 == h4) && (true && true)))) = false ∧ ((!(((h5 == 1) == (h5 == 1)) && ((h5 == h5) && (true && true)))) = false ∧ ((!(((h6 == 1) == (h6 == 1)) && ((h6 == h6) && (true && true)))) = false ∧ ((!(((h7 == 1) == (h7 == 1)) && ((h7 == h7) && (true && true)))) = false ∧ ((!(((h0 == 2) == (h0 == 2)) && ((h0 == h0) && (true && true)))) = false ∧ ((!(((h1 == 2) == (h1 == 2)) && ((h1 == h1) && (true && true)))) = false ∧ ((!(((h2 == 2) == (h2 == 2)) && ((h2 == h2) && (true && true)))) = false ∧ ((!(((h3 == 2) == (h3 == 2)) && ((h3 == h3) && (true && true)))) = false ∧ ((!(((h4 == 2) == (h4 == 2)) && ((h4 == h4) && (true && true)))) = false ∧ ((!(((h5 == 2) == (h5 == 2)) && ((h5 == h5) && (true && true)))) = false ∧ ((!(((h6 == 2) == (h6 == 2)) && ((h6 == h6) && (true && true)))) = false ∧ ((!(((h7 == 2) == (h7 == 2)) && ((h7 == h7) && (true && true)))) = false ∧ (Value.bool true = Value.bool true)))))))))))))))))))))))))))))))))))))))))))))))))))))))))))))))))))))))))))))))))))))))))) (by kernel_rfl) ?_
  refine ⟨?_, ?_, ?_, ?_, ?_, ?_, ?_, ?_, ?_, ?_, ?_, ?_, ?_, ?_, ?_, ?_, ?_, ?_, ?_, ?_, ?_, ?_, ?_, ?_, ?_, ?_, ?_, ?_, ?_, ?_, ?_, ?_, ?_, ?_, ?_, ?_, ?_, ?_, ?_, ?_, ?_, ?_, ?_, ?_, ?_, ?_, ?_, ?_, ?_, ?_, ?_, ?_, ?_, ?_, ?_, ?_, ?_, ?_, ?_, ?_, ?_, ?_, ?_, ?_, ?_, ?_, ?_, ?_, ?_, ?_, ?_, ?_, ?_, ?_, ?_, ?_, ?_, ?_, ?_, ?_, ?_, ?_, ?_, ?_, ?_, ?_, ?_, ?_, rfl⟩ <;> simp <;> omega

theorem bad7_3_1 (h0 : Int) (hb : ¬ ((0 ≤ h0 ∧ h0 < 3))) : runTo 7 3 [h0] zero7 := by
  refine Eq.mp (α := (Ide.bcase (decide (h0 < 0))
 (Value.tuple ⟨[Value.agg ⟨[Value.slice none 0 0, Value.slice none 0 0, Value.slice none 0 0, Value.slice none 0 0, Value.slice none 0 0, Value.int IntKind.i64 0]⟩, Value.bool false]⟩ = zero7)
 (Ide.bcase (decide (h0 ≥ 3))
 (Value.tuple ⟨[Value.agg ⟨[Value.slice none 0 0, Value.slice none 0 0, Value.slice none 0 0, Value.slice none 0 0, Value.slice none 0 0, Value.int IntKind.i64 0]⟩, Value.bool false]⟩ = zero7)
 (Value.tuple ⟨[Value.agg ⟨[Value.slice (some ⟨4, 0, some 2⟩) 1 1, Value.slice (some ⟨6, 0, some 2⟩) 1 1, Value.slice (some ⟨22, 0, some 2⟩) 3 3, Value.slice (some ⟨24, 0, some 2⟩) 3 3, Value.slice none 0 0, Value.int IntKind.i64 0]⟩, Value.bool true]⟩ = zero7)))) (by kernel_rfl) ?_
  repeat' first
    | exact rfl
    | refine bcI (fun h => ?_) (fun h => ?_)
    | (exfalso; apply hb; simp only [decide_eq_false_iff_not, ge_iff_le] at *; omega)

theorem bad7_3_2 (h0 h1 : Int) (hb : ¬ ((0 ≤ h0 ∧ h0 < 3) ∧ (0 ≤ h1 ∧ h1 < 3))) : runTo 7 3 [h0, h1] zero7 := by
  refine Eq.mp (α := (Ide.bcase (decide (h0 < 0))
 (Value.tuple ⟨[Value.agg ⟨[Value.slice none 0 0, Value.slice none 0 0, Value.slice none 0 0, Value.slice none 0 0, Value.slice none 0 0, Value.int IntKind.i64 0]⟩, Value.bool false]⟩ = zero7)
 (Ide.bcase (decide (h0 ≥ 3))
 (Value.tuple ⟨[Value.agg ⟨[Value.slice none 0 0, Value.slice none 0 0, Value.slice none 0 0, Value.slice none 0 0, Value.slice none 0 0, Value.int IntKind.i64 0]⟩, Value.bool false]⟩ = zero7)
 (Ide.bcase (decide (h1 < 0))
 (Value.tuple ⟨[Value.agg ⟨[Value.slice none 0 0, Value.slice none 0 0, Value.slice none 0 0, Value.slice none 0 0, Value.slice none 0 0, Value.int IntKind.i64 0]⟩, Value.bool false]⟩ = zero7)
 (Ide.bcase (decide (h1 ≥ 3))
 (Value.tuple ⟨[Value.agg ⟨[Value.slice none 0 0, Value.slice none 0 0, Value.slice none 0 0, Value.slice none 0 0, Value.slice none 0 0, Value.int IntKind.i64 0]⟩, Value.bool false]⟩ = zero7)
 (Value.tuple ⟨[Value.agg ⟨[Value.slice (some ⟨8, 0, some 2⟩) 2 2, Value.slice (some ⟨10, 0, some 2⟩) 2 2, Value.slice (some ⟨32, 0, some 2⟩) 3 3, Value.slice (some ⟨34, 0, some 2⟩) 3 3, Value.slice none 0 0, Value.int IntKind.i64 0]⟩, Value.bool true]⟩ = zero7)))))) (by kernel_rfl) ?_
  repeat' first
    | exact rfl
    | refine bcI (fun h => ?_) (fun h => ?_)
    | (exfalso; apply hb; simp only [decide_eq_false_iff_not, ge_iff_le] at *; omega)

theorem bad7_3_3 (h0 h1 h2 : Int) (hb : ¬ ((0 ≤ h0 ∧ h0 < 3) ∧ (0 ≤ h1 ∧ h1 < 3) ∧ (0 ≤ h2 ∧ h2 < 3))) : runTo 7 3 [h0, h1, h2] zero7 := by
  refine Eq.mp (α := (Ide.bcase (decide (h0 < 0))
 (Value.tuple ⟨[Value.agg ⟨[Value.slice none 0 0, Value.slice none 0 0, Value.slice none 0 0, Value.slice none 0 0, Value.slice none 0 0, Value.int IntKind.i64 0]⟩, Value.bool false]⟩ = zero7)
 (Ide.bcase (decide (h0 ≥ 3))
 (Value.tuple ⟨[Value.agg ⟨[Value.slice none 0 0, Value.slice none 0 0, Value.slice none 0 0, Value.slice none 0 0, Value.slice none 0 0, Value.int IntKind.i64 0]⟩, Value.bool false]⟩ = zero7)
 (Ide.bcase (decide (h1 < 0))
 (Value.tuple ⟨[Value.agg ⟨[Value.slice none 0 0, Value.slice none 0 0, Value.slice none 0 0, Value.slice none 0 0, Value.slice none 0 0, Value.int IntKind.i64 0]⟩, Value.bool false]⟩ = zero7)
 (Ide.bcase (decide (h1 ≥ 3))
 (Value.tuple ⟨[Value.agg ⟨[Value.slice none 0 0, Value.slice none 0 0, Value.slice none 0 0, Value.slice none 0 0, Value.slice none 0 0, Value.int IntKind.i64 0]⟩, Value.bool false]⟩ = zero7)
 (Ide.bcase (decide (h2 < 0))
 (Value.tuple ⟨[Value.agg ⟨[Value.slice none 0 0, Value.slice none 0 0, Value.slice none 0 0, Value.slice none 0 0, Value.slice none 0 0, Value.int IntKind.i64 0]⟩, Value.bool false]⟩ = zero7)
 (Ide.bcase (decide (h2 ≥ 3))
 (Value.tuple ⟨[Value.agg ⟨[Value.slice none 0 0, Value.slice none 0 0, Value.slice none 0 0, Value.slice none 0 0, Value.slice none 0 0, Value.int IntKind.i64 0]⟩, Value.bool false]⟩ = zero7)
 (Value.tuple ⟨[Value.agg ⟨[Value.slice (some ⟨12, 0, some 2⟩) 3 3, Value.slice (some ⟨14, 0, some 2⟩) 3 3, Value.slice (some ⟨42, 0, some 2⟩) 3 3, Value.slice (some ⟨44, 0, some 2⟩) 3 3, Value.slice none 0 0, Value.int IntKind.i64 0]⟩, Value.bool true]⟩ = zero7)))))))) (by kernel_rfl) ?_
  repeat' first
    | exact rfl
    | refine bcI (fun h => ?_) (fun h => ?_)
    | (exfalso; apply hb; simp only [decide_eq_false_iff_not, ge_iff_le] at *; omega)

theorem bad7_3_4 (h0 h1 h2 h3 : Int) (hb : ¬ ((0 ≤ h0 ∧ h0 < 3) ∧ (0 ≤ h1 ∧ h1 < 3) ∧ (0 ≤ h2 ∧ h2 < 3) ∧ (0 ≤ h3 ∧ h3 < 3))) : runTo 7 3 [h0, h1, h2, h3] zero7 := by
  refine Eq.mp (α := (Ide.bcase (decide (h0 < 0))
 (Value.tuple ⟨[Value.agg ⟨[Value.slice none 0 0, Value.slice none 0 0, Value.slice none 0 0, Value.slice none 0 0, Value.slice none 0 0, Value.int IntKind.i64 0]⟩, Value.bool false]⟩ = zero7)
 (Ide.bcase (decide (h0 ≥ 3))
 (Value.tuple ⟨[Value.agg ⟨[Value.slice none 0 0, Value.slice none 0 0, Value.slice none 0 0, Value.slice none 0 0, Value.slice none 0 0, Value.int IntKind.i64 0]⟩, Value.bool false]⟩ = zero7)
 (Ide.bcase (decide (h1 < 0))
 (Value.tuple ⟨[Value.agg ⟨[Value.slice none 0 0, Value.slice none 0 0, Value.slice none 0 0, Value.slice none 0 0, Value.slice none 0 0, Value.int IntKind.i64 0]⟩, Value.bool false]⟩ = zero7)
 (Ide.bcase (decide (h1 ≥ 3))
 (Value.tuple ⟨[Value.agg ⟨[Value.slice none 0 0, Value.slice none 0 0, Value.slice none 0 0, Value.slice none 0 0, Value.slice none 0 0, Value.int IntKind.i64 0]⟩, Value.bool false]⟩ = zero7)
 (Ide.bcase (decide (h2 < 0))
 (Value.tuple ⟨[Value.agg ⟨[Value.slice none 0 0, Value.slice none 0 0, Value.slice none 0 0, Value.slice none 0 0, Value.slice none 0 0, Value.int IntKind.i64 0]⟩, Value.bool false]⟩ = zero7)
 (Ide.bcase (decide (h2 ≥ 3))
 (Value.tuple ⟨[Value.agg ⟨[Value.slice none 0 0, Value.slice none 0 0, Value.slice none 0 0, Value.slice none 0 0, Value.slice none 0 0, Value.int IntKind.i64 0]⟩, Value.bool false]⟩ = zero7)
 (Ide.bcase (decide (h3 < 0))
 (Value.tuple ⟨[Value.agg ⟨[Value.slice none 0 0, Value.slice none 0 0, Value.slice none 0 0, Value.slice none 0 0, Value.slice none 0 0, Value.int IntKind.i64 0]⟩, Value.bool false]⟩ = zero7)
 (Ide.bcase (decide (h3 ≥ 3))
 (Value.tuple ⟨[Value.agg ⟨[Value.slice none 0 0, Value.slice none 0 0, Value.slice none 0 0, Value.slice none 0 0, Value.slice none 0 0, Value.int IntKind.i64 0]⟩, Value.bool false]⟩ = zero7)
 (Value.tuple ⟨[Value.agg ⟨[Value.slice (some ⟨16, 0, some 2⟩) 4 4, Value.slice (some ⟨18, 0, some 2⟩) 4 4, Value.slice (some ⟨52, 0, some 2⟩) 3 3, Value.slice (some ⟨54, 0, some 2⟩) 3 3, Value.slice none 0 0, Value.int IntKind.i64 0]⟩, Value.bool true]⟩ = zero7)))))))))) (by kernel_rfl) ?_
  repeat' first
    | exact rfl
    | refine bcI (fun h => ?_) (fun h => ?_)
    | (exfalso; apply hb; simp only [decide_eq_false_iff_not, ge_iff_le] at *; omega)

theorem bad7_3_5 (h0 h1 h2 h3 h4 : Int) (hb : ¬ ((0 ≤ h0 ∧ h0 < 3) ∧ (0 ≤ h1 ∧ h1 < 3) ∧ (0 ≤ h2 ∧ h2 < 3) ∧ (0 ≤ h3 ∧ h3 < 3) ∧ (0 ≤ h4 ∧ h4 < 3))) : runTo 7 3 [h0, h1, h2, h3, h4] zero7 := by
  refine Eq.mp (α := (Ide.bcase (decide (h0 < 0))
 (Value.tuple ⟨[Value.agg ⟨[Value.slice none 0 0, Value.slice none 0 0, Value.slice none 0 0, Value.slice none 0 0, Value.slice none 0 0, Value.int IntKind.i64 0]⟩, Value.bool false]⟩ = zero7)
 (Ide.bcase (decide (h0 ≥ 3))
 (Value.tuple ⟨[Value.agg ⟨[Value.slice none 0 0, Value.slice none 0 0, Value.slice none 0 0, Value.slice none 0 0, Value.slice none 0 0, Value.int IntKind.i64 0]⟩, Value.bool false]⟩ = zero7)
 (Ide.bcase (decide (h1 < 0))
 (Value.tuple ⟨[Value.agg ⟨[Value.slice none 0 0, Value.slice none 0 0, Value.slice none 0 0, Value.slice none 0 0, Value.slice none 0 0, Value.int IntKind.i64 0]⟩, Value.bool false]⟩ = zero7)
 (Ide.bcase (decide (h1 ≥ 3))
 (Value.tuple ⟨[Value.agg ⟨[Value.slice none 0 0, Value.slice none 0 0, Value.slice none 0 0, Value.slice none 0 0, Value.slice none 0 0, Value.int IntKind.i64 0]⟩, Value.bool false]⟩ = zero7)
 (Ide.bcase (decide (h2 < 0))
 (Value.tuple ⟨[Value.agg ⟨[Value.slice none 0 0, Value.slice none 0 0, Value.slice none 0 0, Value.slice none 0 0, Value.slice none 0 0, Value.int IntKind.i64 0]⟩, Value.bool false]⟩ = zero7)
 (Ide.bcase (decide (h2 ≥ 3))
 (Value.tuple ⟨[Value.agg ⟨[Value.slice none 0 0, Value.slice none 0 0, Value.slice none 0 0, Value.slice none 0 0, Value.slice none 0 0, Value.int IntKind.i64 0]⟩, Value.bool false]⟩ = zero7)
 (Ide.bcase (decide (h3 < 0))
 (Value.tuple ⟨[Value.agg ⟨[Value.slice none 0 0, Value.slice none 0 0, Value.slice none 0 0, Value.slice none 0 0, Value.slice none 0 0, Value.int IntKind.i64 0]⟩, Value.bool false]⟩ = zero7)
 (Ide.bcase (decide (h3 ≥ 3))
 (Value.tuple ⟨[Value.agg ⟨[Value.slice none 0 0, Value.slice none 0 0, Value.slice none 0 0, Value.slice none 0 0, Value.slice none 0 0, Value.int IntKind.i64 0]⟩, Value.bool false]⟩ = zero7)
 (Ide.bcase (decide (h4 < 0))
 (Value.tuple ⟨[Value.agg ⟨[Value.slice none 0 0, Value.slice none 0 0, Value.slice none 0 0, Value.slice none 0 0, Value.slice none 0 0, Value.int IntKind.i64 0]⟩, Value.bool false]⟩ = zero7)
 (Ide.bcase (decide (h4 ≥ 3))
 (Value.tuple ⟨[Value.agg ⟨[Value.slice none 0 0, Value.slice none 0 0, Value.slice none 0 0, Value.slice none 0 0, Value.slice none 0 0, Value.int IntKind.i64 0]⟩, Value.bool false]⟩ = zero7)
 (Value.tuple ⟨[Value.agg ⟨[Value.slice (some ⟨20, 0, some 2⟩) 5 5, Value.slice (some ⟨22, 0, some 2⟩) 5 5, Value.slice (some ⟨62, 0, some 2⟩) 3 3, Value.slice (some ⟨64, 0, some 2⟩) 3 3, Value.slice none 0 0, Value.int IntKind.i64 0]⟩, Value.bool true]⟩ = zero7)))))))))))) (by kernel_rfl) ?_
  repeat' first
    | exact rfl
    | refine bcI (fun h => ?_) (fun h => ?_)
    | (exfalso; apply hb; simp only [decide_eq_false_iff_not, ge_iff_le] at *; omega)

theorem bad7_3_6 (h0 h1 h2 h3 h4 h5 : Int) (hb : ¬ ((0 ≤ h0 ∧ h0 < 3) ∧ (0 ≤ h1 ∧ h1 < 3) ∧ (0 ≤ h2 ∧ h2 < 3) ∧ (0 ≤ h3 ∧ h3 < 3) ∧ (0 ≤ h4 ∧ h4 < 3) ∧ (0 ≤ h5 ∧ h5 < 3))) : runTo 7 3 [h0, h1, h2, h3, h4, h5] zero7 := by
  refine Eq.mp (α := (Ide.bcase (decide (h0 < 0))
 (Value.tuple ⟨[Value.agg ⟨[Value.slice none 0 0, Value.slice none 0 0, Value.slice none 0 0, Value.slice none 0 0, Value.slice none 0 0, Value.int IntKind.i64 0]⟩, Value.bool false]⟩ = zero7)
 (Ide.bcase (decide (h0 ≥ 3))
 (Value.tuple ⟨[Value.agg ⟨[Value.slice none 0 0, Value.slice none 0 0, Value.slice none 0 0, Value.slice none 0 0, Value.slice none 0 0, Value.int IntKind.i64 0]⟩, Value.bool false]⟩ = zero7)
 (Ide.bcase (decide (h1 < 0))
 (Value.tuple ⟨[Value.agg ⟨[Value.slice none 0 0, Value.slice none 0 0, Value.slice none 0 0, Value.slice none 0 0, Value.slice none 0 0, Value.int IntKind.i64 0]⟩, Value.bool false]⟩ = zero7)
 (Ide.bcase (decide (h1 ≥ 3))
 (Value.tuple ⟨[Value.agg ⟨[Value.slice none 0 0, Value.slice none 0 0, Value.slice none 0 0, Value.slice none 0 0, Value.slice none 0 0, Value.int IntKind.i64 0]⟩, Value.bool false]⟩ = zero7)
 (Ide.bcase (decide (h2 < 0))
 (Value.tuple ⟨[Value.agg ⟨[Value.slice none 0 0, Value.slice none 0 0, Value.slice none 0 0, Value.slice none 0 0, Value.slice none 0 0, Value.int IntKind.i64 0]⟩, Value.bool false]⟩ = zero7)
 (Ide.bcase (decide (h2 ≥ 3))
 (Value.tuple ⟨[Value.agg ⟨[Value.slice none 0 0, Value.slice none 0 0, Value.slice none 0 0, Value.slice none 0 0, Value.slice none 0 0, Value.int IntKind.i64 0]⟩, Value.bool false]⟩ = zero7)
 (Ide.bcase (decide (h3 < 0))
 (Value.tuple ⟨[Value.agg ⟨[Value.slice none 0 0, Value.slice none 0 0, Value.slice none 0 0, Value.slice none 0 0, Value.slice none 0 0, Value.int IntKind.i64 0]⟩, Value.bool false]⟩ = zero7)
 (Ide.bcase (decide (h3 ≥ 3))
 (Value.tuple ⟨[Value.agg ⟨[Value.slice none 0 0, Value.slice none 0 0, Value.slice none 0 0, Value.slice none 0 0, Value.slice none 0 0, Value.int IntKind.i64 0]⟩, Value.bool false]⟩ = zero7)
 (Ide.bcase (decide (h4 < 0))
 (Value.tuple ⟨[Value.agg ⟨[Value.slice none 0 0, Value.slice none 0 0, Value.slice none 0 0, Value.slice none 0 0, Value.slice none 0 0, Value.int IntKind.i64 0]⟩, Value.bool false]⟩ = zero7)
 (Ide.bcase (decide (h4 ≥ 3))
 (Value.tuple ⟨[Value.agg ⟨[Value.slice none 0 0, Value.slice none 0 0, Value.slice none 0 0, Value.slice none 0 0, Value.slice none 0 0, Value.int IntKind.i64 0]⟩, Value.bool false]⟩ = zero7)
 (Ide.bcase (decide (h5 < 0))
 (Value.tuple ⟨[Value.agg ⟨[Value.slice none 0 0, Value.slice none 0 0, Value.slice none 0 0, Value.slice none 0 0, Value.slice none 0 0, Value.int IntKind.i64 0]⟩, Value.bool false]⟩ = zero7)
 (Ide.bcase (decide (h5 ≥ 3))
 (Value.tuple ⟨[Value.agg ⟨[Value.slice none 0 0, Value.slice none 0 0, Value.slice none 0 0, Value.slice none 0 0, Value.slice none 0 0, Value.int IntKind.i64 0]⟩, Value.bool false]⟩ = zero7)
 (Value.tuple ⟨[Value.agg ⟨[Value.slice (some ⟨24, 0, some 2⟩) 6 6, Value.slice (some ⟨26, 0, some 2⟩) 6 6, Value.slice (some ⟨72, 0, some 2⟩) 3 3, Value.slice (some ⟨74, 0, some 2⟩) 3 3, Value.slice none 0 0, Value.int IntKind.i64 0]⟩, Value.bool true]⟩ = zero7)))))))))))))) (by kernel_rfl) ?_
  repeat' first
    | exact rfl
    | refine bcI (fun h => ?_) (fun h => ?_)
    | (exfalso; apply hb; simp only [decide_eq_false_iff_not, ge_iff_le] at *; omega)

theorem bad7_3_7 (h0 h1 h2 h3 h4 h5 h6 : Int) (hb : ¬ ((0 ≤ h0 ∧ h0 < 3) ∧ (0 ≤ h1 ∧ h1 < 3) ∧ (0 ≤ h2 ∧ h2 < 3) ∧ (0 ≤ h3 ∧ h3 < 3) ∧ (0 ≤ h4 ∧ h4 < 3) ∧ (0 ≤ h5 ∧ h5 < 3) ∧ (0 ≤ h6 ∧ h6 < 3))) : runTo 7 3 [h0, h1, h2, h3, h4, h5, h6] zero7 := by
  refine Eq.mp (α := (Ide.bcase (decide (h0 < 0))
 (Value.tuple ⟨[Value.agg ⟨[Value.slice none 0 0, Value.slice none 0 0, Value.slice none 0 0, Value.slice none 0 0, Value.slice none 0 0, Value.int IntKind.i64 0]⟩, Value.bool false]⟩ = zero7)
 (Ide.bcase (decide (h0 ≥ 3))
 (Value.tuple ⟨[Value.agg ⟨[Value.slice none 0 0, Value.slice none 0 0, Value.slice none 0 0, Value.slice none 0 0, Value.slice none 0 0, Value.int IntKind.i64 0]⟩, Value.bool false]⟩ = zero7)
 (Ide.bcase (decide (h1 < 0))
 (Value.tuple ⟨[Value.agg ⟨[Value.slice none 0 0, Value.slice none 0 0, Value.slice none 0 0, Value.slice none 0 0, Value.slice none 0 0, Value.int IntKind.i64 0]⟩, Value.bool false]⟩ = zero7)
 (Ide.bcase (decide (h1 ≥ 3))
 (Value.tuple ⟨[Value.agg ⟨[Value.slice none 0 0, Value.slice none 0 0, Value.slice none 0 0, Value.slice none 0 0, Value.slice none 0 0, Value.int IntKind.i64 0]⟩, Value.bool false]⟩ = zero7)
 (Ide.bcase (decide (h2 < 0))
 (Value.tuple ⟨[Value.agg ⟨[Value.slice none 0 0, Value.slice none 0 0, Value.slice none 0 0, Value.slice none 0 0, Value.slice none 0 0, Value.int IntKind.i64 0]⟩, Value.bool false]⟩ = zero7)
 (Ide.bcase (decide (h2 ≥ 3))
 (Value.tuple ⟨[Value.agg ⟨[Value.slice none 0 0, Value.slice none 0 0, Value.slice none 0 0, Value.slice none 0 0, Value.slice none 0 0, Value.int IntKind.i64 0]⟩, Value.bool false]⟩ = zero7)
 (Ide.bcase (decide (h3 < 0))
 (Value.tuple ⟨[Value.agg ⟨[Value.slice none 0 0, Value.slice none 0 0, Value.slice none 0 0, Value.slice none 0 0, Value.slice none 0 0, Value.int IntKind.i64 0]⟩, Value.bool false]⟩ = zero7)
 (Ide.bcase (decide (h3 ≥ 3))
 (Value.tuple ⟨[Value.agg ⟨[Value.slice none 0 0, Value.slice none 0 0, Value.slice none 0 0, Value.slice none 0 0, Value.slice none 0 0, Value.int IntKind.i64 0]⟩, Value.bool false]⟩ = zero7)
 (Ide.bcase (decide (h4 < 0))
 (Value.tuple ⟨[Value.agg ⟨[Value.slice none 0 0, Value.slice none 0 0, Value.slice none 0 0, Value.slice none 0 0, Value.slice none 0 0, Value.int IntKind.i64 0]⟩, Value.bool false]⟩ = zero7)
 (Ide.bcase (decide (h4 ≥ 3))
 (Value.tuple ⟨[Value.agg ⟨[Value.slice none 0 0, Value.slice none 0 0, Value.slice none 0 0, Value.slice none 0 0, Value.slice none 0 0, Value.int IntKind.i64 0]⟩, Value.bool false]⟩ = zero7)
 (Ide.bcase (decide (h5 < 0))
 (Value.tuple ⟨[Value.agg ⟨[Value.slice none 0 0, Value.slice none 0 0, Value.slice none 0 0, Value.slice none 0 0, Value.slice none 0 0, Value.int IntKind.i64 0]⟩, Value.bool false]⟩ = zero7)
 (Ide.bcase (decide (h5 ≥ 3))
 (Value.tuple ⟨[Value.agg ⟨[Value.slice none 0 0, Value.slice none 0 0, Value.slice none 0 0, Value.slice none 0 0, Value.slice none 0 0, Value.int IntKind.i64 0]⟩, Value.bool false]⟩ = zero7)
 (Ide.bcase (decide (h6 < 0))
 (Value.tuple ⟨[Value.agg ⟨[Value.slice none 0 0, Value.slice none 0 0, Value.slice none 0 0, Value.slice none 0 0, Value.slice none 0 0, Value.int IntKind.i64 0]⟩, Value.bool false]⟩ = zero7)
 (Ide.bcase (decide (h6 ≥ 3))
 (Value.tuple ⟨[Value.agg ⟨[Value.slice none 0 0, Value.slice none 0 0, Value.slice none 0 0, Value.slice none 0 0, Value.slice none 0 0, Value.int IntKind.i64 0]⟩, Value.bool false]⟩ = zero7)
 (Value.tuple ⟨[Value.agg ⟨[Value.slice (some ⟨28, 0, some 2⟩) 7 7, Value.slice (some ⟨30, 0, some 2⟩) 7 7, Value.slice (some ⟨82, 0, some 2⟩) 3 3, Value.slice (some ⟨84, 0, some 2⟩) 3 3, Value.slice none 0 0, Value.int IntKind.i64 0]⟩, Value.bool true]⟩ = zero7)))))))))))))))) (by kernel_rfl) ?_
  repeat' first
    | exact rfl
    | refine bcI (fun h => ?_) (fun h => ?_)
    | (exfalso; apply hb; simp only [decide_eq_false_iff_not, ge_iff_le] at *; omega)

theorem bad7_3_8 (h0 h1 h2 h3 h4 h5 h6 h7 : Int) (hb : ¬ ((0 ≤ h0 ∧ h0 < 3) ∧ (0 ≤ h1 ∧ h1 < 3) ∧ (0 ≤ h2 ∧ h2 < 3) ∧ (0 ≤ h3 ∧ h3 < 3) ∧ (0 ≤ h4 ∧ h4 < 3) ∧ (0 ≤ h5 ∧ h5 < 3) ∧ (0 ≤ h6 ∧ h6 < 3) ∧ (0 ≤ h7 ∧ h7 < 3))) : runTo 7 3 [h0, h1, h2, h3, h4, h5, h6, h7] zero7 := by
  refine Eq.mp (α := (Ide.bcase (decide (h0 < 0))
 (Value.tuple ⟨[Value.agg ⟨[Value.slice none 0 0, Value.slice none 0 0, Value.slice none 0 0, Value.slice none 0 0, Value.slice none 0 0, Value.int IntKind.i64 0]⟩, Value.bool false]⟩ = zero7)
 (Ide.bcase (decide (h0 ≥ 3))
 (Value.tuple ⟨[Value.agg ⟨[Value.slice none 0 0, Value.slice none 0 0, Value.slice none 0 0, Value.slice none 0 0, Value.slice none 0 0, Value.int IntKind.i64 0]⟩, Value.bool false]⟩ = zero7)
 (Ide.bcase (decide (h1 < 0))
 (Value.tuple ⟨[Value.agg ⟨[Value.slice none 0 0, Value.slice none 0 0, Value.slice none 0 0, Value.slice none 0 0, Value.slice none 0 0, Value.int IntKind.i64 0]⟩, Value.bool false]⟩ = zero7)
 (Ide.bcase (decide (h1 ≥ 3))
 (Value.tuple ⟨[Value.agg ⟨[Value.slice none 0 0, Value.slice none 0 0, Value.slice none 0 0, Value.slice none 0 0, Value.slice none 0 0, Value.int IntKind.i64 0]⟩, Value.bool false]⟩ = zero7)
 (Ide.bcase (decide (h2 < 0))
 (Value.tuple ⟨[Value.agg ⟨[Value.slice none 0 0, Value.slice none 0 0, Value.slice none 0 0, Value.slice none 0 0, Value.slice none 0 0, Value.int IntKind.i64 0]⟩, Value.bool false]⟩ = zero7)
 (Ide.bcase (decide (h2 ≥ 3))
 (Value.tuple ⟨[Value.agg ⟨[Value.slice none 0 0, Value.slice none 0 0, Value.slice none 0 0, Value.slice none 0 0, Value.slice none 0 0, Value.int IntKind.i64 0]⟩, Value.bool false]⟩ = zero7)
 (Ide.bcase (decide (h3 < 0))
 (Value.tuple ⟨[Value.agg ⟨[Value.slice none 0 0, Value.slice none 0 0, Value.slice none 0 0, Value.slice none 0 0, Value.slice none 0 0, Value.int IntKind.i64 0]⟩, Value.bool false]⟩ = zero7)
 (Ide.bcase (decide (h3 ≥ 3))
 (Value.tuple ⟨[Value.agg ⟨[Value.slice none 0 0, Value.slice none 0 0, Value.slice none 0 0, Value.slice none 0 0, Value.slice none 0 0, Value.int IntKind.i64 0]⟩, Value.bool false]⟩ = zero7)
 (Ide.bcase (decide (h4 < 0))
 (Value.tuple ⟨[Value.agg ⟨[Value.slice none 0 0, Value.slice none 0 0, Value.slice none 0 0, Value.slice none 0 0, Value.slice none 0 0, Value.int IntKind.i64 0]⟩, Value.bool false]⟩ = zero7)
 (Ide.bcase (decide (h4 ≥ 3))
 (Value.tuple ⟨[Value.agg ⟨[Value.slice none 0 0, Value.slice none 0 0, Value.slice none 0 0, Value.slice none 0 0, Value.slice none 0 0, Value.int IntKind.i64 0]⟩, Value.bool false]⟩ = zero7)
 (Ide.bcase (decide (h5 < 0))
 (Value.tuple ⟨[Value.agg ⟨[Value.slice none 0 0, Value.slice none 0 0, Value.slice none 0 0, Value.slice none 0 0, Value.slice none 0 0, Value.int IntKind.i64 0]⟩, Value.bool false]⟩ = zero7)
 (Ide.bcase (decide (h5 ≥ 3))
 (Value.tuple ⟨[Value.agg ⟨[Value.slice none 0 0, Value.slice none 0 0, Value.slice none 0 0, Value.slice none 0 0, Value.slice none 0 0, Value.int IntKind.i64 0]⟩, Value.bool false]⟩ = zero7)
 (Ide.bcase (decide (h6 < 0))
 (Value.tuple ⟨[Value.agg ⟨[Value.slice none 0 0, Value.slice none 0 0, Value.slice none 0 0, Value.slice none 0 0, Value.slice none 0 0, Value.int IntKind.i64 0]⟩, Value.bool false]⟩ = zero7)
 (Ide.bcase (decide (h6 ≥ 3))
 (Value.tuple ⟨[Value.agg ⟨[Value.slice none 0 0, Value.slice none 0 0, Value.slice none 0 0, Value.slice none 0 0, Value.slice none 0 0, Value.int IntKind.i64 0]⟩, Value.bool false]⟩ = zero7)
 (Ide.bcase (decide (h7 < 0))
 (Value.tuple ⟨[Value.agg ⟨[Value.slice none 0 0, Value.slice none 0 0, Value.slice none 0 0, Value.slice none 0 0, Value.slice none 0 0, Value.int IntKind.i64 0]⟩, Value.bool false]⟩ = zero7)
 (Ide.bcase (decide (h7 ≥ 3))
 (Value.tuple ⟨[Value.agg ⟨[Value.slice none 0 0, Value.slice none 0 0, Value.slice none 0 0, Value.slice none 0 0, Value.slice none 0 0, Value.int IntKind.i64 0]⟩, Value.bool false]⟩ = zero7)
 (Value.tuple ⟨[Value.agg ⟨[Value.slice (some ⟨32, 0, some 2⟩) 8 8, Value.slice (some ⟨34, 0, some 2⟩) 8 8, Value.slice (some ⟨92, 0, some 2⟩) 3 3, Value.slice (some ⟨94, 0, some 2⟩) 3 3, Value.slice none 0 0, Value.int IntKind.i64 0]⟩, Value.bool true]⟩ = zero7)))))))))))))))))) (by kernel_rfl) ?_
  repeat' first
    | exact rfl
    | refine bcI (fun h => ?_) (fun h => ?_)
    | (exfalso; apply hb; simp only [decide_eq_false_iff_not, ge_iff_le] at *; omega)

theorem bad8_3_1 (h0 : Int) (hb : ¬ ((0 ≤ h0 ∧ h0 < 3))) : runTo 8 3 [h0] zero8 := by
  refine Eq.mp (α := (Ide.bcase (decide (h0 < 0))
 (Value.tuple ⟨[Value.agg ⟨[Value.slice none 0 0, Value.slice none 0 0, Value.slice none 0 0, Value.slice none 0 0, Value.slice none 0 0, Value.int IntKind.i64 0]⟩, Value.int IntKind.i64 2]⟩ = zero8)
 (Ide.bcase (decide (h0 ≥ 3))
 (Value.tuple ⟨[Value.agg ⟨[Value.slice none 0 0, Value.slice none 0 0, Value.slice none 0 0, Value.slice none 0 0, Value.slice none 0 0, Value.int IntKind.i64 0]⟩, Value.int IntKind.i64 2]⟩ = zero8)
 (Value.tuple ⟨[Value.agg ⟨[Value.slice (some ⟨4, 0, some 2⟩) 1 1, Value.slice (some ⟨6, 0, some 2⟩) 1 1, Value.slice (some ⟨22, 0, some 2⟩) 3 3, Value.slice (some ⟨24, 0, some 2⟩) 3 3, Value.slice none 0 0, Value.int IntKind.i64 0]⟩, Value.int IntKind.i64 0]⟩ = zero8)))) (by kernel_rfl) ?_
  repeat' first
    | exact rfl
    | refine bcI (fun h => ?_) (fun h => ?_)
    | (exfalso; apply hb; simp only [decide_eq_false_iff_not, ge_iff_le] at *; omega)

theorem bad8_3_2 (h0 h1 : Int) (hb : ¬ ((0 ≤ h0 ∧ h0 < 3) ∧ (0 ≤ h1 ∧ h1 < 3))) : runTo 8 3 [h0, h1] zero8 := by
  refine Eq.mp (α := (Ide.bcase (decide (h0 < 0))
 (Value.tuple ⟨[Value.agg ⟨[Value.slice none 0 0, Value.slice none 0 0, Value.slice none 0 0, Value.slice none 0 0, Value.slice none 0 0, Value.int IntKind.i64 0]⟩, Value.int IntKind.i64 2]⟩ = zero8)
 (Ide.bcase (decide (h0 ≥ 3))
 (Value.tuple ⟨[Value.agg ⟨[Value.slice none 0 0, Value.slice none 0 0, Value.slice none 0 0, Value.slice none 0 0, Value.slice none 0 0, Value.int IntKind.i64 0]⟩, Value.int IntKind.i64 2]⟩ = zero8)
 (Ide.bcase (decide (h1 < 0))
 (Value.tuple ⟨[Value.agg ⟨[Value.slice none 0 0, Value.slice none 0 0, Value.slice none 0 0, Value.slice none 0 0, Value.slice none 0 0, Value.int IntKind.i64 0]⟩, Value.int IntKind.i64 2]⟩ = zero8)
 (Ide.bcase (decide (h1 ≥ 3))
 (Value.tuple ⟨[Value.agg ⟨[Value.slice none 0 0, Value.slice none 0 0, Value.slice none 0 0, Value.slice none 0 0, Value.slice none 0 0, Value.int IntKind.i64 0]⟩, Value.int IntKind.i64 2]⟩ = zero8)
 (Value.tuple ⟨[Value.agg ⟨[Value.slice (some ⟨8, 0, some 2⟩) 2 2, Value.slice (some ⟨10, 0, some 2⟩) 2 2, Value.slice (some ⟨32, 0, some 2⟩) 3 3, Value.slice (some ⟨34, 0, some 2⟩) 3 3, Value.slice none 0 0, Value.int IntKind.i64 0]⟩, Value.int IntKind.i64 0]⟩ = zero8)))))) (by kernel_rfl) ?_
  repeat' first
    | exact rfl
    | refine bcI (fun h => ?_) (fun h => ?_)
    | (exfalso; apply hb; simp only [decide_eq_false_iff_not, ge_iff_le] at *; omega)

theorem bad8_3_3 (h0 h1 h2 : Int) (hb : ¬ ((0 ≤ h0 ∧ h0 < 3) ∧ (0 ≤ h1 ∧ h1 < 3) ∧ (0 ≤ h2 ∧ h2 < 3))) : runTo 8 3 [h0, h1, h2] zero8 := by
  refine Eq.mp (α := (Ide.bcase (decide (h0 < 0))
 (Value.tuple ⟨[Value.agg ⟨[Value.slice none 0 0, Value.slice none 0 0, Value.slice none 0 0, Value.slice none 0 0, Value.slice none 0 0, Value.int IntKind.i64 0]⟩, Value.int IntKind.i64 2]⟩ = zero8)
 (Ide.bcase (decide (h0 ≥ 3))
 (Value.tuple ⟨[Value.agg ⟨[Value.slice none 0 0, Value.slice none 0 0, Value.slice none 0 0, Value.slice none 0 0, Value.slice none 0 0, Value.int IntKind.i64 0]⟩, Value.int IntKind.i64 2]⟩ = zero8)
 (Ide.bcase (decide (h1 < 0))
 (Value.tuple ⟨[Value.agg ⟨[Value.slice none 0 0, Value.slice none 0 0, Value.slice none 0 0, Value.slice none 0 0, Value.slice none 0 0, Value.int IntKind.i64 0]⟩, Value.int IntKind.i64 2]⟩ = zero8)
 (Ide.bcase (decide (h1 ≥ 3))
 (Value.tuple ⟨[Value.agg ⟨[Value.slice none 0 0, Value.slice none 0 0, Value.slice none 0 0, Value.slice none 0 0, Value.slice none 0 0, Value.int IntKind.i64 0]⟩, Value.int IntKind.i64 2]⟩ = zero8)
 (Ide.bcase (decide (h2 < 0))
 (Value.tuple ⟨[Value.agg ⟨[Value.slice none 0 0, Value.slice none 0 0, Value.slice none 0 0, Value.slice none 0 0, Value.slice none 0 0, Value.int IntKind.i64 0]⟩, Value.int IntKind.i64 2]⟩ = zero8)
 (Ide.bcase (decide (h2 ≥ 3))
 (Value.tuple ⟨[Value.agg ⟨[Value.slice none 0 0, Value.slice none 0 0, Value.slice none 0 0, Value.slice none 0 0, Value.slice none 0 0, Value.int IntKind.i64 0]⟩, Value.int IntKind.i64 2]⟩ = zero8)
 (Value.tuple ⟨[Value.agg ⟨[Value.slice (some ⟨12, 0, some 2⟩) 3 3, Value.slice (some ⟨14, 0, some 2⟩) 3 3, Value.slice (some ⟨42, 0, some 2⟩) 3 3, Value.slice (some ⟨44, 0, some 2⟩) 3 3, Value.slice none 0 0, Value.int IntKind.i64 0]⟩, Value.int IntKind.i64 0]⟩ = zero8)))))))) (by kernel_rfl) ?_
  repeat' first
    | exact rfl
    | refine bcI (fun h => ?_) (fun h => ?_)
    | (exfalso; apply hb; simp only [decide_eq_false_iff_not, ge_iff_le] at *; omega)

theorem bad8_3_4 (h0 h1 h2 h3 : Int) (hb : ¬ ((0 ≤ h0 ∧ h0 < 3) ∧ (0 ≤ h1 ∧ h1 < 3) ∧ (0 ≤ h2 ∧ h2 < 3) ∧ (0 ≤ h3 ∧ h3 < 3))) : runTo 8 3 [h0, h1, h2, h3] zero8 := by
  refine Eq.mp (α := (Ide.bcase (decide (h0 < 0))
 (Value.tuple ⟨[Value.agg ⟨[Value.slice none 0 0, Value.slice none 0 0, Value.slice none 0 0, Value.slice none 0 0, Value.slice none 0 0, Value.int IntKind.i64 0]⟩, Value.int IntKind.i64 2]⟩ = zero8)
 (Ide.bcase (decide (h0 ≥ 3))
 (Value.tuple ⟨[Value.agg ⟨[Value.slice none 0 0, Value.slice none 0 0, Value.slice none 0 0, Value.slice none 0 0, Value.slice none 0 0, Value.int IntKind.i64 0]⟩, Value.int IntKind.i64 2]⟩ = zero8)
 (Ide.bcase (decide (h1 < 0))
 (Value.tuple ⟨[Value.agg ⟨[Value.slice none 0 0, Value.slice none 0 0, Value.slice none 0 0, Value.slice none 0 0, Value.slice none 0 0, Value.int IntKind.i64 0]⟩, Value.int IntKind.i64 2]⟩ = zero8)
 (Ide.bcase (decide (h1 ≥ 3))
 (Value.tuple ⟨[Value.agg ⟨[Value.slice none 0 0, Value.slice none 0 0, Value.slice none 0 0, Value.slice none 0 0, Value.slice none 0 0, Value.int IntKind.i64 0]⟩, Value.int IntKind.i64 2]⟩ = zero8)
 (Ide.bcase (decide (h2 < 0))
 (Value.tuple ⟨[Value.agg ⟨[Value.slice none 0 0, Value.slice none 0 0, Value.slice none 0 0, Value.slice none 0 0, Value.slice none 0 0, Value.int IntKind.i64 0]⟩, Value.int IntKind.i64 2]⟩ = zero8)
 (Ide.bcase (decide (h2 ≥ 3))
 (Value.tuple ⟨[Value.agg ⟨[Value.slice none 0 0, Value.slice none 0 0, Value.slice none 0 0, Value.slice none 0 0, Value.slice none 0 0, Value.int IntKind.i64 0]⟩, Value.int IntKind.i64 2]⟩ = zero8)
 (Ide.bcase (decide (h3 < 0))
 (Value.tuple ⟨[Value.agg ⟨[Value.slice none 0 0, Value.slice none 0 0, Value.slice none 0 0, Value.slice none 0 0, Value.slice none 0 0, Value.int IntKind.i64 0]⟩, Value.int IntKind.i64 2]⟩ = zero8)
 (Ide.bcase (decide (h3 ≥ 3))
 (Value.tuple ⟨[Value.agg ⟨[Value.slice none 0 0, Value.slice none 0 0, Value.slice none 0 0, Value.slice none 0 0, Value.slice none 0 0, Value.int IntKind.i64 0]⟩, Value.int IntKind.i64 2]⟩ = zero8)
 (Value.tuple ⟨[Value.agg ⟨[Value.slice (some ⟨16, 0, some 2⟩) 4 4, Value.slice (some ⟨18, 0, some 2⟩) 4 4, Value.slice (some ⟨52, 0, some 2⟩) 3 3, Value.slice (some ⟨54, 0, some 2⟩) 3 3, Value.slice none 0 0, Value.int IntKind.i64 0]⟩, Value.int IntKind.i64 0]⟩ = zero8)))))))))) (by kernel_rfl) ?_
  repeat' first
    | exact rfl
    | refine bcI (fun h => ?_) (fun h => ?_)
    | (exfalso; apply hb; simp only [decide_eq_false_iff_not, ge_iff_le] at *; omega)

theorem bad8_3_5 (h0 h1 h2 h3 h4 : Int) (hb : ¬ ((0 ≤ h0 ∧ h0 < 3) ∧ (0 ≤ h1 ∧ h1 < 3) ∧ (0 ≤ h2 ∧ h2 < 3) ∧ (0 ≤ h3 ∧ h3 < 3) ∧ (0 ≤ h4 ∧ h4 < 3))) : runTo 8 3 [h0, h1, h2, h3, h4] zero8 := by
  refine Eq.mp (α := (Ide.bcase (decide (h0 < 0))
 (Value.tuple ⟨[Value.agg ⟨[Value.slice none 0 0, Value.slice none 0 0, Value.slice none 0 0, Value.slice none 0 0, Value.slice none 0 0, Value.int IntKind.i64 0]⟩, Value.int IntKind.i64 2]⟩ = zero8)
 (Ide.bcase (decide (h0 ≥ 3))
 (Value.tuple ⟨[Value.agg ⟨[Value.slice none 0 0, Value.slice none 0 0, Value.slice none 0 0, Value.slice none 0 0, Value.slice none 0 0, Value.int IntKind.i64 0]⟩, Value.int IntKind.i64 2]⟩ = zero8)
 (Ide.bcase (decide (h1 < 0))
 (Value.tuple ⟨[Value.agg ⟨[Value.slice none 0 0, Value.slice none 0 0, Value.slice none 0 0, Value.slice none 0 0, Value.slice none 0 0, Value.int IntKind.i64 0]⟩, Value.int IntKind.i64 2]⟩ = zero8)
 (Ide.bcase (decide (h1 ≥ 3))
 (Value.tuple ⟨[Value.agg ⟨[Value.slice none 0 0, Value.slice none 0 0, Value.slice none 0 0, Value.slice none 0 0, Value.slice none 0 0, Value.int IntKind.i64 0]⟩, Value.int IntKind.i64 2]⟩ = zero8)
 (Ide.bcase (decide (h2 < 0))
 (Value.tuple ⟨[Value.agg ⟨[Value.slice none 0 0, Value.slice none 0 0, Value.slice none 0 0, Value.slice none 0 0, Value.slice none 0 0, Value.int IntKind.i64 0]⟩, Value.int IntKind.i64 2]⟩ = zero8)
 (Ide.bcase (decide (h2 ≥ 3))
 (Value.tuple ⟨[Value.agg ⟨[Value.slice none 0 0, Value.slice none 0 0, Value.slice none 0 0, Value.slice none 0 0, Value.slice none 0 0, Value.int IntKind.i64 0]⟩, Value.int IntKind.i64 2]⟩ = zero8)
 (Ide.bcase (decide (h3 < 0))
 (Value.tuple ⟨[Value.agg ⟨[Value.slice none 0 0, Value.slice none 0 0, Value.slice none 0 0, Value.slice none 0 0, Value.slice none 0 0, Value.int IntKind.i64 0]⟩, Value.int IntKind.i64 2]⟩ = zero8)
 (Ide.bcase (decide (h3 ≥ 3))
 (Value.tuple ⟨[Value.agg ⟨[Value.slice none 0 0, Value.slice none 0 0, Value.slice none 0 0, Value.slice none 0 0, Value.slice none 0 0, Value.int IntKind.i64 0]⟩, Value.int IntKind.i64 2]⟩ = zero8)
 (Ide.bcase (decide (h4 < 0))
 (Value.tuple ⟨[Value.agg ⟨[Value.slice none 0 0, Value.slice none 0 0, Value.slice none 0 0, Value.slice none 0 0, Value.slice none 0 0, Value.int IntKind.i64 0]⟩, Value.int IntKind.i64 2]⟩ = zero8)
 (Ide.bcase (decide (h4 ≥ 3))
 (Value.tuple ⟨[Value.agg ⟨[Value.slice none 0 0, Value.slice none 0 0, Value.slice none 0 0, Value.slice none 0 0, Value.slice none 0 0, Value.int IntKind.i64 0]⟩, Value.int IntKind.i64 2]⟩ = zero8)
 (Value.tuple ⟨[Value.agg ⟨[Value.slice (some ⟨20, 0, some 2⟩) 5 5, Value.slice (some ⟨22, 0, some 2⟩) 5 5, Value.slice (some ⟨62, 0, some 2⟩) 3 3, Value.slice (some ⟨64, 0, some 2⟩) 3 3, Value.slice none 0 0, Value.int IntKind.i64 0]⟩, Value.int IntKind.i64 0]⟩ = zero8)))))))))))) (by kernel_rfl) ?_
  repeat' first
    | exact rfl
    | refine bcI (fun h => ?_) (fun h => ?_)
    | (exfalso; apply hb; simp only [decide_eq_false_iff_not, ge_iff_le] at *; omega)

theorem bad8_3_6 (h0 h1 h2 h3 h4 h5 : Int) (hb : ¬ ((0 ≤ h0 ∧ h0 < 3) ∧ (0 ≤ h1 ∧ h1 < 3) ∧ (0 ≤ h2 ∧ h2 < 3) ∧ (0 ≤ h3 ∧ h3 < 3) ∧ (0 ≤ h4 ∧ h4 < 3) ∧ (0 ≤ h5 ∧ h5 < 3))) : runTo 8 3 [h0, h1, h2, h3, h4, h5] zero8 := by
  refine Eq.mp (α := (Ide.bcase (decide (h0 < 0))
 (Value.tuple ⟨[Value.agg ⟨[Value.slice none 0 0, Value.slice none 0 0, Value.slice none 0 0, Value.slice none 0 0, Value.slice none 0 0, Value.int IntKind.i64 0]⟩, Value.int IntKind.i64 2]⟩ = zero8)
 (Ide.bcase (decide (h0 ≥ 3))
 (Value.tuple ⟨[Value.agg ⟨[Value.slice none 0 0, Value.slice none 0 0, Value.slice none 0 0, Value.slice none 0 0, Value.slice none 0 0, Value.int IntKind.i64 0]⟩, Value.int IntKind.i64 2]⟩ = zero8)
 (Ide.bcase (decide (h1 < 0))
 (Value.tuple ⟨[Value.agg ⟨[Value.slice none 0 0, Value.slice none 0 0, Value.slice none 0 0, Value.slice none 0 0, Value.slice none 0 0, Value.int IntKind.i64 0]⟩, Value.int IntKind.i64 2]⟩ = zero8)
 (Ide.bcase (decide (h1 ≥ 3))
 (Value.tuple ⟨[Value.agg ⟨[Value.slice none 0 0, Value.slice none 0 0, Value.slice none 0 0, Value.slice none 0 0, Value.slice none 0 0, Value.int IntKind.i64 0]⟩, Value.int IntKind.i64 2]⟩ = zero8)
 (Ide.bcase (decide (h2 < 0))
 (Value.tuple ⟨[Value.agg ⟨[Value.slice none 0 0, Value.slice none 0 0, Value.slice none 0 0, Value.slice none 0 0, Value.slice none 0 0, Value.int IntKind.i64 0]⟩, Value.int IntKind.i64 2]⟩ = zero8)
 (Ide.bcase (decide (h2 ≥ 3))
 (Value.tuple ⟨[Value.agg ⟨[Value.slice none 0 0, Value.slice none 0 0, Value.slice none 0 0, Value.slice none 0 0, Value.slice none 0 0, Value.int IntKind.i64 0]⟩, Value.int IntKind.i64 2]⟩ = zero8)
 (Ide.bcase (decide (h3 < 0))
 (Value.tuple ⟨[Value.agg ⟨[Value.slice none 0 0, Value.slice none 0 0, Value.slice none 0 0, Value.slice none 0 0, Value.slice none 0 0, Value.int IntKind.i64 0]⟩, Value.int IntKind.i64 2]⟩ = zero8)
 (Ide.bcase (decide (h3 ≥ 3))
 (Value.tuple ⟨[Value.agg ⟨[Value.slice none 0 0, Value.slice none 0 0, Value.slice none 0 0, Value.slice none 0 0, Value.slice none 0 0, Value.int IntKind.i64 0]⟩, Value.int IntKind.i64 2]⟩ = zero8)
 (Ide.bcase (decide (h4 < 0))
 (Value.tuple ⟨[Value.agg ⟨[Value.slice none 0 0, Value.slice none 0 0, Value.slice none 0 0, Value.slice none 0 0, Value.slice none 0 0, Value.int IntKind.i64 0]⟩, Value.int IntKind.i64 2]⟩ = zero8)
 (Ide.bcase (decide (h4 ≥ 3))
 (Value.tuple ⟨[Value.agg ⟨[Value.slice none 0 0, Value.slice none 0 0, Value.slice none 0 0, Value.slice none 0 0, Value.slice none 0 0, Value.int IntKind.i64 0]⟩, Value.int IntKind.i64 2]⟩ = zero8)
 (Ide.bcase (decide (h5 < 0))
 (Value.tuple ⟨[Value.agg ⟨[Value.slice none 0 0, Value.slice none 0 0, Value.slice none 0 0, Value.slice none 0 0, Value.slice none 0 0, Value.int IntKind.i64 0]⟩, Value.int IntKind.i64 2]⟩ = zero8)
 (Ide.bcase (decide (h5 ≥ 3))
 (Value.tuple ⟨[Value.agg ⟨[Value.slice none 0 0, Value.slice none 0 0, Value.slice none 0 0, Value.slice none 0 0, Value.slice none 0 0, Value.int IntKind.i64 0]⟩, Value.int IntKind.i64 2]⟩ = zero8)
 (Value.tuple ⟨[Value.agg ⟨[Value.slice (some ⟨24, 0, some 2⟩) 6 6, Value.slice (some ⟨26, 0, some 2⟩) 6 6, Value.slice (some ⟨72, 0, some 2⟩) 3 3, Value.slice (some ⟨74, 0, some 2⟩) 3 3, Value.slice none 0 0, Value.int IntKind.i64 0]⟩, Value.int IntKind.i64 0]⟩ = zero8)))))))))))))) (by kernel_rfl) ?_
  repeat' first
    | exact rfl
    | refine bcI (fun h => ?_) (fun h => ?_)
    | (exfalso; apply hb; simp only [decide_eq_false_iff_not, ge_iff_le] at *; omega)

theorem bad8_3_7 (h0 h1 h2 h3 h4 h5 h6 : Int) (hb : ¬ ((0 ≤ h0 ∧ h0 < 3) ∧ (0 ≤ h1 ∧ h1 < 3) ∧ (0 ≤ h2 ∧ h2 < 3) ∧ (0 ≤ h3 ∧ h3 < 3) ∧ (0 ≤ h4 ∧ h4 < 3) ∧ (0 ≤ h5 ∧ h5 < 3) ∧ (0 ≤ h6 ∧ h6 < 3))) : runTo 8 3 [h0, h1, h2, h3, h4, h5, h6] zero8 := by
  refine Eq.mp (α := (Ide.bcase (decide (h0 < 0))
 (Value.tuple ⟨[Value.agg ⟨[Value.slice none 0 0, Value.slice none 0 0, Value.slice none 0 0, Value.slice none 0 0, Value.slice none 0 0, Value.int IntKind.i64 0]⟩, Value.int IntKind.i64 2]⟩ = zero8)
 (Ide.bcase (decide (h0 ≥ 3))
 (Value.tuple ⟨[Value.agg ⟨[Value.slice none 0 0, Value.slice none 0 0, Value.slice none 0 0, Value.slice none 0 0, Value.slice none 0 0, Value.int IntKind.i64 0]⟩, Value.int IntKind.i64 2]⟩ = zero8)
 (Ide.bcase (decide (h1 < 0))
 (Value.tuple ⟨[Value.agg ⟨[Value.slice none 0 0, Value.slice none 0 0, Value.slice none 0 0, Value.slice none 0 0, Value.slice none 0 0, Value.int IntKind.i64 0]⟩, Value.int IntKind.i64 2]⟩ = zero8)
 (Ide.bcase (decide (h1 ≥ 3))
 (Value.tuple ⟨[Value.agg ⟨[Value.slice none 0 0, Value.slice none 0 0, Value.slice none 0 0, Value.slice none 0 0, Value.slice none 0 0, Value.int IntKind.i64 0]⟩, Value.int IntKind.i64 2]⟩ = zero8)
 (Ide.bcase (decide (h2 < 0))
 (Value.tuple ⟨[Value.agg ⟨[Value.slice none 0 0, Value.slice none 0 0, Value.slice none 0 0, Value.slice none 0 0, Value.slice none 0 0, Value.int IntKind.i64 0]⟩, Value.int IntKind.i64 2]⟩ = zero8)
 (Ide.bcase (decide (h2 ≥ 3))
 (Value.tuple ⟨[Value.agg ⟨[Value.slice none 0 0, Value.slice none 0 0, Value.slice none 0 0, Value.slice none 0 0, Value.slice none 0 0, Value.int IntKind.i64 0]⟩, Value.int IntKind.i64 2]⟩ = zero8)
 (Ide.bcase (decide (h3 < 0))
 (Value.tuple ⟨[Value.agg ⟨[Value.slice none 0 0, Value.slice none 0 0, Value.slice none 0 0, Value.slice none 0 0, Value.slice none 0 0, Value.int IntKind.i64 0]⟩, Value.int IntKind.i64 2]⟩ = zero8)
 (Ide.bcase (decide (h3 ≥ 3))
 (Value.tuple ⟨[Value.agg ⟨[Value.slice none 0 0, Value.slice none 0 0, Value.slice none 0 0, Value.slice none 0 0, Value.slice none 0 0, Value.int IntKind.i64 0]⟩, Value.int IntKind.i64 2]⟩ = zero8)
 (Ide.bcase (decide (h4 < 0))
 (Value.tuple ⟨[Value.agg ⟨[Value.slice none 0 0, Value.slice none 0 0, Value.slice none 0 0, Value.slice none 0 0, Value.slice none 0 0, Value.int IntKind.i64 0]⟩, Value.int IntKind.i64 2]⟩ = zero8)
 (Ide.bcase (decide (h4 ≥ 3))
 (Value.tuple ⟨[Value.agg ⟨[Value.slice none 0 0, Value.slice none 0 0, Value.slice none 0 0, Value.slice none 0 0, Value.slice none 0 0, Value.int IntKind.i64 0]⟩, Value.int IntKind.i64 2]⟩ = zero8)
 (Ide.bcase (decide (h5 < 0))
 (Value.tuple ⟨[Value.agg ⟨[Value.slice none 0 0, Value.slice none 0 0, Value.slice none 0 0, Value.slice none 0 0, Value.slice none 0 0, Value.int IntKind.i64 0]⟩, Value.int IntKind.i64 2]⟩ = zero8)
 (Ide.bcase (decide (h5 ≥ 3))
 (Value.tuple ⟨[Value.agg ⟨[Value.slice none 0 0, Value.slice none 0 0, Value.slice none 0 0, Value.slice none 0 0, Value.slice none 0 0, Value.int IntKind.i64 0]⟩, Value.int IntKind.i64 2]⟩ = zero8)
 (Ide.bcase (decide (h6 < 0))
 (Value.tuple ⟨[Value.agg ⟨[Value.slice none 0 0, Value.slice none 0 0, Value.slice none 0 0, Value.slice none 0 0, Value.slice none 0 0, Value.int IntKind.i64 0]⟩, Value.int IntKind.i64 2]⟩ = zero8)
 (Ide.bcase (decide (h6 ≥ 3))
 (Value.tuple ⟨[Value.agg ⟨[Value.slice none 0 0, Value.slice none 0 0, Value.slice none 0 0, Value.slice none 0 0, Value.slice none 0 0, Value.int IntKind.i64 0]⟩, Value.int IntKind.i64 2]⟩ = zero8)
 (Value.tuple ⟨[Value.agg ⟨[Value.slice (some ⟨28, 0, some 2⟩) 7 7, Value.slice (some ⟨30, 0, some 2⟩) 7 7, Value.slice (some ⟨82, 0, some 2⟩) 3 3, Value.slice (some ⟨84, 0, some 2⟩) 3 3, Value.slice none 0 0, Value.int IntKind.i64 0]⟩, Value.int IntKind.i64 0]⟩ = zero8)))))))))))))))) (by kernel_rfl) ?_
  repeat' first
    | exact rfl
    | refine bcI (fun h => ?_) (fun h => ?_)
    | (exfalso; apply hb; simp only [decide_eq_false_iff_not, ge_iff_le] at *; omega)

theorem bad8_3_8 (h0 h1 h2 h3 h4 h5 h6 h7 : Int) (hb : ¬ ((0 ≤ h0 ∧ h0 < 3) ∧ (0 ≤ h1 ∧ h1 < 3) ∧ (0 ≤ h2 ∧ h2 < 3) ∧ (0 ≤ h3 ∧ h3 < 3) ∧ (0 ≤ h4 ∧ h4 < 3) ∧ (0 ≤ h5 ∧ h5 < 3) ∧ (0 ≤ h6 ∧ h6 < 3) ∧ (0 ≤ h7 ∧ h7 < 3))) : runTo 8 3 [h0, h1, h2, h3, h4, h5, h6, h7] zero8 := by
  refine Eq.mp (α := (Ide.bcase (decide (h0 < 0))
 (Value.tuple ⟨[Value.agg ⟨[Value.slice none 0 0, Value.slice none 0 0, Value.slice none 0 0, Value.slice none 0 0, Value.slice none 0 0, Value.int IntKind.i64 0]⟩, Value.int IntKind.i64 2]⟩ = zero8)
 (Ide.bcase (decide (h0 ≥ 3))
 (Value.tuple ⟨[Value.agg ⟨[Value.slice none 0 0, Value.slice none 0 0, Value.slice none 0 0, Value.slice none 0 0, Value.slice none 0 0, Value.int IntKind.i64 0]⟩, Value.int IntKind.i64 2]⟩ = zero8)
 (Ide.bcase (decide (h1 < 0))
 (Value.tuple ⟨[Value.agg ⟨[Value.slice none 0 0, Value.slice none 0 0, Value.slice none 0 0, Value.slice none 0 0, Value.slice none 0 0, Value.int IntKind.i64 0]⟩, Value.int IntKind.i64 2]⟩ = zero8)
 (Ide.bcase (decide (h1 ≥ 3))
 (Value.tuple ⟨[Value.agg ⟨[Value.slice none 0 0, Value.slice none 0 0, Value.slice none 0 0, Value.slice none 0 0, Value.slice none 0 0, Value.int IntKind.i64 0]⟩, Value.int IntKind.i64 2]⟩ = zero8)
 (Ide.bcase (decide (h2 < 0))
 (Value.tuple ⟨[Value.agg ⟨[Value.slice none 0 0, Value.slice none 0 0, Value.slice none 0 0, Value.slice none 0 0, Value.slice none 0 0, Value.int IntKind.i64 0]⟩, Value.int IntKind.i64 2]⟩ = zero8)
 (Ide.bcase (decide (h2 ≥ 3))
 (Value.tuple ⟨[Value.agg ⟨[Value.slice none 0 0, Value.slice none 0 0, Value.slice none 0 0, Value.slice none 0 0, Value.slice none 0 0, Value.int IntKind.i64 0]⟩, Value.int IntKind.i64 2]⟩ = zero8)
 (Ide.bcase (decide (h3 < 0))
 (Value.tuple ⟨[Value.agg ⟨[Value.slice none 0 0, Value.slice none 0 0, Value.slice none 0 0, Value.slice none 0 0, Value.slice none 0 0, Value.int IntKind.i64 0]⟩, Value.int IntKind.i64 2]⟩ = zero8)
 (Ide.bcase (decide (h3 ≥ 3))
 (Value.tuple ⟨[Value.agg ⟨[Value.slice none 0 0, Value.slice none 0 0, Value.slice none 0 0, Value.slice none 0 0, Value.slice none 0 0, Value.int IntKind.i64 0]⟩, Value.int IntKind.i64 2]⟩ = zero8)
 (Ide.bcase (decide (h4 < 0))
 (Value.tuple ⟨[Value.agg ⟨[Value.slice none 0 0, Value.slice none 0 0, Value.slice none 0 0, Value.slice none 0 0, Value.slice none 0 0, Value.int IntKind.i64 0]⟩, Value.int IntKind.i64 2]⟩ = zero8)
 (Ide.bcase (decide (h4 ≥ 3))
 (Value.tuple ⟨[Value.agg ⟨[Value.slice none 0 0, Value.slice none 0 0, Value.slice none 0 0, Value.slice none 0 0, Value.slice none 0 0, Value.int IntKind.i64 0]⟩, Value.int IntKind.i64 2]⟩ = zero8)
 (Ide.bcase (decide (h5 < 0))
 (Value.tuple ⟨[Value.agg ⟨[Value.slice none 0 0, Value.slice none 0 0, Value.slice none 0 0, Value.slice none 0 0, Value.slice none 0 0, Value.int IntKind.i64 0]⟩, Value.int IntKind.i64 2]⟩ = zero8)
 (Ide.bcase (decide (h5 ≥ 3))
 (Value.tuple ⟨[Value.agg ⟨[Value.slice none 0 0, Value.slice none 0 0, Value.slice none 0 0, Value.slice none 0 0, Value.slice none 0 0, Value.int IntKind.i64 0]⟩, Value.int IntKind.i64 2]⟩ = zero8)
 (Ide.bcase (decide (h6 < 0))
 (Value.tuple ⟨[Value.agg ⟨[Value.slice none 0 0, Value.slice none 0 0, Value.slice none 0 0, Value.slice none 0 0, Value.slice none 0 0, Value.int IntKind.i64 0]⟩, Value.int IntKind.i64 2]⟩ = zero8)
 (Ide.bcase (decide (h6 ≥ 3))
 (Value.tuple ⟨[Value.agg ⟨[Value.slice none 0 0, Value.slice none 0 0, Value.slice none 0 0, Value.slice none 0 0, Value.slice none 0 0, Value.int IntKind.i64 0]⟩, Value.int IntKind.i64 2]⟩ = zero8)
 (Ide.bcase (decide (h7 < 0))
 (Value.tuple ⟨[Value.agg ⟨[Value.slice none 0 0, Value.slice none 0 0, Value.slice none 0 0, Value.slice none 0 0, Value.slice none 0 0, Value.int IntKind.i64 0]⟩, Value.int IntKind.i64 2]⟩ = zero8)
 (Ide.bcase (decide (h7 ≥ 3))
 (Value.tuple ⟨[Value.agg ⟨[Value.slice none 0 0, Value.slice none 0 0, Value.slice none 0 0, Value.slice none 0 0, Value.slice none 0 0, Value.int IntKind.i64 0]⟩, Value.int IntKind.i64 2]⟩ = zero8)
 (Value.tuple ⟨[Value.agg ⟨[Value.slice (some ⟨32, 0, some 2⟩) 8 8, Value.slice (some ⟨34, 0, some 2⟩) 8 8, Value.slice (some ⟨92, 0, some 2⟩) 3 3, Value.slice (some ⟨94, 0, some 2⟩) 3 3, Value.slice none 0 0, Value.int IntKind.i64 0]⟩, Value.int IntKind.i64 0]⟩ = zero8)))))))))))))))))) (by kernel_rfl) ?_
  repeat' first
    | exact rfl
    | refine bcI (fun h => ?_) (fun h => ?_)
    | (exfalso; apply hb; simp only [decide_eq_false_iff_not, ge_iff_le] at *; omega)


end Go.Proofs.YtjjnlbceoajllaaGreat.Firsts
