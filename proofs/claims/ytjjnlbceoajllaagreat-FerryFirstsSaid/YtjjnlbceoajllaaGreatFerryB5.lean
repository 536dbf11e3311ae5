/- Runs with 5 machines. -/
import Derived.Test.YtjjnlbceoajllaaGreatFerryA
set_option linter.unusedVariables false
set_option linter.unusedSimpArgs false
set_option maxRecDepth 100000
open Go Go.RowKit Ide
namespace Go.Proofs.YtjjnlbceoajllaaGreat.Firsts
open Go.Proofs

theorem good_5_1 (h0 : Int) (a0 : 0 ≤ h0) (b0 : h0 < 5) : runLaw 5 [h0] := by
  refine Eq.mp (α := ((decide (h0 < 0)) = false ∧ (false = false ∧ (false = false ∧ ((decide (h0 ≥ 5)) = false ∧ ((decide (h0 < 0)) = false ∧ (false = false ∧ (false = false ∧ ((decide (h0 ≥ 5)) = false ∧ ((!(((h0 == 0) == (h0 == 0)) && ((h0 == h0) && (true && true)))) = false ∧ ((!(((h0 == 1) == (h0 == 1)) && ((h0 == h0) && (true && true)))) = false ∧ ((!(((h0 == 2) == (h0 == 2)) && ((h0 == h0) && (true && true)))) = false ∧ ((!(((h0 == 3) == (h0 == 3)) && ((h0 == h0) && (true && true)))) = false ∧ ((!(((h0 == 4) == (h0 == 4)) && ((h0 == h0) && (true && true)))) = false ∧ (Value.bool true = Value.bool true))))))))))))))) (by kernel_rfl) ?_
  refine ⟨?_, ?_, ?_, ?_, ?_, ?_, ?_, ?_, ?_, ?_, ?_, ?_, ?_, rfl⟩ <;> simp <;> omega

theorem good_5_2 (h0 h1 : Int) (a0 : 0 ≤ h0) (b0 : h0 < 5) (a1 : 0 ≤ h1) (b1 : h1 < 5) : runLaw 5 [h0, h1] := by
  refine Eq.mp (α := ((decide (h0 < 0)) = false ∧ (false = false ∧ (false = false ∧ ((decide (h0 ≥ 5)) = false ∧ ((decide (h1 < 0)) = false ∧ (false = false ∧ (false = false ∧ ((decide (h1 ≥ 5)) = false ∧ ((decide (h0 < 0)) = false ∧ (false = false ∧ (false = false ∧ ((decide (h0 ≥ 5)) = false ∧ ((decide (h1 < 0)) = false ∧ (false = false ∧ (false = false ∧ ((decide (h1 ≥ 5)) = false ∧ ((!(((h0 == 0) == (h0 == 0)) && ((h0 == h0) && (true && true)))) = false ∧ ((!(((h1 == 0) == (h1 == 0)) && ((h1 == h1) && (true && true)))) = false ∧ ((!(((h0 == 1) == (h0 == 1)) && ((h0 == h0) && (true && true)))) = false ∧ ((!(((h1 == 1) == (h1 == 1)) && ((h1 == h1) && (true && true)))) = false ∧ ((!(((h0 == 2) == (h0 == 2)) && ((h0 == h0) && (true && true)))) = false ∧ ((!(((h1 == 2) == (h1 == 2)) && ((h1 == h1) && (true && true)))) = false ∧ ((!(((h0 == 3) == (h0 == 3)) && ((h0 == h0) && (true && true)))) = false ∧ ((!(((h1 == 3) == (h1 == 3)) && ((h1 == h1) && (true && true)))) = false ∧ ((!(((h0 == 4) == (h0 == 4)) && ((h0 == h0) && (true && true)))) = false ∧ ((!(((h1 == 4) == (h1 == 4)) && ((h1 == h1) && (true && true)))) = false ∧ (Value.bool true = Value.bool true)))))))))))))))))))))))))))) (by kernel_rfl) ?_
  refine ⟨?_, ?_, ?_, ?_, ?_, ?_, ?_, ?_, ?_, ?_, ?_, ?_, ?_, ?_, ?_, ?_, ?_, ?_, ?_, ?_, ?_, ?_, ?_, ?_, ?_, ?_, rfl⟩ <;> simp <;> omega

theorem good_5_3 (h0 h1 h2 : Int) (a0 : 0 ≤ h0) (b0 : h0 < 5) (a1 : 0 ≤ h1) (b1 : h1 < 5) (a2 : 0 ≤ h2) (b2 : h2 < 5) : runLaw 5 [h0, h1, h2] := by
  refine Eq.mp (α := ((decide (h0 < 0)) = false ∧ (false = false ∧ (false = false ∧ ((decide (h0 ≥ 5)) = false ∧ ((decide (h1 < 0)) = false ∧ (false = false ∧ (false = false ∧ ((decide (h1 ≥ 5)) = false ∧ ((decide (h2 < 0)) = false ∧ (false = false ∧ (false = false ∧ ((decide (h2 ≥ 5)) = false ∧ ((decide (h0 < 0)) = false ∧ (false = false ∧ (false = false ∧ ((decide (h0 ≥ 5)) = false ∧ ((decide (h1 < 0)) = false ∧ (false = false ∧ (false = false ∧ ((decide (h1 ≥ 5)) = false ∧ ((decide (h2 < 0)) = false ∧ (false = false ∧ (false = false ∧ ((decide (h2 ≥ 5)) = false ∧ ((!(((h0 == 0) == (h0 == 0)) && ((h0 == h0) && (true && true)))) = false ∧ ((!(((h1 == 0) == (h1 == 0)) && ((h1 == h1) && (true && true)))) = false ∧ ((!(((h2 == 0) == (h2 == 0)) && ((h2 == h2) && (true && true)))) = false ∧ ((!(((h0 == 1) == (h0 == 1)) && ((h0 == h0) && (true && true)))) = false ∧ ((!(((h1 == 1) == (h1 == 1)) && ((h1 == h1) && (true && true)))) = false ∧ ((!(((h2 == 1) == (h2 == 1)) && ((h2 == h2) && (true && true)))) = false ∧ ((!(((h0 == 2) == (h0 == 2)) && ((h0 == h0) && (true && true)))) = false ∧ ((!(((h1 == 2) == (h1 == 2)) && ((h1 == h1) && (true && true)))) = false ∧ ((!(((h2 == 2) == (h2 == 2)) && ((h2 == h2) && (true && true)))) = false ∧ ((!(((h0 == 3) == (h0 == 3)) && ((h0 == h0) && (true && true)))) = false ∧ ((!(((h1 == 3) == (h1 == 3)) && ((h1 == h1) && (true && true)))) = false ∧ ((!(((h2 == 3) == (h2 == 3)) && ((h2 == h2) && (true && true)))) = false ∧ ((!(((h0 == 4) == (h0 == 4)) && ((h0 == h0) && (true && true)))) = false ∧ ((!(((h1 == 4) == (h1 == 4)) && ((h1 == h1) && (true && true)))) = false ∧ ((!(((h2 == 4) == (h2 == 4)) && ((h2 == h2) && (true && true)))) = false ∧ (Value.bool true = Value.bool true))))))))))))))))))))))))))))))))))))))))) (by kernel_rfl) ?_
  refine ⟨?_, ?_, ?_, ?_, ?_, ?_, ?_, ?_, ?_, ?_, ?_, ?_, ?_, ?_, ?_, ?_, ?_, ?_, ?_, ?_, ?_, ?_, ?_, ?_, ?_, ?_, ?_, ?_, ?_, ?_, ?_, ?_, ?_, ?_, ?_, ?_, ?_, ?_, ?_, rfl⟩ <;> simp <;> omega

theorem good_5_4 (h0 h1 h2 h3 : Int) (a0 : 0 ≤ h0) (b0 : h0 < 5) (a1 : 0 ≤ h1) (b1 : h1 < 5) (a2 : 0 ≤ h2) (b2 : h2 < 5) (a3 : 0 ≤ h3) (b3 : h3 < 5) : runLaw 5 [h0, h1, h2, h3] := by
  refine Eq.mp (α := ((decide (h0 < 0)) = false ∧ (false = false ∧ (false = false ∧ ((decide (h0 ≥ 5)) = false ∧ ((decide (h1 < 0)) = false ∧ (false = false ∧ (false = false ∧ ((decide (h1 ≥ 5)) = false ∧ ((decide (h2 < 0)) = false ∧ (false = false ∧ (false = false ∧ ((decide (h2 ≥ 5)) = false ∧ ((decide (h3 < 0)) = false ∧ (false = false ∧ (false = false ∧ ((decide (h3 ≥ 5)) = false ∧ ((decide (h0 < 0)) = false ∧ (false = false ∧ (false = false ∧ ((decide (h0 ≥ 5)) = false ∧ ((decide (h1 < 0)) = false ∧ (false = false ∧ (false = false ∧ ((decide (h1 ≥ 5)) = false ∧ ((decide (h2 < 0)) = false ∧ (false = false ∧ (false = false ∧ ((decide (h2 ≥ 5)) = false ∧ ((decide (h3 < 0)) = false ∧ (false = false ∧ (false = false ∧ ((decide (h3 ≥ 5)) = false ∧ ((!(((h0 == 0) == (h0 == 0)) && ((h0 == h0) && (true && true)))) = false ∧ ((!(((h1 == 0) == (h1 == 0)) && ((h1 == h1) && (true && true)))) = false ∧ ((!(((h2 == 0) == (h2 == 0)) && ((h2 == h2) && (true && true)))) = false ∧ ((!(((h3 == 0) == (h3 == 0)) && ((h3 == h3) && (true && true)))) = false ∧ ((!(((h0 == 1) == (h0 == 1)) && ((h0 == h0) && (true && true)))) = false ∧ ((!(((h1 == 1) == (h1 == 1)) && ((h1 == h1) && (true && true)))) = false ∧ ((!(((h2 == 1) == (h2 == 1)) && ((h2 == h2) && (true && true)))) = false ∧ ((!(((h3 == 1) == (h3 == 1)) && ((h3 == h3) && (true && true)))) = false ∧ ((!(((h0 == 2) == (h0 == 2)) && ((h0 == h0) && (true && true)))) = false ∧ ((!(((h1 == 2) == (h1 == 2)) && ((h1 == h1) && (true && true)))) = false ∧ ((!(((h2 == 2) == (h2 == 2)) && ((h2 == h2) && (true && true)))) = false ∧ ((!(((h3 == 2) == (h3 == 2)) && ((h3 == h3) && (true && true)))) = false ∧ ((!(((h0 == 3) == (h0 == 3)) && ((h0 == h0) && (true && true)))) = false ∧ ((!(((h1 == 3) == (h1 == 3)) && ((h1 == h1) && (true && true)))) = false ∧ ((!(((h2 == 3) == (h2 == 3)) && ((h2 == h2) && (true && true)))) = false ∧ ((!(((h3 == 3) == (h3 == 3)) && ((h3 == h3) && (true && true)))) = false ∧ ((!(((h0 == 4) == (h0 == 4)) && ((h0 == h0) && (true && true)))) = false ∧ ((!(((h1 == 4) == (h1 == 4)) && ((h1 == h1) && (true && true)))) = false ∧ ((!(((h2 == 4) == (h2 == 4)) && ((h2 == h2) && (true && true)))) = false ∧ ((!(((h3 == 4) == (h3 == 4)) && ((h3 == h3) && (true && true)))) = false ∧ (Value.bool true = Value.bool true)))))))))))))))))))))))))))))))))))))))))))))))))))))) (by kernel_rfl) ?_
  refine ⟨?_, ?_, ?_, ?_, ?_, ?_, ?_, ?_, ?_, ?_, ?_, ?_, ?_, ?_, ?_, ?_, ?_, ?_, ?_, ?_, ?_, ?_, ?_, ?_, ?_, ?_, ?_, ?_, ?_, ?_, ?_, ?_, ?_, ?_, ?_, ?_, ?_, ?_, ?_, ?_, ?_, ?_, ?_, ?_, ?_, ?_, ?_, ?_, ?_, ?_, ?_, ?_, rfl⟩ <;> simp <;> omega

theorem good_5_5 (h0 h1 h2 h3 h4 : Int) (a0 : 0 ≤ h0) (b0 : h0 < 5) (a1 : 0 ≤ h1) (b1 : h1 < 5) (a2 : 0 ≤ h2) (b2 : h2 < 5) (a3 : 0 ≤ h3) (b3 : h3 < 5) (a4 : 0 ≤ h4) (b4 : h4 < 5) : runLaw 5 [h0, h1, h2, h3, h4] := by
  refine Eq.mp (α := ((decide (h0 < 0)) = false ∧ (false = false ∧ (false = false ∧ ((decide (h0 ≥ 5)) = false ∧ ((decide (h1 < 0)) = false ∧ (false = false ∧ (false = false ∧ ((decide (h1 ≥ 5)) = false ∧ ((decide (h2 < 0)) = false ∧ (false = false ∧ (false = false ∧ ((decide (h2 ≥ 5)) = false ∧ ((decide (h3 < 0)) = false ∧ (false = false ∧ (false = false ∧ ((decide (h3 ≥ 5)) = false ∧ ((decide (h4 < 0)) = false ∧ (false = false ∧ (false = false ∧ ((decide (h4 ≥ 5)) = false ∧ ((decide (h0 < 0)) = false ∧ (false = false ∧ (false = false ∧ ((decide (h0 ≥ 5)) = false ∧ ((decide (h1 < 0)) = false ∧ (false = false ∧ (false = false ∧ ((decide (h1 ≥ 5)) = false ∧ ((decide (h2 < 0)) = false ∧ (false = false ∧ (false = false ∧ ((decide (h2 ≥ 5)) = false ∧ ((decide (h3 < 0)) = false ∧ (false = false ∧ (false = false ∧ ((decide (h3 ≥ 5)) = false ∧ ((decide (h4 < 0)) = false ∧ (false = false ∧ (false = false ∧ ((decide (h4 ≥ 5)) = false ∧ ((!(((h0 == 0) == (h0 == 0)) && ((h0 == h0) && (true && true)))) = false ∧ ((!(((h1 == 0) == (h1 == 0)) && ((h1 == h1) && (true && true)))) = false ∧ ((!(((h2 == 0) == (h2 == 0)) && ((h2 == h2) && (true && true)))) = false ∧ ((!(((h3 == 0) == (h3 == 0)) && ((h3 == h3) && (true && true)))) = false ∧ ((!(((h4 == 0) == (h4 == 0)) && ((h4 == h4) && (true && true)))) = false ∧ ((!(((h0 == 1) == (h0 == 1)) && ((h0 == h0) && (true && true)))) = false ∧ ((!(((h1 == 1) == (h1 == 1)) && ((h1 == h1) && (true && true)))) = false ∧ ((!(((h2 == 1) == (h2 == 1)) && ((h2 == h2) && (true && true)))) = false ∧ ((!(((h3 == 1) == (h3 == 1)) && ((h3 == h3) && (true && true)))) = false ∧ ((!(((h4 == 1) == (h4 == 1)) && ((h4 == h4) && (true && true)))) = false ∧ ((!(((h0 == 2) == (h0 == 2)) && ((h0 == h0) && (true && true)))) = false ∧ ((!(((h1 == 2) == (h1 == 2)) && ((h1 == h1) && (true && true)))) = false ∧ ((!(((h2 == 2) == (h2 == 2)) && ((h2 == h2) && (true && true)))) = false ∧ ((!(((h3 == 2) == (h3 == 2)) && ((h3 == h3) && (true && true)))) = false ∧ ((!(((h4 == 2) == (h4 == 2)) && ((h4 == h4) && (true && true)))) = false ∧ ((!(((h0 == 3) == (h0 == 3)) && ((h0 == h0) && (true && true)))) = false ∧ ((!(((h1 == 3) == (h1 == 3)) && ((h1 == h1) && (true && true)))) = false ∧ ((!(((h2 == 3) == (h2 == 3)) && ((h2 == h2) && (true && true)))) = false ∧ ((!(((h3 == 3) == (h3 == 3)) && ((h3 == h3) && (true && true)))) = false ∧ ((!(((h4 == 3) == (h4 == 3)) && ((h4 == h4) && (true && true)))) = false ∧ ((!(((h0 == 4) == (h0 == 4)) && ((h0 == h0) && (true && true)))) = false ∧ ((!(((h1 == 4) == (h1 == 4)) && ((h1 == h1) && (true && true)))) = false ∧ ((!(((h2 == 4) == (h2 == 4)) && ((h2 == h2) && (true && true)))) = false ∧ ((!(((h3 == 4) == (h3 == 4)) && ((h3 == h3) && (true && true)))) = false ∧ ((!(((h4 == 4) == (h4 == 4)) && ((h4 == h4) && (true && true)))) = false ∧ (Value.bool true = Value.bool true))))))))))))))))))))))))))))))))))))))))))))))))))))))))))))))))))) (by kernel_rfl) ?_
  refine ⟨?_, ?_, ?_, ?_, ?_, ?_, ?_, ?_, ?_, ?_, ?_, ?_, ?_, ?_, ?_, ?_, ?_, ?_, ?_, ?_, ?_, ?_, ?_, ?_, ?_, ?_, ?_, ?_, ?_, ?_, ?_, ?_, ?_, ?_, ?_, ?_, ?_, ?_, ?_, ?_, ?_, ?_, ?_, ?_, ?_, ?_, ?_, ?_, ?_, ?_, ?_, ?_, ?_, ?_, ?_, ?_, ?_, ?_, ?_, ?_, ?_, ?_, ?_, ?_, ?_, rfl⟩ <;> simp <;> omega

theorem good_5_6 (h0 h1 h2 h3 h4 h5 : Int) (a0 : 0 ≤ h0) (b0 : h0 < 5) (a1 : 0 ≤ h1) (b1 : h1 < 5) (a2 : 0 ≤ h2) (b2 : h2 < 5) (a3 : 0 ≤ h3) (b3 : h3 < 5) (a4 : 0 ≤ h4) (b4 : h4 < 5) (a5 : 0 ≤ h5) (b5 : h5 < 5) : runLaw 5 [h0, h1, h2, h3, h4, h5] := by
  refine Eq.mp (α := ((decide (h0 < 0)) = false ∧ (false = false ∧ (false = false ∧ ((decide (h0 ≥ 5)) = false ∧ ((decide (h1 < 0)) = false ∧ (false = false ∧ (false = false ∧ ((decide (h1 ≥ 5)) = false ∧ ((decide (h2 < 0)) = false ∧ (false = false ∧ (false = false ∧ ((decide (h2 ≥ 5)) = false ∧ ((decide (h3 < 0)) = false ∧ (false = false ∧ (false = false ∧ ((decide (h3 ≥ 5)) = false ∧ ((decide (h4 < 0)) = false ∧ (false = false ∧ (false = false ∧ ((decide (h4 ≥ 5)) = false ∧ ((decide (h5 < 0)) = false ∧ (false = false ∧ (false = false ∧ ((decide (h5 ≥ 5)) = false ∧ ((decide (h0 < 0)) = false ∧ (false = false ∧ (false = false ∧ ((decide (h0 ≥ 5)) = false ∧ ((decide (h1 < 0)) = false ∧ (false = false ∧ (false = false ∧ ((decide (h1 ≥ 5)) = false ∧ ((decide (h2 < 0)) = false ∧ (false = false ∧ (false = false ∧ ((decide (h2 ≥ 5)) = false ∧ ((decide (h3 < 0)) = false ∧ (false = false ∧ (false = false ∧ ((decide (h3 ≥ 5)) = false ∧ ((decide (h4 < 0)) = false ∧ (false = false ∧ (false = false ∧ ((decide (h4 ≥ 5)) = false ∧ ((decide (h5 < 0)) = false ∧ (false = false ∧ (false = false ∧ ((decide (h5 ≥ 5)) = false ∧ ((!(((h0 == 0) == (h0 == 0)) && ((h0 == h0) && (true && true)))) = false ∧ ((!(((h1 == 0) == (h1 == 0)) && ((h1 == h1) && (true && true)))) = false ∧ ((!(((h2 == 0) == (h2 == 0)) && ((h2 == h2) && (true && true)))) = false ∧ ((!(((h3 == 0) == (h3 == 0)) && ((h3 == h3) && (true && true)))) = false ∧ ((!(((h4 == 0) == (h4 == 0)) && ((h4 == h4) && (true && true)))) = false ∧ ((!(((h5 == 0) == (h5 == 0)) && ((h5 == h5) && (true && true)))) = false ∧ ((!(((h0 == 1) == (h0 == 1)) && ((h0 == h0) && (true && true)))) = false ∧ ((!(((h1 == 1) == (h1 == 1)) && ((h1 == h1) && (true && true)))) = false ∧ ((!(((h2 == 1) == (h2 == 1)) && ((h2 == h2) && (true && true)))) = false ∧ ((!(((h3 == 1) == (h3 == 1)) && ((h3 == h3) && (true && true)))) = false ∧ ((!(((h4 == 1) == (h4 == 1)) && ((h4 == h4) && (true && true)))) = false ∧ ((!(((h5 == 1) == (h5 == 1)) && ((h5 == h5) && (true && true)))) = false ∧ ((!(((h0 == 2) == (h0 == 2)) && ((h0 == h0) && (true && true)))) = false ∧ ((!(((h1 == 2) == (h1 == 2)) && ((h1 == h1) && (true && true)))) = false ∧ ((!(((h2 == 2) == (h2 == 2)) && ((h2 == h2) && (true && true)))) = false ∧ ((!(((h3 == 2) == (h3 == 2)) && ((h3 == h3) && (true && true)))) = false ∧ ((!(((h4 == 2) == (h4 == 2)) && ((h4 == h4) && (true && true)))) = false ∧ ((!(((h5 == 2) == (h5 == 2)) && ((h5 == h5) && (true && true)))) = false ∧ ((!(((h0 == 3) == (h0 == 3)) && ((h0 == h0) && (true && true)))) = false ∧ ((!(((h1 == 3) == (h1 == 3)) && ((h1 == h1) && (true && true)))) = false ∧ ((!(((h2 == 3) == (h2 == 3)) && ((h2 == h2) && (true && true)))) = false ∧ ((!(((h3 == 3) == (h3 == 3)) && ((h3 == h3) && (true && true)))) = false ∧ ((!(((h4 == 3) == (h4 == 3)) && ((h4 == h4) && (true && true)))) = false ∧ ((!(((h5 == 3) == (h5 == 3)) && ((h5 == h5) && (true && true)))) = false ∧ ((!(((h0 == 4) == (h0 == 4)) && ((h0 == h0) && (true && true)))) = false ∧ ((!(((h1 == 4) == (h1 == 4)) && ((h1 == h1) && (true && true)))) = false ∧ ((!(((h2 == 4) == (h2 == 4)) && ((h2 == h2) && (true && true)))) = false ∧ ((!(((h3 == 4) == (h3 == 4)) && ((h3 == h3) && (true && true)))) = false ∧ ((!(((h4 == 4) == (h4 == 4)) && ((h4 == h4) && (true && true)))) = false ∧ ((!(((h5 == 4) == (h5 == 4)) && ((h5 == h5) && (true && true)))) = false ∧ (Value.bool true = Value.bool true)))))))))))))))))))))))))))))))))))))))))))))))))))))))))))))))))))))))))))))))) (by kernel_rfl) ?_
  refine ⟨?_, ?_, ?_, ?_, ?_, ?_, ?_, ?_, ?_, ?_, ?_, ?_, ?_, ?_, ?_, ?_, ?_, ?_, ?_, ?_, ?_, ?_, ?_, ?_, ?_, ?_, ?_, ?_, ?_, ?_, ?_, ?_, ?_, ?_, ?_, ?_, ?_, ?_, ?_, ?_, ?_, ?_, ?_, ?_, ?_, ?_, ?_, ?_, ?_, ?_, ?_, ?_, ?_, ?_, ?_, ?_, ?_, ?_, ?_, ?_, ?_, ?_, ?_, ?_, ?_, ?_, ?_, ?_, ?_, ?_, ?_, ?_, ?_, ?_, ?_, ?_, ?_, ?_, rfl⟩ <;> simp <;> omega

theorem good_5_7 (h0 h1 h2 h3 h4 h5 h6 : Int) (a0 : 0 ≤ h0) (b0 : h0 < 5) (a1 : 0 ≤ h1) (b1 : h1 < 5) (a2 : 0 ≤ h2) (b2 : h2 < 5) (a3 : 0 ≤ h3) (b3 : h3 < 5) (a4 : 0 ≤ h4) (b4 : h4 < 5) (a5 : 0 ≤ h5) (b5 : h5 < 5) (a6 : 0 ≤ h6) (b6 : h6 < 5) : runLaw 5 [h0, h1, h2, h3, h4, h5, h6] := by
  refine Eq.mp (α := ((decide (h0 < 0)) = false ∧ (false = false ∧ (false = false ∧ ((decide (h0 ≥ 5)) = false ∧ ((decide (h1 < 0)) = false ∧ (false = false ∧ (false = false ∧ ((decide (h1 ≥ 5)) = false ∧ ((decide (h2 < 0)) = false ∧ (false = false ∧ (false = false ∧ ((decide (h2 ≥ 5)) = false ∧ ((decide (h3 < 0)) = false ∧ (false = false ∧ (false = false ∧ ((decide (h3 ≥ 5)) = false ∧ ((decide (h4 < 0)) = false ∧ (false = false ∧ (false = false ∧ ((decide (h4 ≥ 5)) = false ∧ ((decide (h5 < 0)) = false ∧ (false = false ∧ (false = false ∧ ((decide (h5 ≥ 5)) = false ∧ ((decide (h6 < 0)) = false ∧ (false = false ∧ (false = false ∧ ((decide (h6 ≥ 5)) = false ∧ ((decide (h0 < 0)) = false ∧ (false = false ∧ (false = false ∧ ((decide (h0 ≥ 5)) = false ∧ ((decide (h1 < 0)) = false ∧ (false = false ∧ (false = false ∧ ((decide (h1 ≥ 5)) = false ∧ ((decide (h2 < 0)) = false ∧ (false = false ∧ (false = false ∧ ((decide (h2 ≥ 5)) = false ∧ ((decide (h3 < 0)) = false ∧ (false = false ∧ (false = false ∧ ((decide (h3 ≥ 5)) = false ∧ ((decide (h4 < 0)) = false ∧ (false = false ∧ (false = false ∧ ((decide (h4 ≥ 5)) = false ∧ ((decide (h5 < 0)) = false ∧ (false = false ∧ (false = false ∧ ((decide (h5 ≥ 5)) = false ∧ ((decide (h6 < 0)) = false ∧ (false = false ∧ (false = false ∧ ((decide (h6 ≥ 5)) = false ∧ ((!(((h0 == 0) == (h0 == 0)) && ((h0 == h0) && (true && true)))) = false ∧ ((!(((h1 == 0) == (h1 == 0)) && ((h1 == h1) && (true && true)))) = false ∧ ((!(((h2 == 0) == (h2 == 0)) && ((h2 == h2) && (true && true)))) = false ∧ ((!(((h3 == 0) == (h3 == 0)) && ((h3 == h3) && (true && true)))) = false ∧ ((!(((h4 == 0) == (h4 == 0)) && ((h4 == h4) && (true && true)))) = false ∧ ((!(((h5 == 0) == (h5 == 0)) && ((h5 == h5) && (true && true)))) = false ∧ ((!(((h6 == 0) == (h6 == 0)) && ((h6 == h6) && (true && true)))) = false ∧ ((!(((h0 == 1) == (h0 == 1)) && ((h0 == h0) && (true && true)))) = false ∧ ((!(((h1 == 1) == (h1 == 1)) && ((h1 == h1) && (true && true)))) = false ∧ ((!(((h2 == 1) == (h2 == 1)) && ((h2 == h2) && (true && true)))) = false ∧ ((!(((h3 == 1) == (h3 == 1)) && ((h3 == h3) && (true && true)))) = false ∧ ((!(((h4 == 1) == (h4 == 1)) && ((h4 == h4) && (true && true)))) = false ∧ ((!(((h5 == 1) == (h5 == 1)) && ((h5 == h5) && (true && true)))) = false ∧ ((!(((h6 == 1) == (h6 == 1)) && ((h6 == h6) && (true && true)))) = false ∧ ((!(((h0 == 2) == (h0 == 2)) && ((h0 == h0) && (true && true)))) = false ∧ ((!(((h1 == 2) == (h1 == 2)) && ((h1 == h1) && (true && true)))) = false ∧ ((!(((h2 == 2) == (h2 == 2)) && ((h2 == h2) && (true && true)))) = false ∧ ((!(((h3 == 2) == (h3 == 2)) && ((h3 == h3) && (true && true)))) = false ∧ ((!(((h4 == 2) == (h4 == 2)) && ((h4 == h4) && (true && true)))) = false ∧ ((!(((h5 == 2) == (h5 == 2)) && ((h5 == h5) && (true && true)))) = false ∧ ((!(((h6 == 2) == (h6 == 2)) && ((h6 == h6) && (true && true)))) = false ∧ ((!(((h0 == 3) == (h0 == 3)) && ((h0 == h0) && (true && true)))) = false ∧ ((!(((h1 == 3) == (h1 == 3)) && ((h1 == h1) && (true && true)))) = false ∧ ((!(((h2 == 3) == (h2 == 3)) && ((h2 == h2) && (true && true)))) = false ∧ ((!(((h3 == 3) == (h3 == 3)) && ((h3 == h3) && (true && true)))) = false ∧ ((!(((h4 == 3) == (h4 == 3)) && ((h4 == h4) && (true && true)))) = false ∧ ((!(((h5 == 3) == (h5 == 3)) && ((h5 == h5) && (true && true)))) = false ∧ ((!(((h6 == 3) == (h6 == 3)) && ((h6 == h6) && (true && true)))) = false ∧ ((!(((h0 == 4) == (h0 == 4)) && ((h0 == h0) && (true && true)))) = false ∧ ((!(((h1 == 4) == (h1 == 4)) && ((h1 == h1) && (true && true)))) = false ∧ ((!(((h2 == 4) == (h2 == 4)) && ((h2 == h2) && (true && true)))) = false ∧ ((!(((h3 == 4) == (h3 == 4)) && ((h3 == h3) && (true && true)))) = false ∧ ((!(((h4 == 4) == (h4 == 4)) && ((h4 == h4) && (true && true)))) = false ∧ ((!(((h5 == 4) == (h5 == 4)) && ((h5 == h5) && (true && true)))) = false ∧ ((!(((h6 == 4) == (h6 == 4)) && ((h6 == h6) && (true && true)))) = false ∧ (Value.bool true = Value.bool true))))))))))))))))))))))))))))))))))))))))))))))))))))))))))))))))))))))))))))))))))))))))))))) (by kernel_rfl) ?_
  refine ⟨?_, ?_, ?_, ?_, ?_, ?_, ?_, ?_, ?_, ?_, ?_, ?_, ?_, ?_, ?_, ?_, ?_, ?_, ?_, ?_, ?_, ?_, ?_, ?_, ?_, ?_, ?_, ?_, ?_, ?_, ?_, ?_, ?_, ?_, ?_, ?_, ?_, ?_, ?_, ?_, ?_, ?_, ?_, ?_, ?_, ?_, ?_, ?_, ?_, ?_, ?_, ?_, ?_, ?_, ?_, ?_, ?_, ?_, ?_, ?_, ?_, ?_, ?_, ?_, ?_, ?_, ?_, ?_, ?_, ?_, ?_, ?_, ?_, ?_, ?_, ?_, ?_, ?_, ?_, ?_, ?_, ?_, ?_, ?_, ?_, ?_, ?_, ?_, ?_, ?_, ?_, rfl⟩ <;> simp <;> omega

theorem good_5_8 (h0 h1 h2 h3 h4 h5 h6 h7 : Int) (a0 : 0 ≤ h0) (b0 : h0 < 5) (a1 : 0 ≤ h1) (b1 : h1 < 5) (a2 : 0 ≤ h2) (b2 : h2 < 5) (a3 : 0 ≤ h3) (b3 : h3 < 5) (a4 : 0 ≤ h4) (b4 : h4 < 5) (a5 : 0 ≤ h5) (b5 : h5 < 5) (a6 : 0 ≤ h6) (b6 : h6 < 5) (a7 : 0 ≤ h7) (b7 : h7 < 5) : runLaw 5 [h0, h1, h2, h3, h4, h5, h6, h7] := by
  refine Eq.mp (α := ((decide (h0 < 0)) = false ∧ (false = false ∧ (false = false ∧ ((decide (h0 ≥ 5)) = false ∧ ((decide (h1 < 0)) = false ∧ (false = false ∧ (false = false ∧ ((decide (h1 ≥ 5)) = false ∧ ((decide (h2 < 0)) = false ∧ (false = false ∧ (false = false ∧ ((decide (h2 ≥ 5)) = false ∧ ((decide (h3 < 0)) = false ∧ (false = false ∧ (false = false ∧ ((decide (h3 ≥ 5)) = false ∧ ((decide (h4 < 0)) = false ∧ (false = false ∧ (false = false ∧ ((decide (h4 ≥ 5)) = false ∧ ((decide (h5 < 0)) = false ∧ (false = false ∧ (false = false ∧ ((decide (h5 ≥ 5)) = false ∧ ((decide (h6 < 0)) = false ∧ (false = false ∧ (false = false ∧ ((decide (h6 ≥ 5)) = false ∧ ((decide (h7 < 0)) = false ∧ (false = false ∧ (false = false ∧ ((decide (h7 ≥ 5)) = false ∧ ((decide (h0 < 0)) = false ∧ (false = false ∧ (false = false ∧ ((decide (h0 ≥ 5)) = false ∧ ((decide (h1 < 0)) = false ∧ (false = false ∧ (false = false ∧ ((decide (h1 ≥ 5)) = false ∧ ((decide (h2 < 0)) = false ∧ (false = false ∧ (false = false ∧ ((decide (h2 ≥ 5)) = false ∧ ((decide (h3 < 0)) = false ∧ (false = false ∧ (false = false ∧ ((decide (h3 ≥ 5)) = false ∧ ((decide (h4 < 0)) = false ∧ (false = false ∧ (false = false ∧ ((decide (h4 ≥ 5)) = false ∧ ((decide (h5 < 0)) = false ∧ (false = false ∧ (false = false ∧ ((decide (h5 ≥ 5)) = false ∧ ((decide (h6 < 0)) = false ∧ (false = false ∧ (false = false ∧ ((decide (h6 ≥ 5)) = false ∧ ((decide (h7 < 0)) = false ∧ (false = false ∧ (false = false ∧ ((decide (h7 ≥ 5)) = false ∧ ((!(((h0 == 0) == (h0 == 0)) && ((h0 == h0) && (true && true)))) = false ∧ ((!(((h1 == 0) == (h1 == 0)) && ((h1 == h1) && (true && true)))) = false ∧ ((!(((h2 == 0) == (h2 == 0)) && ((h2 == h2) && (true && true)))) = false ∧ ((!(((h3 == 0) == (h3 == 0)) && ((h3 == h3) && (true && true)))) = false ∧ ((!(((h4 == 0) == (h4 == 0)) && ((h4 == h4) && (true && true)))) = false ∧ ((!(((h5 == 0) == (h5 == 0)) && ((h5 == h5) && (true && true)))) = false ∧ ((!(((h6 == 0) == (h6 == 0)) && ((h6 == h6) && (true && true)))) = false ∧ ((!(((h7 == 0) == (h7 == 0)) && ((h7 == h7) && (true && true)))) = false ∧ ((!(((h0 == 1) == (h0 == 1)) && ((h0 == h0) && (true && true)))) = false ∧ ((!(((h1 == 1) == (h1 == 1)) && ((h1 == h1) && (true && true)))) = false ∧ ((!(((h2 == 1) == (h2 == 1)) && ((h2 == h2) && (true && true)))) = false ∧ ((!(((h3 == 1) == (h3 == 1)) && ((h3 == h3) && (true && true)))) = false ∧ ((!(((h4 == 1) == (h4 == 1)) && ((h4 == h4) && (true && true)))) = false ∧ ((!(((h5 == 1) == (h5 == 1)) && ((h5 == h5) && (true && true)))) = false ∧ ((!(((h6 == 1) == (h6 == 1)) && ((h6 == h6) && (true && true)))) = false ∧ ((!(((h7 == 1) == (h7 == 1)) && ((h7 == h7) && (true && true)))) = false ∧ ((!(((h0 == 2) == (h0 == 2)) && ((h0 == h0) && (true && true)))) = false ∧ ((!(((h1 == 2) == (h1 == 2)) && ((h1 == h1) && (true && true)))) = false ∧ ((!(((h2 == 2) == (h2 == 2)) && ((h2 == h2) && (true && true)))) = false ∧ ((!(((h3 == 2) == (h3 == 2)) && ((h3 == h3) && (true && true)))) = false ∧ ((!(((h4 == 2) == (h4 == 2)) && ((h4 == h4) && (true && true)))) = false ∧ ((!(((h5 == 2) == (h5 == 2)) && ((h5 == h5) && (true && true)))) = false ∧ ((!(((h6 == 2) == (h6 == 2)) && ((h6 == h6) && (true && true)))) = false ∧ ((!(((h7 == 2) == (h7 == 2)) && ((h7 == h7) && (true && true)))) = false ∧ ((!(((h0 == 3) == (h0 == 3)) && ((h0 == h0) && (true && true)))) = false ∧ ((!(((h1 == 3) == (h1 == 3)) && ((h1 == h1) && (true && true)))) = false ∧ ((!(((h2 == 3) == (h2 == 3)) && ((h2 == h2) && (true && true)))) = false ∧ ((!(((h3 == 3) == (h3 == 3)) && ((h3 == h3) && (true && true)))) = false ∧ ((!(((h4 == 3) == (h4 == 3)) && ((h4 == h4) && (true && true)))) = false ∧ ((!(((h5 == 3) == (h5 == 3)) && ((h5 == h5) && (true && true)))) = false ∧ ((!(((h6 == 3) == (h6 == 3)) && ((h6 == h6) && (true && true)))) = false ∧ ((!(((h7 == 3) == (h7 == 3)) && ((h7 == h7) && (true && true)))) = false ∧ ((!(((h0 == 4) == (h0 == 4)) && ((h0 == h0) && (true && true)))) = false ∧ ((!(((h1 == 4) == (h1 == 4)) && ((h1 == h1) && (true && true)))) = false ∧ ((!(((h2 == 4) == (h2 == 4)) && ((h2 == h2) && (true && true)))) = false ∧ ((!(((h3 == 4) == (h3 == 4)) && ((h3 == h3) && (true && true)))) = false ∧ ((!(((h4 == 4) == (h4 == 4)) && ((h4 == h4) && (true && true)))) = false ∧ ((!(((h5 == 4) == (h5 == 4)) && ((h5 == h5) && (true && true)))) = false ∧ ((!(((h6 == 4) == (h6 == 4)) && ((h6 == h6) && (true && true)))) = false ∧ ((!(((h7 == 4) == (h7 == 4)) && ((h7 == h7) && (true && true)))) = false ∧ (Value.bool true = Value.bool true)))))))))))))))))))))))))))))))))))))))))))))))))))))))))))))))))))))))))))))))))))))))))))))))))))))))))) (by kernel_rfl) ?_
  refine ⟨?_, ?_, ?_, ?_, ?_, ?_, ?_, ?_, ?_, ?_, ?_, ?_, ?_, ?_, ?_, ?_, ?_, ?_, ?_, ?_, ?_, ?_, ?_, ?_, ?_, ?_, ?_, ?_, ?_, ?_, ?_, ?_, ?_, ?_, ?_, ?_, ?_, ?_, ?_, ?_, ?_, ?_, ?_, ?_, ?_, ?_, ?_, ?_, ?_, ?_, ?_, ?_, ?_, ?_, ?_, ?_, ?_, ?_, ?_, ?_, ?_, ?_, ?_, ?_, ?_, ?_, ?_, ?_, ?_, ?_, ?_, ?_, ?_, ?_, ?_, ?_, ?_, ?_, ?_, ?_, ?_, ?_, ?_, ?_, ?_, ?_, ?_, ?_, ?_, ?_, ?_, ?_, ?_, ?_, ?_, ?_, ?_, ?_, ?_, ?_, ?_, ?_, ?_, ?_, rfl⟩ <;> simp <;> omega

theorem bad7_5_1 (h0 : Int) (hb : ¬ ((0 ≤ h0 ∧ h0 < 5))) : runTo 7 5 [h0] zero7 := by
  refine Eq.mp (α := (Ide.bcase (decide (h0 < 0))
 (Value.tuple ⟨[Value.agg ⟨[Value.slice none 0 0, Value.slice none 0 0, Value.slice none 0 0, Value.slice none 0 0, Value.slice none 0 0, Value.int IntKind.i64 0]⟩, Value.bool false]⟩ = zero7)
 (Ide.bcase (decide (h0 ≥ 5))
 (Value.tuple ⟨[Value.agg ⟨[Value.slice none 0 0, Value.slice none 0 0, Value.slice none 0 0, Value.slice none 0 0, Value.slice none 0 0, Value.int IntKind.i64 0]⟩, Value.bool false]⟩ = zero7)
 (Value.tuple ⟨[Value.agg ⟨[Value.slice (some ⟨4, 0, some 2⟩) 1 1, Value.slice (some ⟨6, 0, some 2⟩) 1 1, Value.slice (some ⟨34, 0, some 2⟩) 5 5, Value.slice (some ⟨36, 0, some 2⟩) 5 5, Value.slice none 0 0, Value.int IntKind.i64 0]⟩, Value.bool true]⟩ = zero7)))) (by kernel_rfl) ?_
  repeat' first
    | exact rfl
    | refine bcI (fun h => ?_) (fun h => ?_)
    | (exfalso; apply hb; simp only [decide_eq_false_iff_not, ge_iff_le] at *; omega)

theorem bad7_5_2 (h0 h1 : Int) (hb : ¬ ((0 ≤ h0 ∧ h0 < 5) ∧ (0 ≤ h1 ∧ h1 < 5))) : runTo 7 5 [h0, h1] zero7 := by
  refine Eq.mp (α := (Ide.bcase (decide (h0 < 0))
 (Value.tuple ⟨[Value.agg ⟨[Value.slice none 0 0, Value.slice none 0 0, Value.slice none 0 0, Value.slice none 0 0, Value.slice none 0 0, Value.int IntKind.i64 0]⟩, Value.bool false]⟩ = zero7)
 (Ide.bcase (decide (h0 ≥ 5))
 (Value.tuple ⟨[Value.agg ⟨[Value.slice none 0 0, Value.slice none 0 0, Value.slice none 0 0, Value.slice none 0 0, Value.slice none 0 0, Value.int IntKind.i64 0]⟩, Value.bool false]⟩ = zero7)
 (Ide.bcase (decide (h1 < 0))
 (Value.tuple ⟨[Value.agg ⟨[Value.slice none 0 0, Value.slice none 0 0, Value.slice none 0 0, Value.slice none 0 0, Value.slice none 0 0, Value.int IntKind.i64 0]⟩, Value.bool false]⟩ = zero7)
 (Ide.bcase (decide (h1 ≥ 5))
 (Value.tuple ⟨[Value.agg ⟨[Value.slice none 0 0, Value.slice none 0 0, Value.slice none 0 0, Value.slice none 0 0, Value.slice none 0 0, Value.int IntKind.i64 0]⟩, Value.bool false]⟩ = zero7)
 (Value.tuple ⟨[Value.agg ⟨[Value.slice (some ⟨8, 0, some 2⟩) 2 2, Value.slice (some ⟨10, 0, some 2⟩) 2 2, Value.slice (some ⟨48, 0, some 2⟩) 5 5, Value.slice (some ⟨50, 0, some 2⟩) 5 5, Value.slice none 0 0, Value.int IntKind.i64 0]⟩, Value.bool true]⟩ = zero7)))))) (by kernel_rfl) ?_
  repeat' first
    | exact rfl
    | refine bcI (fun h => ?_) (fun h => ?_)
    | (exfalso; apply hb; simp only [decide_eq_false_iff_not, ge_iff_le] at *; omega)

theorem bad7_5_3 (h0 h1 h2 : Int) (hb : ¬ ((0 ≤ h0 ∧ h0 < 5) ∧ (0 ≤ h1 ∧ h1 < 5) ∧ (0 ≤ h2 ∧ h2 < 5))) : runTo 7 5 [h0, h1, h2] zero7 := by
  refine Eq.mp (α := (Ide.bcase (decide (h0 < 0))
 (Value.tuple ⟨[Value.agg ⟨[Value.slice none 0 0, Value.slice none 0 0, Value.slice none 0 0, Value.slice none 0 0, Value.slice none 0 0, Value.int IntKind.i64 0]⟩, Value.bool false]⟩ = zero7)
 (Ide.bcase (decide (h0 ≥ 5))
 (Value.tuple ⟨[Value.agg ⟨[Value.slice none 0 0, Value.slice none 0 0, Value.slice none 0 0, Value.slice none 0 0, Value.slice none 0 0, Value.int IntKind.i64 0]⟩, Value.bool false]⟩ = zero7)
 (Ide.bcase (decide (h1 < 0))
 (Value.tuple ⟨[Value.agg ⟨[Value.slice none 0 0, Value.slice none 0 0, Value.slice none 0 0, Value.slice none 0 0, Value.slice none 0 0, Value.int IntKind.i64 0]⟩, Value.bool false]⟩ = zero7)
 (Ide.bcase (decide (h1 ≥ 5))
 (Value.tuple ⟨[Value.agg ⟨[Value.slice none 0 0, Value.slice none 0 0, Value.slice none 0 0, Value.slice none 0 0, Value.slice none 0 0, Value.int IntKind.i64 0]⟩, Value.bool false]⟩ = zero7)
 (Ide.bcase (decide (h2 < 0))
 (Value.tuple ⟨[Value.agg ⟨[Value.slice none 0 0, Value.slice none 0 0, Value.slice none 0 0, Value.slice none 0 0, Value.slice none 0 0, Value.int IntKind.i64 0]⟩, Value.bool false]⟩ = zero7)
 (Ide.bcase (decide (h2 ≥ 5))
 (Value.tuple ⟨[Value.agg ⟨[Value.slice none 0 0, Value.slice none 0 0, Value.slice none 0 0, Value.slice none 0 0, Value.slice none 0 0, Value.int IntKind.i64 0]⟩, Value.bool false]⟩ = zero7)
 (Value.tuple ⟨[Value.agg ⟨[Value.slice (some ⟨12, 0, some 2⟩) 3 3, Value.slice (some ⟨14, 0, some 2⟩) 3 3, Value.slice (some ⟨62, 0, some 2⟩) 5 5, Value.slice (some ⟨64, 0, some 2⟩) 5 5, Value.slice none 0 0, Value.int IntKind.i64 0]⟩, Value.bool true]⟩ = zero7)))))))) (by kernel_rfl) ?_
  repeat' first
    | exact rfl
    | refine bcI (fun h => ?_) (fun h => ?_)
    | (exfalso; apply hb; simp only [decide_eq_false_iff_not, ge_iff_le] at *; omega)

theorem bad7_5_4 (h0 h1 h2 h3 : Int) (hb : ¬ ((0 ≤ h0 ∧ h0 < 5) ∧ (0 ≤ h1 ∧ h1 < 5) ∧ (0 ≤ h2 ∧ h2 < 5) ∧ (0 ≤ h3 ∧ h3 < 5))) : runTo 7 5 [h0, h1, h2, h3] zero7 := by
  refine Eq.mp (α := (Ide.bcase (decide (h0 < 0))
 (Value.tuple ⟨[Value.agg ⟨[Value.slice none 0 0, Value.slice none 0 0, Value.slice none 0 0, Value.slice none 0 0, Value.slice none 0 0, Value.int IntKind.i64 0]⟩, Value.bool false]⟩ = zero7)
 (Ide.bcase (decide (h0 ≥ 5))
 (Value.tuple ⟨[Value.agg ⟨[Value.slice none 0 0, Value.slice none 0 0, Value.slice none 0 0, Value.slice none 0 0, Value.slice none 0 0, Value.int IntKind.i64 0]⟩, Value.bool false]⟩ = zero7)
 (Ide.bcase (decide (h1 < 0))
 (Value.tuple ⟨[Value.agg ⟨[Value.slice none 0 0, Value.slice none 0 0, Value.slice none 0 0, Value.slice none 0 0, Value.slice none 0 0, Value.int IntKind.i64 0]⟩, Value.bool false]⟩ = zero7)
 (Ide.bcase (decide (h1 ≥ 5))
 (Value.tuple ⟨[Value.agg ⟨[Value.slice none 0 0, Value.slice none 0 0, Value.slice none 0 0, Value.slice none 0 0, Value.slice none 0 0, Value.int IntKind.i64 0]⟩, Value.bool false]⟩ = zero7)
 (Ide.bcase (decide (h2 < 0))
 (Value.tuple ⟨[Value.agg ⟨[Value.slice none 0 0, Value.slice none 0 0, Value.slice none 0 0, Value.slice none 0 0, Value.slice none 0 0, Value.int IntKind.i64 0]⟩, Value.bool false]⟩ = zero7)
 (Ide.bcase (decide (h2 ≥ 5))
 (Value.tuple ⟨[Value.agg ⟨[Value.slice none 0 0, Value.slice none 0 0, Value.slice none 0 0, Value.slice none 0 0, Value.slice none 0 0, Value.int IntKind.i64 0]⟩, Value.bool false]⟩ = zero7)
 (Ide.bcase (decide (h3 < 0))
 (Value.tuple ⟨[Value.agg ⟨[Value.slice none 0 0, Value.slice none 0 0, Value.slice none 0 0, Value.slice none 0 0, Value.slice none 0 0, Value.int IntKind.i64 0]⟩, Value.bool false]⟩ = zero7)
 (Ide.bcase (decide (h3 ≥ 5))
 (Value.tuple ⟨[Value.agg ⟨[Value.slice none 0 0, Value.slice none 0 0, Value.slice none 0 0, Value.slice none 0 0, Value.slice none 0 0, Value.int IntKind.i64 0]⟩, Value.bool false]⟩ = zero7)
 (Value.tuple ⟨[Value.agg ⟨[Value.slice (some ⟨16, 0, some 2⟩) 4 4, Value.slice (some ⟨18, 0, some 2⟩) 4 4, Value.slice (some ⟨76, 0, some 2⟩) 5 5, Value.slice (some ⟨78, 0, some 2⟩) 5 5, Value.slice none 0 0, Value.int IntKind.i64 0]⟩, Value.bool true]⟩ = zero7)))))))))) (by kernel_rfl) ?_
  repeat' first
    | exact rfl
    | refine bcI (fun h => ?_) (fun h => ?_)
    | (exfalso; apply hb; simp only [decide_eq_false_iff_not, ge_iff_le] at *; omega)

theorem bad7_5_5 (h0 h1 h2 h3 h4 : Int) (hb : ¬ ((0 ≤ h0 ∧ h0 < 5) ∧ (0 ≤ h1 ∧ h1 < 5) ∧ (0 ≤ h2 ∧ h2 < 5) ∧ (0 ≤ h3 ∧ h3 < 5) ∧ (0 ≤ h4 ∧ h4 < 5))) : runTo 7 5 [h0, h1, h2, h3, h4] zero7 := by
  refine Eq.mp (α := (Ide.bcase (decide (h0 < 0))
 (Value.tuple ⟨[Value.agg ⟨[Value.slice none 0 0, Value.slice none 0 0, Value.slice none 0 0, Value.slice none 0 0, Value.slice none 0 0, Value.int IntKind.i64 0]⟩, Value.bool false]⟩ = zero7)
 (Ide.bcase (decide (h0 ≥ 5))
 (Value.tuple ⟨[Value.agg ⟨[Value.slice none 0 0, Value.slice none 0 0, Value.slice none 0 0, Value.slice none 0 0, Value.slice none 0 0, Value.int IntKind.i64 0]⟩, Value.bool false]⟩ = zero7)
 (Ide.bcase (decide (h1 < 0))
 (Value.tuple ⟨[Value.agg ⟨[Value.slice none 0 0, Value.slice none 0 0, Value.slice none 0 0, Value.slice none 0 0, Value.slice none 0 0, Value.int IntKind.i64 0]⟩, Value.bool false]⟩ = zero7)
 (Ide.bcase (decide (h1 ≥ 5))
 (Value.tuple ⟨[Value.agg ⟨[Value.slice none 0 0, Value.slice none 0 0, Value.slice none 0 0, Value.slice none 0 0, Value.slice none 0 0, Value.int IntKind.i64 0]⟩, Value.bool false]⟩ = zero7)
 (Ide.bcase (decide (h2 < 0))
 (Value.tuple ⟨[Value.agg ⟨[Value.slice none 0 0, Value.slice none 0 0, Value.slice none 0 0, Value.slice none 0 0, Value.slice none 0 0, Value.int IntKind.i64 0]⟩, Value.bool false]⟩ = zero7)
 (Ide.bcase (decide (h2 ≥ 5))
 (Value.tuple ⟨[Value.agg ⟨[Value.slice none 0 0, Value.slice none 0 0, Value.slice none 0 0, Value.slice none 0 0, Value.slice none 0 0, Value.int IntKind.i64 0]⟩, Value.bool false]⟩ = zero7)
 (Ide.bcase (decide (h3 < 0))
 (Value.tuple ⟨[Value.agg ⟨[Value.slice none 0 0, Value.slice none 0 0, Value.slice none 0 0, Value.slice none 0 0, Value.slice none 0 0, Value.int IntKind.i64 0]⟩, Value.bool false]⟩ = zero7)
 (Ide.bcase (decide (h3 ≥ 5))
 (Value.tuple ⟨[Value.agg ⟨[Value.slice none 0 0, Value.slice none 0 0, Value.slice none 0 0, Value.slice none 0 0, Value.slice none 0 0, Value.int IntKind.i64 0]⟩, Value.bool false]⟩ = zero7)
 (Ide.bcase (decide (h4 < 0))
 (Value.tuple ⟨[Value.agg ⟨[Value.slice none 0 0, Value.slice none 0 0, Value.slice none 0 0, Value.slice none 0 0, Value.slice none 0 0, Value.int IntKind.i64 0]⟩, Value.bool false]⟩ = zero7)
 (Ide.bcase (decide (h4 ≥ 5))
 (Value.tuple ⟨[Value.agg ⟨[Value.slice none 0 0, Value.slice none 0 0, Value.slice none 0 0, Value.slice none 0 0, Value.slice none 0 0, Value.int IntKind.i64 0]⟩, Value.bool false]⟩ = zero7)
 (Value.tuple ⟨[Value.agg ⟨[Value.slice (some ⟨20, 0, some 2⟩) 5 5, Value.slice (some ⟨22, 0, some 2⟩) 5 5, Value.slice (some ⟨90, 0, some 2⟩) 5 5, Value.slice (some ⟨92, 0, some 2⟩) 5 5, Value.slice none 0 0, Value.int IntKind.i64 0]⟩, Value.bool true]⟩ = zero7)))))))))))) (by kernel_rfl) ?_
  repeat' first
    | exact rfl
    | refine bcI (fun h => ?_) (fun h => ?_)
    | (exfalso; apply hb; simp only [decide_eq_false_iff_not, ge_iff_le] at *; omega)

theorem bad7_5_6 (h0 h1 h2 h3 h4 h5 : Int) (hb : ¬ ((0 ≤ h0 ∧ h0 < 5) ∧ (0 ≤ h1 ∧ h1 < 5) ∧ (0 ≤ h2 ∧ h2 < 5) ∧ (0 ≤ h3 ∧ h3 < 5) ∧ (0 ≤ h4 ∧ h4 < 5) ∧ (0 ≤ h5 ∧ h5 < 5))) : runTo 7 5 [h0, h1, h2, h3, h4, h5] zero7 := by
  refine Eq.mp (α := (Ide.bcase (decide (h0 < 0))
 (Value.tuple ⟨[Value.agg ⟨[Value.slice none 0 0, Value.slice none 0 0, Value.slice none 0 0, Value.slice none 0 0, Value.slice none 0 0, Value.int IntKind.i64 0]⟩, Value.bool false]⟩ = zero7)
 (Ide.bcase (decide (h0 ≥ 5))
 (Value.tuple ⟨[Value.agg ⟨[Value.slice none 0 0, Value.slice none 0 0, Value.slice none 0 0, Value.slice none 0 0, Value.slice none 0 0, Value.int IntKind.i64 0]⟩, Value.bool false]⟩ = zero7)
 (Ide.bcase (decide (h1 < 0))
 (Value.tuple ⟨[Value.agg ⟨[Value.slice none 0 0, Value.slice none 0 0, Value.slice none 0 0, Value.slice none 0 0, Value.slice none 0 0, Value.int IntKind.i64 0]⟩, Value.bool false]⟩ = zero7)
 (Ide.bcase (decide (h1 ≥ 5))
 (Value.tuple ⟨[Value.agg ⟨[Value.slice none 0 0, Value.slice none 0 0, Value.slice none 0 0, Value.slice none 0 0, Value.slice none 0 0, Value.int IntKind.i64 0]⟩, Value.bool false]⟩ = zero7)
 (Ide.bcase (decide (h2 < 0))
 (Value.tuple ⟨[Value.agg ⟨[Value.slice none 0 0, Value.slice none 0 0, Value.slice none 0 0, Value.slice none 0 0, Value.slice none 0 0, Value.int IntKind.i64 0]⟩, Value.bool false]⟩ = zero7)
 (Ide.bcase (decide (h2 ≥ 5))
 (Value.tuple ⟨[Value.agg ⟨[Value.slice none 0 0, Value.slice none 0 0, Value.slice none 0 0, Value.slice none 0 0, Value.slice none 0 0, Value.int IntKind.i64 0]⟩, Value.bool false]⟩ = zero7)
 (Ide.bcase (decide (h3 < 0))
 (Value.tuple ⟨[Value.agg ⟨[Value.slice none 0 0, Value.slice none 0 0, Value.slice none 0 0, Value.slice none 0 0, Value.slice none 0 0, Value.int IntKind.i64 0]⟩, Value.bool false]⟩ = zero7)
 (Ide.bcase (decide (h3 ≥ 5))
 (Value.tuple ⟨[Value.agg ⟨[Value.slice none 0 0, Value.slice none 0 0, Value.slice none 0 0, Value.slice none 0 0, Value.slice none 0 0, Value.int IntKind.i64 0]⟩, Value.bool false]⟩ = zero7)
 (Ide.bcase (decide (h4 < 0))
 (Value.tuple ⟨[Value.agg ⟨[Value.slice none 0 0, Value.slice none 0 0, Value.slice none 0 0, Value.slice none 0 0, Value.slice none 0 0, Value.int IntKind.i64 0]⟩, Value.bool false]⟩ = zero7)
 (Ide.bcase (decide (h4 ≥ 5))
 (Value.tuple ⟨[Value.agg ⟨[Value.slice none 0 0, Value.slice none 0 0, Value.slice none 0 0, Value.slice none 0 0, Value.slice none 0 0, Value.int IntKind.i64 0]⟩, Value.bool false]⟩ = zero7)
 (Ide.bcase (decide (h5 < 0))
 (Value.tuple ⟨[Value.agg ⟨[Value.slice none 0 0, Value.slice none 0 0, Value.slice none 0 0, Value.slice none 0 0, Value.slice none 0 0, Value.int IntKind.i64 0]⟩, Value.bool false]⟩ = zero7)
 (Ide.bcase (decide (h5 ≥ 5))
 (Value.tuple ⟨[Value.agg ⟨[Value.slice none 0 0, Value.slice none 0 0, Value.slice none 0 0, Value.slice none 0 0, Value.slice none 0 0, Value.int IntKind.i64 0]⟩, Value.bool false]⟩ = zero7)
 (Value.tuple ⟨[Value.agg ⟨[Value.slice (some ⟨24, 0, some 2⟩) 6 6, Value.slice (some ⟨26, 0, some 2⟩) 6 6, Value.slice (some ⟨104, 0, some 2⟩) 5 5, Value.slice (some ⟨106, 0, some 2⟩) 5 5, Value.slice none 0 0, Value.int IntKind.i64 0]⟩, Value.bool true]⟩ = zero7)))))))))))))) (by kernel_rfl) ?_
  repeat' first
    | exact rfl
    | refine bcI (fun h => ?_) (fun h => ?_)
    | (exfalso; apply hb; simp only [decide_eq_false_iff_not, ge_iff_le] at *; omega)

theorem bad7_5_7 (h0 h1 h2 h3 h4 h5 h6 : Int) (hb : ¬ ((0 ≤ h0 ∧ h0 < 5) ∧ (0 ≤ h1 ∧ h1 < 5) ∧ (0 ≤ h2 ∧ h2 < 5) ∧ (0 ≤ h3 ∧ h3 < 5) ∧ (0 ≤ h4 ∧ h4 < 5) ∧ (0 ≤ h5 ∧ h5 < 5) ∧ (0 ≤ h6 ∧ h6 < 5))) : runTo 7 5 [h0, h1, h2, h3, h4, h5, h6] zero7 := by
  refine Eq.mp (α := (Ide.bcase (decide (h0 < 0))
 (Value.tuple ⟨[Value.agg ⟨[Value.slice none 0 0, Value.slice none 0 0, Value.slice none 0 0, Value.slice none 0 0, Value.slice none 0 0, Value.int IntKind.i64 0]⟩, Value.bool false]⟩ = zero7)
 (Ide.bcase (decide (h0 ≥ 5))
 (Value.tuple ⟨[Value.agg ⟨[Value.slice none 0 0, Value.slice none 0 0, Value.slice none 0 0, Value.slice none 0 0, Value.slice none 0 0, Value.int IntKind.i64 0]⟩, Value.bool false]⟩ = zero7)
 (Ide.bcase (decide (h1 < 0))
 (Value.tuple ⟨[Value.agg ⟨[Value.slice none 0 0, Value.slice none 0 0, Value.slice none 0 0, Value.slice none 0 0, Value.slice none 0 0, Value.int IntKind.i64 0]⟩, Value.bool false]⟩ = zero7)
 (Ide.bcase (decide (h1 ≥ 5))
 (Value.tuple ⟨[Value.agg ⟨[Value.slice none 0 0, Value.slice none 0 0, Value.slice none 0 0, Value.slice none 0 0, Value.slice none 0 0, Value.int IntKind.i64 0]⟩, Value.bool false]⟩ = zero7)
 (Ide.bcase (decide (h2 < 0))
 (Value.tuple ⟨[Value.agg ⟨[Value.slice none 0 0, Value.slice none 0 0, Value.slice none 0 0, Value.slice none 0 0, Value.slice none 0 0, Value.int IntKind.i64 0]⟩, Value.bool false]⟩ = zero7)
 (Ide.bcase (decide (h2 ≥ 5))
 (Value.tuple ⟨[Value.agg ⟨[Value.slice none 0 0, Value.slice none 0 0, Value.slice none 0 0, Value.slice none 0 0, Value.slice none 0 0, Value.int IntKind.i64 0]⟩, Value.bool false]⟩ = zero7)
 (Ide.bcase (decide (h3 < 0))
 (Value.tuple ⟨[Value.agg ⟨[Value.slice none 0 0, Value.slice none 0 0, Value.slice none 0 0, Value.slice none 0 0, Value.slice none 0 0, Value.int IntKind.i64 0]⟩, Value.bool false]⟩ = zero7)
 (Ide.bcase (decide (h3 ≥ 5))
 (Value.tuple ⟨[Value.agg ⟨[Value.slice none 0 0, Value.slice none 0 0, Value.slice none 0 0, Value.slice none 0 0, Value.slice none 0 0, Value.int IntKind.i64 0]⟩, Value.bool false]⟩ = zero7)
 (Ide.bcase (decide (h4 < 0))
 (Value.tuple ⟨[Value.agg ⟨[Value.slice none 0 0, Value.slice none 0 0, Value.slice none 0 0, Value.slice none 0 0, Value.slice none 0 0, Value.int IntKind.i64 0]⟩, Value.bool false]⟩ = zero7)
 (Ide.bcase (decide (h4 ≥ 5))
 (Value.tuple ⟨[Value.agg ⟨[Value.slice none 0 0, Value.slice none 0 0, Value.slice none 0 0, Value.slice none 0 0, Value.slice none 0 0, Value.int IntKind.i64 0]⟩, Value.bool false]⟩ = zero7)
 (Ide.bcase (decide (h5 < 0))
 (Value.tuple ⟨[Value.agg ⟨[Value.slice none 0 0, Value.slice none 0 0, Value.slice none 0 0, Value.slice none 0 0, Value.slice none 0 0, Value.int IntKind.i64 0]⟩, Value.bool false]⟩ = zero7)
 (Ide.bcase (decide (h5 ≥ 5))
 (Value.tuple ⟨[Value.agg ⟨[Value.slice none 0 0, Value.slice none 0 0, Value.slice none 0 0, Value.slice none 0 0, Value.slice none 0 0, Value.int IntKind.i64 0]⟩, Value.bool false]⟩ = zero7)
 (Ide.bcase (decide (h6 < 0))
 (Value.tuple ⟨[Value.agg ⟨[Value.slice none 0 0, Value.slice none 0 0, Value.slice none 0 0, Value.slice none 0 0, Value.slice none 0 0, Value.int IntKind.i64 0]⟩, Value.bool false]⟩ = zero7)
 (Ide.bcase (decide (h6 ≥ 5))
 (Value.tuple ⟨[Value.agg ⟨[Value.slice none 0 0, Value.slice none 0 0, Value.slice none 0 0, Value.slice none 0 0, Value.slice none 0 0, Value.int IntKind.i64 0]⟩, Value.bool false]⟩ = zero7)
 (Value.tuple ⟨[Value.agg ⟨[Value.slice (some ⟨28, 0, some 2⟩) 7 7, Value.slice (some ⟨30, 0, some 2⟩) 7 7, Value.slice (some ⟨118, 0, some 2⟩) 5 5, Value.slice (some ⟨120, 0, some 2⟩) 5 5, Value.slice none 0 0, Value.int IntKind.i64 0]⟩, Value.bool true]⟩ = zero7)))))))))))))))) (by kernel_rfl) ?_
  repeat' first
    | exact rfl
    | refine bcI (fun h => ?_) (fun h => ?_)
    | (exfalso; apply hb; simp only [decide_eq_false_iff_not, ge_iff_le] at *; omega)

theorem bad7_5_8 (h0 h1 h2 h3 h4 h5 h6 h7 : Int) (hb : ¬ ((0 ≤ h0 ∧ h0 < 5) ∧ (0 ≤ h1 ∧ h1 < 5) ∧ (0 ≤ h2 ∧ h2 < 5) ∧ (0 ≤ h3 ∧ h3 < 5) ∧ (0 ≤ h4 ∧ h4 < 5) ∧ (0 ≤ h5 ∧ h5 < 5) ∧ (0 ≤ h6 ∧ h6 < 5) ∧ (0 ≤ h7 ∧ h7 < 5))) : runTo 7 5 [h0, h1, h2, h3, h4, h5, h6, h7] zero7 := by
  refine Eq.mp (α := (Ide.bcase (decide (h0 < 0))
 (Value.tuple ⟨[Value.agg ⟨[Value.slice none 0 0, Value.slice none 0 0, Value.slice none 0 0, Value.slice none 0 0, Value.slice none 0 0, Value.int IntKind.i64 0]⟩, Value.bool false]⟩ = zero7)
 (Ide.bcase (decide (h0 ≥ 5))
 (Value.tuple ⟨[Value.agg ⟨[Value.slice none 0 0, Value.slice none 0 0, Value.slice none 0 0, Value.slice none 0 0, Value.slice none 0 0, Value.int IntKind.i64 0]⟩, Value.bool false]⟩ = zero7)
 (Ide.bcase (decide (h1 < 0))
 (Value.tuple ⟨[Value.agg ⟨[Value.slice none 0 0, Value.slice none 0 0, Value.slice none 0 0, Value.slice none 0 0, Value.slice none 0 0, Value.int IntKind.i64 0]⟩, Value.bool false]⟩ = zero7)
 (Ide.bcase (decide (h1 ≥ 5))
 (Value.tuple ⟨[Value.agg ⟨[Value.slice none 0 0, Value.slice none 0 0, Value.slice none 0 0, Value.slice none 0 0, Value.slice none 0 0, Value.int IntKind.i64 0]⟩, Value.bool false]⟩ = zero7)
 (Ide.bcase (decide (h2 < 0))
 (Value.tuple ⟨[Value.agg ⟨[Value.slice none 0 0, Value.slice none 0 0, Value.slice none 0 0, Value.slice none 0 0, Value.slice none 0 0, Value.int IntKind.i64 0]⟩, Value.bool false]⟩ = zero7)
 (Ide.bcase (decide (h2 ≥ 5))
 (Value.tuple ⟨[Value.agg ⟨[Value.slice none 0 0, Value.slice none 0 0, Value.slice none 0 0, Value.slice none 0 0, Value.slice none 0 0, Value.int IntKind.i64 0]⟩, Value.bool false]⟩ = zero7)
 (Ide.bcase (decide (h3 < 0))
 (Value.tuple ⟨[Value.agg ⟨[Value.slice none 0 0, Value.slice none 0 0, Value.slice none 0 0, Value.slice none 0 0, Value.slice none 0 0, Value.int IntKind.i64 0]⟩, Value.bool false]⟩ = zero7)
 (Ide.bcase (decide (h3 ≥ 5))
 (Value.tuple ⟨[Value.agg ⟨[Value.slice none 0 0, Value.slice none 0 0, Value.slice none 0 0, Value.slice none 0 0, Value.slice none 0 0, Value.int IntKind.i64 0]⟩, Value.bool false]⟩ = zero7)
 (Ide.bcase (decide (h4 < 0))
 (Value.tuple ⟨[Value.agg ⟨[Value.slice none 0 0, Value.slice none 0 0, Value.slice none 0 0, Value.slice none 0 0, Value.slice none 0 0, Value.int IntKind.i64 0]⟩, Value.bool false]⟩ = zero7)
 (Ide.bcase (decide (h4 ≥ 5))
 (Value.tuple ⟨[Value.agg ⟨[Value.slice none 0 0, Value.slice none 0 0, Value.slice none 0 0, Value.slice none 0 0, Value.slice none 0 0, Value.int IntKind.i64 0]⟩, Value.bool false]⟩ = zero7)
 (Ide.bcase (decide (h5 < 0))
 (Value.tuple ⟨[Value.agg ⟨[Value.slice none 0 0, Value.slice none 0 0, Value.slice none 0 0, Value.slice none 0 0, Value.slice none 0 0, Value.int IntKind.i64 0]⟩, Value.bool false]⟩ = zero7)
 (Ide.bcase (decide (h5 ≥ 5))
 (Value.tuple ⟨[Value.agg ⟨[Value.slice none 0 0, Value.slice none 0 0, Value.slice none 0 0, Value.slice none 0 0, Value.slice none 0 0, Value.int IntKind.i64 0]⟩, Value.bool false]⟩ = zero7)
 (Ide.bcase (decide (h6 < 0))
 (Value.tuple ⟨[Value.agg ⟨[Value.slice none 0 0, Value.slice none 0 0, Value.slice none 0 0, Value.slice none 0 0, Value.slice none 0 0, Value.int IntKind.i64 0]⟩, Value.bool false]⟩ = zero7)
 (Ide.bcase (decide (h6 ≥ 5))
 (Value.tuple ⟨[Value.agg ⟨[Value.slice none 0 0, Value.slice none 0 0, Value.slice none 0 0, Value.slice none 0 0, Value.slice none 0 0, Value.int IntKind.i64 0]⟩, Value.bool false]⟩ = zero7)
 (Ide.bcase (decide (h7 < 0))
 (Value.tuple ⟨[Value.agg ⟨[Value.slice none 0 0, Value.slice none 0 0, Value.slice none 0 0, Value.slice none 0 0, Value.slice none 0 0, Value.int IntKind.i64 0]⟩, Value.bool false]⟩ = zero7)
 (Ide.bcase (decide (h7 ≥ 5))
 (Value.tuple ⟨[Value.agg ⟨[Value.slice none 0 0, Value.slice none 0 0, Value.slice none 0 0, Value.slice none 0 0, Value.slice none 0 0, Value.int IntKind.i64 0]⟩, Value.bool false]⟩ = zero7)
 (Value.tuple ⟨[Value.agg ⟨[Value.slice (some ⟨32, 0, some 2⟩) 8 8, Value.slice (some ⟨34, 0, some 2⟩) 8 8, Value.slice (some ⟨132, 0, some 2⟩) 5 5, Value.slice (some ⟨134, 0, some 2⟩) 5 5, Value.slice none 0 0, Value.int IntKind.i64 0]⟩, Value.bool true]⟩ = zero7)))))))))))))))))) (by kernel_rfl) ?_
  repeat' first
    | exact rfl
    | refine bcI (fun h => ?_) (fun h => ?_)
    | (exfalso; apply hb; simp only [decide_eq_false_iff_not, ge_iff_le] at *; omega)

theorem bad8_5_1 (h0 : Int) (hb : ¬ ((0 ≤ h0 ∧ h0 < 5))) : runTo 8 5 [h0] zero8 := by
  refine Eq.mp (α := (Ide.bcase (decide (h0 < 0))
 (Value.tuple ⟨[Value.agg ⟨[Value.slice none 0 0, Value.slice none 0 0, Value.slice none 0 0, Value.slice none 0 0, Value.slice none 0 0, Value.int IntKind.i64 0]⟩, Value.int IntKind.i64 2]⟩ = zero8)
 (Ide.bcase (decide (h0 ≥ 5))
 (Value.tuple ⟨[Value.agg ⟨[Value.slice none 0 0, Value.slice none 0 0, Value.slice none 0 0, Value.slice none 0 0, Value.slice none 0 0, Value.int IntKind.i64 0]⟩, Value.int IntKind.i64 2]⟩ = zero8)
 (Value.tuple ⟨[Value.agg ⟨[Value.slice (some ⟨4, 0, some 2⟩) 1 1, Value.slice (some ⟨6, 0, some 2⟩) 1 1, Value.slice (some ⟨34, 0, some 2⟩) 5 5, Value.slice (some ⟨36, 0, some 2⟩) 5 5, Value.slice none 0 0, Value.int IntKind.i64 0]⟩, Value.int IntKind.i64 0]⟩ = zero8)))) (by kernel_rfl) ?_
  repeat' first
    | exact rfl
    | refine bcI (fun h => ?_) (fun h => ?_)
    | (exfalso; apply hb; simp only [decide_eq_false_iff_not, ge_iff_le] at *; omega)

theorem bad8_5_2 (h0 h1 : Int) (hb : ¬ ((0 ≤ h0 ∧ h0 < 5) ∧ (0 ≤ h1 ∧ h1 < 5))) : runTo 8 5 [h0, h1] zero8 := by
  refine Eq.mp (α := (Ide.bcase (decide (h0 < 0))
 (Value.tuple ⟨[Value.agg ⟨[Value.slice none 0 0, Value.slice none 0 0, Value.slice none 0 0, Value.slice none 0 0, Value.slice none 0 0, Value.int IntKind.i64 0]⟩, Value.int IntKind.i64 2]⟩ = zero8)
 (Ide.bcase (decide (h0 ≥ 5))
 (Value.tuple ⟨[Value.agg ⟨[Value.slice none 0 0, Value.slice none 0 0, Value.slice none 0 0, Value.slice none 0 0, Value.slice none 0 0, Value.int IntKind.i64 0]⟩, Value.int IntKind.i64 2]⟩ = zero8)
 (Ide.bcase (decide (h1 < 0))
 (Value.tuple ⟨[Value.agg ⟨[Value.slice none 0 0, Value.slice none 0 0, Value.slice none 0 0, Value.slice none 0 0, Value.slice none 0 0, Value.int IntKind.i64 0]⟩, Value.int IntKind.i64 2]⟩ = zero8)
 (Ide.bcase (decide (h1 ≥ 5))
 (Value.tuple ⟨[Value.agg ⟨[Value.slice none 0 0, Value.slice none 0 0, Value.slice none 0 0, Value.slice none 0 0, Value.slice none 0 0, Value.int IntKind.i64 0]⟩, Value.int IntKind.i64 2]⟩ = zero8)
 (Value.tuple ⟨[Value.agg ⟨[Value.slice (some ⟨8, 0, some 2⟩) 2 2, Value.slice (some ⟨10, 0, some 2⟩) 2 2, Value.slice (some ⟨48, 0, some 2⟩) 5 5, Value.slice (some ⟨50, 0, some 2⟩) 5 5, Value.slice none 0 0, Value.int IntKind.i64 0]⟩, Value.int IntKind.i64 0]⟩ = zero8)))))) (by kernel_rfl) ?_
  repeat' first
    | exact rfl
    | refine bcI (fun h => ?_) (fun h => ?_)
    | (exfalso; apply hb; simp only [decide_eq_false_iff_not, ge_iff_le] at *; omega)

theorem bad8_5_3 (h0 h1 h2 : Int) (hb : ¬ ((0 ≤ h0 ∧ h0 < 5) ∧ (0 ≤ h1 ∧ h1 < 5) ∧ (0 ≤ h2 ∧ h2 < 5))) : runTo 8 5 [h0, h1, h2] zero8 := by
  refine Eq.mp (α := (Ide.bcase (decide (h0 < 0))
 (Value.tuple ⟨[Value.agg ⟨[Value.slice none 0 0, Value.slice none 0 0, Value.slice none 0 0, Value.slice none 0 0, Value.slice none 0 0, Value.int IntKind.i64 0]⟩, Value.int IntKind.i64 2]⟩ = zero8)
 (Ide.bcase (decide (h0 ≥ 5))
 (Value.tuple ⟨[Value.agg ⟨[Value.slice none 0 0, Value.slice none 0 0, Value.slice none 0 0, Value.slice none 0 0, Value.slice none 0 0, Value.int IntKind.i64 0]⟩, Value.int IntKind.i64 2]⟩ = zero8)
 (Ide.bcase (decide (h1 < 0))
 (Value.tuple ⟨[Value.agg ⟨[Value.slice none 0 0, Value.slice none 0 0, Value.slice none 0 0, Value.slice none 0 0, Value.slice none 0 0, Value.int IntKind.i64 0]⟩, Value.int IntKind.i64 2]⟩ = zero8)
 (Ide.bcase (decide (h1 ≥ 5))
 (Value.tuple ⟨[Value.agg ⟨[Value.slice none 0 0, Value.slice none 0 0, Value.slice none 0 0, Value.slice none 0 0, Value.slice none 0 0, Value.int IntKind.i64 0]⟩, Value.int IntKind.i64 2]⟩ = zero8)
 (Ide.bcase (decide (h2 < 0))
 (Value.tuple ⟨[Value.agg ⟨[Value.slice none 0 0, Value.slice none 0 0, Value.slice none 0 0, Value.slice none 0 0, Value.slice none 0 0, Value.int IntKind.i64 0]⟩, Value.int IntKind.i64 2]⟩ = zero8)
 (Ide.bcase (decide (h2 ≥ 5))
 (Value.tuple ⟨[Value.agg ⟨[Value.slice none 0 0, Value.slice none 0 0, Value.slice none 0 0, Value.slice none 0 0, Value.slice none 0 0, Value.int IntKind.i64 0]⟩, Value.int IntKind.i64 2]⟩ = zero8)
 (Value.tuple ⟨[Value.agg ⟨[Value.slice (some ⟨12, 0, some 2⟩) 3 3, Value.slice (some ⟨14, 0, some 2⟩) 3 3, Value.slice (some ⟨62, 0, some 2⟩) 5 5, Value.slice (some ⟨64, 0, some 2⟩) 5 5, Value.slice none 0 0, Value.int IntKind.i64 0]⟩, Value.int IntKind.i64 0]⟩ = zero8)))))))) (by kernel_rfl) ?_
  repeat' first
    | exact rfl
    | refine bcI (fun h => ?_) (fun h => ?_)
    | (exfalso; apply hb; simp only [decide_eq_false_iff_not, ge_iff_le] at *; omega)

theorem bad8_5_4 (h0 h1 h2 h3 : Int) (hb : ¬ ((0 ≤ h0 ∧ h0 < 5) ∧ (0 ≤ h1 ∧ h1 < 5) ∧ (0 ≤ h2 ∧ h2 < 5) ∧ (0 ≤ h3 ∧ h3 < 5))) : runTo 8 5 [h0, h1, h2, h3] zero8 := by
  refine Eq.mp (α := (Ide.bcase (decide (h0 < 0))
 (Value.tuple ⟨[Value.agg ⟨[Value.slice none 0 0, Value.slice none 0 0, Value.slice none 0 0, Value.slice none 0 0, Value.slice none 0 0, Value.int IntKind.i64 0]⟩, Value.int IntKind.i64 2]⟩ = zero8)
 (Ide.bcase (decide (h0 ≥ 5))
 (Value.tuple ⟨[Value.agg ⟨[Value.slice none 0 0, Value.slice none 0 0, Value.slice none 0 0, Value.slice none 0 0, Value.slice none 0 0, Value.int IntKind.i64 0]⟩, Value.int IntKind.i64 2]⟩ = zero8)
 (Ide.bcase (decide (h1 < 0))
 (Value.tuple ⟨[Value.agg ⟨[Value.slice none 0 0, Value.slice none 0 0, Value.slice none 0 0, Value.slice none 0 0, Value.slice none 0 0, Value.int IntKind.i64 0]⟩, Value.int IntKind.i64 2]⟩ = zero8)
 (Ide.bcase (decide (h1 ≥ 5))
 (Value.tuple ⟨[Value.agg ⟨[Value.slice none 0 0, Value.slice none 0 0, Value.slice none 0 0, Value.slice none 0 0, Value.slice none 0 0, Value.int IntKind.i64 0]⟩, Value.int IntKind.i64 2]⟩ = zero8)
 (Ide.bcase (decide (h2 < 0))
 (Value.tuple ⟨[Value.agg ⟨[Value.slice none 0 0, Value.slice none 0 0, Value.slice none 0 0, Value.slice none 0 0, Value.slice none 0 0, Value.int IntKind.i64 0]⟩, Value.int IntKind.i64 2]⟩ = zero8)
 (Ide.bcase (decide (h2 ≥ 5))
 (Value.tuple ⟨[Value.agg ⟨[Value.slice none 0 0, Value.slice none 0 0, Value.slice none 0 0, Value.slice none 0 0, Value.slice none 0 0, Value.int IntKind.i64 0]⟩, Value.int IntKind.i64 2]⟩ = zero8)
 (Ide.bcase (decide (h3 < 0))
 (Value.tuple ⟨[Value.agg ⟨[Value.slice none 0 0, Value.slice none 0 0, Value.slice none 0 0, Value.slice none 0 0, Value.slice none 0 0, Value.int IntKind.i64 0]⟩, Value.int IntKind.i64 2]⟩ = zero8)
 (Ide.bcase (decide (h3 ≥ 5))
 (Value.tuple ⟨[Value.agg ⟨[Value.slice none 0 0, Value.slice none 0 0, Value.slice none 0 0, Value.slice none 0 0, Value.slice none 0 0, Value.int IntKind.i64 0]⟩, Value.int IntKind.i64 2]⟩ = zero8)
 (Value.tuple ⟨[Value.agg ⟨[Value.slice (some ⟨16, 0, some 2⟩) 4 4, Value.slice (some ⟨18, 0, some 2⟩) 4 4, Value.slice (some ⟨76, 0, some 2⟩) 5 5, Value.slice (some ⟨78, 0, some 2⟩) 5 5, Value.slice none 0 0, Value.int IntKind.i64 0]⟩, Value.int IntKind.i64 0]⟩ = zero8)))))))))) (by kernel_rfl) ?_
  repeat' first
    | exact rfl
    | refine bcI (fun h => ?_) (fun h => ?_)
    | (exfalso; apply hb; simp only [decide_eq_false_iff_not, ge_iff_le] at *; omega)

theorem bad8_5_5 (h0 h1 h2 h3 h4 : Int) (hb : ¬ ((0 ≤ h0 ∧ h0 < 5) ∧ (0 ≤ h1 ∧ h1 < 5) ∧ (0 ≤ h2 ∧ h2 < 5) ∧ (0 ≤ h3 ∧ h3 < 5) ∧ (0 ≤ h4 ∧ h4 < 5))) : runTo 8 5 [h0, h1, h2, h3, h4] zero8 := by
  refine Eq.mp (α := (Ide.bcase (decide (h0 < 0))
 (Value.tuple ⟨[Value.agg ⟨[Value.slice none 0 0, Value.slice none 0 0, Value.slice none 0 0, Value.slice none 0 0, Value.slice none 0 0, Value.int IntKind.i64 0]⟩, Value.int IntKind.i64 2]⟩ = zero8)
 (Ide.bcase (decide (h0 ≥ 5))
 (Value.tuple ⟨[Value.agg ⟨[Value.slice none 0 0, Value.slice none 0 0, Value.slice none 0 0, Value.slice none 0 0, Value.slice none 0 0, Value.int IntKind.i64 0]⟩, Value.int IntKind.i64 2]⟩ = zero8)
 (Ide.bcase (decide (h1 < 0))
 (Value.tuple ⟨[Value.agg ⟨[Value.slice none 0 0, Value.slice none 0 0, Value.slice none 0 0, Value.slice none 0 0, Value.slice none 0 0, Value.int IntKind.i64 0]⟩, Value.int IntKind.i64 2]⟩ = zero8)
 (Ide.bcase (decide (h1 ≥ 5))
 (Value.tuple ⟨[Value.agg ⟨[Value.slice none 0 0, Value.slice none 0 0, Value.slice none 0 0, Value.slice none 0 0, Value.slice none 0 0, Value.int IntKind.i64 0]⟩, Value.int IntKind.i64 2]⟩ = zero8)
 (Ide.bcase (decide (h2 < 0))
 (Value.tuple ⟨[Value.agg ⟨[Value.slice none 0 0, Value.slice none 0 0, Value.slice none 0 0, Value.slice none 0 0, Value.slice none 0 0, Value.int IntKind.i64 0]⟩, Value.int IntKind.i64 2]⟩ = zero8)
 (Ide.bcase (decide (h2 ≥ 5))
 (Value.tuple ⟨[Value.agg ⟨[Value.slice none 0 0, Value.slice none 0 0, Value.slice none 0 0, Value.slice none 0 0, Value.slice none 0 0, Value.int IntKind.i64 0]⟩, Value.int IntKind.i64 2]⟩ = zero8)
 (Ide.bcase (decide (h3 < 0))
 (Value.tuple ⟨[Value.agg ⟨[Value.slice none 0 0, Value.slice none 0 0, Value.slice none 0 0, Value.slice none 0 0, Value.slice none 0 0, Value.int IntKind.i64 0]⟩, Value.int IntKind.i64 2]⟩ = zero8)
 (Ide.bcase (decide (h3 ≥ 5))
 (Value.tuple ⟨[Value.agg ⟨[Value.slice none 0 0, Value.slice none 0 0, Value.slice none 0 0, Value.slice none 0 0, Value.slice none 0 0, Value.int IntKind.i64 0]⟩, Value.int IntKind.i64 2]⟩ = zero8)
 (Ide.bcase (decide (h4 < 0))
 (Value.tuple ⟨[Value.agg ⟨[Value.slice none 0 0, Value.slice none 0 0, Value.slice none 0 0, Value.slice none 0 0, Value.slice none 0 0, Value.int IntKind.i64 0]⟩, Value.int IntKind.i64 2]⟩ = zero8)
 (Ide.bcase (decide (h4 ≥ 5))
 (Value.tuple ⟨[Value.agg ⟨[Value.slice none 0 0, Value.slice none 0 0, Value.slice none 0 0, Value.slice none 0 0, Value.slice none 0 0, Value.int IntKind.i64 0]⟩, Value.int IntKind.i64 2]⟩ = zero8)
 (Value.tuple ⟨[Value.agg ⟨[Value.slice (some ⟨20, 0, some 2⟩) 5 5, Value.slice (some ⟨22, 0, some 2⟩) 5 5, Value.slice (some ⟨90, 0, some 2⟩) 5 5, Value.slice (some ⟨92, 0, some 2⟩) 5 5, Value.slice none 0 0, Value.int IntKind.i64 0]⟩, Value.int IntKind.i64 0]⟩ = zero8)))))))))))) (by kernel_rfl) ?_
  repeat' first
    | exact rfl
    | refine bcI (fun h => ?_) (fun h => ?_)
    | (exfalso; apply hb; simp only [decide_eq_false_iff_not, ge_iff_le] at *; omega)

theorem bad8_5_6 (h0 h1 h2 h3 h4 h5 : Int) (hb : ¬ ((0 ≤ h0 ∧ h0 < 5) ∧ (0 ≤ h1 ∧ h1 < 5) ∧ (0 ≤ h2 ∧ h2 < 5) ∧ (0 ≤ h3 ∧ h3 < 5) ∧ (0 ≤ h4 ∧ h4 < 5) ∧ (0 ≤ h5 ∧ h5 < 5))) : runTo 8 5 [h0, h1, h2, h3, h4, h5] zero8 := by
  refine Eq.mp (α := (Ide.bcase (decide (h0 < 0))
 (Value.tuple ⟨[Value.agg ⟨[Value.slice none 0 0, Value.slice none 0 0, Value.slice none 0 0, Value.slice none 0 0, Value.slice none 0 0, Value.int IntKind.i64 0]⟩, Value.int IntKind.i64 2]⟩ = zero8)
 (Ide.bcase (decide (h0 ≥ 5))
 (Value.tuple ⟨[Value.agg ⟨[Value.slice none 0 0, Value.slice none 0 0, Value.slice none 0 0, Value.slice none 0 0, Value.slice none 0 0, Value.int IntKind.i64 0]⟩, Value.int IntKind.i64 2]⟩ = zero8)
 (Ide.bcase (decide (h1 < 0))
 (Value.tuple ⟨[Value.agg ⟨[Value.slice none 0 0, Value.slice none 0 0, Value.slice none 0 0, Value.slice none 0 0, Value.slice none 0 0, Value.int IntKind.i64 0]⟩, Value.int IntKind.i64 2]⟩ = zero8)
 (Ide.bcase (decide (h1 ≥ 5))
 (Value.tuple ⟨[Value.agg ⟨[Value.slice none 0 0, Value.slice none 0 0, Value.slice none 0 0, Value.slice none 0 0, Value.slice none 0 0, Value.int IntKind.i64 0]⟩, Value.int IntKind.i64 2]⟩ = zero8)
 (Ide.bcase (decide (h2 < 0))
 (Value.tuple ⟨[Value.agg ⟨[Value.slice none 0 0, Value.slice none 0 0, Value.slice none 0 0, Value.slice none 0 0, Value.slice none 0 0, Value.int IntKind.i64 0]⟩, Value.int IntKind.i64 2]⟩ = zero8)
 (Ide.bcase (decide (h2 ≥ 5))
 (Value.tuple ⟨[Value.agg ⟨[Value.slice none 0 0, Value.slice none 0 0, Value.slice none 0 0, Value.slice none 0 0, Value.slice none 0 0, Value.int IntKind.i64 0]⟩, Value.int IntKind.i64 2]⟩ = zero8)
 (Ide.bcase (decide (h3 < 0))
 (Value.tuple ⟨[Value.agg ⟨[Value.slice none 0 0, Value.slice none 0 0, Value.slice none 0 0, Value.slice none 0 0, Value.slice none 0 0, Value.int IntKind.i64 0]⟩, Value.int IntKind.i64 2]⟩ = zero8)
 (Ide.bcase (decide (h3 ≥ 5))
 (Value.tuple ⟨[Value.agg ⟨[Value.slice none 0 0, Value.slice none 0 0, Value.slice none 0 0, Value.slice none 0 0, Value.slice none 0 0, Value.int IntKind.i64 0]⟩, Value.int IntKind.i64 2]⟩ = zero8)
 (Ide.bcase (decide (h4 < 0))
 (Value.tuple ⟨[Value.agg ⟨[Value.slice none 0 0, Value.slice none 0 0, Value.slice none 0 0, Value.slice none 0 0, Value.slice none 0 0, Value.int IntKind.i64 0]⟩, Value.int IntKind.i64 2]⟩ = zero8)
 (Ide.bcase (decide (h4 ≥ 5))
 (Value.tuple ⟨[Value.agg ⟨[Value.slice none 0 0, Value.slice none 0 0, Value.slice none 0 0, Value.slice none 0 0, Value.slice none 0 0, Value.int IntKind.i64 0]⟩, Value.int IntKind.i64 2]⟩ = zero8)
 (Ide.bcase (decide (h5 < 0))
 (Value.tuple ⟨[Value.agg ⟨[Value.slice none 0 0, Value.slice none 0 0, Value.slice none 0 0, Value.slice none 0 0, Value.slice none 0 0, Value.int IntKind.i64 0]⟩, Value.int IntKind.i64 2]⟩ = zero8)
 (Ide.bcase (decide (h5 ≥ 5))
 (Value.tuple ⟨[Value.agg ⟨[Value.slice none 0 0, Value.slice none 0 0, Value.slice none 0 0, Value.slice none 0 0, Value.slice none 0 0, Value.int IntKind.i64 0]⟩, Value.int IntKind.i64 2]⟩ = zero8)
 (Value.tuple ⟨[Value.agg ⟨[Value.slice (some ⟨24, 0, some 2⟩) 6 6, Value.slice (some ⟨26, 0, some 2⟩) 6 6, Value.slice (some ⟨104, 0, some 2⟩) 5 5, Value.slice (some ⟨106, 0, some 2⟩) 5 5, Value.slice none 0 0, Value.int IntKind.i64 0]⟩, Value.int IntKind.i64 0]⟩ = zero8)))))))))))))) (by kernel_rfl) ?_
  repeat' first
    | exact rfl
    | refine bcI (fun h => ?_) (fun h => ?_)
    | (exfalso; apply hb; simp only [decide_eq_false_iff_not, ge_iff_le] at *; omega)

theorem bad8_5_7 (h0 h1 h2 h3 h4 h5 h6 : Int) (hb : ¬ ((0 ≤ h0 ∧ h0 < 5) ∧ (0 ≤ h1 ∧ h1 < 5) ∧ (0 ≤ h2 ∧ h2 < 5) ∧ (0 ≤ h3 ∧ h3 < 5) ∧ (0 ≤ h4 ∧ h4 < 5) ∧ (0 ≤ h5 ∧ h5 < 5) ∧ (0 ≤ h6 ∧ h6 < 5))) : runTo 8 5 [h0, h1, h2, h3, h4, h5, h6] zero8 := by
  refine Eq.mp (α := (Ide.bcase (decide (h0 < 0))
 (Value.tuple ⟨[Value.agg ⟨[Value.slice none 0 0, Value.slice none 0 0, Value.slice none 0 0, Value.slice none 0 0, Value.slice none 0 0, Value.int IntKind.i64 0]⟩, Value.int IntKind.i64 2]⟩ = zero8)
 (Ide.bcase (decide (h0 ≥ 5))
 (Value.tuple ⟨[Value.agg ⟨[Value.slice none 0 0, Value.slice none 0 0, Value.slice none 0 0, Value.slice none 0 0, Value.slice none 0 0, Value.int IntKind.i64 0]⟩, Value.int IntKind.i64 2]⟩ = zero8)
 (Ide.bcase (decide (h1 < 0))
 (Value.tuple ⟨[Value.agg ⟨[Value.slice none 0 0, Value.slice none 0 0, Value.slice none 0 0, Value.slice none 0 0, Value.slice none 0 0, Value.int IntKind.i64 0]⟩, Value.int IntKind.i64 2]⟩ = zero8)
 (Ide.bcase (decide (h1 ≥ 5))
 (Value.tuple ⟨[Value.agg ⟨[Value.slice none 0 0, Value.slice none 0 0, Value.slice none 0 0, Value.slice none 0 0, Value.slice none 0 0, Value.int IntKind.i64 0]⟩, Value.int IntKind.i64 2]⟩ = zero8)
 (Ide.bcase (decide (h2 < 0))
 (Value.tuple ⟨[Value.agg ⟨[Value.slice none 0 0, Value.slice none 0 0, Value.slice none 0 0, Value.slice none 0 0, Value.slice none 0 0, Value.int IntKind.i64 0]⟩, Value.int IntKind.i64 2]⟩ = zero8)
 (Ide.bcase (decide (h2 ≥ 5))
 (Value.tuple ⟨[Value.agg ⟨[Value.slice none 0 0, Value.slice none 0 0, Value.slice none 0 0, Value.slice none 0 0, Value.slice none 0 0, Value.int IntKind.i64 0]⟩, Value.int IntKind.i64 2]⟩ = zero8)
 (Ide.bcase (decide (h3 < 0))
 (Value.tuple ⟨[Value.agg ⟨[Value.slice none 0 0, Value.slice none 0 0, Value.slice none 0 0, Value.slice none 0 0, Value.slice none 0 0, Value.int IntKind.i64 0]⟩, Value.int IntKind.i64 2]⟩ = zero8)
 (Ide.bcase (decide (h3 ≥ 5))
 (Value.tuple ⟨[Value.agg ⟨[Value.slice none 0 0, Value.slice none 0 0, Value.slice none 0 0, Value.slice none 0 0, Value.slice none 0 0, Value.int IntKind.i64 0]⟩, Value.int IntKind.i64 2]⟩ = zero8)
 (Ide.bcase (decide (h4 < 0))
 (Value.tuple ⟨[Value.agg ⟨[Value.slice none 0 0, Value.slice none 0 0, Value.slice none 0 0, Value.slice none 0 0, Value.slice none 0 0, Value.int IntKind.i64 0]⟩, Value.int IntKind.i64 2]⟩ = zero8)
 (Ide.bcase (decide (h4 ≥ 5))
 (Value.tuple ⟨[Value.agg ⟨[Value.slice none 0 0, Value.slice none 0 0, Value.slice none 0 0, Value.slice none 0 0, Value.slice none 0 0, Value.int IntKind.i64 0]⟩, Value.int IntKind.i64 2]⟩ = zero8)
 (Ide.bcase (decide (h5 < 0))
 (Value.tuple ⟨[Value.agg ⟨[Value.slice none 0 0, Value.slice none 0 0, Value.slice none 0 0, Value.slice none 0 0, Value.slice none 0 0, Value.int IntKind.i64 0]⟩, Value.int IntKind.i64 2]⟩ = zero8)
 (Ide.bcase (decide (h5 ≥ 5))
 (Value.tuple ⟨[Value.agg ⟨[Value.slice none 0 0, Value.slice none 0 0, Value.slice none 0 0, Value.slice none 0 0, Value.slice none 0 0, Value.int IntKind.i64 0]⟩, Value.int IntKind.i64 2]⟩ = zero8)
 (Ide.bcase (decide (h6 < 0))
 (Value.tuple ⟨[Value.agg ⟨[Value.slice none 0 0, Value.slice none 0 0, Value.slice none 0 0, Value.slice none 0 0, Value.slice none 0 0, Value.int IntKind.i64 0]⟩, Value.int IntKind.i64 2]⟩ = zero8)
 (Ide.bcase (decide (h6 ≥ 5))
 (Value.tuple ⟨[Value.agg ⟨[Value.slice none 0 0, Value.slice none 0 0, Value.slice none 0 0, Value.slice none 0 0, Value.slice none 0 0, Value.int IntKind.i64 0]⟩, Value.int IntKind.i64 2]⟩ = zero8)
 (Value.tuple ⟨[Value.agg ⟨[Value.slice (some ⟨28, 0, some 2⟩) 7 7, Value.slice (some ⟨30, 0, some 2⟩) 7 7, Value.slice (some ⟨118, 0, some 2⟩) 5 5, Value.slice (some ⟨120, 0, some 2⟩) 5 5, Value.slice none 0 0, Value.int IntKind.i64 0]⟩, Value.int IntKind.i64 0]⟩ = zero8)))))))))))))))) (by kernel_rfl) ?_
  repeat' first
    | exact rfl
    | refine bcI (fun h => ?_) (fun h => ?_)
    | (exfalso; apply hb; simp only [decide_eq_false_iff_not, ge_iff_le] at *; omega)

theorem bad8_5_8 (h0 h1 h2 h3 h4 h5 h6 h7 : Int) (hb : ¬ ((0 ≤ h0 ∧ h0 < 5) ∧ (0 ≤ h1 ∧ h1 < 5) ∧ (0 ≤ h2 ∧ h2 < 5) ∧ (0 ≤ h3 ∧ h3 < 5) ∧ (0 ≤ h4 ∧ h4 < 5) ∧ (0 ≤ h5 ∧ h5 < 5) ∧ (0 ≤ h6 ∧ h6 < 5) ∧ (0 ≤ h7 ∧ h7 < 5))) : runTo 8 5 [h0, h1, h2, h3, h4, h5, h6, h7] zero8 := by
  refine Eq.mp (α := (Ide.bcase (decide (h0 < 0))
 (Value.tuple ⟨[Value.agg ⟨[Value.slice none 0 0, Value.slice none 0 0, Value.slice none 0 0, Value.slice none 0 0, Value.slice none 0 0, Value.int IntKind.i64 0]⟩, Value.int IntKind.i64 2]⟩ = zero8)
 (Ide.bcase (decide (h0 ≥ 5))
 (Value.tuple ⟨[Value.agg ⟨[Value.slice none 0 0, Value.slice none 0 0, Value.slice none 0 0, Value.slice none 0 0, Value.slice none 0 0, Value.int IntKind.i64 0]⟩, Value.int IntKind.i64 2]⟩ = zero8)
 (Ide.bcase (decide (h1 < 0))
 (Value.tuple ⟨[Value.agg ⟨[Value.slice none 0 0, Value.slice none 0 0, Value.slice none 0 0, Value.slice none 0 0, Value.slice none 0 0, Value.int IntKind.i64 0]⟩, Value.int IntKind.i64 2]⟩ = zero8)
 (Ide.bcase (decide (h1 ≥ 5))
 (Value.tuple ⟨[Value.agg ⟨[Value.slice none 0 0, Value.slice none 0 0, Value.slice none 0 0, Value.slice none 0 0, Value.slice none 0 0, Value.int IntKind.i64 0]⟩, Value.int IntKind.i64 2]⟩ = zero8)
 (Ide.bcase (decide (h2 < 0))
 (Value.tuple ⟨[Value.agg ⟨[Value.slice none 0 0, Value.slice none 0 0, Value.slice none 0 0, Value.slice none 0 0, Value.slice none 0 0, Value.int IntKind.i64 0]⟩, Value.int IntKind.i64 2]⟩ = zero8)
 (Ide.bcase (decide (h2 ≥ 5))
 (Value.tuple ⟨[Value.agg ⟨[Value.slice none 0 0, Value.slice none 0 0, Value.slice none 0 0, Value.slice none 0 0, Value.slice none 0 0, Value.int IntKind.i64 0]⟩, Value.int IntKind.i64 2]⟩ = zero8)
 (Ide.bcase (decide (h3 < 0))
 (Value.tuple ⟨[Value.agg ⟨[Value.slice none 0 0, Value.slice none 0 0, Value.slice none 0 0, Value.slice none 0 0, Value.slice none 0 0, Value.int IntKind.i64 0]⟩, Value.int IntKind.i64 2]⟩ = zero8)
 (Ide.bcase (decide (h3 ≥ 5))
 (Value.tuple ⟨[Value.agg ⟨[Value.slice none 0 0, Value.slice none 0 0, Value.slice none 0 0, Value.slice none 0 0, Value.slice none 0 0, Value.int IntKind.i64 0]⟩, Value.int IntKind.i64 2]⟩ = zero8)
 (Ide.bcase (decide (h4 < 0))
 (Value.tuple ⟨[Value.agg ⟨[Value.slice none 0 0, Value.slice none 0 0, Value.slice none 0 0, Value.slice none 0 0, Value.slice none 0 0, Value.int IntKind.i64 0]⟩, Value.int IntKind.i64 2]⟩ = zero8)
 (Ide.bcase (decide (h4 ≥ 5))
 (Value.tuple ⟨[Value.agg ⟨[Value.slice none 0 0, Value.slice none 0 0, Value.slice none 0 0, Value.slice none 0 0, Value.slice none 0 0, Value.int IntKind.i64 0]⟩, Value.int IntKind.i64 2]⟩ = zero8)
 (Ide.bcase (decide (h5 < 0))
 (Value.tuple ⟨[Value.agg ⟨[Value.slice none 0 0, Value.slice none 0 0, Value.slice none 0 0, Value.slice none 0 0, Value.slice none 0 0, Value.int IntKind.i64 0]⟩, Value.int IntKind.i64 2]⟩ = zero8)
 (Ide.bcase (decide (h5 ≥ 5))
 (Value.tuple ⟨[Value.agg ⟨[Value.slice none 0 0, Value.slice none 0 0, Value.slice none 0 0, Value.slice none 0 0, Value.slice none 0 0, Value.int IntKind.i64 0]⟩, Value.int IntKind.i64 2]⟩ = zero8)
 (Ide.bcase (decide (h6 < 0))
 (Value.tuple ⟨[Value.agg ⟨[Value.slice none 0 0, Value.slice none 0 0, Value.slice none 0 0, Value.slice none 0 0, Value.slice none 0 0, Value.int IntKind.i64 0]⟩, Value.int IntKind.i64 2]⟩ = zero8)
 (Ide.bcase (decide (h6 ≥ 5))
 (Value.tuple ⟨[Value.agg ⟨[Value.slice none 0 0, Value.slice none 0 0, Value.slice none 0 0, Value.slice none 0 0, Value.slice none 0 0, Value.int IntKind.i64 0]⟩, Value.int IntKind.i64 2]⟩ = zero8)
 (Ide.bcase (decide (h7 < 0))
 (Value.tuple ⟨[Value.agg ⟨[Value.slice none 0 0, Value.slice none 0 0, Value.slice none 0 0, Value.slice none 0 0, Value.slice none 0 0, Value.int IntKind.i64 0]⟩, Value.int IntKind.i64 2]⟩ = zero8)
 (Ide.bcase (decide (h7 ≥ 5))
 (Value.tuple ⟨[Value.agg ⟨[Value.slice none 0 0, Value.slice none 0 0, Value.slice none 0 0, Value.slice none 0 0, Value.slice none 0 0, Value.int IntKind.i64 0]⟩, Value.int IntKind.i64 2]⟩ = zero8)
 (Value.tuple ⟨[Value.agg ⟨[Value.slice (some ⟨32, 0, some 2⟩) 8 8, Value.slice (some ⟨34, 0, some 2⟩) 8 8, Value.slice (some ⟨132, 0, some 2⟩) 5 5, Value.slice (some ⟨134, 0, some 2⟩) 5 5, Value.slice none 0 0, Value.int IntKind.i64 0]⟩, Value.int IntKind.i64 0]⟩ = zero8)))))))))))))))))) (by kernel_rfl) ?_
  repeat' first
    | exact rfl
    | refine bcI (fun h => ?_) (fun h => ?_)
    | (exfalso; apply hb; simp only [decide_eq_false_iff_not, ge_iff_le] at *; omega)


end Go.Proofs.YtjjnlbceoajllaaGreat.Firsts
