/- From the ideal meaning to the row's call. -/
import Derived.Test.YtjjnlbceoajllaaGreatIdeZd
set_option linter.unusedVariables false
set_option linter.unusedSimpArgs false
namespace Ide
open Go Go.RowKit

theorem calls_true {P : Program} {f : FuncId} {args : List Value} {H : IHeap} {args' : Array Value} {W : World} {β : Emb} (h : ICalls P f args H (fun e _ => e = .ret (.bool true))) (S : Sim β H W) (hw : β.w0 = W) (ha : VsRel β.loc args args'.toList) :
    Calls P f args' W fun e W' => e = .returned (.bool true) ∧ Below W.heap.size W W' := by
  refine callsIn_wide.1 ((h.2 β W args' S ha).mono fun e W' hA => ?_)
  obtain ⟨β', H', St, S', hE⟩ := hA
  have hb := S'.below
  rw [St.le.1.1, hw] at hb
  refine ⟨?_, hb⟩
  match e, hE with
  | .returned v', ⟨v, hv, he⟩ =>
    injection he with he
    subst he
    rw [hv.inv_bool]
  | .panicked chain, ⟨v, v', _, _, he⟩ => cases he

/-- The empty ideal heap. -/
theorem sim_nil (W : World) : Sim { w0 := W, loc := fun _ => none, held := fun _ => False } [] W where
  below := Below.refl _ _
  dom := fun id l h => by cases h
  held := fun id h => h.elim
  blk := fun id l h => by cases h
  obj := fun id l o h => by cases h
  inj := fun i j l l' o o' h => by cases h

/-- A call without arguments, as reckoned. -/
theorem calls_reckoned {P : Program} {f : FuncId} {ok : List FuncId} {fuel d : Nat} {h' : XHeap} (hm : P.follows .mixedOrders = true) (hok : ok.all (fnOk P) = true) (hx : xfun P ok fuel d (.func f) [] ⟨0, .nil⟩ = some (.bool true, h')) (W : World) :
    Calls P f #[] W fun e W' => e = .returned (.bool true) ∧ Below W.heap.size W W' := by
  obtain ⟨H', _, hc⟩ := xfun_sound hm hok fuel d _ _ _ _ _ hx [] ⟨rfl, fun i => by simp [Tr.get]⟩
  exact calls_true (ICalls.mono (show ICalls P f [] [] _ from hc) fun e H' h => h.1) (sim_nil W) rfl .nil

/-- The same, of a test. -/
def xtrue (P : Program) (ok : List FuncId) (fuel d : Nat) (f : FuncId) : Bool :=
  match xfun P ok fuel d (.func f) [] ⟨0, .nil⟩ with
  | some (.bool true, _) => true
  | _ => false
theorem calls_xtrue {P : Program} {f : FuncId} {ok : List FuncId} {fuel d : Nat} (hm : P.follows .mixedOrders = true) (hok : ok.all (fnOk P) = true) (hx : xtrue P ok fuel d f = true) (W : World) :
    Calls P f #[] W fun e W' => e = .returned (.bool true) ∧ Below W.heap.size W W' := by
  unfold xtrue at hx
  split at hx
  · rename_i h' hh
    exact calls_reckoned hm hok hh W
  · cases hx

end Ide
