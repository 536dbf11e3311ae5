/-
  No cell of these rows narrows 'for every input' (looked for: loops, veiled, ifaces, maps, wideKeys, modest, calm, conditions, laid).
  DERIVED. THE GIVEN ROWS OF THIS SEAT. 3 by the template 'for every input the law returns true; each argument reads behind the call as it read before'; 0 by the template 'total and deterministic' (their statements: YtjjnlbceoajllaaGreatTotals.lean).
  GIVEN WITH THE SEED: the statements are not yours to turn. If you find one false, say at which input.
  Laid BY PROGRAM, IN A SANDBOX (cutbox-rows.mjs): the forced cells as the released guide's own fill.sh prints them over the translation f2472a184363c8e4… (all of the seat's roots in one cut). By AI agents, Wed Nov 11 2026. No macro, syntax, notation, axiom, sorry.
-/
import Derived.Test.YtjjnlbceoajllaaGreatChecked
import GoSem.Claim
import GoSem.ClaimJoined
import GoSem.ClaimMapViews
import Derived.JoinedTies
import Derived.KernelRfl
namespace Go.Proofs.YtjjnlbceoajllaaGreat
/- THE CELL 'sum', in the pinned program and in every row, IS THE sha256 OF THE DUMP (.gsa) THAT YtjjnlbceoajllaaGreatProg.lean LOADS. Nothing in Lean hashes anything: it is a label: what it is worth is what the hold of that sum in a sandbox is worth. -/
noncomputable def Tryz.pinned : Pinned := { name := "ytjjnlbceoajllaagreat", sum := "f2472a184363c8e4a54c3315972bc0b2f8a126b8386eb759b91770d444810c18", checked := Tryz.checked }
namespace Rows
def none {H : Type} : Left H := { results := [], args := [] }

/-- 'cabotagelaw14.FerryFirsts': WHATEVER THE INPUT: true; the input reads as it did. -/
def ferryFirstsSpec : ChangeSpec := { name := "ferryFirsts", fn := fun _ => fun
  | [d1, d2] => { results := [.lit (.bool true)], args := [d1, d2] }
  | _ => none }
def ferryFirstsRow : OpenClaim := { program := "ytjjnlbceoajllaagreat", sum := "f2472a184363c8e4a54c3315972bc0b2f8a126b8386eb759b91770d444810c18", func := "cabotage/cabotagelaw14.FerryFirsts", spec := "ferryFirsts", unfollowed := true, recurses := true, apart := false }
def FerryFirstsSaid : Prop := ferryFirstsRow.holds Tryz.pinned (OpenSpec.ofChange ferryFirstsSpec)

/-- ITS FALSE NEIGHBOUR: 'it returns false'. Refute it at one input. -/
def ferryFirstsWrong : ChangeSpec := { name := "ferryFirsts", fn := fun _ => fun
  | [d1, d2] => { results := [.lit (.bool false)], args := [d1, d2] }
  | _ => none }
def FerryFirstsWrongFalsely : Prop := ferryFirstsRow.holds Tryz.pinned (OpenSpec.ofChange ferryFirstsWrong)

/-- 'cabotagelaw14.FerryShort': WHATEVER THE INPUT: true; the input reads as it did. -/
def ferryShortSpec : ChangeSpec := { name := "ferryShort", fn := fun _ => fun
  | [d1, d2, d3, d4] => { results := [.lit (.bool true)], args := [d1, d2, d3, d4] }
  | _ => none }
def ferryShortRow : OpenClaim := { program := "ytjjnlbceoajllaagreat", sum := "f2472a184363c8e4a54c3315972bc0b2f8a126b8386eb759b91770d444810c18", func := "cabotage/cabotagelaw14.FerryShort", spec := "ferryShort", unfollowed := true, recurses := true, apart := false }
def FerryShortSaid : Prop := ferryShortRow.holds Tryz.pinned (OpenSpec.ofChange ferryShortSpec)

/-- ITS FALSE NEIGHBOUR: 'it returns false'. Refute it at one input. -/
def ferryShortWrong : ChangeSpec := { name := "ferryShort", fn := fun _ => fun
  | [d1, d2, d3, d4] => { results := [.lit (.bool false)], args := [d1, d2, d3, d4] }
  | _ => none }
def FerryShortWrongFalsely : Prop := ferryShortRow.holds Tryz.pinned (OpenSpec.ofChange ferryShortWrong)

/-- 'cabotagelaw14.FerryEnds': WHATEVER THE INPUT: true; the input reads as it did. -/
def ferryEndsSpec : ChangeSpec := { name := "ferryEnds", fn := fun _ => fun
  | [d1, d2, d3] => { results := [.lit (.bool true)], args := [d1, d2, d3] }
  | _ => none }
def ferryEndsRow : OpenClaim := { program := "ytjjnlbceoajllaagreat", sum := "f2472a184363c8e4a54c3315972bc0b2f8a126b8386eb759b91770d444810c18", func := "cabotage/cabotagelaw14.FerryEnds", spec := "ferryEnds", unfollowed := true, recurses := true, apart := false }
def FerryEndsSaid : Prop := ferryEndsRow.holds Tryz.pinned (OpenSpec.ofChange ferryEndsSpec)

/-- ITS FALSE NEIGHBOUR: 'it returns false'. Refute it at one input. -/
def ferryEndsWrong : ChangeSpec := { name := "ferryEnds", fn := fun _ => fun
  | [d1, d2, d3] => { results := [.lit (.bool false)], args := [d1, d2, d3] }
  | _ => none }
def FerryEndsWrongFalsely : Prop := ferryEndsRow.holds Tryz.pinned (OpenSpec.ofChange ferryEndsWrong)

/- THE SECOND FORM. 'bulk': how many values and letters a reading holds, each counted each time it is reached (what is shared counts as often as it is met; a slice's spare places count too). A statement '..UptoSaid' is the law's where the arguments, and the package variables that the reading takes, are together of bulk at most 1048576: NARROWER than '..Said'. Prove '..Said' where nothing that the law and all that it calls make is longer than what came in: it says more and counts as full. Else prove '..UptoSaid'. A law counts once. -/
mutual
def uptoBulk {H : Type} : DataW H → Nat
  | .lit (.string bytes) => bytes.length + 1
  | .lit _ => 1
  | .nil => 1
  | .ptr d => uptoBulk d + 1
  | .slice elems spare => uptoBulkAll elems + uptoBulkAll spare + 1
  | .agg parts => uptoBulkAll parts + 1
  | .iface _ d => uptoBulk d + 1
  | .map entries => uptoBulkEntries entries + 1
  | .held _ => 1
def uptoBulkAll {H : Type} : List (DataW H) → Nat
  | [] => 0
  | d :: r => uptoBulk d + uptoBulkAll r
def uptoBulkEntries {H : Type} : List (Lit × DataW H) → Nat
  | [] => 0
  | x :: r => uptoBulkEntry x + uptoBulkEntries r
def uptoBulkEntry {H : Type} : Lit × DataW H → Nat
  | (.string bytes, d) => bytes.length + uptoBulk d + 1
  | (_, d) => uptoBulk d + 1
 end
def uptoSmall : (H : Type) → List (DataW H) → Bool := fun _ ds => decide (uptoBulkAll ds ≤ 1048576)
def OpenSpec.upto (s : _root_.Go.ChangeSpec) : _root_.Go.OpenSpec := { _root_.Go.OpenSpec.ofChange s with cond := some uptoSmall }

/-- 'cabotagelaw14.FerryFirsts', WHERE WHAT IT READS IS OF BULK AT MOST 1048576: true; the input reads as it did. -/
def ferryFirstsUptoRow : OpenClaim := { program := "ytjjnlbceoajllaagreat", sum := "f2472a184363c8e4a54c3315972bc0b2f8a126b8386eb759b91770d444810c18", func := "cabotage/cabotagelaw14.FerryFirsts", spec := "ferryFirsts", unfollowed := true, recurses := true, apart := false, narrowed := true }
def FerryFirstsUptoSaid : Prop := ferryFirstsUptoRow.holds Tryz.pinned (OpenSpec.upto ferryFirstsSpec)

/-- 'cabotagelaw14.FerryShort', WHERE WHAT IT READS IS OF BULK AT MOST 1048576: true; the input reads as it did. -/
def ferryShortUptoRow : OpenClaim := { program := "ytjjnlbceoajllaagreat", sum := "f2472a184363c8e4a54c3315972bc0b2f8a126b8386eb759b91770d444810c18", func := "cabotage/cabotagelaw14.FerryShort", spec := "ferryShort", unfollowed := true, recurses := true, apart := false, narrowed := true }
def FerryShortUptoSaid : Prop := ferryShortUptoRow.holds Tryz.pinned (OpenSpec.upto ferryShortSpec)

/-- 'cabotagelaw14.FerryEnds', WHERE WHAT IT READS IS OF BULK AT MOST 1048576: true; the input reads as it did. -/
def ferryEndsUptoRow : OpenClaim := { program := "ytjjnlbceoajllaagreat", sum := "f2472a184363c8e4a54c3315972bc0b2f8a126b8386eb759b91770d444810c18", func := "cabotage/cabotagelaw14.FerryEnds", spec := "ferryEnds", unfollowed := true, recurses := true, apart := false, narrowed := true }
def FerryEndsUptoSaid : Prop := ferryEndsUptoRow.holds Tryz.pinned (OpenSpec.upto ferryEndsSpec)

end Rows
end Go.Proofs.YtjjnlbceoajllaaGreat
