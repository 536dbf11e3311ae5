/-
  No cell of these rows narrows 'for every input' (looked for: loops, veiled, ifaces, maps, wideKeys, modest, calm, conditions, laid).
  DERIVED. THE GIVEN ROWS OF THIS SEAT. 11 by the template 'for every input the law returns true; each argument reads behind the call as it read before'; 0 by the template 'total and deterministic' (their statements: YtbjnfjglagmcoaaGreatTotals.lean).
  GIVEN WITH THE SEED: the statements are not yours to turn. If you find one false, say at which input.
  Laid BY PROGRAM, IN A SANDBOX (cutbox-rows.mjs): the forced cells as the released guide's own fill.sh prints them over the translation 5bdf92a97247e0d2… (all of the seat's roots in one cut). By AI agents, Wed Nov 11 2026. No macro, syntax, notation, axiom, sorry.
-/
import Derived.Test.YtbjnfjglagmcoaaGreatChecked
import GoSem.Claim
import GoSem.ClaimJoined
import GoSem.ClaimMapViews
import Derived.JoinedTies
import Derived.KernelRfl
namespace Go.Proofs.YtbjnfjglagmcoaaGreat
/- THE CELL 'sum', in the pinned program and in every row, IS THE sha256 OF THE DUMP (.gsa) THAT YtbjnfjglagmcoaaGreatProg.lean LOADS. Nothing in Lean hashes anything: it is a label: what it is worth is what the hold of that sum in a sandbox is worth. -/
noncomputable def Tryz.pinned : Pinned := { name := "ytbjnfjglagmcoaagreat", sum := "5bdf92a97247e0d20767f3f09ef6ae7e68585c86daf74de41e5de540861654d3", checked := Tryz.checked }
namespace Rows
def none {H : Type} : Left H := { results := [], args := [] }

/-- 'cabotagelaw17.TollKnown': WHATEVER THE INPUT: true; the input reads as it did. -/
def tollKnownSpec : ChangeSpec := { name := "tollKnown", fn := fun _ => fun
  | [] => { results := [.lit (.bool true)], args := [] }
  | _ => none }
def tollKnownRow : OpenClaim := { program := "ytbjnfjglagmcoaagreat", sum := "5bdf92a97247e0d20767f3f09ef6ae7e68585c86daf74de41e5de540861654d3", func := "cabotage/cabotagelaw17.TollKnown", spec := "tollKnown", inPlace := ["slices.overlaps[int]"], unfollowed := true, recurses := true, plainKeys := false, apart := false }
def TollKnownSaid : Prop := tollKnownRow.holds Tryz.pinned (OpenSpec.ofChange tollKnownSpec)

/-- ITS FALSE NEIGHBOUR: 'it returns false'. Refute it at one input. -/
def tollKnownWrong : ChangeSpec := { name := "tollKnown", fn := fun _ => fun
  | [] => { results := [.lit (.bool false)], args := [] }
  | _ => none }
def TollKnownWrongFalsely : Prop := tollKnownRow.holds Tryz.pinned (OpenSpec.ofChange tollKnownWrong)

/-- 'cabotagelaw17.TollSetups': WHATEVER THE INPUT: true; the input reads as it did. -/
def tollSetupsSpec : ChangeSpec := { name := "tollSetups", fn := fun _ => fun
  | [d1, d2] => { results := [.lit (.bool true)], args := [d1, d2] }
  | _ => none }
def tollSetupsRow : OpenClaim := { program := "ytbjnfjglagmcoaagreat", sum := "5bdf92a97247e0d20767f3f09ef6ae7e68585c86daf74de41e5de540861654d3", func := "cabotage/cabotagelaw17.TollSetups", spec := "tollSetups", inPlace := ["slices.overlaps[int]"], unfollowed := true, recurses := true, plainKeys := false, apart := false }
def TollSetupsSaid : Prop := tollSetupsRow.holds Tryz.pinned (OpenSpec.ofChange tollSetupsSpec)

/-- ITS FALSE NEIGHBOUR: 'it returns false'. Refute it at one input. -/
def tollSetupsWrong : ChangeSpec := { name := "tollSetups", fn := fun _ => fun
  | [d1, d2] => { results := [.lit (.bool false)], args := [d1, d2] }
  | _ => none }
def TollSetupsWrongFalsely : Prop := tollSetupsRow.holds Tryz.pinned (OpenSpec.ofChange tollSetupsWrong)

/-- 'cabotagelaw17.TollPlays': WHATEVER THE INPUT: true; the input reads as it did. -/
def tollPlaysSpec : ChangeSpec := { name := "tollPlays", fn := fun _ => fun
  | [d1, d2] => { results := [.lit (.bool true)], args := [d1, d2] }
  | _ => none }
def tollPlaysRow : OpenClaim := { program := "ytbjnfjglagmcoaagreat", sum := "5bdf92a97247e0d20767f3f09ef6ae7e68585c86daf74de41e5de540861654d3", func := "cabotage/cabotagelaw17.TollPlays", spec := "tollPlays", inPlace := ["slices.overlaps[int]"], unfollowed := true, recurses := true, plainKeys := false, apart := false }
def TollPlaysSaid : Prop := tollPlaysRow.holds Tryz.pinned (OpenSpec.ofChange tollPlaysSpec)

/-- ITS FALSE NEIGHBOUR: 'it returns false'. Refute it at one input. -/
def tollPlaysWrong : ChangeSpec := { name := "tollPlays", fn := fun _ => fun
  | [d1, d2] => { results := [.lit (.bool false)], args := [d1, d2] }
  | _ => none }
def TollPlaysWrongFalsely : Prop := tollPlaysRow.holds Tryz.pinned (OpenSpec.ofChange tollPlaysWrong)

/-- 'cabotagelaw17.TollDrains': WHATEVER THE INPUT: true; the input reads as it did. -/
def tollDrainsSpec : ChangeSpec := { name := "tollDrains", fn := fun _ => fun
  | [d1, d2, d3] => { results := [.lit (.bool true)], args := [d1, d2, d3] }
  | _ => none }
def tollDrainsRow : OpenClaim := { program := "ytbjnfjglagmcoaagreat", sum := "5bdf92a97247e0d20767f3f09ef6ae7e68585c86daf74de41e5de540861654d3", func := "cabotage/cabotagelaw17.TollDrains", spec := "tollDrains", inPlace := ["slices.overlaps[int]"], unfollowed := true, recurses := true, plainKeys := false, apart := false }
def TollDrainsSaid : Prop := tollDrainsRow.holds Tryz.pinned (OpenSpec.ofChange tollDrainsSpec)

/-- ITS FALSE NEIGHBOUR: 'it returns false'. Refute it at one input. -/
def tollDrainsWrong : ChangeSpec := { name := "tollDrains", fn := fun _ => fun
  | [d1, d2, d3] => { results := [.lit (.bool false)], args := [d1, d2, d3] }
  | _ => none }
def TollDrainsWrongFalsely : Prop := tollDrainsRow.holds Tryz.pinned (OpenSpec.ofChange tollDrainsWrong)

/-- 'cabotagelaw17.TollJudges': WHATEVER THE INPUT: true; the input reads as it did. -/
def tollJudgesSpec : ChangeSpec := { name := "tollJudges", fn := fun _ => fun
  | [d1, d2] => { results := [.lit (.bool true)], args := [d1, d2] }
  | _ => none }
def tollJudgesRow : OpenClaim := { program := "ytbjnfjglagmcoaagreat", sum := "5bdf92a97247e0d20767f3f09ef6ae7e68585c86daf74de41e5de540861654d3", func := "cabotage/cabotagelaw17.TollJudges", spec := "tollJudges", inPlace := ["slices.overlaps[int]"], unfollowed := true, recurses := true, plainKeys := false, apart := false }
def TollJudgesSaid : Prop := tollJudgesRow.holds Tryz.pinned (OpenSpec.ofChange tollJudgesSpec)

/-- ITS FALSE NEIGHBOUR: 'it returns false'. Refute it at one input. -/
def tollJudgesWrong : ChangeSpec := { name := "tollJudges", fn := fun _ => fun
  | [d1, d2] => { results := [.lit (.bool false)], args := [d1, d2] }
  | _ => none }
def TollJudgesWrongFalsely : Prop := tollJudgesRow.holds Tryz.pinned (OpenSpec.ofChange tollJudgesWrong)

/-- 'cabotagelaw17.TollBehind': WHATEVER THE INPUT: true; the input reads as it did. -/
def tollBehindSpec : ChangeSpec := { name := "tollBehind", fn := fun _ => fun
  | [d1, d2, d3] => { results := [.lit (.bool true)], args := [d1, d2, d3] }
  | _ => none }
def tollBehindRow : OpenClaim := { program := "ytbjnfjglagmcoaagreat", sum := "5bdf92a97247e0d20767f3f09ef6ae7e68585c86daf74de41e5de540861654d3", func := "cabotage/cabotagelaw17.TollBehind", spec := "tollBehind", inPlace := ["slices.overlaps[int]"], unfollowed := true, recurses := true, plainKeys := false, apart := false }
def TollBehindSaid : Prop := tollBehindRow.holds Tryz.pinned (OpenSpec.ofChange tollBehindSpec)

/-- ITS FALSE NEIGHBOUR: 'it returns false'. Refute it at one input. -/
def tollBehindWrong : ChangeSpec := { name := "tollBehind", fn := fun _ => fun
  | [d1, d2, d3] => { results := [.lit (.bool false)], args := [d1, d2, d3] }
  | _ => none }
def TollBehindWrongFalsely : Prop := tollBehindRow.holds Tryz.pinned (OpenSpec.ofChange tollBehindWrong)

/-- 'cabotagelaw17.TollRight': WHATEVER THE INPUT: true; the input reads as it did. -/
def tollRightSpec : ChangeSpec := { name := "tollRight", fn := fun _ => fun
  | [d1, d2, d3] => { results := [.lit (.bool true)], args := [d1, d2, d3] }
  | _ => none }
def tollRightRow : OpenClaim := { program := "ytbjnfjglagmcoaagreat", sum := "5bdf92a97247e0d20767f3f09ef6ae7e68585c86daf74de41e5de540861654d3", func := "cabotage/cabotagelaw17.TollRight", spec := "tollRight", inPlace := ["slices.overlaps[int]"], unfollowed := true, recurses := true, plainKeys := false, apart := false }
def TollRightSaid : Prop := tollRightRow.holds Tryz.pinned (OpenSpec.ofChange tollRightSpec)

/-- ITS FALSE NEIGHBOUR: 'it returns false'. Refute it at one input. -/
def tollRightWrong : ChangeSpec := { name := "tollRight", fn := fun _ => fun
  | [d1, d2, d3] => { results := [.lit (.bool false)], args := [d1, d2, d3] }
  | _ => none }
def TollRightWrongFalsely : Prop := tollRightRow.holds Tryz.pinned (OpenSpec.ofChange tollRightWrong)

/-- 'cabotagelaw17.TollOnce': WHATEVER THE INPUT: true; the input reads as it did. -/
def tollOnceSpec : ChangeSpec := { name := "tollOnce", fn := fun _ => fun
  | [d1, d2, d3] => { results := [.lit (.bool true)], args := [d1, d2, d3] }
  | _ => none }
def tollOnceRow : OpenClaim := { program := "ytbjnfjglagmcoaagreat", sum := "5bdf92a97247e0d20767f3f09ef6ae7e68585c86daf74de41e5de540861654d3", func := "cabotage/cabotagelaw17.TollOnce", spec := "tollOnce", inPlace := ["slices.overlaps[int]"], unfollowed := true, recurses := true, plainKeys := false, apart := false }
def TollOnceSaid : Prop := tollOnceRow.holds Tryz.pinned (OpenSpec.ofChange tollOnceSpec)

/-- ITS FALSE NEIGHBOUR: 'it returns false'. Refute it at one input. -/
def tollOnceWrong : ChangeSpec := { name := "tollOnce", fn := fun _ => fun
  | [d1, d2, d3] => { results := [.lit (.bool false)], args := [d1, d2, d3] }
  | _ => none }
def TollOnceWrongFalsely : Prop := tollOnceRow.holds Tryz.pinned (OpenSpec.ofChange tollOnceWrong)

/-- 'cabotagelaw17.TollDies': WHATEVER THE INPUT: true; the input reads as it did. -/
def tollDiesSpec : ChangeSpec := { name := "tollDies", fn := fun _ => fun
  | [d1, d2, d3] => { results := [.lit (.bool true)], args := [d1, d2, d3] }
  | _ => none }
def tollDiesRow : OpenClaim := { program := "ytbjnfjglagmcoaagreat", sum := "5bdf92a97247e0d20767f3f09ef6ae7e68585c86daf74de41e5de540861654d3", func := "cabotage/cabotagelaw17.TollDies", spec := "tollDies", inPlace := ["slices.overlaps[int]"], unfollowed := true, recurses := true, plainKeys := false, apart := false }
def TollDiesSaid : Prop := tollDiesRow.holds Tryz.pinned (OpenSpec.ofChange tollDiesSpec)

/-- ITS FALSE NEIGHBOUR: 'it returns false'. Refute it at one input. -/
def tollDiesWrong : ChangeSpec := { name := "tollDies", fn := fun _ => fun
  | [d1, d2, d3] => { results := [.lit (.bool false)], args := [d1, d2, d3] }
  | _ => none }
def TollDiesWrongFalsely : Prop := tollDiesRow.holds Tryz.pinned (OpenSpec.ofChange tollDiesWrong)

/-- 'cabotagelaw17.TollInside': WHATEVER THE INPUT: true; the input reads as it did. -/
def tollInsideSpec : ChangeSpec := { name := "tollInside", fn := fun _ => fun
  | [d1, d2, d3, d4] => { results := [.lit (.bool true)], args := [d1, d2, d3, d4] }
  | _ => none }
def tollInsideRow : OpenClaim := { program := "ytbjnfjglagmcoaagreat", sum := "5bdf92a97247e0d20767f3f09ef6ae7e68585c86daf74de41e5de540861654d3", func := "cabotage/cabotagelaw17.TollInside", spec := "tollInside", inPlace := ["slices.overlaps[int]"], unfollowed := true, recurses := true, plainKeys := false, apart := false }
def TollInsideSaid : Prop := tollInsideRow.holds Tryz.pinned (OpenSpec.ofChange tollInsideSpec)

/-- ITS FALSE NEIGHBOUR: 'it returns false'. Refute it at one input. -/
def tollInsideWrong : ChangeSpec := { name := "tollInside", fn := fun _ => fun
  | [d1, d2, d3, d4] => { results := [.lit (.bool false)], args := [d1, d2, d3, d4] }
  | _ => none }
def TollInsideWrongFalsely : Prop := tollInsideRow.holds Tryz.pinned (OpenSpec.ofChange tollInsideWrong)

/-- 'cabotagelaw17.TollOrders': WHATEVER THE INPUT: true; the input reads as it did. -/
def tollOrdersSpec : ChangeSpec := { name := "tollOrders", fn := fun _ => fun
  | [d1, d2, d3, d4] => { results := [.lit (.bool true)], args := [d1, d2, d3, d4] }
  | _ => none }
def tollOrdersRow : OpenClaim := { program := "ytbjnfjglagmcoaagreat", sum := "5bdf92a97247e0d20767f3f09ef6ae7e68585c86daf74de41e5de540861654d3", func := "cabotage/cabotagelaw17.TollOrders", spec := "tollOrders", inPlace := ["slices.overlaps[int]"], unfollowed := true, recurses := true, plainKeys := false, apart := false }
def TollOrdersSaid : Prop := tollOrdersRow.holds Tryz.pinned (OpenSpec.ofChange tollOrdersSpec)

/-- ITS FALSE NEIGHBOUR: 'it returns false'. Refute it at one input. -/
def tollOrdersWrong : ChangeSpec := { name := "tollOrders", fn := fun _ => fun
  | [d1, d2, d3, d4] => { results := [.lit (.bool false)], args := [d1, d2, d3, d4] }
  | _ => none }
def TollOrdersWrongFalsely : Prop := tollOrdersRow.holds Tryz.pinned (OpenSpec.ofChange tollOrdersWrong)

/- THE SECOND FORM. 'bulk': how many values and letters a reading holds, each counted each time it is reached (what is shared counts as often as it is met; a slice's spare places count too). A statement '..UptoSaid' is the law's where the arguments, and the package variables that the reading takes, are together of bulk at most 1048576: NARROWER than '..Said'. Prove '..Said' where nothing that the law and all that it calls make is longer than what came in: it says more and counts as full. Else prove '..UptoSaid'. A law counts once. -/
mutual
def uptoBulk {H : Type} : DataW H → Nat
  | .lit (.string bytes) => bytes.length + 1
  | .lit _ => 1
  | .nil => 1
  | .ptr d => uptoBulk d + 1
  | .slice elems spare => uptoBulkAll elems + uptoBulkAll spare + 1
  | .agg parts => uptoBulkAll parts + 1
  | .iface _ d => uptoBulk d + 1
  | .map entries => uptoBulkEntries entries + 1
  | .held _ => 1
def uptoBulkAll {H : Type} : List (DataW H) → Nat
  | [] => 0
  | d :: r => uptoBulk d + uptoBulkAll r
def uptoBulkEntries {H : Type} : List (Lit × DataW H) → Nat
  | [] => 0
  | x :: r => uptoBulkEntry x + uptoBulkEntries r
def uptoBulkEntry {H : Type} : Lit × DataW H → Nat
  | (.string bytes, d) => bytes.length + uptoBulk d + 1
  | (_, d) => uptoBulk d + 1
 end
def uptoSmall : (H : Type) → List (DataW H) → Bool := fun _ ds => decide (uptoBulkAll ds ≤ 1048576)
def OpenSpec.upto (s : _root_.Go.ChangeSpec) : _root_.Go.OpenSpec := { _root_.Go.OpenSpec.ofChange s with cond := some uptoSmall }

/-- 'cabotagelaw17.TollKnown', WHERE WHAT IT READS IS OF BULK AT MOST 1048576: true; the input reads as it did. -/
def tollKnownUptoRow : OpenClaim := { program := "ytbjnfjglagmcoaagreat", sum := "5bdf92a97247e0d20767f3f09ef6ae7e68585c86daf74de41e5de540861654d3", func := "cabotage/cabotagelaw17.TollKnown", spec := "tollKnown", inPlace := ["slices.overlaps[int]"], unfollowed := true, recurses := true, plainKeys := false, apart := false, narrowed := true }
def TollKnownUptoSaid : Prop := tollKnownUptoRow.holds Tryz.pinned (OpenSpec.upto tollKnownSpec)

/-- 'cabotagelaw17.TollSetups', WHERE WHAT IT READS IS OF BULK AT MOST 1048576: true; the input reads as it did. -/
def tollSetupsUptoRow : OpenClaim := { program := "ytbjnfjglagmcoaagreat", sum := "5bdf92a97247e0d20767f3f09ef6ae7e68585c86daf74de41e5de540861654d3", func := "cabotage/cabotagelaw17.TollSetups", spec := "tollSetups", inPlace := ["slices.overlaps[int]"], unfollowed := true, recurses := true, plainKeys := false, apart := false, narrowed := true }
def TollSetupsUptoSaid : Prop := tollSetupsUptoRow.holds Tryz.pinned (OpenSpec.upto tollSetupsSpec)

/-- 'cabotagelaw17.TollPlays', WHERE WHAT IT READS IS OF BULK AT MOST 1048576: true; the input reads as it did. -/
def tollPlaysUptoRow : OpenClaim := { program := "ytbjnfjglagmcoaagreat", sum := "5bdf92a97247e0d20767f3f09ef6ae7e68585c86daf74de41e5de540861654d3", func := "cabotage/cabotagelaw17.TollPlays", spec := "tollPlays", inPlace := ["slices.overlaps[int]"], unfollowed := true, recurses := true, plainKeys := false, apart := false, narrowed := true }
def TollPlaysUptoSaid : Prop := tollPlaysUptoRow.holds Tryz.pinned (OpenSpec.upto tollPlaysSpec)

/-- 'cabotagelaw17.TollDrains', WHERE WHAT IT READS IS OF BULK AT MOST 1048576: true; the input reads as it did. -/
def tollDrainsUptoRow : OpenClaim := { program := "ytbjnfjglagmcoaagreat", sum := "5bdf92a97247e0d20767f3f09ef6ae7e68585c86daf74de41e5de540861654d3", func := "cabotage/cabotagelaw17.TollDrains", spec := "tollDrains", inPlace := ["slices.overlaps[int]"], unfollowed := true, recurses := true, plainKeys := false, apart := false, narrowed := true }
def TollDrainsUptoSaid : Prop := tollDrainsUptoRow.holds Tryz.pinned (OpenSpec.upto tollDrainsSpec)

/-- 'cabotagelaw17.TollJudges', WHERE WHAT IT READS IS OF BULK AT MOST 1048576: true; the input reads as it did. -/
def tollJudgesUptoRow : OpenClaim := { program := "ytbjnfjglagmcoaagreat", sum := "5bdf92a97247e0d20767f3f09ef6ae7e68585c86daf74de41e5de540861654d3", func := "cabotage/cabotagelaw17.TollJudges", spec := "tollJudges", inPlace := ["slices.overlaps[int]"], unfollowed := true, recurses := true, plainKeys := false, apart := false, narrowed := true }
def TollJudgesUptoSaid : Prop := tollJudgesUptoRow.holds Tryz.pinned (OpenSpec.upto tollJudgesSpec)

/-- 'cabotagelaw17.TollBehind', WHERE WHAT IT READS IS OF BULK AT MOST 1048576: true; the input reads as it did. -/
def tollBehindUptoRow : OpenClaim := { program := "ytbjnfjglagmcoaagreat", sum := "5bdf92a97247e0d20767f3f09ef6ae7e68585c86daf74de41e5de540861654d3", func := "cabotage/cabotagelaw17.TollBehind", spec := "tollBehind", inPlace := ["slices.overlaps[int]"], unfollowed := true, recurses := true, plainKeys := false, apart := false, narrowed := true }
def TollBehindUptoSaid : Prop := tollBehindUptoRow.holds Tryz.pinned (OpenSpec.upto tollBehindSpec)

/-- 'cabotagelaw17.TollRight', WHERE WHAT IT READS IS OF BULK AT MOST 1048576: true; the input reads as it did. -/
def tollRightUptoRow : OpenClaim := { program := "ytbjnfjglagmcoaagreat", sum := "5bdf92a97247e0d20767f3f09ef6ae7e68585c86daf74de41e5de540861654d3", func := "cabotage/cabotagelaw17.TollRight", spec := "tollRight", inPlace := ["slices.overlaps[int]"], unfollowed := true, recurses := true, plainKeys := false, apart := false, narrowed := true }
def TollRightUptoSaid : Prop := tollRightUptoRow.holds Tryz.pinned (OpenSpec.upto tollRightSpec)

/-- 'cabotagelaw17.TollOnce', WHERE WHAT IT READS IS OF BULK AT MOST 1048576: true; the input reads as it did. -/
def tollOnceUptoRow : OpenClaim := { program := "ytbjnfjglagmcoaagreat", sum := "5bdf92a97247e0d20767f3f09ef6ae7e68585c86daf74de41e5de540861654d3", func := "cabotage/cabotagelaw17.TollOnce", spec := "tollOnce", inPlace := ["slices.overlaps[int]"], unfollowed := true, recurses := true, plainKeys := false, apart := false, narrowed := true }
def TollOnceUptoSaid : Prop := tollOnceUptoRow.holds Tryz.pinned (OpenSpec.upto tollOnceSpec)

/-- 'cabotagelaw17.TollDies', WHERE WHAT IT READS IS OF BULK AT MOST 1048576: true; the input reads as it did. -/
def tollDiesUptoRow : OpenClaim := { program := "ytbjnfjglagmcoaagreat", sum := "5bdf92a97247e0d20767f3f09ef6ae7e68585c86daf74de41e5de540861654d3", func := "cabotage/cabotagelaw17.TollDies", spec := "tollDies", inPlace := ["slices.overlaps[int]"], unfollowed := true, recurses := true, plainKeys := false, apart := false, narrowed := true }
def TollDiesUptoSaid : Prop := tollDiesUptoRow.holds Tryz.pinned (OpenSpec.upto tollDiesSpec)

/-- 'cabotagelaw17.TollInside', WHERE WHAT IT READS IS OF BULK AT MOST 1048576: true; the input reads as it did. -/
def tollInsideUptoRow : OpenClaim := { program := "ytbjnfjglagmcoaagreat", sum := "5bdf92a97247e0d20767f3f09ef6ae7e68585c86daf74de41e5de540861654d3", func := "cabotage/cabotagelaw17.TollInside", spec := "tollInside", inPlace := ["slices.overlaps[int]"], unfollowed := true, recurses := true, plainKeys := false, apart := false, narrowed := true }
def TollInsideUptoSaid : Prop := tollInsideUptoRow.holds Tryz.pinned (OpenSpec.upto tollInsideSpec)

/-- 'cabotagelaw17.TollOrders', WHERE WHAT IT READS IS OF BULK AT MOST 1048576: true; the input reads as it did. -/
def tollOrdersUptoRow : OpenClaim := { program := "ytbjnfjglagmcoaagreat", sum := "5bdf92a97247e0d20767f3f09ef6ae7e68585c86daf74de41e5de540861654d3", func := "cabotage/cabotagelaw17.TollOrders", spec := "tollOrders", inPlace := ["slices.overlaps[int]"], unfollowed := true, recurses := true, plainKeys := false, apart := false, narrowed := true }
def TollOrdersUptoSaid : Prop := tollOrdersUptoRow.holds Tryz.pinned (OpenSpec.upto tollOrdersSpec)

end Rows
end Go.Proofs.YtbjnfjglagmcoaaGreat
