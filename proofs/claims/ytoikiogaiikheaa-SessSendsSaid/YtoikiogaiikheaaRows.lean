/-
  No cell of these rows narrows 'for every input' (looked for: loops, veiled, ifaces, maps, wideKeys, modest, calm, conditions, laid).
  DERIVED. THE GIVEN ROWS OF THIS SEAT. 4 by the template 'for every input the law returns true; each argument reads behind the call as it read before'; 0 by the template 'total and deterministic' (their statements: YtoikiogaiikheaaTotals.lean).
  GIVEN WITH THE SEED: the statements are not yours to turn. If you find one false, say at which input.
  Laid BY PROGRAM, IN A SANDBOX (cutbox-rows.mjs): the forced cells as the released guide's own fill.sh prints them over the translation cec0f18497babae4… (all of the seat's roots in one cut). By AI agents, Wed Nov 11 2026. No macro, syntax, notation, axiom, sorry.
-/
import Derived.Test.YtoikiogaiikheaaChecked
import GoSem.Claim
import GoSem.ClaimJoined
import GoSem.ClaimMapViews
import Derived.JoinedTies
import Derived.KernelRfl
namespace Go.Proofs.Ytoikiogaiikheaa
/- THE CELL 'sum', in the pinned program and in every row, IS THE sha256 OF THE DUMP (.gsa) THAT YtoikiogaiikheaaProg.lean LOADS. Nothing in Lean hashes anything: it is a label: what it is worth is what the hold of that sum in a sandbox is worth. -/
noncomputable def Try.pinned : Pinned := { name := "ytoikiogaiikheaa", sum := "cec0f18497babae46f026a3447d30fb44ba037c9b86ee3f3c558a68d41adf7ca", checked := Try.checked }
namespace Rows
def none {H : Type} : Left H := { results := [], args := [] }

/-- 'cabotagelaw11.SessStarts': WHATEVER THE INPUT: true; the input reads as it did. -/
def sessStartsSpec : ChangeSpec := { name := "sessStarts", fn := fun _ => fun
  | [d1, d2] => { results := [.lit (.bool true)], args := [d1, d2] }
  | _ => none }
def sessStartsRow : OpenClaim := { program := "ytoikiogaiikheaa", sum := "cec0f18497babae46f026a3447d30fb44ba037c9b86ee3f3c558a68d41adf7ca", func := "cabotage/cabotagelaw11.SessStarts", spec := "sessStarts", unfollowed := true, recurses := true, apart := false }
def SessStartsSaid : Prop := sessStartsRow.holds Try.pinned (OpenSpec.ofChange sessStartsSpec)

/-- ITS FALSE NEIGHBOUR: 'it returns false'. Refute it at one input. -/
def sessStartsWrong : ChangeSpec := { name := "sessStarts", fn := fun _ => fun
  | [d1, d2] => { results := [.lit (.bool false)], args := [d1, d2] }
  | _ => none }
def SessStartsWrongFalsely : Prop := sessStartsRow.holds Try.pinned (OpenSpec.ofChange sessStartsWrong)

/-- 'cabotagelaw11.SessSends': WHATEVER THE INPUT: true; the input reads as it did. -/
def sessSendsSpec : ChangeSpec := { name := "sessSends", fn := fun _ => fun
  | [d1, d2] => { results := [.lit (.bool true)], args := [d1, d2] }
  | _ => none }
def sessSendsRow : OpenClaim := { program := "ytoikiogaiikheaa", sum := "cec0f18497babae46f026a3447d30fb44ba037c9b86ee3f3c558a68d41adf7ca", func := "cabotage/cabotagelaw11.SessSends", spec := "sessSends", unfollowed := true, recurses := true, apart := false }
def SessSendsSaid : Prop := sessSendsRow.holds Try.pinned (OpenSpec.ofChange sessSendsSpec)

/-- ITS FALSE NEIGHBOUR: 'it returns false'. Refute it at one input. -/
def sessSendsWrong : ChangeSpec := { name := "sessSends", fn := fun _ => fun
  | [d1, d2] => { results := [.lit (.bool false)], args := [d1, d2] }
  | _ => none }
def SessSendsWrongFalsely : Prop := sessSendsRow.holds Try.pinned (OpenSpec.ofChange sessSendsWrong)

/-- 'cabotagelaw11.SessTakes': WHATEVER THE INPUT: true; the input reads as it did. -/
def sessTakesSpec : ChangeSpec := { name := "sessTakes", fn := fun _ => fun
  | [d1, d2] => { results := [.lit (.bool true)], args := [d1, d2] }
  | _ => none }
def sessTakesRow : OpenClaim := { program := "ytoikiogaiikheaa", sum := "cec0f18497babae46f026a3447d30fb44ba037c9b86ee3f3c558a68d41adf7ca", func := "cabotage/cabotagelaw11.SessTakes", spec := "sessTakes", unfollowed := true, recurses := true, apart := false }
def SessTakesSaid : Prop := sessTakesRow.holds Try.pinned (OpenSpec.ofChange sessTakesSpec)

/-- ITS FALSE NEIGHBOUR: 'it returns false'. Refute it at one input. -/
def sessTakesWrong : ChangeSpec := { name := "sessTakes", fn := fun _ => fun
  | [d1, d2] => { results := [.lit (.bool false)], args := [d1, d2] }
  | _ => none }
def SessTakesWrongFalsely : Prop := sessTakesRow.holds Try.pinned (OpenSpec.ofChange sessTakesWrong)

/-- 'cabotagelaw11.SessPlays': WHATEVER THE INPUT: true; the input reads as it did. -/
def sessPlaysSpec : ChangeSpec := { name := "sessPlays", fn := fun _ => fun
  | [d1, d2] => { results := [.lit (.bool true)], args := [d1, d2] }
  | _ => none }
def sessPlaysRow : OpenClaim := { program := "ytoikiogaiikheaa", sum := "cec0f18497babae46f026a3447d30fb44ba037c9b86ee3f3c558a68d41adf7ca", func := "cabotage/cabotagelaw11.SessPlays", spec := "sessPlays", unfollowed := true, recurses := true, apart := false }
def SessPlaysSaid : Prop := sessPlaysRow.holds Try.pinned (OpenSpec.ofChange sessPlaysSpec)

/-- ITS FALSE NEIGHBOUR: 'it returns false'. Refute it at one input. -/
def sessPlaysWrong : ChangeSpec := { name := "sessPlays", fn := fun _ => fun
  | [d1, d2] => { results := [.lit (.bool false)], args := [d1, d2] }
  | _ => none }
def SessPlaysWrongFalsely : Prop := sessPlaysRow.holds Try.pinned (OpenSpec.ofChange sessPlaysWrong)

/- THE SECOND FORM. 'bulk': how many values and letters a reading holds, each counted each time it is reached (what is shared counts as often as it is met; a slice's spare places count too). A statement '..UptoSaid' is the law's where the arguments, and the package variables that the reading takes, are together of bulk at most 1048576: NARROWER than '..Said'. Prove '..Said' where nothing that the law and all that it calls make is longer than what came in: it says more and counts as full. Else prove '..UptoSaid'. A law counts once. -/
mutual
def uptoBulk {H : Type} : DataW H → Nat
  | .lit (.string bytes) => bytes.length + 1
  | .lit _ => 1
  | .nil => 1
  | .ptr d => uptoBulk d + 1
  | .slice elems spare => uptoBulkAll elems + uptoBulkAll spare + 1
  | .agg parts => uptoBulkAll parts + 1
  | .iface _ d => uptoBulk d + 1
  | .map entries => uptoBulkEntries entries + 1
  | .held _ => 1
def uptoBulkAll {H : Type} : List (DataW H) → Nat
  | [] => 0
  | d :: r => uptoBulk d + uptoBulkAll r
def uptoBulkEntries {H : Type} : List (Lit × DataW H) → Nat
  | [] => 0
  | x :: r => uptoBulkEntry x + uptoBulkEntries r
def uptoBulkEntry {H : Type} : Lit × DataW H → Nat
  | (.string bytes, d) => bytes.length + uptoBulk d + 1
  | (_, d) => uptoBulk d + 1
 end
def uptoSmall : (H : Type) → List (DataW H) → Bool := fun _ ds => decide (uptoBulkAll ds ≤ 1048576)
def OpenSpec.upto (s : _root_.Go.ChangeSpec) : _root_.Go.OpenSpec := { _root_.Go.OpenSpec.ofChange s with cond := some uptoSmall }

/-- 'cabotagelaw11.SessStarts', WHERE WHAT IT READS IS OF BULK AT MOST 1048576: true; the input reads as it did. -/
def sessStartsUptoRow : OpenClaim := { program := "ytoikiogaiikheaa", sum := "cec0f18497babae46f026a3447d30fb44ba037c9b86ee3f3c558a68d41adf7ca", func := "cabotage/cabotagelaw11.SessStarts", spec := "sessStarts", unfollowed := true, recurses := true, apart := false, narrowed := true }
def SessStartsUptoSaid : Prop := sessStartsUptoRow.holds Try.pinned (OpenSpec.upto sessStartsSpec)

/-- 'cabotagelaw11.SessSends', WHERE WHAT IT READS IS OF BULK AT MOST 1048576: true; the input reads as it did. -/
def sessSendsUptoRow : OpenClaim := { program := "ytoikiogaiikheaa", sum := "cec0f18497babae46f026a3447d30fb44ba037c9b86ee3f3c558a68d41adf7ca", func := "cabotage/cabotagelaw11.SessSends", spec := "sessSends", unfollowed := true, recurses := true, apart := false, narrowed := true }
def SessSendsUptoSaid : Prop := sessSendsUptoRow.holds Try.pinned (OpenSpec.upto sessSendsSpec)

/-- 'cabotagelaw11.SessTakes', WHERE WHAT IT READS IS OF BULK AT MOST 1048576: true; the input reads as it did. -/
def sessTakesUptoRow : OpenClaim := { program := "ytoikiogaiikheaa", sum := "cec0f18497babae46f026a3447d30fb44ba037c9b86ee3f3c558a68d41adf7ca", func := "cabotage/cabotagelaw11.SessTakes", spec := "sessTakes", unfollowed := true, recurses := true, apart := false, narrowed := true }
def SessTakesUptoSaid : Prop := sessTakesUptoRow.holds Try.pinned (OpenSpec.upto sessTakesSpec)

/-- 'cabotagelaw11.SessPlays', WHERE WHAT IT READS IS OF BULK AT MOST 1048576: true; the input reads as it did. -/
def sessPlaysUptoRow : OpenClaim := { program := "ytoikiogaiikheaa", sum := "cec0f18497babae46f026a3447d30fb44ba037c9b86ee3f3c558a68d41adf7ca", func := "cabotage/cabotagelaw11.SessPlays", spec := "sessPlays", unfollowed := true, recurses := true, apart := false, narrowed := true }
def SessPlaysUptoSaid : Prop := sessPlaysUptoRow.holds Try.pinned (OpenSpec.upto sessPlaysSpec)

end Rows
end Go.Proofs.Ytoikiogaiikheaa
