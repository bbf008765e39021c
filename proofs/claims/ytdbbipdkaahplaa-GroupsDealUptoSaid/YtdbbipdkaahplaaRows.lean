/-
  No cell of these rows narrows 'for every input' (looked for: loops, veiled, ifaces, maps, wideKeys, modest, calm, conditions, laid).
  DERIVED. THE GIVEN ROWS OF THIS SEAT. 5 by the template 'for every input the law returns true; each argument reads behind the call as it read before'; 0 by the template 'total and deterministic' (their statements: YtdbbipdkaahplaaTotals.lean).
  GIVEN WITH THE SEED: the statements are not yours to turn. If you find one false, say at which input.
  Laid BY PROGRAM, IN A SANDBOX (cutbox-rows.mjs): the forced cells as the released guide's own fill.sh prints them over the translation 7d072d54b119e783… (all of the seat's roots in one cut). By AI agents, Wed Nov 11 2026. No macro, syntax, notation, axiom, sorry.
-/
import Derived.Test.YtdbbipdkaahplaaChecked
import GoSem.Claim
import GoSem.ClaimJoined
import GoSem.ClaimMapViews
import Derived.JoinedTies
import Derived.KernelRfl
namespace Go.Proofs.Ytdbbipdkaahplaa
/- THE CELL 'sum', in the pinned program and in every row, IS THE sha256 OF THE DUMP (.gsa) THAT YtdbbipdkaahplaaProg.lean LOADS. Nothing in Lean hashes anything: it is a label: what it is worth is what the hold of that sum in a sandbox is worth. -/
noncomputable def Try.pinned : Pinned := { name := "ytdbbipdkaahplaa", sum := "7d072d54b119e783759fd88f53344f3eeadbc0a2718d78ff195332e68776310f", checked := Try.checked }
namespace Rows
def none {H : Type} : Left H := { results := [], args := [] }

/-- 'keepsakelaw04.GroupsStretches': WHATEVER THE INPUT: true; the input reads as it did. -/
def groupsStretchesSpec : ChangeSpec := { name := "groupsStretches", fn := fun _ => fun
  | [d1, d2, d3] => { results := [.lit (.bool true)], args := [d1, d2, d3] }
  | _ => none }
def groupsStretchesRow : OpenClaim := { program := "ytdbbipdkaahplaa", sum := "7d072d54b119e783759fd88f53344f3eeadbc0a2718d78ff195332e68776310f", func := "keepsake/keepsakelaw04.GroupsStretches", spec := "groupsStretches", unfollowed := true, recurses := true, apart := false }
def GroupsStretchesSaid : Prop := groupsStretchesRow.holds Try.pinned (OpenSpec.ofChange groupsStretchesSpec)

/-- ITS FALSE NEIGHBOUR: 'it returns false'. Refute it at one input. -/
def groupsStretchesWrong : ChangeSpec := { name := "groupsStretches", fn := fun _ => fun
  | [d1, d2, d3] => { results := [.lit (.bool false)], args := [d1, d2, d3] }
  | _ => none }
def GroupsStretchesWrongFalsely : Prop := groupsStretchesRow.holds Try.pinned (OpenSpec.ofChange groupsStretchesWrong)

/-- 'keepsakelaw04.GroupsMoves': WHATEVER THE INPUT: true; the input reads as it did. -/
def groupsMovesSpec : ChangeSpec := { name := "groupsMoves", fn := fun _ => fun
  | [d1, d2, d3] => { results := [.lit (.bool true)], args := [d1, d2, d3] }
  | _ => none }
def groupsMovesRow : OpenClaim := { program := "ytdbbipdkaahplaa", sum := "7d072d54b119e783759fd88f53344f3eeadbc0a2718d78ff195332e68776310f", func := "keepsake/keepsakelaw04.GroupsMoves", spec := "groupsMoves", unfollowed := true, recurses := true, apart := false }
def GroupsMovesSaid : Prop := groupsMovesRow.holds Try.pinned (OpenSpec.ofChange groupsMovesSpec)

/-- ITS FALSE NEIGHBOUR: 'it returns false'. Refute it at one input. -/
def groupsMovesWrong : ChangeSpec := { name := "groupsMoves", fn := fun _ => fun
  | [d1, d2, d3] => { results := [.lit (.bool false)], args := [d1, d2, d3] }
  | _ => none }
def GroupsMovesWrongFalsely : Prop := groupsMovesRow.holds Try.pinned (OpenSpec.ofChange groupsMovesWrong)

/-- 'keepsakelaw04.GroupsNames': WHATEVER THE INPUT: true; the input reads as it did. -/
def groupsNamesSpec : ChangeSpec := { name := "groupsNames", fn := fun _ => fun
  | [] => { results := [.lit (.bool true)], args := [] }
  | _ => none }
def groupsNamesRow : OpenClaim := { program := "ytdbbipdkaahplaa", sum := "7d072d54b119e783759fd88f53344f3eeadbc0a2718d78ff195332e68776310f", func := "keepsake/keepsakelaw04.GroupsNames", spec := "groupsNames", unfollowed := true, recurses := true, apart := false }
def GroupsNamesSaid : Prop := groupsNamesRow.holds Try.pinned (OpenSpec.ofChange groupsNamesSpec)

/-- ITS FALSE NEIGHBOUR: 'it returns false'. Refute it at one input. -/
def groupsNamesWrong : ChangeSpec := { name := "groupsNames", fn := fun _ => fun
  | [] => { results := [.lit (.bool false)], args := [] }
  | _ => none }
def GroupsNamesWrongFalsely : Prop := groupsNamesRow.holds Try.pinned (OpenSpec.ofChange groupsNamesWrong)

/-- 'keepsakelaw04.GroupsTell': WHATEVER THE INPUT: true; the input reads as it did. -/
def groupsTellSpec : ChangeSpec := { name := "groupsTell", fn := fun _ => fun
  | [d1, d2] => { results := [.lit (.bool true)], args := [d1, d2] }
  | _ => none }
def groupsTellRow : OpenClaim := { program := "ytdbbipdkaahplaa", sum := "7d072d54b119e783759fd88f53344f3eeadbc0a2718d78ff195332e68776310f", func := "keepsake/keepsakelaw04.GroupsTell", spec := "groupsTell", unfollowed := true, recurses := true, apart := false }
def GroupsTellSaid : Prop := groupsTellRow.holds Try.pinned (OpenSpec.ofChange groupsTellSpec)

/-- ITS FALSE NEIGHBOUR: 'it returns false'. Refute it at one input. -/
def groupsTellWrong : ChangeSpec := { name := "groupsTell", fn := fun _ => fun
  | [d1, d2] => { results := [.lit (.bool false)], args := [d1, d2] }
  | _ => none }
def GroupsTellWrongFalsely : Prop := groupsTellRow.holds Try.pinned (OpenSpec.ofChange groupsTellWrong)

/-- 'keepsakelaw04.GroupsDeal': WHATEVER THE INPUT: true; the input reads as it did. -/
def groupsDealSpec : ChangeSpec := { name := "groupsDeal", fn := fun _ => fun
  | [d1, d2, d3] => { results := [.lit (.bool true)], args := [d1, d2, d3] }
  | _ => none }
def groupsDealRow : OpenClaim := { program := "ytdbbipdkaahplaa", sum := "7d072d54b119e783759fd88f53344f3eeadbc0a2718d78ff195332e68776310f", func := "keepsake/keepsakelaw04.GroupsDeal", spec := "groupsDeal", unfollowed := true, recurses := true, apart := false }
def GroupsDealSaid : Prop := groupsDealRow.holds Try.pinned (OpenSpec.ofChange groupsDealSpec)

/-- ITS FALSE NEIGHBOUR: 'it returns false'. Refute it at one input. -/
def groupsDealWrong : ChangeSpec := { name := "groupsDeal", fn := fun _ => fun
  | [d1, d2, d3] => { results := [.lit (.bool false)], args := [d1, d2, d3] }
  | _ => none }
def GroupsDealWrongFalsely : Prop := groupsDealRow.holds Try.pinned (OpenSpec.ofChange groupsDealWrong)

/- THE SECOND FORM. 'bulk': how many values and letters a reading holds, each counted each time it is reached (what is shared counts as often as it is met; a slice's spare places count too). A statement '..UptoSaid' is the law's where the arguments, and the package variables that the reading takes, are together of bulk at most 1048576: NARROWER than '..Said'. Prove '..Said' where nothing that the law and all that it calls make is longer than what came in: it says more and counts as full. Else prove '..UptoSaid'. A law counts once. -/
mutual
def uptoBulk {H : Type} : DataW H → Nat
  | .lit (.string bytes) => bytes.length + 1
  | .lit _ => 1
  | .nil => 1
  | .ptr d => uptoBulk d + 1
  | .slice elems spare => uptoBulkAll elems + uptoBulkAll spare + 1
  | .agg parts => uptoBulkAll parts + 1
  | .iface _ d => uptoBulk d + 1
  | .map entries => uptoBulkEntries entries + 1
  | .held _ => 1
def uptoBulkAll {H : Type} : List (DataW H) → Nat
  | [] => 0
  | d :: r => uptoBulk d + uptoBulkAll r
def uptoBulkEntries {H : Type} : List (Lit × DataW H) → Nat
  | [] => 0
  | x :: r => uptoBulkEntry x + uptoBulkEntries r
def uptoBulkEntry {H : Type} : Lit × DataW H → Nat
  | (.string bytes, d) => bytes.length + uptoBulk d + 1
  | (_, d) => uptoBulk d + 1
 end
def uptoSmall : (H : Type) → List (DataW H) → Bool := fun _ ds => decide (uptoBulkAll ds ≤ 1048576)
def OpenSpec.upto (s : _root_.Go.ChangeSpec) : _root_.Go.OpenSpec := { _root_.Go.OpenSpec.ofChange s with cond := some uptoSmall }

/-- 'keepsakelaw04.GroupsStretches', WHERE WHAT IT READS IS OF BULK AT MOST 1048576: true; the input reads as it did. -/
def groupsStretchesUptoRow : OpenClaim := { program := "ytdbbipdkaahplaa", sum := "7d072d54b119e783759fd88f53344f3eeadbc0a2718d78ff195332e68776310f", func := "keepsake/keepsakelaw04.GroupsStretches", spec := "groupsStretches", unfollowed := true, recurses := true, apart := false, narrowed := true }
def GroupsStretchesUptoSaid : Prop := groupsStretchesUptoRow.holds Try.pinned (OpenSpec.upto groupsStretchesSpec)

/-- 'keepsakelaw04.GroupsMoves', WHERE WHAT IT READS IS OF BULK AT MOST 1048576: true; the input reads as it did. -/
def groupsMovesUptoRow : OpenClaim := { program := "ytdbbipdkaahplaa", sum := "7d072d54b119e783759fd88f53344f3eeadbc0a2718d78ff195332e68776310f", func := "keepsake/keepsakelaw04.GroupsMoves", spec := "groupsMoves", unfollowed := true, recurses := true, apart := false, narrowed := true }
def GroupsMovesUptoSaid : Prop := groupsMovesUptoRow.holds Try.pinned (OpenSpec.upto groupsMovesSpec)

/-- 'keepsakelaw04.GroupsNames', WHERE WHAT IT READS IS OF BULK AT MOST 1048576: true; the input reads as it did. -/
def groupsNamesUptoRow : OpenClaim := { program := "ytdbbipdkaahplaa", sum := "7d072d54b119e783759fd88f53344f3eeadbc0a2718d78ff195332e68776310f", func := "keepsake/keepsakelaw04.GroupsNames", spec := "groupsNames", unfollowed := true, recurses := true, apart := false, narrowed := true }
def GroupsNamesUptoSaid : Prop := groupsNamesUptoRow.holds Try.pinned (OpenSpec.upto groupsNamesSpec)

/-- 'keepsakelaw04.GroupsTell', WHERE WHAT IT READS IS OF BULK AT MOST 1048576: true; the input reads as it did. -/
def groupsTellUptoRow : OpenClaim := { program := "ytdbbipdkaahplaa", sum := "7d072d54b119e783759fd88f53344f3eeadbc0a2718d78ff195332e68776310f", func := "keepsake/keepsakelaw04.GroupsTell", spec := "groupsTell", unfollowed := true, recurses := true, apart := false, narrowed := true }
def GroupsTellUptoSaid : Prop := groupsTellUptoRow.holds Try.pinned (OpenSpec.upto groupsTellSpec)

/-- 'keepsakelaw04.GroupsDeal', WHERE WHAT IT READS IS OF BULK AT MOST 1048576: true; the input reads as it did. -/
def groupsDealUptoRow : OpenClaim := { program := "ytdbbipdkaahplaa", sum := "7d072d54b119e783759fd88f53344f3eeadbc0a2718d78ff195332e68776310f", func := "keepsake/keepsakelaw04.GroupsDeal", spec := "groupsDeal", unfollowed := true, recurses := true, apart := false, narrowed := true }
def GroupsDealUptoSaid : Prop := groupsDealUptoRow.holds Try.pinned (OpenSpec.upto groupsDealSpec)

end Rows
end Go.Proofs.Ytdbbipdkaahplaa
