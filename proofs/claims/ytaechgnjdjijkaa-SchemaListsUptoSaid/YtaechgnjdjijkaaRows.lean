/-
  No cell of these rows narrows 'for every input' (looked for: loops, veiled, ifaces, maps, wideKeys, modest, calm, conditions, laid).
  DERIVED. THE GIVEN ROWS OF THIS SEAT. 6 by the template 'for every input the law returns true; each argument reads behind the call as it read before'; 0 by the template 'total and deterministic' (their statements: YtaechgnjdjijkaaTotals.lean).
  GIVEN WITH THE SEED: the statements are not yours to turn. If you find one false, say at which input.
  Laid BY PROGRAM, IN A SANDBOX (cutbox-rows.mjs): the forced cells as the released guide's own fill.sh prints them over the translation 30fe999479c016e8… (all of the seat's roots in one cut). By AI agents, Wed Nov 11 2026. No macro, syntax, notation, axiom, sorry.
-/
import Derived.Test.YtaechgnjdjijkaaChecked
import GoSem.Claim
import GoSem.ClaimJoined
import GoSem.ClaimMapViews
import Derived.JoinedTies
import Derived.KernelRfl
namespace Go.Proofs.Ytaechgnjdjijkaa
/- THE CELL 'sum', in the pinned program and in every row, IS THE sha256 OF THE DUMP (.gsa) THAT YtaechgnjdjijkaaProg.lean LOADS. Nothing in Lean hashes anything: it is a label: what it is worth is what the hold of that sum in a sandbox is worth. -/
noncomputable def Try.pinned : Pinned := { name := "ytaechgnjdjijkaa", sum := "30fe999479c016e815416a2cfa596455163e72567cbfa80fa1d4d4a75f306909", checked := Try.checked }
namespace Rows
def none {H : Type} : Left H := { results := [], args := [] }

/-- 'keepsakelaw19.SchemaReads': WHATEVER THE INPUT: true; the input reads as it did. -/
def schemaReadsSpec : ChangeSpec := { name := "schemaReads", fn := fun _ => fun
  | [d1, d2] => { results := [.lit (.bool true)], args := [d1, d2] }
  | _ => none }
def schemaReadsRow : OpenClaim := { program := "ytaechgnjdjijkaa", sum := "30fe999479c016e815416a2cfa596455163e72567cbfa80fa1d4d4a75f306909", func := "keepsake/keepsakelaw19.SchemaReads", spec := "schemaReads", unfollowed := true, recurses := true, apart := false }
def SchemaReadsSaid : Prop := schemaReadsRow.holds Try.pinned (OpenSpec.ofChange schemaReadsSpec)

/-- ITS FALSE NEIGHBOUR: 'it returns false'. Refute it at one input. -/
def schemaReadsWrong : ChangeSpec := { name := "schemaReads", fn := fun _ => fun
  | [d1, d2] => { results := [.lit (.bool false)], args := [d1, d2] }
  | _ => none }
def SchemaReadsWrongFalsely : Prop := schemaReadsRow.holds Try.pinned (OpenSpec.ofChange schemaReadsWrong)

/-- 'keepsakelaw19.SchemaBegins': WHATEVER THE INPUT: true; the input reads as it did. -/
def schemaBeginsSpec : ChangeSpec := { name := "schemaBegins", fn := fun _ => fun
  | [d1, d2, d3, d4] => { results := [.lit (.bool true)], args := [d1, d2, d3, d4] }
  | _ => none }
def schemaBeginsRow : OpenClaim := { program := "ytaechgnjdjijkaa", sum := "30fe999479c016e815416a2cfa596455163e72567cbfa80fa1d4d4a75f306909", func := "keepsake/keepsakelaw19.SchemaBegins", spec := "schemaBegins", unfollowed := true, recurses := true, apart := false }
def SchemaBeginsSaid : Prop := schemaBeginsRow.holds Try.pinned (OpenSpec.ofChange schemaBeginsSpec)

/-- ITS FALSE NEIGHBOUR: 'it returns false'. Refute it at one input. -/
def schemaBeginsWrong : ChangeSpec := { name := "schemaBegins", fn := fun _ => fun
  | [d1, d2, d3, d4] => { results := [.lit (.bool false)], args := [d1, d2, d3, d4] }
  | _ => none }
def SchemaBeginsWrongFalsely : Prop := schemaBeginsRow.holds Try.pinned (OpenSpec.ofChange schemaBeginsWrong)

/-- 'keepsakelaw19.SchemaPuts': WHATEVER THE INPUT: true; the input reads as it did. -/
def schemaPutsSpec : ChangeSpec := { name := "schemaPuts", fn := fun _ => fun
  | [d1, d2, d3] => { results := [.lit (.bool true)], args := [d1, d2, d3] }
  | _ => none }
def schemaPutsRow : OpenClaim := { program := "ytaechgnjdjijkaa", sum := "30fe999479c016e815416a2cfa596455163e72567cbfa80fa1d4d4a75f306909", func := "keepsake/keepsakelaw19.SchemaPuts", spec := "schemaPuts", unfollowed := true, recurses := true, apart := false }
def SchemaPutsSaid : Prop := schemaPutsRow.holds Try.pinned (OpenSpec.ofChange schemaPutsSpec)

/-- ITS FALSE NEIGHBOUR: 'it returns false'. Refute it at one input. -/
def schemaPutsWrong : ChangeSpec := { name := "schemaPuts", fn := fun _ => fun
  | [d1, d2, d3] => { results := [.lit (.bool false)], args := [d1, d2, d3] }
  | _ => none }
def SchemaPutsWrongFalsely : Prop := schemaPutsRow.holds Try.pinned (OpenSpec.ofChange schemaPutsWrong)

/-- 'keepsakelaw19.SchemaLists': WHATEVER THE INPUT: true; the input reads as it did. -/
def schemaListsSpec : ChangeSpec := { name := "schemaLists", fn := fun _ => fun
  | [d1, d2] => { results := [.lit (.bool true)], args := [d1, d2] }
  | _ => none }
def schemaListsRow : OpenClaim := { program := "ytaechgnjdjijkaa", sum := "30fe999479c016e815416a2cfa596455163e72567cbfa80fa1d4d4a75f306909", func := "keepsake/keepsakelaw19.SchemaLists", spec := "schemaLists", unfollowed := true, recurses := true, apart := false }
def SchemaListsSaid : Prop := schemaListsRow.holds Try.pinned (OpenSpec.ofChange schemaListsSpec)

/-- ITS FALSE NEIGHBOUR: 'it returns false'. Refute it at one input. -/
def schemaListsWrong : ChangeSpec := { name := "schemaLists", fn := fun _ => fun
  | [d1, d2] => { results := [.lit (.bool false)], args := [d1, d2] }
  | _ => none }
def SchemaListsWrongFalsely : Prop := schemaListsRow.holds Try.pinned (OpenSpec.ofChange schemaListsWrong)

/-- 'keepsakelaw19.SchemaListReads': WHATEVER THE INPUT: true; the input reads as it did. -/
def schemaListReadsSpec : ChangeSpec := { name := "schemaListReads", fn := fun _ => fun
  | [d1, d2] => { results := [.lit (.bool true)], args := [d1, d2] }
  | _ => none }
def schemaListReadsRow : OpenClaim := { program := "ytaechgnjdjijkaa", sum := "30fe999479c016e815416a2cfa596455163e72567cbfa80fa1d4d4a75f306909", func := "keepsake/keepsakelaw19.SchemaListReads", spec := "schemaListReads", unfollowed := true, recurses := true, apart := false }
def SchemaListReadsSaid : Prop := schemaListReadsRow.holds Try.pinned (OpenSpec.ofChange schemaListReadsSpec)

/-- ITS FALSE NEIGHBOUR: 'it returns false'. Refute it at one input. -/
def schemaListReadsWrong : ChangeSpec := { name := "schemaListReads", fn := fun _ => fun
  | [d1, d2] => { results := [.lit (.bool false)], args := [d1, d2] }
  | _ => none }
def SchemaListReadsWrongFalsely : Prop := schemaListReadsRow.holds Try.pinned (OpenSpec.ofChange schemaListReadsWrong)

/-- 'keepsakelaw19.SchemaNames': WHATEVER THE INPUT: true; the input reads as it did. -/
def schemaNamesSpec : ChangeSpec := { name := "schemaNames", fn := fun _ => fun
  | [] => { results := [.lit (.bool true)], args := [] }
  | _ => none }
def schemaNamesRow : OpenClaim := { program := "ytaechgnjdjijkaa", sum := "30fe999479c016e815416a2cfa596455163e72567cbfa80fa1d4d4a75f306909", func := "keepsake/keepsakelaw19.SchemaNames", spec := "schemaNames", unfollowed := true, recurses := true, apart := false }
def SchemaNamesSaid : Prop := schemaNamesRow.holds Try.pinned (OpenSpec.ofChange schemaNamesSpec)

/-- ITS FALSE NEIGHBOUR: 'it returns false'. Refute it at one input. -/
def schemaNamesWrong : ChangeSpec := { name := "schemaNames", fn := fun _ => fun
  | [] => { results := [.lit (.bool false)], args := [] }
  | _ => none }
def SchemaNamesWrongFalsely : Prop := schemaNamesRow.holds Try.pinned (OpenSpec.ofChange schemaNamesWrong)

/- THE SECOND FORM. 'bulk': how many values and letters a reading holds, each counted each time it is reached (what is shared counts as often as it is met; a slice's spare places count too). A statement '..UptoSaid' is the law's where the arguments, and the package variables that the reading takes, are together of bulk at most 1048576: NARROWER than '..Said'. Prove '..Said' where nothing that the law and all that it calls make is longer than what came in: it says more and counts as full. Else prove '..UptoSaid'. A law counts once. -/
mutual
def uptoBulk {H : Type} : DataW H → Nat
  | .lit (.string bytes) => bytes.length + 1
  | .lit _ => 1
  | .nil => 1
  | .ptr d => uptoBulk d + 1
  | .slice elems spare => uptoBulkAll elems + uptoBulkAll spare + 1
  | .agg parts => uptoBulkAll parts + 1
  | .iface _ d => uptoBulk d + 1
  | .map entries => uptoBulkEntries entries + 1
  | .held _ => 1
def uptoBulkAll {H : Type} : List (DataW H) → Nat
  | [] => 0
  | d :: r => uptoBulk d + uptoBulkAll r
def uptoBulkEntries {H : Type} : List (Lit × DataW H) → Nat
  | [] => 0
  | x :: r => uptoBulkEntry x + uptoBulkEntries r
def uptoBulkEntry {H : Type} : Lit × DataW H → Nat
  | (.string bytes, d) => bytes.length + uptoBulk d + 1
  | (_, d) => uptoBulk d + 1
 end
def uptoSmall : (H : Type) → List (DataW H) → Bool := fun _ ds => decide (uptoBulkAll ds ≤ 1048576)
def OpenSpec.upto (s : _root_.Go.ChangeSpec) : _root_.Go.OpenSpec := { _root_.Go.OpenSpec.ofChange s with cond := some uptoSmall }

/-- 'keepsakelaw19.SchemaReads', WHERE WHAT IT READS IS OF BULK AT MOST 1048576: true; the input reads as it did. -/
def schemaReadsUptoRow : OpenClaim := { program := "ytaechgnjdjijkaa", sum := "30fe999479c016e815416a2cfa596455163e72567cbfa80fa1d4d4a75f306909", func := "keepsake/keepsakelaw19.SchemaReads", spec := "schemaReads", unfollowed := true, recurses := true, apart := false, narrowed := true }
def SchemaReadsUptoSaid : Prop := schemaReadsUptoRow.holds Try.pinned (OpenSpec.upto schemaReadsSpec)

/-- 'keepsakelaw19.SchemaBegins', WHERE WHAT IT READS IS OF BULK AT MOST 1048576: true; the input reads as it did. -/
def schemaBeginsUptoRow : OpenClaim := { program := "ytaechgnjdjijkaa", sum := "30fe999479c016e815416a2cfa596455163e72567cbfa80fa1d4d4a75f306909", func := "keepsake/keepsakelaw19.SchemaBegins", spec := "schemaBegins", unfollowed := true, recurses := true, apart := false, narrowed := true }
def SchemaBeginsUptoSaid : Prop := schemaBeginsUptoRow.holds Try.pinned (OpenSpec.upto schemaBeginsSpec)

/-- 'keepsakelaw19.SchemaPuts', WHERE WHAT IT READS IS OF BULK AT MOST 1048576: true; the input reads as it did. -/
def schemaPutsUptoRow : OpenClaim := { program := "ytaechgnjdjijkaa", sum := "30fe999479c016e815416a2cfa596455163e72567cbfa80fa1d4d4a75f306909", func := "keepsake/keepsakelaw19.SchemaPuts", spec := "schemaPuts", unfollowed := true, recurses := true, apart := false, narrowed := true }
def SchemaPutsUptoSaid : Prop := schemaPutsUptoRow.holds Try.pinned (OpenSpec.upto schemaPutsSpec)

/-- 'keepsakelaw19.SchemaLists', WHERE WHAT IT READS IS OF BULK AT MOST 1048576: true; the input reads as it did. -/
def schemaListsUptoRow : OpenClaim := { program := "ytaechgnjdjijkaa", sum := "30fe999479c016e815416a2cfa596455163e72567cbfa80fa1d4d4a75f306909", func := "keepsake/keepsakelaw19.SchemaLists", spec := "schemaLists", unfollowed := true, recurses := true, apart := false, narrowed := true }
def SchemaListsUptoSaid : Prop := schemaListsUptoRow.holds Try.pinned (OpenSpec.upto schemaListsSpec)

/-- 'keepsakelaw19.SchemaListReads', WHERE WHAT IT READS IS OF BULK AT MOST 1048576: true; the input reads as it did. -/
def schemaListReadsUptoRow : OpenClaim := { program := "ytaechgnjdjijkaa", sum := "30fe999479c016e815416a2cfa596455163e72567cbfa80fa1d4d4a75f306909", func := "keepsake/keepsakelaw19.SchemaListReads", spec := "schemaListReads", unfollowed := true, recurses := true, apart := false, narrowed := true }
def SchemaListReadsUptoSaid : Prop := schemaListReadsUptoRow.holds Try.pinned (OpenSpec.upto schemaListReadsSpec)

/-- 'keepsakelaw19.SchemaNames', WHERE WHAT IT READS IS OF BULK AT MOST 1048576: true; the input reads as it did. -/
def schemaNamesUptoRow : OpenClaim := { program := "ytaechgnjdjijkaa", sum := "30fe999479c016e815416a2cfa596455163e72567cbfa80fa1d4d4a75f306909", func := "keepsake/keepsakelaw19.SchemaNames", spec := "schemaNames", unfollowed := true, recurses := true, apart := false, narrowed := true }
def SchemaNamesUptoSaid : Prop := schemaNamesUptoRow.holds Try.pinned (OpenSpec.upto schemaNamesSpec)

end Rows
end Go.Proofs.Ytaechgnjdjijkaa
