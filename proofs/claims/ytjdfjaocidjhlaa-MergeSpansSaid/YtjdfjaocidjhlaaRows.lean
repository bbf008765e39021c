/-
  No cell of these rows narrows 'for every input' (looked for: loops, veiled, ifaces, maps, wideKeys, modest, calm, conditions, laid).
  DERIVED. THE GIVEN ROWS OF THIS SEAT. 4 by the template 'for every input the law returns true; each argument reads behind the call as it read before'; 0 by the template 'total and deterministic' (their statements: YtjdfjaocidjhlaaTotals.lean).
  GIVEN WITH THE SEED: the statements are not yours to turn. If you find one false, say at which input.
  Laid BY PROGRAM, IN A SANDBOX (cutbox-rows.mjs): the forced cells as the released guide's own fill.sh prints them over the translation b7e6e8e790217aed… (all of the seat's roots in one cut). By AI agents, Wed Nov 11 2026. No macro, syntax, notation, axiom, sorry.
-/
import Derived.Test.YtjdfjaocidjhlaaChecked
import GoSem.Claim
import GoSem.ClaimJoined
import GoSem.ClaimMapViews
import Derived.JoinedTies
import Derived.KernelRfl
namespace Go.Proofs.Ytjdfjaocidjhlaa
/- THE CELL 'sum', in the pinned program and in every row, IS THE sha256 OF THE DUMP (.gsa) THAT YtjdfjaocidjhlaaProg.lean LOADS. Nothing in Lean hashes anything: it is a label: what it is worth is what the hold of that sum in a sandbox is worth. -/
noncomputable def Try.pinned : Pinned := { name := "ytjdfjaocidjhlaa", sum := "b7e6e8e790217aed5d7f3bf1f55f389eb2606539b8f69eb693fa4a4767e76b3f", checked := Try.checked }
namespace Rows
def none {H : Type} : Left H := { results := [], args := [] }

/-- 'keepsakelaw09.MergeJoins': WHATEVER THE INPUT: true; the input reads as it did. -/
def mergeJoinsSpec : ChangeSpec := { name := "mergeJoins", fn := fun _ => fun
  | [d1, d2] => { results := [.lit (.bool true)], args := [d1, d2] }
  | _ => none }
def mergeJoinsRow : OpenClaim := { program := "ytjdfjaocidjhlaa", sum := "b7e6e8e790217aed5d7f3bf1f55f389eb2606539b8f69eb693fa4a4767e76b3f", func := "keepsake/keepsakelaw09.MergeJoins", spec := "mergeJoins", unfollowed := true, recurses := true, apart := false }
def MergeJoinsSaid : Prop := mergeJoinsRow.holds Try.pinned (OpenSpec.ofChange mergeJoinsSpec)

/-- ITS FALSE NEIGHBOUR: 'it returns false'. Refute it at one input. -/
def mergeJoinsWrong : ChangeSpec := { name := "mergeJoins", fn := fun _ => fun
  | [d1, d2] => { results := [.lit (.bool false)], args := [d1, d2] }
  | _ => none }
def MergeJoinsWrongFalsely : Prop := mergeJoinsRow.holds Try.pinned (OpenSpec.ofChange mergeJoinsWrong)

/-- 'keepsakelaw09.MergeStays': WHATEVER THE INPUT: true; the input reads as it did. -/
def mergeStaysSpec : ChangeSpec := { name := "mergeStays", fn := fun _ => fun
  | [d1, d2, d3] => { results := [.lit (.bool true)], args := [d1, d2, d3] }
  | _ => none }
def mergeStaysRow : OpenClaim := { program := "ytjdfjaocidjhlaa", sum := "b7e6e8e790217aed5d7f3bf1f55f389eb2606539b8f69eb693fa4a4767e76b3f", func := "keepsake/keepsakelaw09.MergeStays", spec := "mergeStays", unfollowed := true, recurses := true, apart := false }
def MergeStaysSaid : Prop := mergeStaysRow.holds Try.pinned (OpenSpec.ofChange mergeStaysSpec)

/-- ITS FALSE NEIGHBOUR: 'it returns false'. Refute it at one input. -/
def mergeStaysWrong : ChangeSpec := { name := "mergeStays", fn := fun _ => fun
  | [d1, d2, d3] => { results := [.lit (.bool false)], args := [d1, d2, d3] }
  | _ => none }
def MergeStaysWrongFalsely : Prop := mergeStaysRow.holds Try.pinned (OpenSpec.ofChange mergeStaysWrong)

/-- 'keepsakelaw09.MergeOrder': WHATEVER THE INPUT: true; the input reads as it did. -/
def mergeOrderSpec : ChangeSpec := { name := "mergeOrder", fn := fun _ => fun
  | [d1, d2] => { results := [.lit (.bool true)], args := [d1, d2] }
  | _ => none }
def mergeOrderRow : OpenClaim := { program := "ytjdfjaocidjhlaa", sum := "b7e6e8e790217aed5d7f3bf1f55f389eb2606539b8f69eb693fa4a4767e76b3f", func := "keepsake/keepsakelaw09.MergeOrder", spec := "mergeOrder", unfollowed := true, recurses := true, apart := false }
def MergeOrderSaid : Prop := mergeOrderRow.holds Try.pinned (OpenSpec.ofChange mergeOrderSpec)

/-- ITS FALSE NEIGHBOUR: 'it returns false'. Refute it at one input. -/
def mergeOrderWrong : ChangeSpec := { name := "mergeOrder", fn := fun _ => fun
  | [d1, d2] => { results := [.lit (.bool false)], args := [d1, d2] }
  | _ => none }
def MergeOrderWrongFalsely : Prop := mergeOrderRow.holds Try.pinned (OpenSpec.ofChange mergeOrderWrong)

/-- 'keepsakelaw09.MergeSpans': WHATEVER THE INPUT: true; the input reads as it did. -/
def mergeSpansSpec : ChangeSpec := { name := "mergeSpans", fn := fun _ => fun
  | [d1, d2, d3] => { results := [.lit (.bool true)], args := [d1, d2, d3] }
  | _ => none }
def mergeSpansRow : OpenClaim := { program := "ytjdfjaocidjhlaa", sum := "b7e6e8e790217aed5d7f3bf1f55f389eb2606539b8f69eb693fa4a4767e76b3f", func := "keepsake/keepsakelaw09.MergeSpans", spec := "mergeSpans", unfollowed := true, recurses := true, apart := false }
def MergeSpansSaid : Prop := mergeSpansRow.holds Try.pinned (OpenSpec.ofChange mergeSpansSpec)

/-- ITS FALSE NEIGHBOUR: 'it returns false'. Refute it at one input. -/
def mergeSpansWrong : ChangeSpec := { name := "mergeSpans", fn := fun _ => fun
  | [d1, d2, d3] => { results := [.lit (.bool false)], args := [d1, d2, d3] }
  | _ => none }
def MergeSpansWrongFalsely : Prop := mergeSpansRow.holds Try.pinned (OpenSpec.ofChange mergeSpansWrong)

/- THE SECOND FORM. 'bulk': how many values and letters a reading holds, each counted each time it is reached (what is shared counts as often as it is met; a slice's spare places count too). A statement '..UptoSaid' is the law's where the arguments, and the package variables that the reading takes, are together of bulk at most 1048576: NARROWER than '..Said'. Prove '..Said' where nothing that the law and all that it calls make is longer than what came in: it says more and counts as full. Else prove '..UptoSaid'. A law counts once. -/
mutual
def uptoBulk {H : Type} : DataW H → Nat
  | .lit (.string bytes) => bytes.length + 1
  | .lit _ => 1
  | .nil => 1
  | .ptr d => uptoBulk d + 1
  | .slice elems spare => uptoBulkAll elems + uptoBulkAll spare + 1
  | .agg parts => uptoBulkAll parts + 1
  | .iface _ d => uptoBulk d + 1
  | .map entries => uptoBulkEntries entries + 1
  | .held _ => 1
def uptoBulkAll {H : Type} : List (DataW H) → Nat
  | [] => 0
  | d :: r => uptoBulk d + uptoBulkAll r
def uptoBulkEntries {H : Type} : List (Lit × DataW H) → Nat
  | [] => 0
  | x :: r => uptoBulkEntry x + uptoBulkEntries r
def uptoBulkEntry {H : Type} : Lit × DataW H → Nat
  | (.string bytes, d) => bytes.length + uptoBulk d + 1
  | (_, d) => uptoBulk d + 1
 end
def uptoSmall : (H : Type) → List (DataW H) → Bool := fun _ ds => decide (uptoBulkAll ds ≤ 1048576)
def OpenSpec.upto (s : _root_.Go.ChangeSpec) : _root_.Go.OpenSpec := { _root_.Go.OpenSpec.ofChange s with cond := some uptoSmall }

/-- 'keepsakelaw09.MergeJoins', WHERE WHAT IT READS IS OF BULK AT MOST 1048576: true; the input reads as it did. -/
def mergeJoinsUptoRow : OpenClaim := { program := "ytjdfjaocidjhlaa", sum := "b7e6e8e790217aed5d7f3bf1f55f389eb2606539b8f69eb693fa4a4767e76b3f", func := "keepsake/keepsakelaw09.MergeJoins", spec := "mergeJoins", unfollowed := true, recurses := true, apart := false, narrowed := true }
def MergeJoinsUptoSaid : Prop := mergeJoinsUptoRow.holds Try.pinned (OpenSpec.upto mergeJoinsSpec)

/-- 'keepsakelaw09.MergeStays', WHERE WHAT IT READS IS OF BULK AT MOST 1048576: true; the input reads as it did. -/
def mergeStaysUptoRow : OpenClaim := { program := "ytjdfjaocidjhlaa", sum := "b7e6e8e790217aed5d7f3bf1f55f389eb2606539b8f69eb693fa4a4767e76b3f", func := "keepsake/keepsakelaw09.MergeStays", spec := "mergeStays", unfollowed := true, recurses := true, apart := false, narrowed := true }
def MergeStaysUptoSaid : Prop := mergeStaysUptoRow.holds Try.pinned (OpenSpec.upto mergeStaysSpec)

/-- 'keepsakelaw09.MergeOrder', WHERE WHAT IT READS IS OF BULK AT MOST 1048576: true; the input reads as it did. -/
def mergeOrderUptoRow : OpenClaim := { program := "ytjdfjaocidjhlaa", sum := "b7e6e8e790217aed5d7f3bf1f55f389eb2606539b8f69eb693fa4a4767e76b3f", func := "keepsake/keepsakelaw09.MergeOrder", spec := "mergeOrder", unfollowed := true, recurses := true, apart := false, narrowed := true }
def MergeOrderUptoSaid : Prop := mergeOrderUptoRow.holds Try.pinned (OpenSpec.upto mergeOrderSpec)

/-- 'keepsakelaw09.MergeSpans', WHERE WHAT IT READS IS OF BULK AT MOST 1048576: true; the input reads as it did. -/
def mergeSpansUptoRow : OpenClaim := { program := "ytjdfjaocidjhlaa", sum := "b7e6e8e790217aed5d7f3bf1f55f389eb2606539b8f69eb693fa4a4767e76b3f", func := "keepsake/keepsakelaw09.MergeSpans", spec := "mergeSpans", unfollowed := true, recurses := true, apart := false, narrowed := true }
def MergeSpansUptoSaid : Prop := mergeSpansUptoRow.holds Try.pinned (OpenSpec.upto mergeSpansSpec)

end Rows
end Go.Proofs.Ytjdfjaocidjhlaa
