/-
  No cell of these rows narrows 'for every input' (looked for: loops, veiled, ifaces, maps, wideKeys, modest, calm, conditions, laid).
  DERIVED. THE GIVEN ROWS OF THIS SEAT. 4 by the template 'for every input the law returns true; each argument reads behind the call as it read before'; 0 by the template 'total and deterministic' (their statements: YtennnajgcpoepaaTotals.lean).
  GIVEN WITH THE SEED: the statements are not yours to turn. If you find one false, say at which input.
  Laid BY PROGRAM, IN A SANDBOX (cutbox-rows.mjs): the forced cells as the released guide's own fill.sh prints them over the translation 726aa8b331592841… (all of the seat's roots in one cut). By AI agents, Wed Nov 11 2026. No macro, syntax, notation, axiom, sorry.
-/
import Derived.Test.YtennnajgcpoepaaChecked
import GoSem.Claim
import GoSem.ClaimJoined
import GoSem.ClaimMapViews
import Derived.JoinedTies
import Derived.KernelRfl
namespace Go.Proofs.Ytennnajgcpoepaa
/- THE CELL 'sum', in the pinned program and in every row, IS THE sha256 OF THE DUMP (.gsa) THAT YtennnajgcpoepaaProg.lean LOADS. Nothing in Lean hashes anything: it is a label: what it is worth is what the hold of that sum in a sandbox is worth. -/
noncomputable def Try.pinned : Pinned := { name := "ytennnajgcpoepaa", sum := "726aa8b3315928413b3b2dfd4b2ca0d26b7d9c67582af72b423f60d013e063d1", checked := Try.checked }
namespace Rows
def none {H : Type} : Left H := { results := [], args := [] }

/-- 'byrelaw12.HandlesMakes': WHATEVER THE INPUT: true; the input reads as it did. -/
def handlesMakesSpec : ChangeSpec := { name := "handlesMakes", fn := fun _ => fun
  | [d1, d2, d3] => { results := [.lit (.bool true)], args := [d1, d2, d3] }
  | _ => none }
def handlesMakesRow : OpenClaim := { program := "ytennnajgcpoepaa", sum := "726aa8b3315928413b3b2dfd4b2ca0d26b7d9c67582af72b423f60d013e063d1", func := "byre/byrelaw12.HandlesMakes", spec := "handlesMakes", apart := false }
def HandlesMakesSaid : Prop := handlesMakesRow.holds Try.pinned (OpenSpec.ofChange handlesMakesSpec)

/-- ITS FALSE NEIGHBOUR: 'it returns false'. Refute it at one input. -/
def handlesMakesWrong : ChangeSpec := { name := "handlesMakes", fn := fun _ => fun
  | [d1, d2, d3] => { results := [.lit (.bool false)], args := [d1, d2, d3] }
  | _ => none }
def HandlesMakesWrongFalsely : Prop := handlesMakesRow.holds Try.pinned (OpenSpec.ofChange handlesMakesWrong)

/-- 'byrelaw12.HandlesBack': WHATEVER THE INPUT: true; the input reads as it did. -/
def handlesBackSpec : ChangeSpec := { name := "handlesBack", fn := fun _ => fun
  | [d1, d2, d3] => { results := [.lit (.bool true)], args := [d1, d2, d3] }
  | _ => none }
def handlesBackRow : OpenClaim := { program := "ytennnajgcpoepaa", sum := "726aa8b3315928413b3b2dfd4b2ca0d26b7d9c67582af72b423f60d013e063d1", func := "byre/byrelaw12.HandlesBack", spec := "handlesBack", apart := false }
def HandlesBackSaid : Prop := handlesBackRow.holds Try.pinned (OpenSpec.ofChange handlesBackSpec)

/-- ITS FALSE NEIGHBOUR: 'it returns false'. Refute it at one input. -/
def handlesBackWrong : ChangeSpec := { name := "handlesBack", fn := fun _ => fun
  | [d1, d2, d3] => { results := [.lit (.bool false)], args := [d1, d2, d3] }
  | _ => none }
def HandlesBackWrongFalsely : Prop := handlesBackRow.holds Try.pinned (OpenSpec.ofChange handlesBackWrong)

/-- 'byrelaw12.HandlesRise': WHATEVER THE INPUT: true; the input reads as it did. -/
def handlesRiseSpec : ChangeSpec := { name := "handlesRise", fn := fun _ => fun
  | [d1, d2, d3, d4] => { results := [.lit (.bool true)], args := [d1, d2, d3, d4] }
  | _ => none }
def handlesRiseRow : OpenClaim := { program := "ytennnajgcpoepaa", sum := "726aa8b3315928413b3b2dfd4b2ca0d26b7d9c67582af72b423f60d013e063d1", func := "byre/byrelaw12.HandlesRise", spec := "handlesRise", apart := false }
def HandlesRiseSaid : Prop := handlesRiseRow.holds Try.pinned (OpenSpec.ofChange handlesRiseSpec)

/-- ITS FALSE NEIGHBOUR: 'it returns false'. Refute it at one input. -/
def handlesRiseWrong : ChangeSpec := { name := "handlesRise", fn := fun _ => fun
  | [d1, d2, d3, d4] => { results := [.lit (.bool false)], args := [d1, d2, d3, d4] }
  | _ => none }
def HandlesRiseWrongFalsely : Prop := handlesRiseRow.holds Try.pinned (OpenSpec.ofChange handlesRiseWrong)

/-- 'byrelaw12.HandlesNext': WHATEVER THE INPUT: true; the input reads as it did. -/
def handlesNextSpec : ChangeSpec := { name := "handlesNext", fn := fun _ => fun
  | [d1, d2] => { results := [.lit (.bool true)], args := [d1, d2] }
  | _ => none }
def handlesNextRow : OpenClaim := { program := "ytennnajgcpoepaa", sum := "726aa8b3315928413b3b2dfd4b2ca0d26b7d9c67582af72b423f60d013e063d1", func := "byre/byrelaw12.HandlesNext", spec := "handlesNext", apart := false }
def HandlesNextSaid : Prop := handlesNextRow.holds Try.pinned (OpenSpec.ofChange handlesNextSpec)

/-- ITS FALSE NEIGHBOUR: 'it returns false'. Refute it at one input. -/
def handlesNextWrong : ChangeSpec := { name := "handlesNext", fn := fun _ => fun
  | [d1, d2] => { results := [.lit (.bool false)], args := [d1, d2] }
  | _ => none }
def HandlesNextWrongFalsely : Prop := handlesNextRow.holds Try.pinned (OpenSpec.ofChange handlesNextWrong)

/- THE SECOND FORM. 'bulk': how many values and letters a reading holds, each counted each time it is reached (what is shared counts as often as it is met; a slice's spare places count too). A statement '..UptoSaid' is the law's where the arguments, and the package variables that the reading takes, are together of bulk at most 1048576: NARROWER than '..Said'. Prove '..Said' where nothing that the law and all that it calls make is longer than what came in: it says more and counts as full. Else prove '..UptoSaid'. A law counts once. -/
mutual
def uptoBulk {H : Type} : DataW H → Nat
  | .lit (.string bytes) => bytes.length + 1
  | .lit _ => 1
  | .nil => 1
  | .ptr d => uptoBulk d + 1
  | .slice elems spare => uptoBulkAll elems + uptoBulkAll spare + 1
  | .agg parts => uptoBulkAll parts + 1
  | .iface _ d => uptoBulk d + 1
  | .map entries => uptoBulkEntries entries + 1
  | .held _ => 1
def uptoBulkAll {H : Type} : List (DataW H) → Nat
  | [] => 0
  | d :: r => uptoBulk d + uptoBulkAll r
def uptoBulkEntries {H : Type} : List (Lit × DataW H) → Nat
  | [] => 0
  | x :: r => uptoBulkEntry x + uptoBulkEntries r
def uptoBulkEntry {H : Type} : Lit × DataW H → Nat
  | (.string bytes, d) => bytes.length + uptoBulk d + 1
  | (_, d) => uptoBulk d + 1
 end
def uptoSmall : (H : Type) → List (DataW H) → Bool := fun _ ds => decide (uptoBulkAll ds ≤ 1048576)
def OpenSpec.upto (s : _root_.Go.ChangeSpec) : _root_.Go.OpenSpec := { _root_.Go.OpenSpec.ofChange s with cond := some uptoSmall }

/-- 'byrelaw12.HandlesMakes', WHERE WHAT IT READS IS OF BULK AT MOST 1048576: true; the input reads as it did. -/
def handlesMakesUptoRow : OpenClaim := { program := "ytennnajgcpoepaa", sum := "726aa8b3315928413b3b2dfd4b2ca0d26b7d9c67582af72b423f60d013e063d1", func := "byre/byrelaw12.HandlesMakes", spec := "handlesMakes", apart := false, narrowed := true }
def HandlesMakesUptoSaid : Prop := handlesMakesUptoRow.holds Try.pinned (OpenSpec.upto handlesMakesSpec)

/-- 'byrelaw12.HandlesBack', WHERE WHAT IT READS IS OF BULK AT MOST 1048576: true; the input reads as it did. -/
def handlesBackUptoRow : OpenClaim := { program := "ytennnajgcpoepaa", sum := "726aa8b3315928413b3b2dfd4b2ca0d26b7d9c67582af72b423f60d013e063d1", func := "byre/byrelaw12.HandlesBack", spec := "handlesBack", apart := false, narrowed := true }
def HandlesBackUptoSaid : Prop := handlesBackUptoRow.holds Try.pinned (OpenSpec.upto handlesBackSpec)

/-- 'byrelaw12.HandlesRise', WHERE WHAT IT READS IS OF BULK AT MOST 1048576: true; the input reads as it did. -/
def handlesRiseUptoRow : OpenClaim := { program := "ytennnajgcpoepaa", sum := "726aa8b3315928413b3b2dfd4b2ca0d26b7d9c67582af72b423f60d013e063d1", func := "byre/byrelaw12.HandlesRise", spec := "handlesRise", apart := false, narrowed := true }
def HandlesRiseUptoSaid : Prop := handlesRiseUptoRow.holds Try.pinned (OpenSpec.upto handlesRiseSpec)

/-- 'byrelaw12.HandlesNext', WHERE WHAT IT READS IS OF BULK AT MOST 1048576: true; the input reads as it did. -/
def handlesNextUptoRow : OpenClaim := { program := "ytennnajgcpoepaa", sum := "726aa8b3315928413b3b2dfd4b2ca0d26b7d9c67582af72b423f60d013e063d1", func := "byre/byrelaw12.HandlesNext", spec := "handlesNext", apart := false, narrowed := true }
def HandlesNextUptoSaid : Prop := handlesNextUptoRow.holds Try.pinned (OpenSpec.upto handlesNextSpec)

end Rows
end Go.Proofs.Ytennnajgcpoepaa
