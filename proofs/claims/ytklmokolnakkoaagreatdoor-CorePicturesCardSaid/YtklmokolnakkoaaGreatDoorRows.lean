/-
  NARROWER THAN 'FOR EVERY INPUT', by the rows' own cells (each row's printed sentence says how): CoreClass: laid · CoreNew: laid · CoreHolds: laid · CorePictures: laid · CoreMaps: laid.
  DERIVED. THE GIVEN ROWS OF THIS SEAT. 5 by the template 'for every input the law returns true; each argument reads behind the call as it read before'; 0 by the template 'total and deterministic' (their statements: YtklmokolnakkoaaGreatDoorTotals.lean).
  GIVEN WITH THE SEED: the statements are not yours to turn. If you find one false, say at which input.
  Laid BY PROGRAM, IN A SANDBOX (cutbox-rows.mjs): the forced cells as the released guide's own fill.sh prints them over the translation 506792f65fb71b65… (all of the seat's roots in one cut). By AI agents, Wed Nov 11 2026. No macro, syntax, notation, axiom, sorry.
-/
import Derived.Test.YtklmokolnakkoaaGreatDoorChecked
import GoSem.Claim
import GoSem.ClaimJoined
import GoSem.ClaimMapViews
import Derived.JoinedTies
import Derived.KernelRfl
namespace Go.Proofs.YtklmokolnakkoaaGreatDoor
/- THE CELL 'sum', in the pinned program and in every row, IS THE sha256 OF THE DUMP (.gsa) THAT YtklmokolnakkoaaGreatDoorProg.lean LOADS. Nothing in Lean hashes anything: it is a label: what it is worth is what the hold of that sum in a sandbox is worth. -/
noncomputable def Tryz.pinned : Pinned := { name := "ytklmokolnakkoaagreatdoor", sum := "506792f65fb71b6529970bbbfe50e15d5fd4ef5ac9862a2d162f78e70f913cf9", checked := Tryz.checked }
namespace Rows
def none {H : Type} : Left H := { results := [], args := [] }

/- WHAT THE LISTED PACKAGE-LEVEL VARIABLES READ AS WHEN THE CALL BEGINS. Each datum BY PROGRAM (the guide's laid-datum.mjs) off the statement by which the dump's own 'gosem.cut.vars' lays the variable. In a bare row this is a premise. The card (YtklmokolnakkoaaGreatDoorCards.lean) ties it to the program's text. -/
def laid_byre_api_Sizes {H : Type} : DataW H := .agg [.lit (.int .i64 8), .lit (.int .i64 16), .lit (.int .i64 24), .lit (.int .i64 40), .lit (.int .i64 56), .lit (.int .i64 72), .lit (.int .i64 104), .lit (.int .i64 128)]
def laid_math_bits_deBruijn64tab {H : Type} : DataW H := .agg [.lit (.int .u8 0), .lit (.int .u8 1), .lit (.int .u8 56), .lit (.int .u8 2), .lit (.int .u8 57), .lit (.int .u8 49), .lit (.int .u8 28), .lit (.int .u8 3), .lit (.int .u8 61), .lit (.int .u8 58), .lit (.int .u8 42), .lit (.int .u8 50), .lit (.int .u8 38), .lit (.int .u8 29), .lit (.int .u8 17), .lit (.int .u8 4), .lit (.int .u8 62), .lit (.int .u8 47), .lit (.int .u8 59), .lit (.int .u8 36), .lit (.int .u8 45), .lit (.int .u8 43), .lit (.int .u8 51), .lit (.int .u8 22), .lit (.int .u8 53), .lit (.int .u8 39), .lit (.int .u8 33), .lit (.int .u8 30), .lit (.int .u8 24), .lit (.int .u8 18), .lit (.int .u8 12), .lit (.int .u8 5), .lit (.int .u8 63), .lit (.int .u8 55), .lit (.int .u8 48), .lit (.int .u8 27), .lit (.int .u8 60), .lit (.int .u8 41), .lit (.int .u8 37), .lit (.int .u8 16), .lit (.int .u8 46), .lit (.int .u8 35), .lit (.int .u8 44), .lit (.int .u8 21), .lit (.int .u8 52), .lit (.int .u8 32), .lit (.int .u8 23), .lit (.int .u8 11), .lit (.int .u8 54), .lit (.int .u8 26), .lit (.int .u8 40), .lit (.int .u8 15), .lit (.int .u8 34), .lit (.int .u8 20), .lit (.int .u8 31), .lit (.int .u8 10), .lit (.int .u8 25), .lit (.int .u8 14), .lit (.int .u8 19), .lit (.int .u8 9), .lit (.int .u8 13), .lit (.int .u8 8), .lit (.int .u8 7), .lit (.int .u8 6)]

/-- 'byrelaw21.CoreClass': WHATEVER THE INPUT: true; the input reads as it did. -/
def coreClassSpec : ChangeSpec := { name := "coreClass", fn := fun _ => fun
  | [d] => { results := [.lit (.bool true)], args := [d] }
  | _ => none }
def coreClassRow : OpenClaim := { program := "ytklmokolnakkoaagreatdoor", sum := "506792f65fb71b6529970bbbfe50e15d5fd4ef5ac9862a2d162f78e70f913cf9", func := "byre/byrelaw21.CoreClass", spec := "coreClass", unfollowed := true, recurses := true, named := ["byre/api.Sizes", "math/bits.deBruijn64tab"], plainKeys := false, apart := false, laid := [("byre/api.Sizes", laid_byre_api_Sizes), ("math/bits.deBruijn64tab", laid_math_bits_deBruijn64tab)] }
def CoreClassSaid : Prop := coreClassRow.holds Tryz.pinned (OpenSpec.ofChange coreClassSpec)

/-- ITS FALSE NEIGHBOUR: 'it returns false'. Refute it at one input. -/
def coreClassWrong : ChangeSpec := { name := "coreClass", fn := fun _ => fun
  | [d] => { results := [.lit (.bool false)], args := [d] }
  | _ => none }
def CoreClassWrongFalsely : Prop := coreClassRow.holds Tryz.pinned (OpenSpec.ofChange coreClassWrong)

/-- 'byrelaw21.CoreNew': WHATEVER THE INPUT: true; the input reads as it did. -/
def coreNewSpec : ChangeSpec := { name := "coreNew", fn := fun _ => fun
  | [d] => { results := [.lit (.bool true)], args := [d] }
  | _ => none }
def coreNewRow : OpenClaim := { program := "ytklmokolnakkoaagreatdoor", sum := "506792f65fb71b6529970bbbfe50e15d5fd4ef5ac9862a2d162f78e70f913cf9", func := "byre/byrelaw21.CoreNew", spec := "coreNew", unfollowed := true, recurses := true, named := ["byre/api.Sizes", "math/bits.deBruijn64tab"], plainKeys := false, apart := false, laid := [("byre/api.Sizes", laid_byre_api_Sizes), ("math/bits.deBruijn64tab", laid_math_bits_deBruijn64tab)] }
def CoreNewSaid : Prop := coreNewRow.holds Tryz.pinned (OpenSpec.ofChange coreNewSpec)

/-- ITS FALSE NEIGHBOUR: 'it returns false'. Refute it at one input. -/
def coreNewWrong : ChangeSpec := { name := "coreNew", fn := fun _ => fun
  | [d] => { results := [.lit (.bool false)], args := [d] }
  | _ => none }
def CoreNewWrongFalsely : Prop := coreNewRow.holds Tryz.pinned (OpenSpec.ofChange coreNewWrong)

/-- 'byrelaw21.CoreHolds': WHATEVER THE INPUT: true; the input reads as it did. -/
def coreHoldsSpec : ChangeSpec := { name := "coreHolds", fn := fun _ => fun
  | [d1, d2] => { results := [.lit (.bool true)], args := [d1, d2] }
  | _ => none }
def coreHoldsRow : OpenClaim := { program := "ytklmokolnakkoaagreatdoor", sum := "506792f65fb71b6529970bbbfe50e15d5fd4ef5ac9862a2d162f78e70f913cf9", func := "byre/byrelaw21.CoreHolds", spec := "coreHolds", unfollowed := true, recurses := true, named := ["byre/api.Sizes", "math/bits.deBruijn64tab"], plainKeys := false, apart := false, laid := [("byre/api.Sizes", laid_byre_api_Sizes), ("math/bits.deBruijn64tab", laid_math_bits_deBruijn64tab)] }
def CoreHoldsSaid : Prop := coreHoldsRow.holds Tryz.pinned (OpenSpec.ofChange coreHoldsSpec)

/-- ITS FALSE NEIGHBOUR: 'it returns false'. Refute it at one input. -/
def coreHoldsWrong : ChangeSpec := { name := "coreHolds", fn := fun _ => fun
  | [d1, d2] => { results := [.lit (.bool false)], args := [d1, d2] }
  | _ => none }
def CoreHoldsWrongFalsely : Prop := coreHoldsRow.holds Tryz.pinned (OpenSpec.ofChange coreHoldsWrong)

/-- 'byrelaw21.CorePictures': WHATEVER THE INPUT: true; the input reads as it did. -/
def corePicturesSpec : ChangeSpec := { name := "corePictures", fn := fun _ => fun
  | [d1, d2] => { results := [.lit (.bool true)], args := [d1, d2] }
  | _ => none }
def corePicturesRow : OpenClaim := { program := "ytklmokolnakkoaagreatdoor", sum := "506792f65fb71b6529970bbbfe50e15d5fd4ef5ac9862a2d162f78e70f913cf9", func := "byre/byrelaw21.CorePictures", spec := "corePictures", unfollowed := true, recurses := true, named := ["byre/api.Sizes", "math/bits.deBruijn64tab"], plainKeys := false, apart := false, laid := [("byre/api.Sizes", laid_byre_api_Sizes), ("math/bits.deBruijn64tab", laid_math_bits_deBruijn64tab)] }
def CorePicturesSaid : Prop := corePicturesRow.holds Tryz.pinned (OpenSpec.ofChange corePicturesSpec)

/-- ITS FALSE NEIGHBOUR: 'it returns false'. Refute it at one input. -/
def corePicturesWrong : ChangeSpec := { name := "corePictures", fn := fun _ => fun
  | [d1, d2] => { results := [.lit (.bool false)], args := [d1, d2] }
  | _ => none }
def CorePicturesWrongFalsely : Prop := corePicturesRow.holds Tryz.pinned (OpenSpec.ofChange corePicturesWrong)

/-- 'byrelaw21.CoreMaps': WHATEVER THE INPUT: true; the input reads as it did. -/
def coreMapsSpec : ChangeSpec := { name := "coreMaps", fn := fun _ => fun
  | [d1, d2] => { results := [.lit (.bool true)], args := [d1, d2] }
  | _ => none }
def coreMapsRow : OpenClaim := { program := "ytklmokolnakkoaagreatdoor", sum := "506792f65fb71b6529970bbbfe50e15d5fd4ef5ac9862a2d162f78e70f913cf9", func := "byre/byrelaw21.CoreMaps", spec := "coreMaps", unfollowed := true, recurses := true, named := ["byre/api.Sizes", "math/bits.deBruijn64tab"], plainKeys := false, apart := false, laid := [("byre/api.Sizes", laid_byre_api_Sizes), ("math/bits.deBruijn64tab", laid_math_bits_deBruijn64tab)] }
def CoreMapsSaid : Prop := coreMapsRow.holds Tryz.pinned (OpenSpec.ofChange coreMapsSpec)

/-- ITS FALSE NEIGHBOUR: 'it returns false'. Refute it at one input. -/
def coreMapsWrong : ChangeSpec := { name := "coreMaps", fn := fun _ => fun
  | [d1, d2] => { results := [.lit (.bool false)], args := [d1, d2] }
  | _ => none }
def CoreMapsWrongFalsely : Prop := coreMapsRow.holds Tryz.pinned (OpenSpec.ofChange coreMapsWrong)

/- THE SECOND FORM. 'bulk': how many values and letters a reading holds, each counted each time it is reached (what is shared counts as often as it is met; a slice's spare places count too). A statement '..UptoSaid' is the law's where the arguments, and the package variables that the reading takes, are together of bulk at most 1048576: NARROWER than '..Said'. Prove '..Said' where nothing that the law and all that it calls make is longer than what came in: it says more and counts as full. Else prove '..UptoSaid'. A law counts once. -/
mutual
def uptoBulk {H : Type} : DataW H → Nat
  | .lit (.string bytes) => bytes.length + 1
  | .lit _ => 1
  | .nil => 1
  | .ptr d => uptoBulk d + 1
  | .slice elems spare => uptoBulkAll elems + uptoBulkAll spare + 1
  | .agg parts => uptoBulkAll parts + 1
  | .iface _ d => uptoBulk d + 1
  | .map entries => uptoBulkEntries entries + 1
  | .held _ => 1
def uptoBulkAll {H : Type} : List (DataW H) → Nat
  | [] => 0
  | d :: r => uptoBulk d + uptoBulkAll r
def uptoBulkEntries {H : Type} : List (Lit × DataW H) → Nat
  | [] => 0
  | x :: r => uptoBulkEntry x + uptoBulkEntries r
def uptoBulkEntry {H : Type} : Lit × DataW H → Nat
  | (.string bytes, d) => bytes.length + uptoBulk d + 1
  | (_, d) => uptoBulk d + 1
 end
def uptoSmall : (H : Type) → List (DataW H) → Bool := fun _ ds => decide (uptoBulkAll ds ≤ 1048576)
def OpenSpec.upto (s : _root_.Go.ChangeSpec) : _root_.Go.OpenSpec := { _root_.Go.OpenSpec.ofChange s with cond := some uptoSmall }

/-- 'byrelaw21.CoreClass', WHERE WHAT IT READS IS OF BULK AT MOST 1048576: true; the input reads as it did. -/
def coreClassUptoRow : OpenClaim := { program := "ytklmokolnakkoaagreatdoor", sum := "506792f65fb71b6529970bbbfe50e15d5fd4ef5ac9862a2d162f78e70f913cf9", func := "byre/byrelaw21.CoreClass", spec := "coreClass", unfollowed := true, recurses := true, named := ["byre/api.Sizes", "math/bits.deBruijn64tab"], plainKeys := false, apart := false, laid := [("byre/api.Sizes", laid_byre_api_Sizes), ("math/bits.deBruijn64tab", laid_math_bits_deBruijn64tab)], narrowed := true }
def CoreClassUptoSaid : Prop := coreClassUptoRow.holds Tryz.pinned (OpenSpec.upto coreClassSpec)

/-- 'byrelaw21.CoreNew', WHERE WHAT IT READS IS OF BULK AT MOST 1048576: true; the input reads as it did. -/
def coreNewUptoRow : OpenClaim := { program := "ytklmokolnakkoaagreatdoor", sum := "506792f65fb71b6529970bbbfe50e15d5fd4ef5ac9862a2d162f78e70f913cf9", func := "byre/byrelaw21.CoreNew", spec := "coreNew", unfollowed := true, recurses := true, named := ["byre/api.Sizes", "math/bits.deBruijn64tab"], plainKeys := false, apart := false, laid := [("byre/api.Sizes", laid_byre_api_Sizes), ("math/bits.deBruijn64tab", laid_math_bits_deBruijn64tab)], narrowed := true }
def CoreNewUptoSaid : Prop := coreNewUptoRow.holds Tryz.pinned (OpenSpec.upto coreNewSpec)

/-- 'byrelaw21.CoreHolds', WHERE WHAT IT READS IS OF BULK AT MOST 1048576: true; the input reads as it did. -/
def coreHoldsUptoRow : OpenClaim := { program := "ytklmokolnakkoaagreatdoor", sum := "506792f65fb71b6529970bbbfe50e15d5fd4ef5ac9862a2d162f78e70f913cf9", func := "byre/byrelaw21.CoreHolds", spec := "coreHolds", unfollowed := true, recurses := true, named := ["byre/api.Sizes", "math/bits.deBruijn64tab"], plainKeys := false, apart := false, laid := [("byre/api.Sizes", laid_byre_api_Sizes), ("math/bits.deBruijn64tab", laid_math_bits_deBruijn64tab)], narrowed := true }
def CoreHoldsUptoSaid : Prop := coreHoldsUptoRow.holds Tryz.pinned (OpenSpec.upto coreHoldsSpec)

/-- 'byrelaw21.CorePictures', WHERE WHAT IT READS IS OF BULK AT MOST 1048576: true; the input reads as it did. -/
def corePicturesUptoRow : OpenClaim := { program := "ytklmokolnakkoaagreatdoor", sum := "506792f65fb71b6529970bbbfe50e15d5fd4ef5ac9862a2d162f78e70f913cf9", func := "byre/byrelaw21.CorePictures", spec := "corePictures", unfollowed := true, recurses := true, named := ["byre/api.Sizes", "math/bits.deBruijn64tab"], plainKeys := false, apart := false, laid := [("byre/api.Sizes", laid_byre_api_Sizes), ("math/bits.deBruijn64tab", laid_math_bits_deBruijn64tab)], narrowed := true }
def CorePicturesUptoSaid : Prop := corePicturesUptoRow.holds Tryz.pinned (OpenSpec.upto corePicturesSpec)

/-- 'byrelaw21.CoreMaps', WHERE WHAT IT READS IS OF BULK AT MOST 1048576: true; the input reads as it did. -/
def coreMapsUptoRow : OpenClaim := { program := "ytklmokolnakkoaagreatdoor", sum := "506792f65fb71b6529970bbbfe50e15d5fd4ef5ac9862a2d162f78e70f913cf9", func := "byre/byrelaw21.CoreMaps", spec := "coreMaps", unfollowed := true, recurses := true, named := ["byre/api.Sizes", "math/bits.deBruijn64tab"], plainKeys := false, apart := false, laid := [("byre/api.Sizes", laid_byre_api_Sizes), ("math/bits.deBruijn64tab", laid_math_bits_deBruijn64tab)], narrowed := true }
def CoreMapsUptoSaid : Prop := coreMapsUptoRow.holds Tryz.pinned (OpenSpec.upto coreMapsSpec)

end Rows
end Go.Proofs.YtklmokolnakkoaaGreatDoor
