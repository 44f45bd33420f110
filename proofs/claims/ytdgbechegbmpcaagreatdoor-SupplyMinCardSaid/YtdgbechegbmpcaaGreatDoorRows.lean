/-
  NARROWER THAN 'FOR EVERY INPUT', by the rows' own cells (each row's printed sentence says how): SupplyMin: laid · SupplyAlone: laid · SupplySwapd: laid · SupplyBack: laid · SupplyPass: laid.
  DERIVED. THE GIVEN ROWS OF THIS SEAT. 5 by the template 'for every input the law returns true; each argument reads behind the call as it read before'; 0 by the template 'total and deterministic' (their statements: YtdgbechegbmpcaaGreatDoorTotals.lean).
  GIVEN WITH THE SEED: the statements are not yours to turn. If you find one false, say at which input.
  Laid BY PROGRAM, IN A SANDBOX (cutbox-rows.mjs): the forced cells as the released guide's own fill.sh prints them over the translation 8da1678286ca9e9d… (all of the seat's roots in one cut). By AI agents, Wed Nov 11 2026. No macro, syntax, notation, axiom, sorry.
-/
import Derived.Test.YtdgbechegbmpcaaGreatDoorChecked
import GoSem.Claim
import GoSem.ClaimJoined
import GoSem.ClaimMapViews
import Derived.JoinedTies
import Derived.KernelRfl
namespace Go.Proofs.YtdgbechegbmpcaaGreatDoor
/- THE CELL 'sum', in the pinned program and in every row, IS THE sha256 OF THE DUMP (.gsa) THAT YtdgbechegbmpcaaGreatDoorProg.lean LOADS. Nothing in Lean hashes anything: it is a label: what it is worth is what the hold of that sum in a sandbox is worth. -/
noncomputable def Tryz.pinned : Pinned := { name := "ytdgbechegbmpcaagreatdoor", sum := "8da1678286ca9e9de6bcb12d70ce11f024ee00692381fc61cd1b80334eb54c0f", checked := Tryz.checked }
namespace Rows
def none {H : Type} : Left H := { results := [], args := [] }

/- WHAT THE LISTED PACKAGE-LEVEL VARIABLES READ AS WHEN THE CALL BEGINS. Each datum BY PROGRAM (the guide's laid-datum.mjs) off the statement by which the dump's own 'gosem.cut.vars' lays the variable. In a bare row this is a premise. The card (YtdgbechegbmpcaaGreatDoorCards.lean) ties it to the program's text. -/
def laid_byre_api_Sizes {H : Type} : DataW H := .agg [.lit (.int .i64 8), .lit (.int .i64 16), .lit (.int .i64 24), .lit (.int .i64 40), .lit (.int .i64 56), .lit (.int .i64 72), .lit (.int .i64 104), .lit (.int .i64 128)]
def laid_math_bits_deBruijn64tab {H : Type} : DataW H := .agg [.lit (.int .u8 0), .lit (.int .u8 1), .lit (.int .u8 56), .lit (.int .u8 2), .lit (.int .u8 57), .lit (.int .u8 49), .lit (.int .u8 28), .lit (.int .u8 3), .lit (.int .u8 61), .lit (.int .u8 58), .lit (.int .u8 42), .lit (.int .u8 50), .lit (.int .u8 38), .lit (.int .u8 29), .lit (.int .u8 17), .lit (.int .u8 4), .lit (.int .u8 62), .lit (.int .u8 47), .lit (.int .u8 59), .lit (.int .u8 36), .lit (.int .u8 45), .lit (.int .u8 43), .lit (.int .u8 51), .lit (.int .u8 22), .lit (.int .u8 53), .lit (.int .u8 39), .lit (.int .u8 33), .lit (.int .u8 30), .lit (.int .u8 24), .lit (.int .u8 18), .lit (.int .u8 12), .lit (.int .u8 5), .lit (.int .u8 63), .lit (.int .u8 55), .lit (.int .u8 48), .lit (.int .u8 27), .lit (.int .u8 60), .lit (.int .u8 41), .lit (.int .u8 37), .lit (.int .u8 16), .lit (.int .u8 46), .lit (.int .u8 35), .lit (.int .u8 44), .lit (.int .u8 21), .lit (.int .u8 52), .lit (.int .u8 32), .lit (.int .u8 23), .lit (.int .u8 11), .lit (.int .u8 54), .lit (.int .u8 26), .lit (.int .u8 40), .lit (.int .u8 15), .lit (.int .u8 34), .lit (.int .u8 20), .lit (.int .u8 31), .lit (.int .u8 10), .lit (.int .u8 25), .lit (.int .u8 14), .lit (.int .u8 19), .lit (.int .u8 9), .lit (.int .u8 13), .lit (.int .u8 8), .lit (.int .u8 7), .lit (.int .u8 6)]

/-- 'byrelaw23.SupplyMin': WHATEVER THE INPUT: true; the input reads as it did. -/
def supplyMinSpec : ChangeSpec := { name := "supplyMin", fn := fun _ => fun
  | [d1, d2, d3] => { results := [.lit (.bool true)], args := [d1, d2, d3] }
  | _ => none }
def supplyMinRow : OpenClaim := { program := "ytdgbechegbmpcaagreatdoor", sum := "8da1678286ca9e9de6bcb12d70ce11f024ee00692381fc61cd1b80334eb54c0f", func := "byre/byrelaw23.SupplyMin", spec := "supplyMin", unfollowed := true, recurses := true, named := ["byre/api.Sizes", "math/bits.deBruijn64tab"], plainKeys := false, apart := false, laid := [("byre/api.Sizes", laid_byre_api_Sizes), ("math/bits.deBruijn64tab", laid_math_bits_deBruijn64tab)] }
def SupplyMinSaid : Prop := supplyMinRow.holds Tryz.pinned (OpenSpec.ofChange supplyMinSpec)

/-- ITS FALSE NEIGHBOUR: 'it returns false'. Refute it at one input. -/
def supplyMinWrong : ChangeSpec := { name := "supplyMin", fn := fun _ => fun
  | [d1, d2, d3] => { results := [.lit (.bool false)], args := [d1, d2, d3] }
  | _ => none }
def SupplyMinWrongFalsely : Prop := supplyMinRow.holds Tryz.pinned (OpenSpec.ofChange supplyMinWrong)

/-- 'byrelaw23.SupplyAlone': WHATEVER THE INPUT: true; the input reads as it did. -/
def supplyAloneSpec : ChangeSpec := { name := "supplyAlone", fn := fun _ => fun
  | [d1, d2, d3] => { results := [.lit (.bool true)], args := [d1, d2, d3] }
  | _ => none }
def supplyAloneRow : OpenClaim := { program := "ytdgbechegbmpcaagreatdoor", sum := "8da1678286ca9e9de6bcb12d70ce11f024ee00692381fc61cd1b80334eb54c0f", func := "byre/byrelaw23.SupplyAlone", spec := "supplyAlone", unfollowed := true, recurses := true, named := ["byre/api.Sizes", "math/bits.deBruijn64tab"], plainKeys := false, apart := false, laid := [("byre/api.Sizes", laid_byre_api_Sizes), ("math/bits.deBruijn64tab", laid_math_bits_deBruijn64tab)] }
def SupplyAloneSaid : Prop := supplyAloneRow.holds Tryz.pinned (OpenSpec.ofChange supplyAloneSpec)

/-- ITS FALSE NEIGHBOUR: 'it returns false'. Refute it at one input. -/
def supplyAloneWrong : ChangeSpec := { name := "supplyAlone", fn := fun _ => fun
  | [d1, d2, d3] => { results := [.lit (.bool false)], args := [d1, d2, d3] }
  | _ => none }
def SupplyAloneWrongFalsely : Prop := supplyAloneRow.holds Tryz.pinned (OpenSpec.ofChange supplyAloneWrong)

/-- 'byrelaw23.SupplySwapd': WHATEVER THE INPUT: true; the input reads as it did. -/
def supplySwapdSpec : ChangeSpec := { name := "supplySwapd", fn := fun _ => fun
  | [d1, d2] => { results := [.lit (.bool true)], args := [d1, d2] }
  | _ => none }
def supplySwapdRow : OpenClaim := { program := "ytdgbechegbmpcaagreatdoor", sum := "8da1678286ca9e9de6bcb12d70ce11f024ee00692381fc61cd1b80334eb54c0f", func := "byre/byrelaw23.SupplySwapd", spec := "supplySwapd", unfollowed := true, recurses := true, named := ["byre/api.Sizes", "math/bits.deBruijn64tab"], plainKeys := false, apart := false, laid := [("byre/api.Sizes", laid_byre_api_Sizes), ("math/bits.deBruijn64tab", laid_math_bits_deBruijn64tab)] }
def SupplySwapdSaid : Prop := supplySwapdRow.holds Tryz.pinned (OpenSpec.ofChange supplySwapdSpec)

/-- ITS FALSE NEIGHBOUR: 'it returns false'. Refute it at one input. -/
def supplySwapdWrong : ChangeSpec := { name := "supplySwapd", fn := fun _ => fun
  | [d1, d2] => { results := [.lit (.bool false)], args := [d1, d2] }
  | _ => none }
def SupplySwapdWrongFalsely : Prop := supplySwapdRow.holds Tryz.pinned (OpenSpec.ofChange supplySwapdWrong)

/-- 'byrelaw23.SupplyBack': WHATEVER THE INPUT: true; the input reads as it did. -/
def supplyBackSpec : ChangeSpec := { name := "supplyBack", fn := fun _ => fun
  | [d1, d2] => { results := [.lit (.bool true)], args := [d1, d2] }
  | _ => none }
def supplyBackRow : OpenClaim := { program := "ytdgbechegbmpcaagreatdoor", sum := "8da1678286ca9e9de6bcb12d70ce11f024ee00692381fc61cd1b80334eb54c0f", func := "byre/byrelaw23.SupplyBack", spec := "supplyBack", unfollowed := true, recurses := true, named := ["byre/api.Sizes", "math/bits.deBruijn64tab"], plainKeys := false, apart := false, laid := [("byre/api.Sizes", laid_byre_api_Sizes), ("math/bits.deBruijn64tab", laid_math_bits_deBruijn64tab)] }
def SupplyBackSaid : Prop := supplyBackRow.holds Tryz.pinned (OpenSpec.ofChange supplyBackSpec)

/-- ITS FALSE NEIGHBOUR: 'it returns false'. Refute it at one input. -/
def supplyBackWrong : ChangeSpec := { name := "supplyBack", fn := fun _ => fun
  | [d1, d2] => { results := [.lit (.bool false)], args := [d1, d2] }
  | _ => none }
def SupplyBackWrongFalsely : Prop := supplyBackRow.holds Tryz.pinned (OpenSpec.ofChange supplyBackWrong)

/-- 'byrelaw23.SupplyPass': WHATEVER THE INPUT: true; the input reads as it did. -/
def supplyPassSpec : ChangeSpec := { name := "supplyPass", fn := fun _ => fun
  | [d1, d2, d3] => { results := [.lit (.bool true)], args := [d1, d2, d3] }
  | _ => none }
def supplyPassRow : OpenClaim := { program := "ytdgbechegbmpcaagreatdoor", sum := "8da1678286ca9e9de6bcb12d70ce11f024ee00692381fc61cd1b80334eb54c0f", func := "byre/byrelaw23.SupplyPass", spec := "supplyPass", unfollowed := true, recurses := true, named := ["byre/api.Sizes", "math/bits.deBruijn64tab"], plainKeys := false, apart := false, laid := [("byre/api.Sizes", laid_byre_api_Sizes), ("math/bits.deBruijn64tab", laid_math_bits_deBruijn64tab)] }
def SupplyPassSaid : Prop := supplyPassRow.holds Tryz.pinned (OpenSpec.ofChange supplyPassSpec)

/-- ITS FALSE NEIGHBOUR: 'it returns false'. Refute it at one input. -/
def supplyPassWrong : ChangeSpec := { name := "supplyPass", fn := fun _ => fun
  | [d1, d2, d3] => { results := [.lit (.bool false)], args := [d1, d2, d3] }
  | _ => none }
def SupplyPassWrongFalsely : Prop := supplyPassRow.holds Tryz.pinned (OpenSpec.ofChange supplyPassWrong)

/- THE SECOND FORM. 'bulk': how many values and letters a reading holds, each counted each time it is reached (what is shared counts as often as it is met; a slice's spare places count too). A statement '..UptoSaid' is the law's where the arguments, and the package variables that the reading takes, are together of bulk at most 1048576: NARROWER than '..Said'. Prove '..Said' where nothing that the law and all that it calls make is longer than what came in: it says more and counts as full. Else prove '..UptoSaid'. A law counts once. -/
mutual
def uptoBulk {H : Type} : DataW H → Nat
  | .lit (.string bytes) => bytes.length + 1
  | .lit _ => 1
  | .nil => 1
  | .ptr d => uptoBulk d + 1
  | .slice elems spare => uptoBulkAll elems + uptoBulkAll spare + 1
  | .agg parts => uptoBulkAll parts + 1
  | .iface _ d => uptoBulk d + 1
  | .map entries => uptoBulkEntries entries + 1
  | .held _ => 1
def uptoBulkAll {H : Type} : List (DataW H) → Nat
  | [] => 0
  | d :: r => uptoBulk d + uptoBulkAll r
def uptoBulkEntries {H : Type} : List (Lit × DataW H) → Nat
  | [] => 0
  | x :: r => uptoBulkEntry x + uptoBulkEntries r
def uptoBulkEntry {H : Type} : Lit × DataW H → Nat
  | (.string bytes, d) => bytes.length + uptoBulk d + 1
  | (_, d) => uptoBulk d + 1
 end
def uptoSmall : (H : Type) → List (DataW H) → Bool := fun _ ds => decide (uptoBulkAll ds ≤ 1048576)
def OpenSpec.upto (s : _root_.Go.ChangeSpec) : _root_.Go.OpenSpec := { _root_.Go.OpenSpec.ofChange s with cond := some uptoSmall }

/-- 'byrelaw23.SupplyMin', WHERE WHAT IT READS IS OF BULK AT MOST 1048576: true; the input reads as it did. -/
def supplyMinUptoRow : OpenClaim := { program := "ytdgbechegbmpcaagreatdoor", sum := "8da1678286ca9e9de6bcb12d70ce11f024ee00692381fc61cd1b80334eb54c0f", func := "byre/byrelaw23.SupplyMin", spec := "supplyMin", unfollowed := true, recurses := true, named := ["byre/api.Sizes", "math/bits.deBruijn64tab"], plainKeys := false, apart := false, laid := [("byre/api.Sizes", laid_byre_api_Sizes), ("math/bits.deBruijn64tab", laid_math_bits_deBruijn64tab)], narrowed := true }
def SupplyMinUptoSaid : Prop := supplyMinUptoRow.holds Tryz.pinned (OpenSpec.upto supplyMinSpec)

/-- 'byrelaw23.SupplyAlone', WHERE WHAT IT READS IS OF BULK AT MOST 1048576: true; the input reads as it did. -/
def supplyAloneUptoRow : OpenClaim := { program := "ytdgbechegbmpcaagreatdoor", sum := "8da1678286ca9e9de6bcb12d70ce11f024ee00692381fc61cd1b80334eb54c0f", func := "byre/byrelaw23.SupplyAlone", spec := "supplyAlone", unfollowed := true, recurses := true, named := ["byre/api.Sizes", "math/bits.deBruijn64tab"], plainKeys := false, apart := false, laid := [("byre/api.Sizes", laid_byre_api_Sizes), ("math/bits.deBruijn64tab", laid_math_bits_deBruijn64tab)], narrowed := true }
def SupplyAloneUptoSaid : Prop := supplyAloneUptoRow.holds Tryz.pinned (OpenSpec.upto supplyAloneSpec)

/-- 'byrelaw23.SupplySwapd', WHERE WHAT IT READS IS OF BULK AT MOST 1048576: true; the input reads as it did. -/
def supplySwapdUptoRow : OpenClaim := { program := "ytdgbechegbmpcaagreatdoor", sum := "8da1678286ca9e9de6bcb12d70ce11f024ee00692381fc61cd1b80334eb54c0f", func := "byre/byrelaw23.SupplySwapd", spec := "supplySwapd", unfollowed := true, recurses := true, named := ["byre/api.Sizes", "math/bits.deBruijn64tab"], plainKeys := false, apart := false, laid := [("byre/api.Sizes", laid_byre_api_Sizes), ("math/bits.deBruijn64tab", laid_math_bits_deBruijn64tab)], narrowed := true }
def SupplySwapdUptoSaid : Prop := supplySwapdUptoRow.holds Tryz.pinned (OpenSpec.upto supplySwapdSpec)

/-- 'byrelaw23.SupplyBack', WHERE WHAT IT READS IS OF BULK AT MOST 1048576: true; the input reads as it did. -/
def supplyBackUptoRow : OpenClaim := { program := "ytdgbechegbmpcaagreatdoor", sum := "8da1678286ca9e9de6bcb12d70ce11f024ee00692381fc61cd1b80334eb54c0f", func := "byre/byrelaw23.SupplyBack", spec := "supplyBack", unfollowed := true, recurses := true, named := ["byre/api.Sizes", "math/bits.deBruijn64tab"], plainKeys := false, apart := false, laid := [("byre/api.Sizes", laid_byre_api_Sizes), ("math/bits.deBruijn64tab", laid_math_bits_deBruijn64tab)], narrowed := true }
def SupplyBackUptoSaid : Prop := supplyBackUptoRow.holds Tryz.pinned (OpenSpec.upto supplyBackSpec)

/-- 'byrelaw23.SupplyPass', WHERE WHAT IT READS IS OF BULK AT MOST 1048576: true; the input reads as it did. -/
def supplyPassUptoRow : OpenClaim := { program := "ytdgbechegbmpcaagreatdoor", sum := "8da1678286ca9e9de6bcb12d70ce11f024ee00692381fc61cd1b80334eb54c0f", func := "byre/byrelaw23.SupplyPass", spec := "supplyPass", unfollowed := true, recurses := true, named := ["byre/api.Sizes", "math/bits.deBruijn64tab"], plainKeys := false, apart := false, laid := [("byre/api.Sizes", laid_byre_api_Sizes), ("math/bits.deBruijn64tab", laid_math_bits_deBruijn64tab)], narrowed := true }
def SupplyPassUptoSaid : Prop := supplyPassUptoRow.holds Tryz.pinned (OpenSpec.upto supplyPassSpec)

end Rows
end Go.Proofs.YtdgbechegbmpcaaGreatDoor
