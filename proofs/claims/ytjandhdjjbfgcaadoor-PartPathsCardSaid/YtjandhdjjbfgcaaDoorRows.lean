/-
  NARROWER THAN 'FOR EVERY INPUT', by the rows' own cells (each row's printed sentence says how): PartPaths: laid · PartShapes: laid · PartFromShapes: laid · PartSeinsche: laid · PartLovasz: laid · PartStrong: laid · PartGallai: laid · PartModules: laid · PartChecks: laid.
  DERIVED. THE GIVEN ROWS OF THIS SEAT. 9 by the template 'for every input the law returns true; each argument reads behind the call as it read before'; 0 by the template 'total and deterministic' (their statements: YtjandhdjjbfgcaaDoorTotals.lean).
  GIVEN WITH THE SEED: the statements are not yours to turn. If you find one false, say at which input.
  Laid BY PROGRAM, IN A SANDBOX (cutbox-rows.mjs): the forced cells as the released guide's own fill.sh prints them over the translation 8259f1b1a450253d… (all of the seat's roots in one cut). By AI agents, Wed Nov 11 2026. No macro, syntax, notation, axiom, sorry.
-/
import Derived.Test.YtjandhdjjbfgcaaDoorChecked
import GoSem.Claim
import GoSem.ClaimJoined
import GoSem.ClaimMapViews
import Derived.JoinedTies
import Derived.KernelRfl
namespace Go.Proofs.YtjandhdjjbfgcaaDoor
/- THE CELL 'sum', in the pinned program and in every row, IS THE sha256 OF THE DUMP (.gsa) THAT YtjandhdjjbfgcaaDoorProg.lean LOADS. Nothing in Lean hashes anything: it is a label: what it is worth is what the hold of that sum in a sandbox is worth. -/
noncomputable def Tryd.pinned : Pinned := { name := "ytjandhdjjbfgcaadoor", sum := "8259f1b1a450253d31b2e24c4145b6bb038c09f7f5fc459c726ba91ef9eabb20", checked := Tryd.checked }
namespace Rows
def none {H : Type} : Left H := { results := [], args := [] }

/- WHAT THE LISTED PACKAGE-LEVEL VARIABLES READ AS WHEN THE CALL BEGINS. Each datum BY PROGRAM (the guide's laid-datum.mjs) off the statement by which the dump's own 'gosem.cut.vars' lays the variable. In a bare row this is a premise. The card (YtjandhdjjbfgcaaDoorCards.lean) ties it to the program's text. -/
def laid_math_bits_deBruijn32tab {H : Type} : DataW H := .agg [.lit (.int .u8 0), .lit (.int .u8 1), .lit (.int .u8 28), .lit (.int .u8 2), .lit (.int .u8 29), .lit (.int .u8 14), .lit (.int .u8 24), .lit (.int .u8 3), .lit (.int .u8 30), .lit (.int .u8 22), .lit (.int .u8 20), .lit (.int .u8 15), .lit (.int .u8 25), .lit (.int .u8 17), .lit (.int .u8 4), .lit (.int .u8 8), .lit (.int .u8 31), .lit (.int .u8 27), .lit (.int .u8 13), .lit (.int .u8 23), .lit (.int .u8 21), .lit (.int .u8 19), .lit (.int .u8 16), .lit (.int .u8 7), .lit (.int .u8 26), .lit (.int .u8 12), .lit (.int .u8 18), .lit (.int .u8 6), .lit (.int .u8 11), .lit (.int .u8 5), .lit (.int .u8 10), .lit (.int .u8 9)]
def laid_math_bits_deBruijn64tab {H : Type} : DataW H := .agg [.lit (.int .u8 0), .lit (.int .u8 1), .lit (.int .u8 56), .lit (.int .u8 2), .lit (.int .u8 57), .lit (.int .u8 49), .lit (.int .u8 28), .lit (.int .u8 3), .lit (.int .u8 61), .lit (.int .u8 58), .lit (.int .u8 42), .lit (.int .u8 50), .lit (.int .u8 38), .lit (.int .u8 29), .lit (.int .u8 17), .lit (.int .u8 4), .lit (.int .u8 62), .lit (.int .u8 47), .lit (.int .u8 59), .lit (.int .u8 36), .lit (.int .u8 45), .lit (.int .u8 43), .lit (.int .u8 51), .lit (.int .u8 22), .lit (.int .u8 53), .lit (.int .u8 39), .lit (.int .u8 33), .lit (.int .u8 30), .lit (.int .u8 24), .lit (.int .u8 18), .lit (.int .u8 12), .lit (.int .u8 5), .lit (.int .u8 63), .lit (.int .u8 55), .lit (.int .u8 48), .lit (.int .u8 27), .lit (.int .u8 60), .lit (.int .u8 41), .lit (.int .u8 37), .lit (.int .u8 16), .lit (.int .u8 46), .lit (.int .u8 35), .lit (.int .u8 44), .lit (.int .u8 21), .lit (.int .u8 52), .lit (.int .u8 32), .lit (.int .u8 23), .lit (.int .u8 11), .lit (.int .u8 54), .lit (.int .u8 26), .lit (.int .u8 40), .lit (.int .u8 15), .lit (.int .u8 34), .lit (.int .u8 20), .lit (.int .u8 31), .lit (.int .u8 10), .lit (.int .u8 25), .lit (.int .u8 14), .lit (.int .u8 19), .lit (.int .u8 9), .lit (.int .u8 13), .lit (.int .u8 8), .lit (.int .u8 7), .lit (.int .u8 6)]

/-- 'forcolalaw04.PartPaths': WHATEVER THE INPUT: true; the input reads as it did. -/
def partPathsSpec : ChangeSpec := { name := "partPaths", fn := fun _ => fun
  | [d1, d2] => { results := [.lit (.bool true)], args := [d1, d2] }
  | _ => none }
def partPathsRow : OpenClaim := { program := "ytjandhdjjbfgcaadoor", sum := "8259f1b1a450253d31b2e24c4145b6bb038c09f7f5fc459c726ba91ef9eabb20", func := "forcola/forcolalaw04.PartPaths", spec := "partPaths", inPlace := ["internal/abi.NoEscape", "internal/bytealg.MakeNoZero"], unfollowed := true, recurses := true, named := ["math/bits.deBruijn32tab", "math/bits.deBruijn64tab"], apart := false, laid := [("math/bits.deBruijn32tab", laid_math_bits_deBruijn32tab), ("math/bits.deBruijn64tab", laid_math_bits_deBruijn64tab)] }
def PartPathsSaid : Prop := partPathsRow.holds Tryd.pinned (OpenSpec.ofChange partPathsSpec)

/-- ITS FALSE NEIGHBOUR: 'it returns false'. Refute it at one input. -/
def partPathsWrong : ChangeSpec := { name := "partPaths", fn := fun _ => fun
  | [d1, d2] => { results := [.lit (.bool false)], args := [d1, d2] }
  | _ => none }
def PartPathsWrongFalsely : Prop := partPathsRow.holds Tryd.pinned (OpenSpec.ofChange partPathsWrong)

/-- 'forcolalaw04.PartShapes': WHATEVER THE INPUT: true; the input reads as it did. -/
def partShapesSpec : ChangeSpec := { name := "partShapes", fn := fun _ => fun
  | [d1, d2] => { results := [.lit (.bool true)], args := [d1, d2] }
  | _ => none }
def partShapesRow : OpenClaim := { program := "ytjandhdjjbfgcaadoor", sum := "8259f1b1a450253d31b2e24c4145b6bb038c09f7f5fc459c726ba91ef9eabb20", func := "forcola/forcolalaw04.PartShapes", spec := "partShapes", inPlace := ["internal/abi.NoEscape", "internal/bytealg.MakeNoZero"], unfollowed := true, recurses := true, named := ["math/bits.deBruijn32tab", "math/bits.deBruijn64tab"], apart := false, laid := [("math/bits.deBruijn32tab", laid_math_bits_deBruijn32tab), ("math/bits.deBruijn64tab", laid_math_bits_deBruijn64tab)] }
def PartShapesSaid : Prop := partShapesRow.holds Tryd.pinned (OpenSpec.ofChange partShapesSpec)

/-- ITS FALSE NEIGHBOUR: 'it returns false'. Refute it at one input. -/
def partShapesWrong : ChangeSpec := { name := "partShapes", fn := fun _ => fun
  | [d1, d2] => { results := [.lit (.bool false)], args := [d1, d2] }
  | _ => none }
def PartShapesWrongFalsely : Prop := partShapesRow.holds Tryd.pinned (OpenSpec.ofChange partShapesWrong)

/-- 'forcolalaw04.PartFromShapes': WHATEVER THE INPUT: true; the input reads as it did. -/
def partFromShapesSpec : ChangeSpec := { name := "partFromShapes", fn := fun _ => fun
  | [d] => { results := [.lit (.bool true)], args := [d] }
  | _ => none }
def partFromShapesRow : OpenClaim := { program := "ytjandhdjjbfgcaadoor", sum := "8259f1b1a450253d31b2e24c4145b6bb038c09f7f5fc459c726ba91ef9eabb20", func := "forcola/forcolalaw04.PartFromShapes", spec := "partFromShapes", inPlace := ["internal/abi.NoEscape", "internal/bytealg.MakeNoZero"], unfollowed := true, recurses := true, named := ["math/bits.deBruijn32tab", "math/bits.deBruijn64tab"], apart := false, laid := [("math/bits.deBruijn32tab", laid_math_bits_deBruijn32tab), ("math/bits.deBruijn64tab", laid_math_bits_deBruijn64tab)] }
def PartFromShapesSaid : Prop := partFromShapesRow.holds Tryd.pinned (OpenSpec.ofChange partFromShapesSpec)

/-- ITS FALSE NEIGHBOUR: 'it returns false'. Refute it at one input. -/
def partFromShapesWrong : ChangeSpec := { name := "partFromShapes", fn := fun _ => fun
  | [d] => { results := [.lit (.bool false)], args := [d] }
  | _ => none }
def PartFromShapesWrongFalsely : Prop := partFromShapesRow.holds Tryd.pinned (OpenSpec.ofChange partFromShapesWrong)

/-- 'forcolalaw04.PartSeinsche': WHATEVER THE INPUT: true; the input reads as it did. -/
def partSeinscheSpec : ChangeSpec := { name := "partSeinsche", fn := fun _ => fun
  | [d1, d2, d3] => { results := [.lit (.bool true)], args := [d1, d2, d3] }
  | _ => none }
def partSeinscheRow : OpenClaim := { program := "ytjandhdjjbfgcaadoor", sum := "8259f1b1a450253d31b2e24c4145b6bb038c09f7f5fc459c726ba91ef9eabb20", func := "forcola/forcolalaw04.PartSeinsche", spec := "partSeinsche", inPlace := ["internal/abi.NoEscape", "internal/bytealg.MakeNoZero"], unfollowed := true, recurses := true, named := ["math/bits.deBruijn32tab", "math/bits.deBruijn64tab"], apart := false, laid := [("math/bits.deBruijn32tab", laid_math_bits_deBruijn32tab), ("math/bits.deBruijn64tab", laid_math_bits_deBruijn64tab)] }
def PartSeinscheSaid : Prop := partSeinscheRow.holds Tryd.pinned (OpenSpec.ofChange partSeinscheSpec)

/-- ITS FALSE NEIGHBOUR: 'it returns false'. Refute it at one input. -/
def partSeinscheWrong : ChangeSpec := { name := "partSeinsche", fn := fun _ => fun
  | [d1, d2, d3] => { results := [.lit (.bool false)], args := [d1, d2, d3] }
  | _ => none }
def PartSeinscheWrongFalsely : Prop := partSeinscheRow.holds Tryd.pinned (OpenSpec.ofChange partSeinscheWrong)

/-- 'forcolalaw04.PartLovasz': WHATEVER THE INPUT: true; the input reads as it did. -/
def partLovaszSpec : ChangeSpec := { name := "partLovasz", fn := fun _ => fun
  | [d1, d2] => { results := [.lit (.bool true)], args := [d1, d2] }
  | _ => none }
def partLovaszRow : OpenClaim := { program := "ytjandhdjjbfgcaadoor", sum := "8259f1b1a450253d31b2e24c4145b6bb038c09f7f5fc459c726ba91ef9eabb20", func := "forcola/forcolalaw04.PartLovasz", spec := "partLovasz", inPlace := ["internal/abi.NoEscape", "internal/bytealg.MakeNoZero"], unfollowed := true, recurses := true, named := ["math/bits.deBruijn32tab", "math/bits.deBruijn64tab"], apart := false, laid := [("math/bits.deBruijn32tab", laid_math_bits_deBruijn32tab), ("math/bits.deBruijn64tab", laid_math_bits_deBruijn64tab)] }
def PartLovaszSaid : Prop := partLovaszRow.holds Tryd.pinned (OpenSpec.ofChange partLovaszSpec)

/-- ITS FALSE NEIGHBOUR: 'it returns false'. Refute it at one input. -/
def partLovaszWrong : ChangeSpec := { name := "partLovasz", fn := fun _ => fun
  | [d1, d2] => { results := [.lit (.bool false)], args := [d1, d2] }
  | _ => none }
def PartLovaszWrongFalsely : Prop := partLovaszRow.holds Tryd.pinned (OpenSpec.ofChange partLovaszWrong)

/-- 'forcolalaw04.PartStrong': WHATEVER THE INPUT: true; the input reads as it did. -/
def partStrongSpec : ChangeSpec := { name := "partStrong", fn := fun _ => fun
  | [d1, d2] => { results := [.lit (.bool true)], args := [d1, d2] }
  | _ => none }
def partStrongRow : OpenClaim := { program := "ytjandhdjjbfgcaadoor", sum := "8259f1b1a450253d31b2e24c4145b6bb038c09f7f5fc459c726ba91ef9eabb20", func := "forcola/forcolalaw04.PartStrong", spec := "partStrong", inPlace := ["internal/abi.NoEscape", "internal/bytealg.MakeNoZero"], unfollowed := true, recurses := true, named := ["math/bits.deBruijn32tab", "math/bits.deBruijn64tab"], apart := false, laid := [("math/bits.deBruijn32tab", laid_math_bits_deBruijn32tab), ("math/bits.deBruijn64tab", laid_math_bits_deBruijn64tab)] }
def PartStrongSaid : Prop := partStrongRow.holds Tryd.pinned (OpenSpec.ofChange partStrongSpec)

/-- ITS FALSE NEIGHBOUR: 'it returns false'. Refute it at one input. -/
def partStrongWrong : ChangeSpec := { name := "partStrong", fn := fun _ => fun
  | [d1, d2] => { results := [.lit (.bool false)], args := [d1, d2] }
  | _ => none }
def PartStrongWrongFalsely : Prop := partStrongRow.holds Tryd.pinned (OpenSpec.ofChange partStrongWrong)

/-- 'forcolalaw04.PartGallai': WHATEVER THE INPUT: true; the input reads as it did. -/
def partGallaiSpec : ChangeSpec := { name := "partGallai", fn := fun _ => fun
  | [d1, d2] => { results := [.lit (.bool true)], args := [d1, d2] }
  | _ => none }
def partGallaiRow : OpenClaim := { program := "ytjandhdjjbfgcaadoor", sum := "8259f1b1a450253d31b2e24c4145b6bb038c09f7f5fc459c726ba91ef9eabb20", func := "forcola/forcolalaw04.PartGallai", spec := "partGallai", inPlace := ["internal/abi.NoEscape", "internal/bytealg.MakeNoZero"], unfollowed := true, recurses := true, named := ["math/bits.deBruijn32tab", "math/bits.deBruijn64tab"], apart := false, laid := [("math/bits.deBruijn32tab", laid_math_bits_deBruijn32tab), ("math/bits.deBruijn64tab", laid_math_bits_deBruijn64tab)] }
def PartGallaiSaid : Prop := partGallaiRow.holds Tryd.pinned (OpenSpec.ofChange partGallaiSpec)

/-- ITS FALSE NEIGHBOUR: 'it returns false'. Refute it at one input. -/
def partGallaiWrong : ChangeSpec := { name := "partGallai", fn := fun _ => fun
  | [d1, d2] => { results := [.lit (.bool false)], args := [d1, d2] }
  | _ => none }
def PartGallaiWrongFalsely : Prop := partGallaiRow.holds Tryd.pinned (OpenSpec.ofChange partGallaiWrong)

/-- 'forcolalaw04.PartModules': WHATEVER THE INPUT: true; the input reads as it did. -/
def partModulesSpec : ChangeSpec := { name := "partModules", fn := fun _ => fun
  | [d1, d2, d3] => { results := [.lit (.bool true)], args := [d1, d2, d3] }
  | _ => none }
def partModulesRow : OpenClaim := { program := "ytjandhdjjbfgcaadoor", sum := "8259f1b1a450253d31b2e24c4145b6bb038c09f7f5fc459c726ba91ef9eabb20", func := "forcola/forcolalaw04.PartModules", spec := "partModules", inPlace := ["internal/abi.NoEscape", "internal/bytealg.MakeNoZero"], unfollowed := true, recurses := true, named := ["math/bits.deBruijn32tab", "math/bits.deBruijn64tab"], apart := false, laid := [("math/bits.deBruijn32tab", laid_math_bits_deBruijn32tab), ("math/bits.deBruijn64tab", laid_math_bits_deBruijn64tab)] }
def PartModulesSaid : Prop := partModulesRow.holds Tryd.pinned (OpenSpec.ofChange partModulesSpec)

/-- ITS FALSE NEIGHBOUR: 'it returns false'. Refute it at one input. -/
def partModulesWrong : ChangeSpec := { name := "partModules", fn := fun _ => fun
  | [d1, d2, d3] => { results := [.lit (.bool false)], args := [d1, d2, d3] }
  | _ => none }
def PartModulesWrongFalsely : Prop := partModulesRow.holds Tryd.pinned (OpenSpec.ofChange partModulesWrong)

/-- 'forcolalaw04.PartChecks': WHATEVER THE INPUT: true; the input reads as it did. -/
def partChecksSpec : ChangeSpec := { name := "partChecks", fn := fun _ => fun
  | [d1, d2, d3] => { results := [.lit (.bool true)], args := [d1, d2, d3] }
  | _ => none }
def partChecksRow : OpenClaim := { program := "ytjandhdjjbfgcaadoor", sum := "8259f1b1a450253d31b2e24c4145b6bb038c09f7f5fc459c726ba91ef9eabb20", func := "forcola/forcolalaw04.PartChecks", spec := "partChecks", inPlace := ["internal/abi.NoEscape", "internal/bytealg.MakeNoZero"], unfollowed := true, recurses := true, named := ["math/bits.deBruijn32tab", "math/bits.deBruijn64tab"], apart := false, laid := [("math/bits.deBruijn32tab", laid_math_bits_deBruijn32tab), ("math/bits.deBruijn64tab", laid_math_bits_deBruijn64tab)] }
def PartChecksSaid : Prop := partChecksRow.holds Tryd.pinned (OpenSpec.ofChange partChecksSpec)

/-- ITS FALSE NEIGHBOUR: 'it returns false'. Refute it at one input. -/
def partChecksWrong : ChangeSpec := { name := "partChecks", fn := fun _ => fun
  | [d1, d2, d3] => { results := [.lit (.bool false)], args := [d1, d2, d3] }
  | _ => none }
def PartChecksWrongFalsely : Prop := partChecksRow.holds Tryd.pinned (OpenSpec.ofChange partChecksWrong)

/- THE SECOND FORM. 'bulk': how many values and letters a reading holds, each counted each time it is reached (what is shared counts as often as it is met; a slice's spare places count too). A statement '..UptoSaid' is the law's where the arguments, and the package variables that the reading takes, are together of bulk at most 1048576: NARROWER than '..Said'. Prove '..Said' where nothing that the law and all that it calls make is longer than what came in: it says more and counts as full. Else prove '..UptoSaid'. A law counts once. -/
mutual
def uptoBulk {H : Type} : DataW H → Nat
  | .lit (.string bytes) => bytes.length + 1
  | .lit _ => 1
  | .nil => 1
  | .ptr d => uptoBulk d + 1
  | .slice elems spare => uptoBulkAll elems + uptoBulkAll spare + 1
  | .agg parts => uptoBulkAll parts + 1
  | .iface _ d => uptoBulk d + 1
  | .map entries => uptoBulkEntries entries + 1
  | .held _ => 1
def uptoBulkAll {H : Type} : List (DataW H) → Nat
  | [] => 0
  | d :: r => uptoBulk d + uptoBulkAll r
def uptoBulkEntries {H : Type} : List (Lit × DataW H) → Nat
  | [] => 0
  | x :: r => uptoBulkEntry x + uptoBulkEntries r
def uptoBulkEntry {H : Type} : Lit × DataW H → Nat
  | (.string bytes, d) => bytes.length + uptoBulk d + 1
  | (_, d) => uptoBulk d + 1
 end
def uptoSmall : (H : Type) → List (DataW H) → Bool := fun _ ds => decide (uptoBulkAll ds ≤ 1048576)
def OpenSpec.upto (s : _root_.Go.ChangeSpec) : _root_.Go.OpenSpec := { _root_.Go.OpenSpec.ofChange s with cond := some uptoSmall }

/-- 'forcolalaw04.PartPaths', WHERE WHAT IT READS IS OF BULK AT MOST 1048576: true; the input reads as it did. -/
def partPathsUptoRow : OpenClaim := { program := "ytjandhdjjbfgcaadoor", sum := "8259f1b1a450253d31b2e24c4145b6bb038c09f7f5fc459c726ba91ef9eabb20", func := "forcola/forcolalaw04.PartPaths", spec := "partPaths", inPlace := ["internal/abi.NoEscape", "internal/bytealg.MakeNoZero"], unfollowed := true, recurses := true, named := ["math/bits.deBruijn32tab", "math/bits.deBruijn64tab"], apart := false, laid := [("math/bits.deBruijn32tab", laid_math_bits_deBruijn32tab), ("math/bits.deBruijn64tab", laid_math_bits_deBruijn64tab)], narrowed := true }
def PartPathsUptoSaid : Prop := partPathsUptoRow.holds Tryd.pinned (OpenSpec.upto partPathsSpec)

/-- 'forcolalaw04.PartShapes', WHERE WHAT IT READS IS OF BULK AT MOST 1048576: true; the input reads as it did. -/
def partShapesUptoRow : OpenClaim := { program := "ytjandhdjjbfgcaadoor", sum := "8259f1b1a450253d31b2e24c4145b6bb038c09f7f5fc459c726ba91ef9eabb20", func := "forcola/forcolalaw04.PartShapes", spec := "partShapes", inPlace := ["internal/abi.NoEscape", "internal/bytealg.MakeNoZero"], unfollowed := true, recurses := true, named := ["math/bits.deBruijn32tab", "math/bits.deBruijn64tab"], apart := false, laid := [("math/bits.deBruijn32tab", laid_math_bits_deBruijn32tab), ("math/bits.deBruijn64tab", laid_math_bits_deBruijn64tab)], narrowed := true }
def PartShapesUptoSaid : Prop := partShapesUptoRow.holds Tryd.pinned (OpenSpec.upto partShapesSpec)

/-- 'forcolalaw04.PartFromShapes', WHERE WHAT IT READS IS OF BULK AT MOST 1048576: true; the input reads as it did. -/
def partFromShapesUptoRow : OpenClaim := { program := "ytjandhdjjbfgcaadoor", sum := "8259f1b1a450253d31b2e24c4145b6bb038c09f7f5fc459c726ba91ef9eabb20", func := "forcola/forcolalaw04.PartFromShapes", spec := "partFromShapes", inPlace := ["internal/abi.NoEscape", "internal/bytealg.MakeNoZero"], unfollowed := true, recurses := true, named := ["math/bits.deBruijn32tab", "math/bits.deBruijn64tab"], apart := false, laid := [("math/bits.deBruijn32tab", laid_math_bits_deBruijn32tab), ("math/bits.deBruijn64tab", laid_math_bits_deBruijn64tab)], narrowed := true }
def PartFromShapesUptoSaid : Prop := partFromShapesUptoRow.holds Tryd.pinned (OpenSpec.upto partFromShapesSpec)

/-- 'forcolalaw04.PartSeinsche', WHERE WHAT IT READS IS OF BULK AT MOST 1048576: true; the input reads as it did. -/
def partSeinscheUptoRow : OpenClaim := { program := "ytjandhdjjbfgcaadoor", sum := "8259f1b1a450253d31b2e24c4145b6bb038c09f7f5fc459c726ba91ef9eabb20", func := "forcola/forcolalaw04.PartSeinsche", spec := "partSeinsche", inPlace := ["internal/abi.NoEscape", "internal/bytealg.MakeNoZero"], unfollowed := true, recurses := true, named := ["math/bits.deBruijn32tab", "math/bits.deBruijn64tab"], apart := false, laid := [("math/bits.deBruijn32tab", laid_math_bits_deBruijn32tab), ("math/bits.deBruijn64tab", laid_math_bits_deBruijn64tab)], narrowed := true }
def PartSeinscheUptoSaid : Prop := partSeinscheUptoRow.holds Tryd.pinned (OpenSpec.upto partSeinscheSpec)

/-- 'forcolalaw04.PartLovasz', WHERE WHAT IT READS IS OF BULK AT MOST 1048576: true; the input reads as it did. -/
def partLovaszUptoRow : OpenClaim := { program := "ytjandhdjjbfgcaadoor", sum := "8259f1b1a450253d31b2e24c4145b6bb038c09f7f5fc459c726ba91ef9eabb20", func := "forcola/forcolalaw04.PartLovasz", spec := "partLovasz", inPlace := ["internal/abi.NoEscape", "internal/bytealg.MakeNoZero"], unfollowed := true, recurses := true, named := ["math/bits.deBruijn32tab", "math/bits.deBruijn64tab"], apart := false, laid := [("math/bits.deBruijn32tab", laid_math_bits_deBruijn32tab), ("math/bits.deBruijn64tab", laid_math_bits_deBruijn64tab)], narrowed := true }
def PartLovaszUptoSaid : Prop := partLovaszUptoRow.holds Tryd.pinned (OpenSpec.upto partLovaszSpec)

/-- 'forcolalaw04.PartStrong', WHERE WHAT IT READS IS OF BULK AT MOST 1048576: true; the input reads as it did. -/
def partStrongUptoRow : OpenClaim := { program := "ytjandhdjjbfgcaadoor", sum := "8259f1b1a450253d31b2e24c4145b6bb038c09f7f5fc459c726ba91ef9eabb20", func := "forcola/forcolalaw04.PartStrong", spec := "partStrong", inPlace := ["internal/abi.NoEscape", "internal/bytealg.MakeNoZero"], unfollowed := true, recurses := true, named := ["math/bits.deBruijn32tab", "math/bits.deBruijn64tab"], apart := false, laid := [("math/bits.deBruijn32tab", laid_math_bits_deBruijn32tab), ("math/bits.deBruijn64tab", laid_math_bits_deBruijn64tab)], narrowed := true }
def PartStrongUptoSaid : Prop := partStrongUptoRow.holds Tryd.pinned (OpenSpec.upto partStrongSpec)

/-- 'forcolalaw04.PartGallai', WHERE WHAT IT READS IS OF BULK AT MOST 1048576: true; the input reads as it did. -/
def partGallaiUptoRow : OpenClaim := { program := "ytjandhdjjbfgcaadoor", sum := "8259f1b1a450253d31b2e24c4145b6bb038c09f7f5fc459c726ba91ef9eabb20", func := "forcola/forcolalaw04.PartGallai", spec := "partGallai", inPlace := ["internal/abi.NoEscape", "internal/bytealg.MakeNoZero"], unfollowed := true, recurses := true, named := ["math/bits.deBruijn32tab", "math/bits.deBruijn64tab"], apart := false, laid := [("math/bits.deBruijn32tab", laid_math_bits_deBruijn32tab), ("math/bits.deBruijn64tab", laid_math_bits_deBruijn64tab)], narrowed := true }
def PartGallaiUptoSaid : Prop := partGallaiUptoRow.holds Tryd.pinned (OpenSpec.upto partGallaiSpec)

/-- 'forcolalaw04.PartModules', WHERE WHAT IT READS IS OF BULK AT MOST 1048576: true; the input reads as it did. -/
def partModulesUptoRow : OpenClaim := { program := "ytjandhdjjbfgcaadoor", sum := "8259f1b1a450253d31b2e24c4145b6bb038c09f7f5fc459c726ba91ef9eabb20", func := "forcola/forcolalaw04.PartModules", spec := "partModules", inPlace := ["internal/abi.NoEscape", "internal/bytealg.MakeNoZero"], unfollowed := true, recurses := true, named := ["math/bits.deBruijn32tab", "math/bits.deBruijn64tab"], apart := false, laid := [("math/bits.deBruijn32tab", laid_math_bits_deBruijn32tab), ("math/bits.deBruijn64tab", laid_math_bits_deBruijn64tab)], narrowed := true }
def PartModulesUptoSaid : Prop := partModulesUptoRow.holds Tryd.pinned (OpenSpec.upto partModulesSpec)

/-- 'forcolalaw04.PartChecks', WHERE WHAT IT READS IS OF BULK AT MOST 1048576: true; the input reads as it did. -/
def partChecksUptoRow : OpenClaim := { program := "ytjandhdjjbfgcaadoor", sum := "8259f1b1a450253d31b2e24c4145b6bb038c09f7f5fc459c726ba91ef9eabb20", func := "forcola/forcolalaw04.PartChecks", spec := "partChecks", inPlace := ["internal/abi.NoEscape", "internal/bytealg.MakeNoZero"], unfollowed := true, recurses := true, named := ["math/bits.deBruijn32tab", "math/bits.deBruijn64tab"], apart := false, laid := [("math/bits.deBruijn32tab", laid_math_bits_deBruijn32tab), ("math/bits.deBruijn64tab", laid_math_bits_deBruijn64tab)], narrowed := true }
def PartChecksUptoSaid : Prop := partChecksUptoRow.holds Tryd.pinned (OpenSpec.upto partChecksSpec)

end Rows
end Go.Proofs.YtjandhdjjbfgcaaDoor
