/-
  DERIVED. GIVEN WITH THE SEED: THE CARDS: each row of YtjandhdjjbfgcaaDoorRows.lean that lists a variable, with what it lists TIED to the program's text (the seventh form; the later family's looks); each row that meets fmt, with fmt's text TOLD by the authors' own Lean function (tested against real Go, not proved from fmt's source: count such statements apart). THE CARD IS WHAT COUNTS. Prove the row's statement (the work); the ties are given (YtjandhdjjbfgcaaDoorTie.lean); close each card by the builder's one call (the guide's Derived/Test/ToyasCard.lean, 'card_holds'). Laid BY PROGRAM, IN A SANDBOX (cutbox-door.mjs). By AI agents, Wed Nov 11 2026. No macro, syntax, notation, axiom, sorry.
-/
import Derived.Test.YtjandhdjjbfgcaaDoorRows
import GoSem.ClaimSeven
namespace Go.Proofs.YtjandhdjjbfgcaaDoor
namespace Rows

/-- THE TIED CARD OF 'forcolalaw04.PartPaths'. -/
def partPathsCard : Claim7 := { stood := { row := partPathsRow, standIns := [], harness := (true, "16841fe992c9a872ff914ba4138fc4db616f8369b3e6bb2c3d36176645601c06"), looks := false }, kinds := [], alts := [], laidByText := true, laidKinds := [.data, .data], laidTests := true, laidLooks := .later }
def PartPathsCardSaid : Prop := Claim7.holds Tryd.pinned (.plain (OpenSpec.ofChange partPathsSpec)) partPathsCard

/-- THE TIED CARD OF 'forcolalaw04.PartShapes'. -/
def partShapesCard : Claim7 := { stood := { row := partShapesRow, standIns := [], harness := (true, "16841fe992c9a872ff914ba4138fc4db616f8369b3e6bb2c3d36176645601c06"), looks := false }, kinds := [], alts := [], laidByText := true, laidKinds := [.data, .data], laidTests := true, laidLooks := .later }
def PartShapesCardSaid : Prop := Claim7.holds Tryd.pinned (.plain (OpenSpec.ofChange partShapesSpec)) partShapesCard

/-- THE TIED CARD OF 'forcolalaw04.PartFromShapes'. -/
def partFromShapesCard : Claim7 := { stood := { row := partFromShapesRow, standIns := [], harness := (true, "16841fe992c9a872ff914ba4138fc4db616f8369b3e6bb2c3d36176645601c06"), looks := false }, kinds := [], alts := [], laidByText := true, laidKinds := [.data, .data], laidTests := true, laidLooks := .later }
def PartFromShapesCardSaid : Prop := Claim7.holds Tryd.pinned (.plain (OpenSpec.ofChange partFromShapesSpec)) partFromShapesCard

/-- THE TIED CARD OF 'forcolalaw04.PartSeinsche'. -/
def partSeinscheCard : Claim7 := { stood := { row := partSeinscheRow, standIns := [], harness := (true, "16841fe992c9a872ff914ba4138fc4db616f8369b3e6bb2c3d36176645601c06"), looks := false }, kinds := [], alts := [], laidByText := true, laidKinds := [.data, .data], laidTests := true, laidLooks := .later }
def PartSeinscheCardSaid : Prop := Claim7.holds Tryd.pinned (.plain (OpenSpec.ofChange partSeinscheSpec)) partSeinscheCard

/-- THE TIED CARD OF 'forcolalaw04.PartLovasz'. -/
def partLovaszCard : Claim7 := { stood := { row := partLovaszRow, standIns := [], harness := (true, "16841fe992c9a872ff914ba4138fc4db616f8369b3e6bb2c3d36176645601c06"), looks := false }, kinds := [], alts := [], laidByText := true, laidKinds := [.data, .data], laidTests := true, laidLooks := .later }
def PartLovaszCardSaid : Prop := Claim7.holds Tryd.pinned (.plain (OpenSpec.ofChange partLovaszSpec)) partLovaszCard

/-- THE TIED CARD OF 'forcolalaw04.PartStrong'. -/
def partStrongCard : Claim7 := { stood := { row := partStrongRow, standIns := [], harness := (true, "16841fe992c9a872ff914ba4138fc4db616f8369b3e6bb2c3d36176645601c06"), looks := false }, kinds := [], alts := [], laidByText := true, laidKinds := [.data, .data], laidTests := true, laidLooks := .later }
def PartStrongCardSaid : Prop := Claim7.holds Tryd.pinned (.plain (OpenSpec.ofChange partStrongSpec)) partStrongCard

/-- THE TIED CARD OF 'forcolalaw04.PartGallai'. -/
def partGallaiCard : Claim7 := { stood := { row := partGallaiRow, standIns := [], harness := (true, "16841fe992c9a872ff914ba4138fc4db616f8369b3e6bb2c3d36176645601c06"), looks := false }, kinds := [], alts := [], laidByText := true, laidKinds := [.data, .data], laidTests := true, laidLooks := .later }
def PartGallaiCardSaid : Prop := Claim7.holds Tryd.pinned (.plain (OpenSpec.ofChange partGallaiSpec)) partGallaiCard

/-- THE TIED CARD OF 'forcolalaw04.PartModules'. -/
def partModulesCard : Claim7 := { stood := { row := partModulesRow, standIns := [], harness := (true, "16841fe992c9a872ff914ba4138fc4db616f8369b3e6bb2c3d36176645601c06"), looks := false }, kinds := [], alts := [], laidByText := true, laidKinds := [.data, .data], laidTests := true, laidLooks := .later }
def PartModulesCardSaid : Prop := Claim7.holds Tryd.pinned (.plain (OpenSpec.ofChange partModulesSpec)) partModulesCard

/-- THE TIED CARD OF 'forcolalaw04.PartChecks'. -/
def partChecksCard : Claim7 := { stood := { row := partChecksRow, standIns := [], harness := (true, "16841fe992c9a872ff914ba4138fc4db616f8369b3e6bb2c3d36176645601c06"), looks := false }, kinds := [], alts := [], laidByText := true, laidKinds := [.data, .data], laidTests := true, laidLooks := .later }
def PartChecksCardSaid : Prop := Claim7.holds Tryd.pinned (.plain (OpenSpec.ofChange partChecksSpec)) partChecksCard

/-- THE SECOND FORM's CARD OF 'forcolalaw04.PartPaths'. -/
def partPathsUptoCard : Claim7 := { stood := { row := partPathsUptoRow, standIns := [], harness := (true, "16841fe992c9a872ff914ba4138fc4db616f8369b3e6bb2c3d36176645601c06"), looks := false }, kinds := [], alts := [], laidByText := true, laidKinds := [.data, .data], laidTests := true, laidLooks := .later }
def PartPathsUptoCardSaid : Prop := Claim7.holds Tryd.pinned (.plain (OpenSpec.upto partPathsSpec)) partPathsUptoCard

/-- THE SECOND FORM's CARD OF 'forcolalaw04.PartShapes'. -/
def partShapesUptoCard : Claim7 := { stood := { row := partShapesUptoRow, standIns := [], harness := (true, "16841fe992c9a872ff914ba4138fc4db616f8369b3e6bb2c3d36176645601c06"), looks := false }, kinds := [], alts := [], laidByText := true, laidKinds := [.data, .data], laidTests := true, laidLooks := .later }
def PartShapesUptoCardSaid : Prop := Claim7.holds Tryd.pinned (.plain (OpenSpec.upto partShapesSpec)) partShapesUptoCard

/-- THE SECOND FORM's CARD OF 'forcolalaw04.PartFromShapes'. -/
def partFromShapesUptoCard : Claim7 := { stood := { row := partFromShapesUptoRow, standIns := [], harness := (true, "16841fe992c9a872ff914ba4138fc4db616f8369b3e6bb2c3d36176645601c06"), looks := false }, kinds := [], alts := [], laidByText := true, laidKinds := [.data, .data], laidTests := true, laidLooks := .later }
def PartFromShapesUptoCardSaid : Prop := Claim7.holds Tryd.pinned (.plain (OpenSpec.upto partFromShapesSpec)) partFromShapesUptoCard

/-- THE SECOND FORM's CARD OF 'forcolalaw04.PartSeinsche'. -/
def partSeinscheUptoCard : Claim7 := { stood := { row := partSeinscheUptoRow, standIns := [], harness := (true, "16841fe992c9a872ff914ba4138fc4db616f8369b3e6bb2c3d36176645601c06"), looks := false }, kinds := [], alts := [], laidByText := true, laidKinds := [.data, .data], laidTests := true, laidLooks := .later }
def PartSeinscheUptoCardSaid : Prop := Claim7.holds Tryd.pinned (.plain (OpenSpec.upto partSeinscheSpec)) partSeinscheUptoCard

/-- THE SECOND FORM's CARD OF 'forcolalaw04.PartLovasz'. -/
def partLovaszUptoCard : Claim7 := { stood := { row := partLovaszUptoRow, standIns := [], harness := (true, "16841fe992c9a872ff914ba4138fc4db616f8369b3e6bb2c3d36176645601c06"), looks := false }, kinds := [], alts := [], laidByText := true, laidKinds := [.data, .data], laidTests := true, laidLooks := .later }
def PartLovaszUptoCardSaid : Prop := Claim7.holds Tryd.pinned (.plain (OpenSpec.upto partLovaszSpec)) partLovaszUptoCard

/-- THE SECOND FORM's CARD OF 'forcolalaw04.PartStrong'. -/
def partStrongUptoCard : Claim7 := { stood := { row := partStrongUptoRow, standIns := [], harness := (true, "16841fe992c9a872ff914ba4138fc4db616f8369b3e6bb2c3d36176645601c06"), looks := false }, kinds := [], alts := [], laidByText := true, laidKinds := [.data, .data], laidTests := true, laidLooks := .later }
def PartStrongUptoCardSaid : Prop := Claim7.holds Tryd.pinned (.plain (OpenSpec.upto partStrongSpec)) partStrongUptoCard

/-- THE SECOND FORM's CARD OF 'forcolalaw04.PartGallai'. -/
def partGallaiUptoCard : Claim7 := { stood := { row := partGallaiUptoRow, standIns := [], harness := (true, "16841fe992c9a872ff914ba4138fc4db616f8369b3e6bb2c3d36176645601c06"), looks := false }, kinds := [], alts := [], laidByText := true, laidKinds := [.data, .data], laidTests := true, laidLooks := .later }
def PartGallaiUptoCardSaid : Prop := Claim7.holds Tryd.pinned (.plain (OpenSpec.upto partGallaiSpec)) partGallaiUptoCard

/-- THE SECOND FORM's CARD OF 'forcolalaw04.PartModules'. -/
def partModulesUptoCard : Claim7 := { stood := { row := partModulesUptoRow, standIns := [], harness := (true, "16841fe992c9a872ff914ba4138fc4db616f8369b3e6bb2c3d36176645601c06"), looks := false }, kinds := [], alts := [], laidByText := true, laidKinds := [.data, .data], laidTests := true, laidLooks := .later }
def PartModulesUptoCardSaid : Prop := Claim7.holds Tryd.pinned (.plain (OpenSpec.upto partModulesSpec)) partModulesUptoCard

/-- THE SECOND FORM's CARD OF 'forcolalaw04.PartChecks'. -/
def partChecksUptoCard : Claim7 := { stood := { row := partChecksUptoRow, standIns := [], harness := (true, "16841fe992c9a872ff914ba4138fc4db616f8369b3e6bb2c3d36176645601c06"), looks := false }, kinds := [], alts := [], laidByText := true, laidKinds := [.data, .data], laidTests := true, laidLooks := .later }
def PartChecksUptoCardSaid : Prop := Claim7.holds Tryd.pinned (.plain (OpenSpec.upto partChecksSpec)) partChecksUptoCard
end Rows
end Go.Proofs.YtjandhdjjbfgcaaDoor
