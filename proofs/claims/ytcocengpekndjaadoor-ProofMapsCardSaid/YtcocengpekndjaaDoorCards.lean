/-
  DERIVED. GIVEN WITH THE SEED: THE CARDS: each row of YtcocengpekndjaaDoorRows.lean that lists a variable, with what it lists TIED to the program's text (the seventh form; the later family's looks); each row that meets fmt, with fmt's text TOLD by the authors' own Lean function (tested against real Go, not proved from fmt's source: count such statements apart). THE CARD IS WHAT COUNTS. Prove the row's statement (the work); the ties are given (YtcocengpekndjaaDoorTie.lean); close each card by the builder's one call (the guide's Derived/Test/ToyasCard.lean, 'card_holds'). Laid BY PROGRAM, IN A SANDBOX (cutbox-door.mjs). By AI agents, Wed Nov 11 2026. No macro, syntax, notation, axiom, sorry.
-/
import Derived.Test.YtcocengpekndjaaDoorRows
import GoSem.ClaimSeven
namespace Go.Proofs.YtcocengpekndjaaDoor
namespace Rows

/-- THE TIED CARD OF 'guillochelaw09.ProofSums'. -/
def proofSumsCard : Claim7 := { stood := { row := proofSumsRow, standIns := [], harness := (true, "006f73c1630945f3d1146280b3bd87c4cc5dedebff15433769a8408db61f7caf"), looks := false }, kinds := [], alts := [], laidByText := true, laidKinds := [.data], laidTests := true, laidLooks := .later }
def ProofSumsCardSaid : Prop := Claim7.holds Tryd.pinned (.plain (OpenSpec.ofChange proofSumsSpec)) proofSumsCard

/-- THE TIED CARD OF 'guillochelaw09.ProofAccepts'. -/
def proofAcceptsCard : Claim7 := { stood := { row := proofAcceptsRow, standIns := [], harness := (true, "006f73c1630945f3d1146280b3bd87c4cc5dedebff15433769a8408db61f7caf"), looks := false }, kinds := [], alts := [], laidByText := true, laidKinds := [.data], laidTests := true, laidLooks := .later }
def ProofAcceptsCardSaid : Prop := Claim7.holds Tryd.pinned (.plain (OpenSpec.ofChange proofAcceptsSpec)) proofAcceptsCard

/-- THE TIED CARD OF 'guillochelaw09.ProofRanges'. -/
def proofRangesCard : Claim7 := { stood := { row := proofRangesRow, standIns := [], harness := (true, "006f73c1630945f3d1146280b3bd87c4cc5dedebff15433769a8408db61f7caf"), looks := false }, kinds := [], alts := [], laidByText := true, laidKinds := [.data], laidTests := true, laidLooks := .later }
def ProofRangesCardSaid : Prop := Claim7.holds Tryd.pinned (.plain (OpenSpec.ofChange proofRangesSpec)) proofRangesCard

/-- THE TIED CARD OF 'guillochelaw09.ProofUnusable'. -/
def proofUnusableCard : Claim7 := { stood := { row := proofUnusableRow, standIns := [], harness := (true, "006f73c1630945f3d1146280b3bd87c4cc5dedebff15433769a8408db61f7caf"), looks := false }, kinds := [], alts := [], laidByText := true, laidKinds := [.data], laidTests := true, laidLooks := .later }
def ProofUnusableCardSaid : Prop := Claim7.holds Tryd.pinned (.plain (OpenSpec.ofChange proofUnusableSpec)) proofUnusableCard

/-- THE TIED CARD OF 'guillochelaw09.ProofVerifies'. -/
def proofVerifiesCard : Claim7 := { stood := { row := proofVerifiesRow, standIns := [], harness := (true, "006f73c1630945f3d1146280b3bd87c4cc5dedebff15433769a8408db61f7caf"), looks := false }, kinds := [], alts := [], laidByText := true, laidKinds := [.data], laidTests := true, laidLooks := .later }
def ProofVerifiesCardSaid : Prop := Claim7.holds Tryd.pinned (.plain (OpenSpec.ofChange proofVerifiesSpec)) proofVerifiesCard

/-- THE TIED CARD OF 'guillochelaw09.ProofRoots'. -/
def proofRootsCard : Claim7 := { stood := { row := proofRootsRow, standIns := [], harness := (true, "006f73c1630945f3d1146280b3bd87c4cc5dedebff15433769a8408db61f7caf"), looks := false }, kinds := [], alts := [], laidByText := true, laidKinds := [.data], laidTests := true, laidLooks := .later }
def ProofRootsCardSaid : Prop := Claim7.holds Tryd.pinned (.plain (OpenSpec.ofChange proofRootsSpec)) proofRootsCard

/-- THE TIED CARD OF 'guillochelaw09.ProofGrowths'. -/
def proofGrowthsCard : Claim7 := { stood := { row := proofGrowthsRow, standIns := [], harness := (true, "006f73c1630945f3d1146280b3bd87c4cc5dedebff15433769a8408db61f7caf"), looks := false }, kinds := [], alts := [], laidByText := true, laidKinds := [.data], laidTests := true, laidLooks := .later }
def ProofGrowthsCardSaid : Prop := Claim7.holds Tryd.pinned (.plain (OpenSpec.ofChange proofGrowthsSpec)) proofGrowthsCard

/-- THE TIED CARD OF 'guillochelaw09.ProofMaps'. -/
def proofMapsCard : Claim7 := { stood := { row := proofMapsRow, standIns := [], harness := (true, "006f73c1630945f3d1146280b3bd87c4cc5dedebff15433769a8408db61f7caf"), looks := false }, kinds := [], alts := [], laidByText := true, laidKinds := [.data], laidTests := true, laidLooks := .later }
def ProofMapsCardSaid : Prop := Claim7.holds Tryd.pinned (.plain (OpenSpec.ofChange proofMapsSpec)) proofMapsCard

/-- THE TIED CARD OF 'guillochelaw09.ProofTrue'. -/
def proofTrueCard : Claim7 := { stood := { row := proofTrueRow, standIns := [], harness := (true, "006f73c1630945f3d1146280b3bd87c4cc5dedebff15433769a8408db61f7caf"), looks := false }, kinds := [], alts := [], laidByText := true, laidKinds := [.data], laidTests := true, laidLooks := .later }
def ProofTrueCardSaid : Prop := Claim7.holds Tryd.pinned (.plain (OpenSpec.ofChange proofTrueSpec)) proofTrueCard

/-- THE TIED CARD OF 'guillochelaw09.ProofExact'. -/
def proofExactCard : Claim7 := { stood := { row := proofExactRow, standIns := [], harness := (true, "006f73c1630945f3d1146280b3bd87c4cc5dedebff15433769a8408db61f7caf"), looks := false }, kinds := [], alts := [], laidByText := true, laidKinds := [.data], laidTests := true, laidLooks := .later }
def ProofExactCardSaid : Prop := Claim7.holds Tryd.pinned (.plain (OpenSpec.ofChange proofExactSpec)) proofExactCard

/-- THE TIED CARD OF 'guillochelaw09.ProofLoses'. -/
def proofLosesCard : Claim7 := { stood := { row := proofLosesRow, standIns := [], harness := (true, "006f73c1630945f3d1146280b3bd87c4cc5dedebff15433769a8408db61f7caf"), looks := false }, kinds := [], alts := [], laidByText := true, laidKinds := [.data], laidTests := true, laidLooks := .later }
def ProofLosesCardSaid : Prop := Claim7.holds Tryd.pinned (.plain (OpenSpec.ofChange proofLosesSpec)) proofLosesCard

/-- THE TIED CARD OF 'guillochelaw09.ProofHolds'. -/
def proofHoldsCard : Claim7 := { stood := { row := proofHoldsRow, standIns := [], harness := (true, "006f73c1630945f3d1146280b3bd87c4cc5dedebff15433769a8408db61f7caf"), looks := false }, kinds := [], alts := [], laidByText := true, laidKinds := [.data], laidTests := true, laidLooks := .later }
def ProofHoldsCardSaid : Prop := Claim7.holds Tryd.pinned (.plain (OpenSpec.ofChange proofHoldsSpec)) proofHoldsCard

/-- THE TIED CARD OF 'guillochelaw09.ProofExtends'. -/
def proofExtendsCard : Claim7 := { stood := { row := proofExtendsRow, standIns := [], harness := (true, "006f73c1630945f3d1146280b3bd87c4cc5dedebff15433769a8408db61f7caf"), looks := false }, kinds := [], alts := [], laidByText := true, laidKinds := [.data], laidTests := true, laidLooks := .later }
def ProofExtendsCardSaid : Prop := Claim7.holds Tryd.pinned (.plain (OpenSpec.ofChange proofExtendsSpec)) proofExtendsCard

/-- THE TIED CARD OF 'guillochelaw09.ProofGrows'. -/
def proofGrowsCard : Claim7 := { stood := { row := proofGrowsRow, standIns := [], harness := (true, "006f73c1630945f3d1146280b3bd87c4cc5dedebff15433769a8408db61f7caf"), looks := false }, kinds := [], alts := [], laidByText := true, laidKinds := [.data], laidTests := true, laidLooks := .later }
def ProofGrowsCardSaid : Prop := Claim7.holds Tryd.pinned (.plain (OpenSpec.ofChange proofGrowsSpec)) proofGrowsCard

/-- THE SECOND FORM's CARD OF 'guillochelaw09.ProofSums'. -/
def proofSumsUptoCard : Claim7 := { stood := { row := proofSumsUptoRow, standIns := [], harness := (true, "006f73c1630945f3d1146280b3bd87c4cc5dedebff15433769a8408db61f7caf"), looks := false }, kinds := [], alts := [], laidByText := true, laidKinds := [.data], laidTests := true, laidLooks := .later }
def ProofSumsUptoCardSaid : Prop := Claim7.holds Tryd.pinned (.plain (OpenSpec.upto proofSumsSpec)) proofSumsUptoCard

/-- THE SECOND FORM's CARD OF 'guillochelaw09.ProofAccepts'. -/
def proofAcceptsUptoCard : Claim7 := { stood := { row := proofAcceptsUptoRow, standIns := [], harness := (true, "006f73c1630945f3d1146280b3bd87c4cc5dedebff15433769a8408db61f7caf"), looks := false }, kinds := [], alts := [], laidByText := true, laidKinds := [.data], laidTests := true, laidLooks := .later }
def ProofAcceptsUptoCardSaid : Prop := Claim7.holds Tryd.pinned (.plain (OpenSpec.upto proofAcceptsSpec)) proofAcceptsUptoCard

/-- THE SECOND FORM's CARD OF 'guillochelaw09.ProofRanges'. -/
def proofRangesUptoCard : Claim7 := { stood := { row := proofRangesUptoRow, standIns := [], harness := (true, "006f73c1630945f3d1146280b3bd87c4cc5dedebff15433769a8408db61f7caf"), looks := false }, kinds := [], alts := [], laidByText := true, laidKinds := [.data], laidTests := true, laidLooks := .later }
def ProofRangesUptoCardSaid : Prop := Claim7.holds Tryd.pinned (.plain (OpenSpec.upto proofRangesSpec)) proofRangesUptoCard

/-- THE SECOND FORM's CARD OF 'guillochelaw09.ProofUnusable'. -/
def proofUnusableUptoCard : Claim7 := { stood := { row := proofUnusableUptoRow, standIns := [], harness := (true, "006f73c1630945f3d1146280b3bd87c4cc5dedebff15433769a8408db61f7caf"), looks := false }, kinds := [], alts := [], laidByText := true, laidKinds := [.data], laidTests := true, laidLooks := .later }
def ProofUnusableUptoCardSaid : Prop := Claim7.holds Tryd.pinned (.plain (OpenSpec.upto proofUnusableSpec)) proofUnusableUptoCard

/-- THE SECOND FORM's CARD OF 'guillochelaw09.ProofVerifies'. -/
def proofVerifiesUptoCard : Claim7 := { stood := { row := proofVerifiesUptoRow, standIns := [], harness := (true, "006f73c1630945f3d1146280b3bd87c4cc5dedebff15433769a8408db61f7caf"), looks := false }, kinds := [], alts := [], laidByText := true, laidKinds := [.data], laidTests := true, laidLooks := .later }
def ProofVerifiesUptoCardSaid : Prop := Claim7.holds Tryd.pinned (.plain (OpenSpec.upto proofVerifiesSpec)) proofVerifiesUptoCard

/-- THE SECOND FORM's CARD OF 'guillochelaw09.ProofRoots'. -/
def proofRootsUptoCard : Claim7 := { stood := { row := proofRootsUptoRow, standIns := [], harness := (true, "006f73c1630945f3d1146280b3bd87c4cc5dedebff15433769a8408db61f7caf"), looks := false }, kinds := [], alts := [], laidByText := true, laidKinds := [.data], laidTests := true, laidLooks := .later }
def ProofRootsUptoCardSaid : Prop := Claim7.holds Tryd.pinned (.plain (OpenSpec.upto proofRootsSpec)) proofRootsUptoCard

/-- THE SECOND FORM's CARD OF 'guillochelaw09.ProofGrowths'. -/
def proofGrowthsUptoCard : Claim7 := { stood := { row := proofGrowthsUptoRow, standIns := [], harness := (true, "006f73c1630945f3d1146280b3bd87c4cc5dedebff15433769a8408db61f7caf"), looks := false }, kinds := [], alts := [], laidByText := true, laidKinds := [.data], laidTests := true, laidLooks := .later }
def ProofGrowthsUptoCardSaid : Prop := Claim7.holds Tryd.pinned (.plain (OpenSpec.upto proofGrowthsSpec)) proofGrowthsUptoCard

/-- THE SECOND FORM's CARD OF 'guillochelaw09.ProofMaps'. -/
def proofMapsUptoCard : Claim7 := { stood := { row := proofMapsUptoRow, standIns := [], harness := (true, "006f73c1630945f3d1146280b3bd87c4cc5dedebff15433769a8408db61f7caf"), looks := false }, kinds := [], alts := [], laidByText := true, laidKinds := [.data], laidTests := true, laidLooks := .later }
def ProofMapsUptoCardSaid : Prop := Claim7.holds Tryd.pinned (.plain (OpenSpec.upto proofMapsSpec)) proofMapsUptoCard

/-- THE SECOND FORM's CARD OF 'guillochelaw09.ProofTrue'. -/
def proofTrueUptoCard : Claim7 := { stood := { row := proofTrueUptoRow, standIns := [], harness := (true, "006f73c1630945f3d1146280b3bd87c4cc5dedebff15433769a8408db61f7caf"), looks := false }, kinds := [], alts := [], laidByText := true, laidKinds := [.data], laidTests := true, laidLooks := .later }
def ProofTrueUptoCardSaid : Prop := Claim7.holds Tryd.pinned (.plain (OpenSpec.upto proofTrueSpec)) proofTrueUptoCard

/-- THE SECOND FORM's CARD OF 'guillochelaw09.ProofExact'. -/
def proofExactUptoCard : Claim7 := { stood := { row := proofExactUptoRow, standIns := [], harness := (true, "006f73c1630945f3d1146280b3bd87c4cc5dedebff15433769a8408db61f7caf"), looks := false }, kinds := [], alts := [], laidByText := true, laidKinds := [.data], laidTests := true, laidLooks := .later }
def ProofExactUptoCardSaid : Prop := Claim7.holds Tryd.pinned (.plain (OpenSpec.upto proofExactSpec)) proofExactUptoCard

/-- THE SECOND FORM's CARD OF 'guillochelaw09.ProofLoses'. -/
def proofLosesUptoCard : Claim7 := { stood := { row := proofLosesUptoRow, standIns := [], harness := (true, "006f73c1630945f3d1146280b3bd87c4cc5dedebff15433769a8408db61f7caf"), looks := false }, kinds := [], alts := [], laidByText := true, laidKinds := [.data], laidTests := true, laidLooks := .later }
def ProofLosesUptoCardSaid : Prop := Claim7.holds Tryd.pinned (.plain (OpenSpec.upto proofLosesSpec)) proofLosesUptoCard

/-- THE SECOND FORM's CARD OF 'guillochelaw09.ProofHolds'. -/
def proofHoldsUptoCard : Claim7 := { stood := { row := proofHoldsUptoRow, standIns := [], harness := (true, "006f73c1630945f3d1146280b3bd87c4cc5dedebff15433769a8408db61f7caf"), looks := false }, kinds := [], alts := [], laidByText := true, laidKinds := [.data], laidTests := true, laidLooks := .later }
def ProofHoldsUptoCardSaid : Prop := Claim7.holds Tryd.pinned (.plain (OpenSpec.upto proofHoldsSpec)) proofHoldsUptoCard

/-- THE SECOND FORM's CARD OF 'guillochelaw09.ProofExtends'. -/
def proofExtendsUptoCard : Claim7 := { stood := { row := proofExtendsUptoRow, standIns := [], harness := (true, "006f73c1630945f3d1146280b3bd87c4cc5dedebff15433769a8408db61f7caf"), looks := false }, kinds := [], alts := [], laidByText := true, laidKinds := [.data], laidTests := true, laidLooks := .later }
def ProofExtendsUptoCardSaid : Prop := Claim7.holds Tryd.pinned (.plain (OpenSpec.upto proofExtendsSpec)) proofExtendsUptoCard

/-- THE SECOND FORM's CARD OF 'guillochelaw09.ProofGrows'. -/
def proofGrowsUptoCard : Claim7 := { stood := { row := proofGrowsUptoRow, standIns := [], harness := (true, "006f73c1630945f3d1146280b3bd87c4cc5dedebff15433769a8408db61f7caf"), looks := false }, kinds := [], alts := [], laidByText := true, laidKinds := [.data], laidTests := true, laidLooks := .later }
def ProofGrowsUptoCardSaid : Prop := Claim7.holds Tryd.pinned (.plain (OpenSpec.upto proofGrowsSpec)) proofGrowsUptoCard
end Rows
end Go.Proofs.YtcocengpekndjaaDoor
