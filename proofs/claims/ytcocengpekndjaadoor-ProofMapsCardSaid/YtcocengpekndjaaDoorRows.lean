/-
  NARROWER THAN 'FOR EVERY INPUT', by the rows' own cells (each row's printed sentence says how): ProofSums: laid · ProofAccepts: laid · ProofRanges: laid · ProofUnusable: laid · ProofVerifies: laid · ProofRoots: laid · ProofGrowths: laid · ProofMaps: laid · ProofTrue: laid · ProofExact: laid · ProofLoses: laid · ProofHolds: laid · ProofExtends: laid · ProofGrows: laid.
  DERIVED. THE GIVEN ROWS OF THIS SEAT. 14 by the template 'for every input the law returns true; each argument reads behind the call as it read before'; 0 by the template 'total and deterministic' (their statements: YtcocengpekndjaaDoorTotals.lean).
  GIVEN WITH THE SEED: the statements are not yours to turn. If you find one false, say at which input.
  Laid BY PROGRAM, IN A SANDBOX (cutbox-rows.mjs): the forced cells as the released guide's own fill.sh prints them over the translation 5b17e6567cdc0f9c… (all of the seat's roots in one cut). By AI agents, Wed Nov 11 2026. No macro, syntax, notation, axiom, sorry.
-/
import Derived.Test.YtcocengpekndjaaDoorChecked
import GoSem.Claim
import GoSem.ClaimJoined
import GoSem.ClaimMapViews
import Derived.JoinedTies
import Derived.KernelRfl
namespace Go.Proofs.YtcocengpekndjaaDoor
/- THE CELL 'sum', in the pinned program and in every row, IS THE sha256 OF THE DUMP (.gsa) THAT YtcocengpekndjaaDoorProg.lean LOADS. Nothing in Lean hashes anything: it is a label: what it is worth is what the hold of that sum in a sandbox is worth. -/
noncomputable def Tryd.pinned : Pinned := { name := "ytcocengpekndjaadoor", sum := "5b17e6567cdc0f9c732d8ce696f26c9e9ad37db859d57e17b1c9107c00299bfd", checked := Tryd.checked }
namespace Rows
def none {H : Type} : Left H := { results := [], args := [] }

/- WHAT THE LISTED PACKAGE-LEVEL VARIABLES READ AS WHEN THE CALL BEGINS. Each datum BY PROGRAM (the guide's laid-datum.mjs) off the statement by which the dump's own 'gosem.cut.vars' lays the variable. In a bare row this is a premise. The card (YtcocengpekndjaaDoorCards.lean) ties it to the program's text. -/
def laid_guilloche_proof_rounds {H : Type} : DataW H := .agg [.lit (.int .u32 1116352408), .lit (.int .u32 1899447441), .lit (.int .u32 3049323471), .lit (.int .u32 3921009573), .lit (.int .u32 961987163), .lit (.int .u32 1508970993), .lit (.int .u32 2453635748), .lit (.int .u32 2870763221), .lit (.int .u32 3624381080), .lit (.int .u32 310598401), .lit (.int .u32 607225278), .lit (.int .u32 1426881987), .lit (.int .u32 1925078388), .lit (.int .u32 2162078206), .lit (.int .u32 2614888103), .lit (.int .u32 3248222580), .lit (.int .u32 3835390401), .lit (.int .u32 4022224774), .lit (.int .u32 264347078), .lit (.int .u32 604807628), .lit (.int .u32 770255983), .lit (.int .u32 1249150122), .lit (.int .u32 1555081692), .lit (.int .u32 1996064986), .lit (.int .u32 2554220882), .lit (.int .u32 2821834349), .lit (.int .u32 2952996808), .lit (.int .u32 3210313671), .lit (.int .u32 3336571891), .lit (.int .u32 3584528711), .lit (.int .u32 113926993), .lit (.int .u32 338241895), .lit (.int .u32 666307205), .lit (.int .u32 773529912), .lit (.int .u32 1294757372), .lit (.int .u32 1396182291), .lit (.int .u32 1695183700), .lit (.int .u32 1986661051), .lit (.int .u32 2177026350), .lit (.int .u32 2456956037), .lit (.int .u32 2730485921), .lit (.int .u32 2820302411), .lit (.int .u32 3259730800), .lit (.int .u32 3345764771), .lit (.int .u32 3516065817), .lit (.int .u32 3600352804), .lit (.int .u32 4094571909), .lit (.int .u32 275423344), .lit (.int .u32 430227734), .lit (.int .u32 506948616), .lit (.int .u32 659060556), .lit (.int .u32 883997877), .lit (.int .u32 958139571), .lit (.int .u32 1322822218), .lit (.int .u32 1537002063), .lit (.int .u32 1747873779), .lit (.int .u32 1955562222), .lit (.int .u32 2024104815), .lit (.int .u32 2227730452), .lit (.int .u32 2361852424), .lit (.int .u32 2428436474), .lit (.int .u32 2756734187), .lit (.int .u32 3204031479), .lit (.int .u32 3329325298)]

/-- 'guillochelaw09.ProofSums': WHATEVER THE INPUT: true; the input reads as it did. -/
def proofSumsSpec : ChangeSpec := { name := "proofSums", fn := fun _ => fun
  | [d] => { results := [.lit (.bool true)], args := [d] }
  | _ => none }
def proofSumsRow : OpenClaim := { program := "ytcocengpekndjaadoor", sum := "5b17e6567cdc0f9c732d8ce696f26c9e9ad37db859d57e17b1c9107c00299bfd", func := "guilloche/guillochelaw09.ProofSums", spec := "proofSums", unfollowed := true, recurses := true, named := ["guilloche/proof.rounds"], apart := false, laid := [("guilloche/proof.rounds", laid_guilloche_proof_rounds)] }
def ProofSumsSaid : Prop := proofSumsRow.holds Tryd.pinned (OpenSpec.ofChange proofSumsSpec)

/-- ITS FALSE NEIGHBOUR: 'it returns false'. Refute it at one input. -/
def proofSumsWrong : ChangeSpec := { name := "proofSums", fn := fun _ => fun
  | [d] => { results := [.lit (.bool false)], args := [d] }
  | _ => none }
def ProofSumsWrongFalsely : Prop := proofSumsRow.holds Tryd.pinned (OpenSpec.ofChange proofSumsWrong)

/-- 'guillochelaw09.ProofAccepts': WHATEVER THE INPUT: true; the input reads as it did. -/
def proofAcceptsSpec : ChangeSpec := { name := "proofAccepts", fn := fun _ => fun
  | [d1, d2, d3] => { results := [.lit (.bool true)], args := [d1, d2, d3] }
  | _ => none }
def proofAcceptsRow : OpenClaim := { program := "ytcocengpekndjaadoor", sum := "5b17e6567cdc0f9c732d8ce696f26c9e9ad37db859d57e17b1c9107c00299bfd", func := "guilloche/guillochelaw09.ProofAccepts", spec := "proofAccepts", unfollowed := true, recurses := true, named := ["guilloche/proof.rounds"], apart := false, laid := [("guilloche/proof.rounds", laid_guilloche_proof_rounds)] }
def ProofAcceptsSaid : Prop := proofAcceptsRow.holds Tryd.pinned (OpenSpec.ofChange proofAcceptsSpec)

/-- ITS FALSE NEIGHBOUR: 'it returns false'. Refute it at one input. -/
def proofAcceptsWrong : ChangeSpec := { name := "proofAccepts", fn := fun _ => fun
  | [d1, d2, d3] => { results := [.lit (.bool false)], args := [d1, d2, d3] }
  | _ => none }
def ProofAcceptsWrongFalsely : Prop := proofAcceptsRow.holds Tryd.pinned (OpenSpec.ofChange proofAcceptsWrong)

/-- 'guillochelaw09.ProofRanges': WHATEVER THE INPUT: true; the input reads as it did. -/
def proofRangesSpec : ChangeSpec := { name := "proofRanges", fn := fun _ => fun
  | [d1, d2, d3, d4] => { results := [.lit (.bool true)], args := [d1, d2, d3, d4] }
  | _ => none }
def proofRangesRow : OpenClaim := { program := "ytcocengpekndjaadoor", sum := "5b17e6567cdc0f9c732d8ce696f26c9e9ad37db859d57e17b1c9107c00299bfd", func := "guilloche/guillochelaw09.ProofRanges", spec := "proofRanges", unfollowed := true, recurses := true, named := ["guilloche/proof.rounds"], apart := false, laid := [("guilloche/proof.rounds", laid_guilloche_proof_rounds)] }
def ProofRangesSaid : Prop := proofRangesRow.holds Tryd.pinned (OpenSpec.ofChange proofRangesSpec)

/-- ITS FALSE NEIGHBOUR: 'it returns false'. Refute it at one input. -/
def proofRangesWrong : ChangeSpec := { name := "proofRanges", fn := fun _ => fun
  | [d1, d2, d3, d4] => { results := [.lit (.bool false)], args := [d1, d2, d3, d4] }
  | _ => none }
def ProofRangesWrongFalsely : Prop := proofRangesRow.holds Tryd.pinned (OpenSpec.ofChange proofRangesWrong)

/-- 'guillochelaw09.ProofUnusable': WHATEVER THE INPUT: true; the input reads as it did. -/
def proofUnusableSpec : ChangeSpec := { name := "proofUnusable", fn := fun _ => fun
  | [d1, d2, d3] => { results := [.lit (.bool true)], args := [d1, d2, d3] }
  | _ => none }
def proofUnusableRow : OpenClaim := { program := "ytcocengpekndjaadoor", sum := "5b17e6567cdc0f9c732d8ce696f26c9e9ad37db859d57e17b1c9107c00299bfd", func := "guilloche/guillochelaw09.ProofUnusable", spec := "proofUnusable", unfollowed := true, recurses := true, named := ["guilloche/proof.rounds"], apart := false, laid := [("guilloche/proof.rounds", laid_guilloche_proof_rounds)] }
def ProofUnusableSaid : Prop := proofUnusableRow.holds Tryd.pinned (OpenSpec.ofChange proofUnusableSpec)

/-- ITS FALSE NEIGHBOUR: 'it returns false'. Refute it at one input. -/
def proofUnusableWrong : ChangeSpec := { name := "proofUnusable", fn := fun _ => fun
  | [d1, d2, d3] => { results := [.lit (.bool false)], args := [d1, d2, d3] }
  | _ => none }
def ProofUnusableWrongFalsely : Prop := proofUnusableRow.holds Tryd.pinned (OpenSpec.ofChange proofUnusableWrong)

/-- 'guillochelaw09.ProofVerifies': WHATEVER THE INPUT: true; the input reads as it did. -/
def proofVerifiesSpec : ChangeSpec := { name := "proofVerifies", fn := fun _ => fun
  | [d1, d2, d3, d4, d5] => { results := [.lit (.bool true)], args := [d1, d2, d3, d4, d5] }
  | _ => none }
def proofVerifiesRow : OpenClaim := { program := "ytcocengpekndjaadoor", sum := "5b17e6567cdc0f9c732d8ce696f26c9e9ad37db859d57e17b1c9107c00299bfd", func := "guilloche/guillochelaw09.ProofVerifies", spec := "proofVerifies", unfollowed := true, recurses := true, named := ["guilloche/proof.rounds"], apart := false, laid := [("guilloche/proof.rounds", laid_guilloche_proof_rounds)] }
def ProofVerifiesSaid : Prop := proofVerifiesRow.holds Tryd.pinned (OpenSpec.ofChange proofVerifiesSpec)

/-- ITS FALSE NEIGHBOUR: 'it returns false'. Refute it at one input. -/
def proofVerifiesWrong : ChangeSpec := { name := "proofVerifies", fn := fun _ => fun
  | [d1, d2, d3, d4, d5] => { results := [.lit (.bool false)], args := [d1, d2, d3, d4, d5] }
  | _ => none }
def ProofVerifiesWrongFalsely : Prop := proofVerifiesRow.holds Tryd.pinned (OpenSpec.ofChange proofVerifiesWrong)

/-- 'guillochelaw09.ProofRoots': WHATEVER THE INPUT: true; the input reads as it did. -/
def proofRootsSpec : ChangeSpec := { name := "proofRoots", fn := fun _ => fun
  | [d1, d2] => { results := [.lit (.bool true)], args := [d1, d2] }
  | _ => none }
def proofRootsRow : OpenClaim := { program := "ytcocengpekndjaadoor", sum := "5b17e6567cdc0f9c732d8ce696f26c9e9ad37db859d57e17b1c9107c00299bfd", func := "guilloche/guillochelaw09.ProofRoots", spec := "proofRoots", unfollowed := true, recurses := true, named := ["guilloche/proof.rounds"], apart := false, laid := [("guilloche/proof.rounds", laid_guilloche_proof_rounds)] }
def ProofRootsSaid : Prop := proofRootsRow.holds Tryd.pinned (OpenSpec.ofChange proofRootsSpec)

/-- ITS FALSE NEIGHBOUR: 'it returns false'. Refute it at one input. -/
def proofRootsWrong : ChangeSpec := { name := "proofRoots", fn := fun _ => fun
  | [d1, d2] => { results := [.lit (.bool false)], args := [d1, d2] }
  | _ => none }
def ProofRootsWrongFalsely : Prop := proofRootsRow.holds Tryd.pinned (OpenSpec.ofChange proofRootsWrong)

/-- 'guillochelaw09.ProofGrowths': WHATEVER THE INPUT: true; the input reads as it did. -/
def proofGrowthsSpec : ChangeSpec := { name := "proofGrowths", fn := fun _ => fun
  | [d1, d2, d3, d4, d5] => { results := [.lit (.bool true)], args := [d1, d2, d3, d4, d5] }
  | _ => none }
def proofGrowthsRow : OpenClaim := { program := "ytcocengpekndjaadoor", sum := "5b17e6567cdc0f9c732d8ce696f26c9e9ad37db859d57e17b1c9107c00299bfd", func := "guilloche/guillochelaw09.ProofGrowths", spec := "proofGrowths", unfollowed := true, recurses := true, named := ["guilloche/proof.rounds"], apart := false, laid := [("guilloche/proof.rounds", laid_guilloche_proof_rounds)] }
def ProofGrowthsSaid : Prop := proofGrowthsRow.holds Tryd.pinned (OpenSpec.ofChange proofGrowthsSpec)

/-- ITS FALSE NEIGHBOUR: 'it returns false'. Refute it at one input. -/
def proofGrowthsWrong : ChangeSpec := { name := "proofGrowths", fn := fun _ => fun
  | [d1, d2, d3, d4, d5] => { results := [.lit (.bool false)], args := [d1, d2, d3, d4, d5] }
  | _ => none }
def ProofGrowthsWrongFalsely : Prop := proofGrowthsRow.holds Tryd.pinned (OpenSpec.ofChange proofGrowthsWrong)

/-- 'guillochelaw09.ProofMaps': WHATEVER THE INPUT: true; the input reads as it did. -/
def proofMapsSpec : ChangeSpec := { name := "proofMaps", fn := fun _ => fun
  | [d1, d2, d3, d4] => { results := [.lit (.bool true)], args := [d1, d2, d3, d4] }
  | _ => none }
def proofMapsRow : OpenClaim := { program := "ytcocengpekndjaadoor", sum := "5b17e6567cdc0f9c732d8ce696f26c9e9ad37db859d57e17b1c9107c00299bfd", func := "guilloche/guillochelaw09.ProofMaps", spec := "proofMaps", unfollowed := true, recurses := true, named := ["guilloche/proof.rounds"], apart := false, laid := [("guilloche/proof.rounds", laid_guilloche_proof_rounds)] }
def ProofMapsSaid : Prop := proofMapsRow.holds Tryd.pinned (OpenSpec.ofChange proofMapsSpec)

/-- ITS FALSE NEIGHBOUR: 'it returns false'. Refute it at one input. -/
def proofMapsWrong : ChangeSpec := { name := "proofMaps", fn := fun _ => fun
  | [d1, d2, d3, d4] => { results := [.lit (.bool false)], args := [d1, d2, d3, d4] }
  | _ => none }
def ProofMapsWrongFalsely : Prop := proofMapsRow.holds Tryd.pinned (OpenSpec.ofChange proofMapsWrong)

/-- 'guillochelaw09.ProofTrue': WHATEVER THE INPUT: true; the input reads as it did. -/
def proofTrueSpec : ChangeSpec := { name := "proofTrue", fn := fun _ => fun
  | [d1, d2, d3] => { results := [.lit (.bool true)], args := [d1, d2, d3] }
  | _ => none }
def proofTrueRow : OpenClaim := { program := "ytcocengpekndjaadoor", sum := "5b17e6567cdc0f9c732d8ce696f26c9e9ad37db859d57e17b1c9107c00299bfd", func := "guilloche/guillochelaw09.ProofTrue", spec := "proofTrue", unfollowed := true, recurses := true, named := ["guilloche/proof.rounds"], apart := false, laid := [("guilloche/proof.rounds", laid_guilloche_proof_rounds)] }
def ProofTrueSaid : Prop := proofTrueRow.holds Tryd.pinned (OpenSpec.ofChange proofTrueSpec)

/-- ITS FALSE NEIGHBOUR: 'it returns false'. Refute it at one input. -/
def proofTrueWrong : ChangeSpec := { name := "proofTrue", fn := fun _ => fun
  | [d1, d2, d3] => { results := [.lit (.bool false)], args := [d1, d2, d3] }
  | _ => none }
def ProofTrueWrongFalsely : Prop := proofTrueRow.holds Tryd.pinned (OpenSpec.ofChange proofTrueWrong)

/-- 'guillochelaw09.ProofExact': WHATEVER THE INPUT: true; the input reads as it did. -/
def proofExactSpec : ChangeSpec := { name := "proofExact", fn := fun _ => fun
  | [d1, d2, d3, d4] => { results := [.lit (.bool true)], args := [d1, d2, d3, d4] }
  | _ => none }
def proofExactRow : OpenClaim := { program := "ytcocengpekndjaadoor", sum := "5b17e6567cdc0f9c732d8ce696f26c9e9ad37db859d57e17b1c9107c00299bfd", func := "guilloche/guillochelaw09.ProofExact", spec := "proofExact", unfollowed := true, recurses := true, named := ["guilloche/proof.rounds"], apart := false, laid := [("guilloche/proof.rounds", laid_guilloche_proof_rounds)] }
def ProofExactSaid : Prop := proofExactRow.holds Tryd.pinned (OpenSpec.ofChange proofExactSpec)

/-- ITS FALSE NEIGHBOUR: 'it returns false'. Refute it at one input. -/
def proofExactWrong : ChangeSpec := { name := "proofExact", fn := fun _ => fun
  | [d1, d2, d3, d4] => { results := [.lit (.bool false)], args := [d1, d2, d3, d4] }
  | _ => none }
def ProofExactWrongFalsely : Prop := proofExactRow.holds Tryd.pinned (OpenSpec.ofChange proofExactWrong)

/-- 'guillochelaw09.ProofLoses': WHATEVER THE INPUT: true; the input reads as it did. -/
def proofLosesSpec : ChangeSpec := { name := "proofLoses", fn := fun _ => fun
  | [d1, d2, d3, d4, d5] => { results := [.lit (.bool true)], args := [d1, d2, d3, d4, d5] }
  | _ => none }
def proofLosesRow : OpenClaim := { program := "ytcocengpekndjaadoor", sum := "5b17e6567cdc0f9c732d8ce696f26c9e9ad37db859d57e17b1c9107c00299bfd", func := "guilloche/guillochelaw09.ProofLoses", spec := "proofLoses", unfollowed := true, recurses := true, named := ["guilloche/proof.rounds"], apart := false, laid := [("guilloche/proof.rounds", laid_guilloche_proof_rounds)] }
def ProofLosesSaid : Prop := proofLosesRow.holds Tryd.pinned (OpenSpec.ofChange proofLosesSpec)

/-- ITS FALSE NEIGHBOUR: 'it returns false'. Refute it at one input. -/
def proofLosesWrong : ChangeSpec := { name := "proofLoses", fn := fun _ => fun
  | [d1, d2, d3, d4, d5] => { results := [.lit (.bool false)], args := [d1, d2, d3, d4, d5] }
  | _ => none }
def ProofLosesWrongFalsely : Prop := proofLosesRow.holds Tryd.pinned (OpenSpec.ofChange proofLosesWrong)

/-- 'guillochelaw09.ProofHolds': WHATEVER THE INPUT: true; the input reads as it did. -/
def proofHoldsSpec : ChangeSpec := { name := "proofHolds", fn := fun _ => fun
  | [d1, d2, d3, d4, d5] => { results := [.lit (.bool true)], args := [d1, d2, d3, d4, d5] }
  | _ => none }
def proofHoldsRow : OpenClaim := { program := "ytcocengpekndjaadoor", sum := "5b17e6567cdc0f9c732d8ce696f26c9e9ad37db859d57e17b1c9107c00299bfd", func := "guilloche/guillochelaw09.ProofHolds", spec := "proofHolds", unfollowed := true, recurses := true, named := ["guilloche/proof.rounds"], apart := false, laid := [("guilloche/proof.rounds", laid_guilloche_proof_rounds)] }
def ProofHoldsSaid : Prop := proofHoldsRow.holds Tryd.pinned (OpenSpec.ofChange proofHoldsSpec)

/-- ITS FALSE NEIGHBOUR: 'it returns false'. Refute it at one input. -/
def proofHoldsWrong : ChangeSpec := { name := "proofHolds", fn := fun _ => fun
  | [d1, d2, d3, d4, d5] => { results := [.lit (.bool false)], args := [d1, d2, d3, d4, d5] }
  | _ => none }
def ProofHoldsWrongFalsely : Prop := proofHoldsRow.holds Tryd.pinned (OpenSpec.ofChange proofHoldsWrong)

/-- 'guillochelaw09.ProofExtends': WHATEVER THE INPUT: true; the input reads as it did. -/
def proofExtendsSpec : ChangeSpec := { name := "proofExtends", fn := fun _ => fun
  | [d1, d2] => { results := [.lit (.bool true)], args := [d1, d2] }
  | _ => none }
def proofExtendsRow : OpenClaim := { program := "ytcocengpekndjaadoor", sum := "5b17e6567cdc0f9c732d8ce696f26c9e9ad37db859d57e17b1c9107c00299bfd", func := "guilloche/guillochelaw09.ProofExtends", spec := "proofExtends", unfollowed := true, recurses := true, named := ["guilloche/proof.rounds"], apart := false, laid := [("guilloche/proof.rounds", laid_guilloche_proof_rounds)] }
def ProofExtendsSaid : Prop := proofExtendsRow.holds Tryd.pinned (OpenSpec.ofChange proofExtendsSpec)

/-- ITS FALSE NEIGHBOUR: 'it returns false'. Refute it at one input. -/
def proofExtendsWrong : ChangeSpec := { name := "proofExtends", fn := fun _ => fun
  | [d1, d2] => { results := [.lit (.bool false)], args := [d1, d2] }
  | _ => none }
def ProofExtendsWrongFalsely : Prop := proofExtendsRow.holds Tryd.pinned (OpenSpec.ofChange proofExtendsWrong)

/-- 'guillochelaw09.ProofGrows': WHATEVER THE INPUT: true; the input reads as it did. -/
def proofGrowsSpec : ChangeSpec := { name := "proofGrows", fn := fun _ => fun
  | [d1, d2, d3, d4] => { results := [.lit (.bool true)], args := [d1, d2, d3, d4] }
  | _ => none }
def proofGrowsRow : OpenClaim := { program := "ytcocengpekndjaadoor", sum := "5b17e6567cdc0f9c732d8ce696f26c9e9ad37db859d57e17b1c9107c00299bfd", func := "guilloche/guillochelaw09.ProofGrows", spec := "proofGrows", unfollowed := true, recurses := true, named := ["guilloche/proof.rounds"], apart := false, laid := [("guilloche/proof.rounds", laid_guilloche_proof_rounds)] }
def ProofGrowsSaid : Prop := proofGrowsRow.holds Tryd.pinned (OpenSpec.ofChange proofGrowsSpec)

/-- ITS FALSE NEIGHBOUR: 'it returns false'. Refute it at one input. -/
def proofGrowsWrong : ChangeSpec := { name := "proofGrows", fn := fun _ => fun
  | [d1, d2, d3, d4] => { results := [.lit (.bool false)], args := [d1, d2, d3, d4] }
  | _ => none }
def ProofGrowsWrongFalsely : Prop := proofGrowsRow.holds Tryd.pinned (OpenSpec.ofChange proofGrowsWrong)

/- THE SECOND FORM. 'bulk': how many values and letters a reading holds, each counted each time it is reached (what is shared counts as often as it is met; a slice's spare places count too). A statement '..UptoSaid' is the law's where the arguments, and the package variables that the reading takes, are together of bulk at most 1048576: NARROWER than '..Said'. Prove '..Said' where nothing that the law and all that it calls make is longer than what came in: it says more and counts as full. Else prove '..UptoSaid'. A law counts once. -/
mutual
def uptoBulk {H : Type} : DataW H → Nat
  | .lit (.string bytes) => bytes.length + 1
  | .lit _ => 1
  | .nil => 1
  | .ptr d => uptoBulk d + 1
  | .slice elems spare => uptoBulkAll elems + uptoBulkAll spare + 1
  | .agg parts => uptoBulkAll parts + 1
  | .iface _ d => uptoBulk d + 1
  | .map entries => uptoBulkEntries entries + 1
  | .held _ => 1
def uptoBulkAll {H : Type} : List (DataW H) → Nat
  | [] => 0
  | d :: r => uptoBulk d + uptoBulkAll r
def uptoBulkEntries {H : Type} : List (Lit × DataW H) → Nat
  | [] => 0
  | x :: r => uptoBulkEntry x + uptoBulkEntries r
def uptoBulkEntry {H : Type} : Lit × DataW H → Nat
  | (.string bytes, d) => bytes.length + uptoBulk d + 1
  | (_, d) => uptoBulk d + 1
 end
def uptoSmall : (H : Type) → List (DataW H) → Bool := fun _ ds => decide (uptoBulkAll ds ≤ 1048576)
def OpenSpec.upto (s : _root_.Go.ChangeSpec) : _root_.Go.OpenSpec := { _root_.Go.OpenSpec.ofChange s with cond := some uptoSmall }

/-- 'guillochelaw09.ProofSums', WHERE WHAT IT READS IS OF BULK AT MOST 1048576: true; the input reads as it did. -/
def proofSumsUptoRow : OpenClaim := { program := "ytcocengpekndjaadoor", sum := "5b17e6567cdc0f9c732d8ce696f26c9e9ad37db859d57e17b1c9107c00299bfd", func := "guilloche/guillochelaw09.ProofSums", spec := "proofSums", unfollowed := true, recurses := true, named := ["guilloche/proof.rounds"], apart := false, laid := [("guilloche/proof.rounds", laid_guilloche_proof_rounds)], narrowed := true }
def ProofSumsUptoSaid : Prop := proofSumsUptoRow.holds Tryd.pinned (OpenSpec.upto proofSumsSpec)

/-- 'guillochelaw09.ProofAccepts', WHERE WHAT IT READS IS OF BULK AT MOST 1048576: true; the input reads as it did. -/
def proofAcceptsUptoRow : OpenClaim := { program := "ytcocengpekndjaadoor", sum := "5b17e6567cdc0f9c732d8ce696f26c9e9ad37db859d57e17b1c9107c00299bfd", func := "guilloche/guillochelaw09.ProofAccepts", spec := "proofAccepts", unfollowed := true, recurses := true, named := ["guilloche/proof.rounds"], apart := false, laid := [("guilloche/proof.rounds", laid_guilloche_proof_rounds)], narrowed := true }
def ProofAcceptsUptoSaid : Prop := proofAcceptsUptoRow.holds Tryd.pinned (OpenSpec.upto proofAcceptsSpec)

/-- 'guillochelaw09.ProofRanges', WHERE WHAT IT READS IS OF BULK AT MOST 1048576: true; the input reads as it did. -/
def proofRangesUptoRow : OpenClaim := { program := "ytcocengpekndjaadoor", sum := "5b17e6567cdc0f9c732d8ce696f26c9e9ad37db859d57e17b1c9107c00299bfd", func := "guilloche/guillochelaw09.ProofRanges", spec := "proofRanges", unfollowed := true, recurses := true, named := ["guilloche/proof.rounds"], apart := false, laid := [("guilloche/proof.rounds", laid_guilloche_proof_rounds)], narrowed := true }
def ProofRangesUptoSaid : Prop := proofRangesUptoRow.holds Tryd.pinned (OpenSpec.upto proofRangesSpec)

/-- 'guillochelaw09.ProofUnusable', WHERE WHAT IT READS IS OF BULK AT MOST 1048576: true; the input reads as it did. -/
def proofUnusableUptoRow : OpenClaim := { program := "ytcocengpekndjaadoor", sum := "5b17e6567cdc0f9c732d8ce696f26c9e9ad37db859d57e17b1c9107c00299bfd", func := "guilloche/guillochelaw09.ProofUnusable", spec := "proofUnusable", unfollowed := true, recurses := true, named := ["guilloche/proof.rounds"], apart := false, laid := [("guilloche/proof.rounds", laid_guilloche_proof_rounds)], narrowed := true }
def ProofUnusableUptoSaid : Prop := proofUnusableUptoRow.holds Tryd.pinned (OpenSpec.upto proofUnusableSpec)

/-- 'guillochelaw09.ProofVerifies', WHERE WHAT IT READS IS OF BULK AT MOST 1048576: true; the input reads as it did. -/
def proofVerifiesUptoRow : OpenClaim := { program := "ytcocengpekndjaadoor", sum := "5b17e6567cdc0f9c732d8ce696f26c9e9ad37db859d57e17b1c9107c00299bfd", func := "guilloche/guillochelaw09.ProofVerifies", spec := "proofVerifies", unfollowed := true, recurses := true, named := ["guilloche/proof.rounds"], apart := false, laid := [("guilloche/proof.rounds", laid_guilloche_proof_rounds)], narrowed := true }
def ProofVerifiesUptoSaid : Prop := proofVerifiesUptoRow.holds Tryd.pinned (OpenSpec.upto proofVerifiesSpec)

/-- 'guillochelaw09.ProofRoots', WHERE WHAT IT READS IS OF BULK AT MOST 1048576: true; the input reads as it did. -/
def proofRootsUptoRow : OpenClaim := { program := "ytcocengpekndjaadoor", sum := "5b17e6567cdc0f9c732d8ce696f26c9e9ad37db859d57e17b1c9107c00299bfd", func := "guilloche/guillochelaw09.ProofRoots", spec := "proofRoots", unfollowed := true, recurses := true, named := ["guilloche/proof.rounds"], apart := false, laid := [("guilloche/proof.rounds", laid_guilloche_proof_rounds)], narrowed := true }
def ProofRootsUptoSaid : Prop := proofRootsUptoRow.holds Tryd.pinned (OpenSpec.upto proofRootsSpec)

/-- 'guillochelaw09.ProofGrowths', WHERE WHAT IT READS IS OF BULK AT MOST 1048576: true; the input reads as it did. -/
def proofGrowthsUptoRow : OpenClaim := { program := "ytcocengpekndjaadoor", sum := "5b17e6567cdc0f9c732d8ce696f26c9e9ad37db859d57e17b1c9107c00299bfd", func := "guilloche/guillochelaw09.ProofGrowths", spec := "proofGrowths", unfollowed := true, recurses := true, named := ["guilloche/proof.rounds"], apart := false, laid := [("guilloche/proof.rounds", laid_guilloche_proof_rounds)], narrowed := true }
def ProofGrowthsUptoSaid : Prop := proofGrowthsUptoRow.holds Tryd.pinned (OpenSpec.upto proofGrowthsSpec)

/-- 'guillochelaw09.ProofMaps', WHERE WHAT IT READS IS OF BULK AT MOST 1048576: true; the input reads as it did. -/
def proofMapsUptoRow : OpenClaim := { program := "ytcocengpekndjaadoor", sum := "5b17e6567cdc0f9c732d8ce696f26c9e9ad37db859d57e17b1c9107c00299bfd", func := "guilloche/guillochelaw09.ProofMaps", spec := "proofMaps", unfollowed := true, recurses := true, named := ["guilloche/proof.rounds"], apart := false, laid := [("guilloche/proof.rounds", laid_guilloche_proof_rounds)], narrowed := true }
def ProofMapsUptoSaid : Prop := proofMapsUptoRow.holds Tryd.pinned (OpenSpec.upto proofMapsSpec)

/-- 'guillochelaw09.ProofTrue', WHERE WHAT IT READS IS OF BULK AT MOST 1048576: true; the input reads as it did. -/
def proofTrueUptoRow : OpenClaim := { program := "ytcocengpekndjaadoor", sum := "5b17e6567cdc0f9c732d8ce696f26c9e9ad37db859d57e17b1c9107c00299bfd", func := "guilloche/guillochelaw09.ProofTrue", spec := "proofTrue", unfollowed := true, recurses := true, named := ["guilloche/proof.rounds"], apart := false, laid := [("guilloche/proof.rounds", laid_guilloche_proof_rounds)], narrowed := true }
def ProofTrueUptoSaid : Prop := proofTrueUptoRow.holds Tryd.pinned (OpenSpec.upto proofTrueSpec)

/-- 'guillochelaw09.ProofExact', WHERE WHAT IT READS IS OF BULK AT MOST 1048576: true; the input reads as it did. -/
def proofExactUptoRow : OpenClaim := { program := "ytcocengpekndjaadoor", sum := "5b17e6567cdc0f9c732d8ce696f26c9e9ad37db859d57e17b1c9107c00299bfd", func := "guilloche/guillochelaw09.ProofExact", spec := "proofExact", unfollowed := true, recurses := true, named := ["guilloche/proof.rounds"], apart := false, laid := [("guilloche/proof.rounds", laid_guilloche_proof_rounds)], narrowed := true }
def ProofExactUptoSaid : Prop := proofExactUptoRow.holds Tryd.pinned (OpenSpec.upto proofExactSpec)

/-- 'guillochelaw09.ProofLoses', WHERE WHAT IT READS IS OF BULK AT MOST 1048576: true; the input reads as it did. -/
def proofLosesUptoRow : OpenClaim := { program := "ytcocengpekndjaadoor", sum := "5b17e6567cdc0f9c732d8ce696f26c9e9ad37db859d57e17b1c9107c00299bfd", func := "guilloche/guillochelaw09.ProofLoses", spec := "proofLoses", unfollowed := true, recurses := true, named := ["guilloche/proof.rounds"], apart := false, laid := [("guilloche/proof.rounds", laid_guilloche_proof_rounds)], narrowed := true }
def ProofLosesUptoSaid : Prop := proofLosesUptoRow.holds Tryd.pinned (OpenSpec.upto proofLosesSpec)

/-- 'guillochelaw09.ProofHolds', WHERE WHAT IT READS IS OF BULK AT MOST 1048576: true; the input reads as it did. -/
def proofHoldsUptoRow : OpenClaim := { program := "ytcocengpekndjaadoor", sum := "5b17e6567cdc0f9c732d8ce696f26c9e9ad37db859d57e17b1c9107c00299bfd", func := "guilloche/guillochelaw09.ProofHolds", spec := "proofHolds", unfollowed := true, recurses := true, named := ["guilloche/proof.rounds"], apart := false, laid := [("guilloche/proof.rounds", laid_guilloche_proof_rounds)], narrowed := true }
def ProofHoldsUptoSaid : Prop := proofHoldsUptoRow.holds Tryd.pinned (OpenSpec.upto proofHoldsSpec)

/-- 'guillochelaw09.ProofExtends', WHERE WHAT IT READS IS OF BULK AT MOST 1048576: true; the input reads as it did. -/
def proofExtendsUptoRow : OpenClaim := { program := "ytcocengpekndjaadoor", sum := "5b17e6567cdc0f9c732d8ce696f26c9e9ad37db859d57e17b1c9107c00299bfd", func := "guilloche/guillochelaw09.ProofExtends", spec := "proofExtends", unfollowed := true, recurses := true, named := ["guilloche/proof.rounds"], apart := false, laid := [("guilloche/proof.rounds", laid_guilloche_proof_rounds)], narrowed := true }
def ProofExtendsUptoSaid : Prop := proofExtendsUptoRow.holds Tryd.pinned (OpenSpec.upto proofExtendsSpec)

/-- 'guillochelaw09.ProofGrows', WHERE WHAT IT READS IS OF BULK AT MOST 1048576: true; the input reads as it did. -/
def proofGrowsUptoRow : OpenClaim := { program := "ytcocengpekndjaadoor", sum := "5b17e6567cdc0f9c732d8ce696f26c9e9ad37db859d57e17b1c9107c00299bfd", func := "guilloche/guillochelaw09.ProofGrows", spec := "proofGrows", unfollowed := true, recurses := true, named := ["guilloche/proof.rounds"], apart := false, laid := [("guilloche/proof.rounds", laid_guilloche_proof_rounds)], narrowed := true }
def ProofGrowsUptoSaid : Prop := proofGrowsUptoRow.holds Tryd.pinned (OpenSpec.upto proofGrowsSpec)

end Rows
end Go.Proofs.YtcocengpekndjaaDoor
