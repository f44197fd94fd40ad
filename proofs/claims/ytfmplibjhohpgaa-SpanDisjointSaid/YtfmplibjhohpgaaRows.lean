/-
  No cell of these rows narrows 'for every input' (looked for: loops, veiled, ifaces, maps, wideKeys, modest, calm, conditions, laid).
  DERIVED. THE GIVEN ROWS OF THIS SEAT. 15 by the template 'for every input the law returns true; each argument reads behind the call as it read before'; 0 by the template 'total and deterministic' (their statements: YtfmplibjhohpgaaTotals.lean).
  GIVEN WITH THE SEED: the statements are not yours to turn. If you find one false, say at which input.
  Laid BY PROGRAM, IN A SANDBOX (cutbox-rows.mjs): the forced cells as the released guide's own fill.sh prints them over the translation f602e5a2ceea3082… (all of the seat's roots in one cut). By AI agents, Wed Nov 11 2026. No macro, syntax, notation, axiom, sorry.
-/
import Derived.Test.YtfmplibjhohpgaaChecked
import GoSem.Claim
import GoSem.ClaimJoined
import GoSem.ClaimMapViews
import Derived.JoinedTies
import Derived.KernelRfl
namespace Go.Proofs.Ytfmplibjhohpgaa
/- THE CELL 'sum', in the pinned program and in every row, IS THE sha256 OF THE DUMP (.gsa) THAT YtfmplibjhohpgaaProg.lean LOADS. Nothing in Lean hashes anything: it is a label: what it is worth is what the hold of that sum in a sandbox is worth. -/
noncomputable def Try.pinned : Pinned := { name := "ytfmplibjhohpgaa", sum := "f602e5a2ceea3082ef3684e36d65e597f187c9a3a3266cf2966bf59672d0c382", checked := Try.checked }
namespace Rows
def none {H : Type} : Left H := { results := [], args := [] }

/-- 'guillochelaw03.SpanFroms': WHATEVER THE INPUT: true; the input reads as it did. -/
def spanFromsSpec : ChangeSpec := { name := "spanFroms", fn := fun _ => fun
  | [d1, d2] => { results := [.lit (.bool true)], args := [d1, d2] }
  | _ => none }
def spanFromsRow : OpenClaim := { program := "ytfmplibjhohpgaa", sum := "f602e5a2ceea3082ef3684e36d65e597f187c9a3a3266cf2966bf59672d0c382", func := "guilloche/guillochelaw03.SpanFroms", spec := "spanFroms", unfollowed := true, recurses := true, apart := false }
def SpanFromsSaid : Prop := spanFromsRow.holds Try.pinned (OpenSpec.ofChange spanFromsSpec)

/-- ITS FALSE NEIGHBOUR: 'it returns false'. Refute it at one input. -/
def spanFromsWrong : ChangeSpec := { name := "spanFroms", fn := fun _ => fun
  | [d1, d2] => { results := [.lit (.bool false)], args := [d1, d2] }
  | _ => none }
def SpanFromsWrongFalsely : Prop := spanFromsRow.holds Try.pinned (OpenSpec.ofChange spanFromsWrong)

/-- 'guillochelaw03.SpanPieces': WHATEVER THE INPUT: true; the input reads as it did. -/
def spanPiecesSpec : ChangeSpec := { name := "spanPieces", fn := fun _ => fun
  | [d1, d2, d3, d4] => { results := [.lit (.bool true)], args := [d1, d2, d3, d4] }
  | _ => none }
def spanPiecesRow : OpenClaim := { program := "ytfmplibjhohpgaa", sum := "f602e5a2ceea3082ef3684e36d65e597f187c9a3a3266cf2966bf59672d0c382", func := "guilloche/guillochelaw03.SpanPieces", spec := "spanPieces", unfollowed := true, recurses := true, apart := false }
def SpanPiecesSaid : Prop := spanPiecesRow.holds Try.pinned (OpenSpec.ofChange spanPiecesSpec)

/-- ITS FALSE NEIGHBOUR: 'it returns false'. Refute it at one input. -/
def spanPiecesWrong : ChangeSpec := { name := "spanPieces", fn := fun _ => fun
  | [d1, d2, d3, d4] => { results := [.lit (.bool false)], args := [d1, d2, d3, d4] }
  | _ => none }
def SpanPiecesWrongFalsely : Prop := spanPiecesRow.holds Try.pinned (OpenSpec.ofChange spanPiecesWrong)

/-- 'guillochelaw03.SpanFinds': WHATEVER THE INPUT: true; the input reads as it did. -/
def spanFindsSpec : ChangeSpec := { name := "spanFinds", fn := fun _ => fun
  | [d1, d2, d3] => { results := [.lit (.bool true)], args := [d1, d2, d3] }
  | _ => none }
def spanFindsRow : OpenClaim := { program := "ytfmplibjhohpgaa", sum := "f602e5a2ceea3082ef3684e36d65e597f187c9a3a3266cf2966bf59672d0c382", func := "guilloche/guillochelaw03.SpanFinds", spec := "spanFinds", unfollowed := true, recurses := true, apart := false }
def SpanFindsSaid : Prop := spanFindsRow.holds Try.pinned (OpenSpec.ofChange spanFindsSpec)

/-- ITS FALSE NEIGHBOUR: 'it returns false'. Refute it at one input. -/
def spanFindsWrong : ChangeSpec := { name := "spanFinds", fn := fun _ => fun
  | [d1, d2, d3] => { results := [.lit (.bool false)], args := [d1, d2, d3] }
  | _ => none }
def SpanFindsWrongFalsely : Prop := spanFindsRow.holds Try.pinned (OpenSpec.ofChange spanFindsWrong)

/-- 'guillochelaw03.SpanPlays': WHATEVER THE INPUT: true; the input reads as it did. -/
def spanPlaysSpec : ChangeSpec := { name := "spanPlays", fn := fun _ => fun
  | [d1, d2] => { results := [.lit (.bool true)], args := [d1, d2] }
  | _ => none }
def spanPlaysRow : OpenClaim := { program := "ytfmplibjhohpgaa", sum := "f602e5a2ceea3082ef3684e36d65e597f187c9a3a3266cf2966bf59672d0c382", func := "guilloche/guillochelaw03.SpanPlays", spec := "spanPlays", unfollowed := true, recurses := true, apart := false }
def SpanPlaysSaid : Prop := spanPlaysRow.holds Try.pinned (OpenSpec.ofChange spanPlaysSpec)

/-- ITS FALSE NEIGHBOUR: 'it returns false'. Refute it at one input. -/
def spanPlaysWrong : ChangeSpec := { name := "spanPlays", fn := fun _ => fun
  | [d1, d2] => { results := [.lit (.bool false)], args := [d1, d2] }
  | _ => none }
def SpanPlaysWrongFalsely : Prop := spanPlaysRow.holds Try.pinned (OpenSpec.ofChange spanPlaysWrong)

/-- 'guillochelaw03.SpanCounts': WHATEVER THE INPUT: true; the input reads as it did. -/
def spanCountsSpec : ChangeSpec := { name := "spanCounts", fn := fun _ => fun
  | [d1, d2, d3, d4] => { results := [.lit (.bool true)], args := [d1, d2, d3, d4] }
  | _ => none }
def spanCountsRow : OpenClaim := { program := "ytfmplibjhohpgaa", sum := "f602e5a2ceea3082ef3684e36d65e597f187c9a3a3266cf2966bf59672d0c382", func := "guilloche/guillochelaw03.SpanCounts", spec := "spanCounts", unfollowed := true, recurses := true, apart := false }
def SpanCountsSaid : Prop := spanCountsRow.holds Try.pinned (OpenSpec.ofChange spanCountsSpec)

/-- ITS FALSE NEIGHBOUR: 'it returns false'. Refute it at one input. -/
def spanCountsWrong : ChangeSpec := { name := "spanCounts", fn := fun _ => fun
  | [d1, d2, d3, d4] => { results := [.lit (.bool false)], args := [d1, d2, d3, d4] }
  | _ => none }
def SpanCountsWrongFalsely : Prop := spanCountsRow.holds Try.pinned (OpenSpec.ofChange spanCountsWrong)

/-- 'guillochelaw03.SpanPatches': WHATEVER THE INPUT: true; the input reads as it did. -/
def spanPatchesSpec : ChangeSpec := { name := "spanPatches", fn := fun _ => fun
  | [d1, d2, d3] => { results := [.lit (.bool true)], args := [d1, d2, d3] }
  | _ => none }
def spanPatchesRow : OpenClaim := { program := "ytfmplibjhohpgaa", sum := "f602e5a2ceea3082ef3684e36d65e597f187c9a3a3266cf2966bf59672d0c382", func := "guilloche/guillochelaw03.SpanPatches", spec := "spanPatches", unfollowed := true, recurses := true, apart := false }
def SpanPatchesSaid : Prop := spanPatchesRow.holds Try.pinned (OpenSpec.ofChange spanPatchesSpec)

/-- ITS FALSE NEIGHBOUR: 'it returns false'. Refute it at one input. -/
def spanPatchesWrong : ChangeSpec := { name := "spanPatches", fn := fun _ => fun
  | [d1, d2, d3] => { results := [.lit (.bool false)], args := [d1, d2, d3] }
  | _ => none }
def SpanPatchesWrongFalsely : Prop := spanPatchesRow.holds Try.pinned (OpenSpec.ofChange spanPatchesWrong)

/-- 'guillochelaw03.SpanLooks': WHATEVER THE INPUT: true; the input reads as it did. -/
def spanLooksSpec : ChangeSpec := { name := "spanLooks", fn := fun _ => fun
  | [d1, d2, d3] => { results := [.lit (.bool true)], args := [d1, d2, d3] }
  | _ => none }
def spanLooksRow : OpenClaim := { program := "ytfmplibjhohpgaa", sum := "f602e5a2ceea3082ef3684e36d65e597f187c9a3a3266cf2966bf59672d0c382", func := "guilloche/guillochelaw03.SpanLooks", spec := "spanLooks", unfollowed := true, recurses := true, apart := false }
def SpanLooksSaid : Prop := spanLooksRow.holds Try.pinned (OpenSpec.ofChange spanLooksSpec)

/-- ITS FALSE NEIGHBOUR: 'it returns false'. Refute it at one input. -/
def spanLooksWrong : ChangeSpec := { name := "spanLooks", fn := fun _ => fun
  | [d1, d2, d3] => { results := [.lit (.bool false)], args := [d1, d2, d3] }
  | _ => none }
def SpanLooksWrongFalsely : Prop := spanLooksRow.holds Try.pinned (OpenSpec.ofChange spanLooksWrong)

/-- 'guillochelaw03.SpanFull': WHATEVER THE INPUT: true; the input reads as it did. -/
def spanFullSpec : ChangeSpec := { name := "spanFull", fn := fun _ => fun
  | [d1, d2] => { results := [.lit (.bool true)], args := [d1, d2] }
  | _ => none }
def spanFullRow : OpenClaim := { program := "ytfmplibjhohpgaa", sum := "f602e5a2ceea3082ef3684e36d65e597f187c9a3a3266cf2966bf59672d0c382", func := "guilloche/guillochelaw03.SpanFull", spec := "spanFull", unfollowed := true, recurses := true, apart := false }
def SpanFullSaid : Prop := spanFullRow.holds Try.pinned (OpenSpec.ofChange spanFullSpec)

/-- ITS FALSE NEIGHBOUR: 'it returns false'. Refute it at one input. -/
def spanFullWrong : ChangeSpec := { name := "spanFull", fn := fun _ => fun
  | [d1, d2] => { results := [.lit (.bool false)], args := [d1, d2] }
  | _ => none }
def SpanFullWrongFalsely : Prop := spanFullRow.holds Try.pinned (OpenSpec.ofChange spanFullWrong)

/-- 'guillochelaw03.SpanUnusable': WHATEVER THE INPUT: true; the input reads as it did. -/
def spanUnusableSpec : ChangeSpec := { name := "spanUnusable", fn := fun _ => fun
  | [d1, d2] => { results := [.lit (.bool true)], args := [d1, d2] }
  | _ => none }
def spanUnusableRow : OpenClaim := { program := "ytfmplibjhohpgaa", sum := "f602e5a2ceea3082ef3684e36d65e597f187c9a3a3266cf2966bf59672d0c382", func := "guilloche/guillochelaw03.SpanUnusable", spec := "spanUnusable", unfollowed := true, recurses := true, apart := false }
def SpanUnusableSaid : Prop := spanUnusableRow.holds Try.pinned (OpenSpec.ofChange spanUnusableSpec)

/-- ITS FALSE NEIGHBOUR: 'it returns false'. Refute it at one input. -/
def spanUnusableWrong : ChangeSpec := { name := "spanUnusable", fn := fun _ => fun
  | [d1, d2] => { results := [.lit (.bool false)], args := [d1, d2] }
  | _ => none }
def SpanUnusableWrongFalsely : Prop := spanUnusableRow.holds Try.pinned (OpenSpec.ofChange spanUnusableWrong)

/-- 'guillochelaw03.SpanApplies': WHATEVER THE INPUT: true; the input reads as it did. -/
def spanAppliesSpec : ChangeSpec := { name := "spanApplies", fn := fun _ => fun
  | [d1, d2, d3] => { results := [.lit (.bool true)], args := [d1, d2, d3] }
  | _ => none }
def spanAppliesRow : OpenClaim := { program := "ytfmplibjhohpgaa", sum := "f602e5a2ceea3082ef3684e36d65e597f187c9a3a3266cf2966bf59672d0c382", func := "guilloche/guillochelaw03.SpanApplies", spec := "spanApplies", unfollowed := true, recurses := true, apart := false }
def SpanAppliesSaid : Prop := spanAppliesRow.holds Try.pinned (OpenSpec.ofChange spanAppliesSpec)

/-- ITS FALSE NEIGHBOUR: 'it returns false'. Refute it at one input. -/
def spanAppliesWrong : ChangeSpec := { name := "spanApplies", fn := fun _ => fun
  | [d1, d2, d3] => { results := [.lit (.bool false)], args := [d1, d2, d3] }
  | _ => none }
def SpanAppliesWrongFalsely : Prop := spanAppliesRow.holds Try.pinned (OpenSpec.ofChange spanAppliesWrong)

/-- 'guillochelaw03.SpanMerges': WHATEVER THE INPUT: true; the input reads as it did. -/
def spanMergesSpec : ChangeSpec := { name := "spanMerges", fn := fun _ => fun
  | [d1, d2, d3, d4] => { results := [.lit (.bool true)], args := [d1, d2, d3, d4] }
  | _ => none }
def spanMergesRow : OpenClaim := { program := "ytfmplibjhohpgaa", sum := "f602e5a2ceea3082ef3684e36d65e597f187c9a3a3266cf2966bf59672d0c382", func := "guilloche/guillochelaw03.SpanMerges", spec := "spanMerges", unfollowed := true, recurses := true, apart := false }
def SpanMergesSaid : Prop := spanMergesRow.holds Try.pinned (OpenSpec.ofChange spanMergesSpec)

/-- ITS FALSE NEIGHBOUR: 'it returns false'. Refute it at one input. -/
def spanMergesWrong : ChangeSpec := { name := "spanMerges", fn := fun _ => fun
  | [d1, d2, d3, d4] => { results := [.lit (.bool false)], args := [d1, d2, d3, d4] }
  | _ => none }
def SpanMergesWrongFalsely : Prop := spanMergesRow.holds Try.pinned (OpenSpec.ofChange spanMergesWrong)

/-- 'guillochelaw03.SpanDiffs': WHATEVER THE INPUT: true; the input reads as it did. -/
def spanDiffsSpec : ChangeSpec := { name := "spanDiffs", fn := fun _ => fun
  | [d1, d2, d3, d4] => { results := [.lit (.bool true)], args := [d1, d2, d3, d4] }
  | _ => none }
def spanDiffsRow : OpenClaim := { program := "ytfmplibjhohpgaa", sum := "f602e5a2ceea3082ef3684e36d65e597f187c9a3a3266cf2966bf59672d0c382", func := "guilloche/guillochelaw03.SpanDiffs", spec := "spanDiffs", unfollowed := true, recurses := true, apart := false }
def SpanDiffsSaid : Prop := spanDiffsRow.holds Try.pinned (OpenSpec.ofChange spanDiffsSpec)

/-- ITS FALSE NEIGHBOUR: 'it returns false'. Refute it at one input. -/
def spanDiffsWrong : ChangeSpec := { name := "spanDiffs", fn := fun _ => fun
  | [d1, d2, d3, d4] => { results := [.lit (.bool false)], args := [d1, d2, d3, d4] }
  | _ => none }
def SpanDiffsWrongFalsely : Prop := spanDiffsRow.holds Try.pinned (OpenSpec.ofChange spanDiffsWrong)

/-- 'guillochelaw03.SpanAlone': WHATEVER THE INPUT: true; the input reads as it did. -/
def spanAloneSpec : ChangeSpec := { name := "spanAlone", fn := fun _ => fun
  | [d1, d2, d3] => { results := [.lit (.bool true)], args := [d1, d2, d3] }
  | _ => none }
def spanAloneRow : OpenClaim := { program := "ytfmplibjhohpgaa", sum := "f602e5a2ceea3082ef3684e36d65e597f187c9a3a3266cf2966bf59672d0c382", func := "guilloche/guillochelaw03.SpanAlone", spec := "spanAlone", unfollowed := true, recurses := true, apart := false }
def SpanAloneSaid : Prop := spanAloneRow.holds Try.pinned (OpenSpec.ofChange spanAloneSpec)

/-- ITS FALSE NEIGHBOUR: 'it returns false'. Refute it at one input. -/
def spanAloneWrong : ChangeSpec := { name := "spanAlone", fn := fun _ => fun
  | [d1, d2, d3] => { results := [.lit (.bool false)], args := [d1, d2, d3] }
  | _ => none }
def SpanAloneWrongFalsely : Prop := spanAloneRow.holds Try.pinned (OpenSpec.ofChange spanAloneWrong)

/-- 'guillochelaw03.SpanSides': WHATEVER THE INPUT: true; the input reads as it did. -/
def spanSidesSpec : ChangeSpec := { name := "spanSides", fn := fun _ => fun
  | [d1, d2, d3, d4] => { results := [.lit (.bool true)], args := [d1, d2, d3, d4] }
  | _ => none }
def spanSidesRow : OpenClaim := { program := "ytfmplibjhohpgaa", sum := "f602e5a2ceea3082ef3684e36d65e597f187c9a3a3266cf2966bf59672d0c382", func := "guilloche/guillochelaw03.SpanSides", spec := "spanSides", unfollowed := true, recurses := true, apart := false }
def SpanSidesSaid : Prop := spanSidesRow.holds Try.pinned (OpenSpec.ofChange spanSidesSpec)

/-- ITS FALSE NEIGHBOUR: 'it returns false'. Refute it at one input. -/
def spanSidesWrong : ChangeSpec := { name := "spanSides", fn := fun _ => fun
  | [d1, d2, d3, d4] => { results := [.lit (.bool false)], args := [d1, d2, d3, d4] }
  | _ => none }
def SpanSidesWrongFalsely : Prop := spanSidesRow.holds Try.pinned (OpenSpec.ofChange spanSidesWrong)

/-- 'guillochelaw03.SpanDisjoint': WHATEVER THE INPUT: true; the input reads as it did. -/
def spanDisjointSpec : ChangeSpec := { name := "spanDisjoint", fn := fun _ => fun
  | [d1, d2, d3, d4] => { results := [.lit (.bool true)], args := [d1, d2, d3, d4] }
  | _ => none }
def spanDisjointRow : OpenClaim := { program := "ytfmplibjhohpgaa", sum := "f602e5a2ceea3082ef3684e36d65e597f187c9a3a3266cf2966bf59672d0c382", func := "guilloche/guillochelaw03.SpanDisjoint", spec := "spanDisjoint", unfollowed := true, recurses := true, apart := false }
def SpanDisjointSaid : Prop := spanDisjointRow.holds Try.pinned (OpenSpec.ofChange spanDisjointSpec)

/-- ITS FALSE NEIGHBOUR: 'it returns false'. Refute it at one input. -/
def spanDisjointWrong : ChangeSpec := { name := "spanDisjoint", fn := fun _ => fun
  | [d1, d2, d3, d4] => { results := [.lit (.bool false)], args := [d1, d2, d3, d4] }
  | _ => none }
def SpanDisjointWrongFalsely : Prop := spanDisjointRow.holds Try.pinned (OpenSpec.ofChange spanDisjointWrong)

/- THE SECOND FORM. 'bulk': how many values and letters a reading holds, each counted each time it is reached (what is shared counts as often as it is met; a slice's spare places count too). A statement '..UptoSaid' is the law's where the arguments, and the package variables that the reading takes, are together of bulk at most 1048576: NARROWER than '..Said'. Prove '..Said' where nothing that the law and all that it calls make is longer than what came in: it says more and counts as full. Else prove '..UptoSaid'. A law counts once. -/
mutual
def uptoBulk {H : Type} : DataW H → Nat
  | .lit (.string bytes) => bytes.length + 1
  | .lit _ => 1
  | .nil => 1
  | .ptr d => uptoBulk d + 1
  | .slice elems spare => uptoBulkAll elems + uptoBulkAll spare + 1
  | .agg parts => uptoBulkAll parts + 1
  | .iface _ d => uptoBulk d + 1
  | .map entries => uptoBulkEntries entries + 1
  | .held _ => 1
def uptoBulkAll {H : Type} : List (DataW H) → Nat
  | [] => 0
  | d :: r => uptoBulk d + uptoBulkAll r
def uptoBulkEntries {H : Type} : List (Lit × DataW H) → Nat
  | [] => 0
  | x :: r => uptoBulkEntry x + uptoBulkEntries r
def uptoBulkEntry {H : Type} : Lit × DataW H → Nat
  | (.string bytes, d) => bytes.length + uptoBulk d + 1
  | (_, d) => uptoBulk d + 1
 end
def uptoSmall : (H : Type) → List (DataW H) → Bool := fun _ ds => decide (uptoBulkAll ds ≤ 1048576)
def OpenSpec.upto (s : _root_.Go.ChangeSpec) : _root_.Go.OpenSpec := { _root_.Go.OpenSpec.ofChange s with cond := some uptoSmall }

/-- 'guillochelaw03.SpanFroms', WHERE WHAT IT READS IS OF BULK AT MOST 1048576: true; the input reads as it did. -/
def spanFromsUptoRow : OpenClaim := { program := "ytfmplibjhohpgaa", sum := "f602e5a2ceea3082ef3684e36d65e597f187c9a3a3266cf2966bf59672d0c382", func := "guilloche/guillochelaw03.SpanFroms", spec := "spanFroms", unfollowed := true, recurses := true, apart := false, narrowed := true }
def SpanFromsUptoSaid : Prop := spanFromsUptoRow.holds Try.pinned (OpenSpec.upto spanFromsSpec)

/-- 'guillochelaw03.SpanPieces', WHERE WHAT IT READS IS OF BULK AT MOST 1048576: true; the input reads as it did. -/
def spanPiecesUptoRow : OpenClaim := { program := "ytfmplibjhohpgaa", sum := "f602e5a2ceea3082ef3684e36d65e597f187c9a3a3266cf2966bf59672d0c382", func := "guilloche/guillochelaw03.SpanPieces", spec := "spanPieces", unfollowed := true, recurses := true, apart := false, narrowed := true }
def SpanPiecesUptoSaid : Prop := spanPiecesUptoRow.holds Try.pinned (OpenSpec.upto spanPiecesSpec)

/-- 'guillochelaw03.SpanFinds', WHERE WHAT IT READS IS OF BULK AT MOST 1048576: true; the input reads as it did. -/
def spanFindsUptoRow : OpenClaim := { program := "ytfmplibjhohpgaa", sum := "f602e5a2ceea3082ef3684e36d65e597f187c9a3a3266cf2966bf59672d0c382", func := "guilloche/guillochelaw03.SpanFinds", spec := "spanFinds", unfollowed := true, recurses := true, apart := false, narrowed := true }
def SpanFindsUptoSaid : Prop := spanFindsUptoRow.holds Try.pinned (OpenSpec.upto spanFindsSpec)

/-- 'guillochelaw03.SpanPlays', WHERE WHAT IT READS IS OF BULK AT MOST 1048576: true; the input reads as it did. -/
def spanPlaysUptoRow : OpenClaim := { program := "ytfmplibjhohpgaa", sum := "f602e5a2ceea3082ef3684e36d65e597f187c9a3a3266cf2966bf59672d0c382", func := "guilloche/guillochelaw03.SpanPlays", spec := "spanPlays", unfollowed := true, recurses := true, apart := false, narrowed := true }
def SpanPlaysUptoSaid : Prop := spanPlaysUptoRow.holds Try.pinned (OpenSpec.upto spanPlaysSpec)

/-- 'guillochelaw03.SpanCounts', WHERE WHAT IT READS IS OF BULK AT MOST 1048576: true; the input reads as it did. -/
def spanCountsUptoRow : OpenClaim := { program := "ytfmplibjhohpgaa", sum := "f602e5a2ceea3082ef3684e36d65e597f187c9a3a3266cf2966bf59672d0c382", func := "guilloche/guillochelaw03.SpanCounts", spec := "spanCounts", unfollowed := true, recurses := true, apart := false, narrowed := true }
def SpanCountsUptoSaid : Prop := spanCountsUptoRow.holds Try.pinned (OpenSpec.upto spanCountsSpec)

/-- 'guillochelaw03.SpanPatches', WHERE WHAT IT READS IS OF BULK AT MOST 1048576: true; the input reads as it did. -/
def spanPatchesUptoRow : OpenClaim := { program := "ytfmplibjhohpgaa", sum := "f602e5a2ceea3082ef3684e36d65e597f187c9a3a3266cf2966bf59672d0c382", func := "guilloche/guillochelaw03.SpanPatches", spec := "spanPatches", unfollowed := true, recurses := true, apart := false, narrowed := true }
def SpanPatchesUptoSaid : Prop := spanPatchesUptoRow.holds Try.pinned (OpenSpec.upto spanPatchesSpec)

/-- 'guillochelaw03.SpanLooks', WHERE WHAT IT READS IS OF BULK AT MOST 1048576: true; the input reads as it did. -/
def spanLooksUptoRow : OpenClaim := { program := "ytfmplibjhohpgaa", sum := "f602e5a2ceea3082ef3684e36d65e597f187c9a3a3266cf2966bf59672d0c382", func := "guilloche/guillochelaw03.SpanLooks", spec := "spanLooks", unfollowed := true, recurses := true, apart := false, narrowed := true }
def SpanLooksUptoSaid : Prop := spanLooksUptoRow.holds Try.pinned (OpenSpec.upto spanLooksSpec)

/-- 'guillochelaw03.SpanFull', WHERE WHAT IT READS IS OF BULK AT MOST 1048576: true; the input reads as it did. -/
def spanFullUptoRow : OpenClaim := { program := "ytfmplibjhohpgaa", sum := "f602e5a2ceea3082ef3684e36d65e597f187c9a3a3266cf2966bf59672d0c382", func := "guilloche/guillochelaw03.SpanFull", spec := "spanFull", unfollowed := true, recurses := true, apart := false, narrowed := true }
def SpanFullUptoSaid : Prop := spanFullUptoRow.holds Try.pinned (OpenSpec.upto spanFullSpec)

/-- 'guillochelaw03.SpanUnusable', WHERE WHAT IT READS IS OF BULK AT MOST 1048576: true; the input reads as it did. -/
def spanUnusableUptoRow : OpenClaim := { program := "ytfmplibjhohpgaa", sum := "f602e5a2ceea3082ef3684e36d65e597f187c9a3a3266cf2966bf59672d0c382", func := "guilloche/guillochelaw03.SpanUnusable", spec := "spanUnusable", unfollowed := true, recurses := true, apart := false, narrowed := true }
def SpanUnusableUptoSaid : Prop := spanUnusableUptoRow.holds Try.pinned (OpenSpec.upto spanUnusableSpec)

/-- 'guillochelaw03.SpanApplies', WHERE WHAT IT READS IS OF BULK AT MOST 1048576: true; the input reads as it did. -/
def spanAppliesUptoRow : OpenClaim := { program := "ytfmplibjhohpgaa", sum := "f602e5a2ceea3082ef3684e36d65e597f187c9a3a3266cf2966bf59672d0c382", func := "guilloche/guillochelaw03.SpanApplies", spec := "spanApplies", unfollowed := true, recurses := true, apart := false, narrowed := true }
def SpanAppliesUptoSaid : Prop := spanAppliesUptoRow.holds Try.pinned (OpenSpec.upto spanAppliesSpec)

/-- 'guillochelaw03.SpanMerges', WHERE WHAT IT READS IS OF BULK AT MOST 1048576: true; the input reads as it did. -/
def spanMergesUptoRow : OpenClaim := { program := "ytfmplibjhohpgaa", sum := "f602e5a2ceea3082ef3684e36d65e597f187c9a3a3266cf2966bf59672d0c382", func := "guilloche/guillochelaw03.SpanMerges", spec := "spanMerges", unfollowed := true, recurses := true, apart := false, narrowed := true }
def SpanMergesUptoSaid : Prop := spanMergesUptoRow.holds Try.pinned (OpenSpec.upto spanMergesSpec)

/-- 'guillochelaw03.SpanDiffs', WHERE WHAT IT READS IS OF BULK AT MOST 1048576: true; the input reads as it did. -/
def spanDiffsUptoRow : OpenClaim := { program := "ytfmplibjhohpgaa", sum := "f602e5a2ceea3082ef3684e36d65e597f187c9a3a3266cf2966bf59672d0c382", func := "guilloche/guillochelaw03.SpanDiffs", spec := "spanDiffs", unfollowed := true, recurses := true, apart := false, narrowed := true }
def SpanDiffsUptoSaid : Prop := spanDiffsUptoRow.holds Try.pinned (OpenSpec.upto spanDiffsSpec)

/-- 'guillochelaw03.SpanAlone', WHERE WHAT IT READS IS OF BULK AT MOST 1048576: true; the input reads as it did. -/
def spanAloneUptoRow : OpenClaim := { program := "ytfmplibjhohpgaa", sum := "f602e5a2ceea3082ef3684e36d65e597f187c9a3a3266cf2966bf59672d0c382", func := "guilloche/guillochelaw03.SpanAlone", spec := "spanAlone", unfollowed := true, recurses := true, apart := false, narrowed := true }
def SpanAloneUptoSaid : Prop := spanAloneUptoRow.holds Try.pinned (OpenSpec.upto spanAloneSpec)

/-- 'guillochelaw03.SpanSides', WHERE WHAT IT READS IS OF BULK AT MOST 1048576: true; the input reads as it did. -/
def spanSidesUptoRow : OpenClaim := { program := "ytfmplibjhohpgaa", sum := "f602e5a2ceea3082ef3684e36d65e597f187c9a3a3266cf2966bf59672d0c382", func := "guilloche/guillochelaw03.SpanSides", spec := "spanSides", unfollowed := true, recurses := true, apart := false, narrowed := true }
def SpanSidesUptoSaid : Prop := spanSidesUptoRow.holds Try.pinned (OpenSpec.upto spanSidesSpec)

/-- 'guillochelaw03.SpanDisjoint', WHERE WHAT IT READS IS OF BULK AT MOST 1048576: true; the input reads as it did. -/
def spanDisjointUptoRow : OpenClaim := { program := "ytfmplibjhohpgaa", sum := "f602e5a2ceea3082ef3684e36d65e597f187c9a3a3266cf2966bf59672d0c382", func := "guilloche/guillochelaw03.SpanDisjoint", spec := "spanDisjoint", unfollowed := true, recurses := true, apart := false, narrowed := true }
def SpanDisjointUptoSaid : Prop := spanDisjointUptoRow.holds Try.pinned (OpenSpec.upto spanDisjointSpec)

end Rows
end Go.Proofs.Ytfmplibjhohpgaa
