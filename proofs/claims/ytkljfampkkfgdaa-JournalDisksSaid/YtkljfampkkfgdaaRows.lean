/-
  No cell of these rows narrows 'for every input' (looked for: loops, veiled, ifaces, maps, wideKeys, modest, calm, conditions, laid).
  DERIVED. THE GIVEN ROWS OF THIS SEAT. 8 by the template 'for every input the law returns true; each argument reads behind the call as it read before'; 0 by the template 'total and deterministic' (their statements: YtkljfampkkfgdaaTotals.lean).
  GIVEN WITH THE SEED: the statements are not yours to turn. If you find one false, say at which input.
  Laid BY PROGRAM, IN A SANDBOX (cutbox-rows.mjs): the forced cells as the released guide's own fill.sh prints them over the translation 1b07805b66ae4342… (all of the seat's roots in one cut). By AI agents, Wed Nov 11 2026. No macro, syntax, notation, axiom, sorry.
-/
import Derived.Test.YtkljfampkkfgdaaChecked
import GoSem.Claim
import GoSem.ClaimJoined
import GoSem.ClaimMapViews
import Derived.JoinedTies
import Derived.KernelRfl
namespace Go.Proofs.Ytkljfampkkfgdaa
/- THE CELL 'sum', in the pinned program and in every row, IS THE sha256 OF THE DUMP (.gsa) THAT YtkljfampkkfgdaaProg.lean LOADS. Nothing in Lean hashes anything: it is a label: what it is worth is what the hold of that sum in a sandbox is worth. -/
noncomputable def Try.pinned : Pinned := { name := "ytkljfampkkfgdaa", sum := "1b07805b66ae4342041a1d954b9f1210f4f965004871fb473f29e839864c725d", checked := Try.checked }
namespace Rows
def none {H : Type} : Left H := { results := [], args := [] }

/-- 'guillochelaw07.JournalFills': WHATEVER THE INPUT: true; the input reads as it did. -/
def journalFillsSpec : ChangeSpec := { name := "journalFills", fn := fun _ => fun
  | [d1, d2] => { results := [.lit (.bool true)], args := [d1, d2] }
  | _ => none }
def journalFillsRow : OpenClaim := { program := "ytkljfampkkfgdaa", sum := "1b07805b66ae4342041a1d954b9f1210f4f965004871fb473f29e839864c725d", func := "guilloche/guillochelaw07.JournalFills", spec := "journalFills", unfollowed := true, recurses := true, apart := false }
def JournalFillsSaid : Prop := journalFillsRow.holds Try.pinned (OpenSpec.ofChange journalFillsSpec)

/-- ITS FALSE NEIGHBOUR: 'it returns false'. Refute it at one input. -/
def journalFillsWrong : ChangeSpec := { name := "journalFills", fn := fun _ => fun
  | [d1, d2] => { results := [.lit (.bool false)], args := [d1, d2] }
  | _ => none }
def JournalFillsWrongFalsely : Prop := journalFillsRow.holds Try.pinned (OpenSpec.ofChange journalFillsWrong)

/-- 'guillochelaw07.JournalClones': WHATEVER THE INPUT: true; the input reads as it did. -/
def journalClonesSpec : ChangeSpec := { name := "journalClones", fn := fun _ => fun
  | [d1, d2, d3] => { results := [.lit (.bool true)], args := [d1, d2, d3] }
  | _ => none }
def journalClonesRow : OpenClaim := { program := "ytkljfampkkfgdaa", sum := "1b07805b66ae4342041a1d954b9f1210f4f965004871fb473f29e839864c725d", func := "guilloche/guillochelaw07.JournalClones", spec := "journalClones", unfollowed := true, recurses := true, apart := false }
def JournalClonesSaid : Prop := journalClonesRow.holds Try.pinned (OpenSpec.ofChange journalClonesSpec)

/-- ITS FALSE NEIGHBOUR: 'it returns false'. Refute it at one input. -/
def journalClonesWrong : ChangeSpec := { name := "journalClones", fn := fun _ => fun
  | [d1, d2, d3] => { results := [.lit (.bool false)], args := [d1, d2, d3] }
  | _ => none }
def JournalClonesWrongFalsely : Prop := journalClonesRow.holds Try.pinned (OpenSpec.ofChange journalClonesWrong)

/-- 'guillochelaw07.JournalDisks': WHATEVER THE INPUT: true; the input reads as it did. -/
def journalDisksSpec : ChangeSpec := { name := "journalDisks", fn := fun _ => fun
  | [d1, d2, d3] => { results := [.lit (.bool true)], args := [d1, d2, d3] }
  | _ => none }
def journalDisksRow : OpenClaim := { program := "ytkljfampkkfgdaa", sum := "1b07805b66ae4342041a1d954b9f1210f4f965004871fb473f29e839864c725d", func := "guilloche/guillochelaw07.JournalDisks", spec := "journalDisks", unfollowed := true, recurses := true, apart := false }
def JournalDisksSaid : Prop := journalDisksRow.holds Try.pinned (OpenSpec.ofChange journalDisksSpec)

/-- ITS FALSE NEIGHBOUR: 'it returns false'. Refute it at one input. -/
def journalDisksWrong : ChangeSpec := { name := "journalDisks", fn := fun _ => fun
  | [d1, d2, d3] => { results := [.lit (.bool false)], args := [d1, d2, d3] }
  | _ => none }
def JournalDisksWrongFalsely : Prop := journalDisksRow.holds Try.pinned (OpenSpec.ofChange journalDisksWrong)

/-- 'guillochelaw07.JournalKeeps': WHATEVER THE INPUT: true; the input reads as it did. -/
def journalKeepsSpec : ChangeSpec := { name := "journalKeeps", fn := fun _ => fun
  | [d1, d2, d3, d4, d5, d6] => { results := [.lit (.bool true)], args := [d1, d2, d3, d4, d5, d6] }
  | _ => none }
def journalKeepsRow : OpenClaim := { program := "ytkljfampkkfgdaa", sum := "1b07805b66ae4342041a1d954b9f1210f4f965004871fb473f29e839864c725d", func := "guilloche/guillochelaw07.JournalKeeps", spec := "journalKeeps", unfollowed := true, recurses := true, apart := false }
def JournalKeepsSaid : Prop := journalKeepsRow.holds Try.pinned (OpenSpec.ofChange journalKeepsSpec)

/-- ITS FALSE NEIGHBOUR: 'it returns false'. Refute it at one input. -/
def journalKeepsWrong : ChangeSpec := { name := "journalKeeps", fn := fun _ => fun
  | [d1, d2, d3, d4, d5, d6] => { results := [.lit (.bool false)], args := [d1, d2, d3, d4, d5, d6] }
  | _ => none }
def JournalKeepsWrongFalsely : Prop := journalKeepsRow.holds Try.pinned (OpenSpec.ofChange journalKeepsWrong)

/-- 'guillochelaw07.JournalReplaces': WHATEVER THE INPUT: true; the input reads as it did. -/
def journalReplacesSpec : ChangeSpec := { name := "journalReplaces", fn := fun _ => fun
  | [d1, d2, d3, d4, d5, d6] => { results := [.lit (.bool true)], args := [d1, d2, d3, d4, d5, d6] }
  | _ => none }
def journalReplacesRow : OpenClaim := { program := "ytkljfampkkfgdaa", sum := "1b07805b66ae4342041a1d954b9f1210f4f965004871fb473f29e839864c725d", func := "guilloche/guillochelaw07.JournalReplaces", spec := "journalReplaces", unfollowed := true, recurses := true, apart := false }
def JournalReplacesSaid : Prop := journalReplacesRow.holds Try.pinned (OpenSpec.ofChange journalReplacesSpec)

/-- ITS FALSE NEIGHBOUR: 'it returns false'. Refute it at one input. -/
def journalReplacesWrong : ChangeSpec := { name := "journalReplaces", fn := fun _ => fun
  | [d1, d2, d3, d4, d5, d6] => { results := [.lit (.bool false)], args := [d1, d2, d3, d4, d5, d6] }
  | _ => none }
def JournalReplacesWrongFalsely : Prop := journalReplacesRow.holds Try.pinned (OpenSpec.ofChange journalReplacesWrong)

/-- 'guillochelaw07.JournalPlays': WHATEVER THE INPUT: true; the input reads as it did. -/
def journalPlaysSpec : ChangeSpec := { name := "journalPlays", fn := fun _ => fun
  | [d1, d2] => { results := [.lit (.bool true)], args := [d1, d2] }
  | _ => none }
def journalPlaysRow : OpenClaim := { program := "ytkljfampkkfgdaa", sum := "1b07805b66ae4342041a1d954b9f1210f4f965004871fb473f29e839864c725d", func := "guilloche/guillochelaw07.JournalPlays", spec := "journalPlays", unfollowed := true, recurses := true, apart := false }
def JournalPlaysSaid : Prop := journalPlaysRow.holds Try.pinned (OpenSpec.ofChange journalPlaysSpec)

/-- ITS FALSE NEIGHBOUR: 'it returns false'. Refute it at one input. -/
def journalPlaysWrong : ChangeSpec := { name := "journalPlays", fn := fun _ => fun
  | [d1, d2] => { results := [.lit (.bool false)], args := [d1, d2] }
  | _ => none }
def JournalPlaysWrongFalsely : Prop := journalPlaysRow.holds Try.pinned (OpenSpec.ofChange journalPlaysWrong)

/-- 'guillochelaw07.JournalStable': WHATEVER THE INPUT: true; the input reads as it did. -/
def journalStableSpec : ChangeSpec := { name := "journalStable", fn := fun _ => fun
  | [d1, d2, d3] => { results := [.lit (.bool true)], args := [d1, d2, d3] }
  | _ => none }
def journalStableRow : OpenClaim := { program := "ytkljfampkkfgdaa", sum := "1b07805b66ae4342041a1d954b9f1210f4f965004871fb473f29e839864c725d", func := "guilloche/guillochelaw07.JournalStable", spec := "journalStable", unfollowed := true, recurses := true, apart := false }
def JournalStableSaid : Prop := journalStableRow.holds Try.pinned (OpenSpec.ofChange journalStableSpec)

/-- ITS FALSE NEIGHBOUR: 'it returns false'. Refute it at one input. -/
def journalStableWrong : ChangeSpec := { name := "journalStable", fn := fun _ => fun
  | [d1, d2, d3] => { results := [.lit (.bool false)], args := [d1, d2, d3] }
  | _ => none }
def JournalStableWrongFalsely : Prop := journalStableRow.holds Try.pinned (OpenSpec.ofChange journalStableWrong)

/-- 'guillochelaw07.JournalNobody': WHATEVER THE INPUT: true; the input reads as it did. -/
def journalNobodySpec : ChangeSpec := { name := "journalNobody", fn := fun _ => fun
  | [d1, d2, d3] => { results := [.lit (.bool true)], args := [d1, d2, d3] }
  | _ => none }
def journalNobodyRow : OpenClaim := { program := "ytkljfampkkfgdaa", sum := "1b07805b66ae4342041a1d954b9f1210f4f965004871fb473f29e839864c725d", func := "guilloche/guillochelaw07.JournalNobody", spec := "journalNobody", unfollowed := true, recurses := true, apart := false }
def JournalNobodySaid : Prop := journalNobodyRow.holds Try.pinned (OpenSpec.ofChange journalNobodySpec)

/-- ITS FALSE NEIGHBOUR: 'it returns false'. Refute it at one input. -/
def journalNobodyWrong : ChangeSpec := { name := "journalNobody", fn := fun _ => fun
  | [d1, d2, d3] => { results := [.lit (.bool false)], args := [d1, d2, d3] }
  | _ => none }
def JournalNobodyWrongFalsely : Prop := journalNobodyRow.holds Try.pinned (OpenSpec.ofChange journalNobodyWrong)

/- THE SECOND FORM. 'bulk': how many values and letters a reading holds, each counted each time it is reached (what is shared counts as often as it is met; a slice's spare places count too). A statement '..UptoSaid' is the law's where the arguments, and the package variables that the reading takes, are together of bulk at most 1048576: NARROWER than '..Said'. Prove '..Said' where nothing that the law and all that it calls make is longer than what came in: it says more and counts as full. Else prove '..UptoSaid'. A law counts once. -/
mutual
def uptoBulk {H : Type} : DataW H → Nat
  | .lit (.string bytes) => bytes.length + 1
  | .lit _ => 1
  | .nil => 1
  | .ptr d => uptoBulk d + 1
  | .slice elems spare => uptoBulkAll elems + uptoBulkAll spare + 1
  | .agg parts => uptoBulkAll parts + 1
  | .iface _ d => uptoBulk d + 1
  | .map entries => uptoBulkEntries entries + 1
  | .held _ => 1
def uptoBulkAll {H : Type} : List (DataW H) → Nat
  | [] => 0
  | d :: r => uptoBulk d + uptoBulkAll r
def uptoBulkEntries {H : Type} : List (Lit × DataW H) → Nat
  | [] => 0
  | x :: r => uptoBulkEntry x + uptoBulkEntries r
def uptoBulkEntry {H : Type} : Lit × DataW H → Nat
  | (.string bytes, d) => bytes.length + uptoBulk d + 1
  | (_, d) => uptoBulk d + 1
 end
def uptoSmall : (H : Type) → List (DataW H) → Bool := fun _ ds => decide (uptoBulkAll ds ≤ 1048576)
def OpenSpec.upto (s : _root_.Go.ChangeSpec) : _root_.Go.OpenSpec := { _root_.Go.OpenSpec.ofChange s with cond := some uptoSmall }

/-- 'guillochelaw07.JournalFills', WHERE WHAT IT READS IS OF BULK AT MOST 1048576: true; the input reads as it did. -/
def journalFillsUptoRow : OpenClaim := { program := "ytkljfampkkfgdaa", sum := "1b07805b66ae4342041a1d954b9f1210f4f965004871fb473f29e839864c725d", func := "guilloche/guillochelaw07.JournalFills", spec := "journalFills", unfollowed := true, recurses := true, apart := false, narrowed := true }
def JournalFillsUptoSaid : Prop := journalFillsUptoRow.holds Try.pinned (OpenSpec.upto journalFillsSpec)

/-- 'guillochelaw07.JournalClones', WHERE WHAT IT READS IS OF BULK AT MOST 1048576: true; the input reads as it did. -/
def journalClonesUptoRow : OpenClaim := { program := "ytkljfampkkfgdaa", sum := "1b07805b66ae4342041a1d954b9f1210f4f965004871fb473f29e839864c725d", func := "guilloche/guillochelaw07.JournalClones", spec := "journalClones", unfollowed := true, recurses := true, apart := false, narrowed := true }
def JournalClonesUptoSaid : Prop := journalClonesUptoRow.holds Try.pinned (OpenSpec.upto journalClonesSpec)

/-- 'guillochelaw07.JournalDisks', WHERE WHAT IT READS IS OF BULK AT MOST 1048576: true; the input reads as it did. -/
def journalDisksUptoRow : OpenClaim := { program := "ytkljfampkkfgdaa", sum := "1b07805b66ae4342041a1d954b9f1210f4f965004871fb473f29e839864c725d", func := "guilloche/guillochelaw07.JournalDisks", spec := "journalDisks", unfollowed := true, recurses := true, apart := false, narrowed := true }
def JournalDisksUptoSaid : Prop := journalDisksUptoRow.holds Try.pinned (OpenSpec.upto journalDisksSpec)

/-- 'guillochelaw07.JournalKeeps', WHERE WHAT IT READS IS OF BULK AT MOST 1048576: true; the input reads as it did. -/
def journalKeepsUptoRow : OpenClaim := { program := "ytkljfampkkfgdaa", sum := "1b07805b66ae4342041a1d954b9f1210f4f965004871fb473f29e839864c725d", func := "guilloche/guillochelaw07.JournalKeeps", spec := "journalKeeps", unfollowed := true, recurses := true, apart := false, narrowed := true }
def JournalKeepsUptoSaid : Prop := journalKeepsUptoRow.holds Try.pinned (OpenSpec.upto journalKeepsSpec)

/-- 'guillochelaw07.JournalReplaces', WHERE WHAT IT READS IS OF BULK AT MOST 1048576: true; the input reads as it did. -/
def journalReplacesUptoRow : OpenClaim := { program := "ytkljfampkkfgdaa", sum := "1b07805b66ae4342041a1d954b9f1210f4f965004871fb473f29e839864c725d", func := "guilloche/guillochelaw07.JournalReplaces", spec := "journalReplaces", unfollowed := true, recurses := true, apart := false, narrowed := true }
def JournalReplacesUptoSaid : Prop := journalReplacesUptoRow.holds Try.pinned (OpenSpec.upto journalReplacesSpec)

/-- 'guillochelaw07.JournalPlays', WHERE WHAT IT READS IS OF BULK AT MOST 1048576: true; the input reads as it did. -/
def journalPlaysUptoRow : OpenClaim := { program := "ytkljfampkkfgdaa", sum := "1b07805b66ae4342041a1d954b9f1210f4f965004871fb473f29e839864c725d", func := "guilloche/guillochelaw07.JournalPlays", spec := "journalPlays", unfollowed := true, recurses := true, apart := false, narrowed := true }
def JournalPlaysUptoSaid : Prop := journalPlaysUptoRow.holds Try.pinned (OpenSpec.upto journalPlaysSpec)

/-- 'guillochelaw07.JournalStable', WHERE WHAT IT READS IS OF BULK AT MOST 1048576: true; the input reads as it did. -/
def journalStableUptoRow : OpenClaim := { program := "ytkljfampkkfgdaa", sum := "1b07805b66ae4342041a1d954b9f1210f4f965004871fb473f29e839864c725d", func := "guilloche/guillochelaw07.JournalStable", spec := "journalStable", unfollowed := true, recurses := true, apart := false, narrowed := true }
def JournalStableUptoSaid : Prop := journalStableUptoRow.holds Try.pinned (OpenSpec.upto journalStableSpec)

/-- 'guillochelaw07.JournalNobody', WHERE WHAT IT READS IS OF BULK AT MOST 1048576: true; the input reads as it did. -/
def journalNobodyUptoRow : OpenClaim := { program := "ytkljfampkkfgdaa", sum := "1b07805b66ae4342041a1d954b9f1210f4f965004871fb473f29e839864c725d", func := "guilloche/guillochelaw07.JournalNobody", spec := "journalNobody", unfollowed := true, recurses := true, apart := false, narrowed := true }
def JournalNobodyUptoSaid : Prop := journalNobodyUptoRow.holds Try.pinned (OpenSpec.upto journalNobodySpec)

end Rows
end Go.Proofs.Ytkljfampkkfgdaa
