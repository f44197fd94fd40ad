/- The condition of a row on the constants of the rounds: what it gives, and a world in which it holds. -/
import Derived.Test.YtcocengpekndjaaDoorRows
import Derived.Test.YtcocengpekndjaaDoorPrComp
import Derived.Deep.DeepHandedRow
import Derived.Lib.LaidTab
import Derived.ProofKit
namespace Go.Proofs.YtcocengpekndjaaDoor
open Go.RowKit
theorem Tryd.own : ownKnob Tryd.prog.godebug = none := by kernel_rfl
theorem Tryd.laidOut : laidOutB Tryd.prog = true := by kernel_rfl
theorem gRounds : Tryd.prog.globalNamed "guilloche/proof.rounds" = some 0 := by kernel_rfl
theorem gRoundsType : (Tryd.prog.globals[0]?).map (·.type) = some 25 := by kernel_rfl
theorem uRounds : Tryd.prog.underlying 25 = some (.array 64 23) := by kernel_rfl
theorem uU32 : Tryd.prog.underlying 23 = some (.int .u32) := by kernel_rfl
theorem cRounds : Tryd.prog.cellsOf 25 = 64 := by kernel_rfl
theorem cU32 : Tryd.prog.cellsOf 23 = 1 := by kernel_rfl
theorem laid_tab {H : Type} : (Rows.laid_guilloche_proof_rounds : DataW H) = Lib.tabData .u32 kM := rfl
theorem kon_of_laid {W : World} (h : laidMet Tryd.prog [("guilloche/proof.rounds", Rows.laid_guilloche_proof_rounds)] W) : Kon W := by
  have ht : Lib.TabIs Tryd.prog W "guilloche/proof.rounds" .u32 kM := Lib.tabIs_of_head gRounds gRoundsType uRounds uU32 cU32 cRounds h
  have hc := fun i (hi : i < 64) => ht.cell gRounds i hi
  exact ⟨block_lt_of_cell (hc 0 (by decide)), fun i hi => hc i hi⟩
/-- The settled world, the first block holding the constants. -/
noncomputable def laidWorld (os : Os) : World :=
  { World.holding Tryd.prog os ⟨#[], #[], []⟩ with heap := (World.holding Tryd.prog os ⟨#[], #[], []⟩).heap.modify 0 fun
      | .cells _ t frozen => .cells (kM.map fun z => Value.int .u32 z).toArray t frozen
      | o => o }
theorem laid_met (os : Os) (args : Array Value) : laidMet Tryd.prog [("guilloche/proof.rounds", Rows.laid_guilloche_proof_rounds)] ((laidWorld os).forCall (fun _ _ => 0) ⟨#[], args, []⟩).memory :=
  laidMet_of_run' 8 (by kernel_rfl) (by kernel_rfl)
end Go.Proofs.YtcocengpekndjaaDoor
