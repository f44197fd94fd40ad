/- The walk over ProofUnusable. -/
import Derived.Test.YtcocengpekndjaaDoorPrAwake
namespace Go.Proofs.YtcocengpekndjaaDoor
open Go.RowKit
theorem total0 : Tr.total [] = 0 := rfl
theorem mapRoot0 : mapRootM [] = (zeroH, 1) := by unfold mapRootM; rw [if_pos rfl]
/-- The zero hash, as it is built. -/
theorem eq_zero {x : Bs} (hx : x.length = 32) (b : Bool) (h : (x == zeroH) = b) (W : World) : (Op.equalIn 10000 30 (hashV x) (Value.agg #[Value.int IntKind.u8 0, Value.int IntKind.u8 0, Value.int IntKind.u8 0, Value.int IntKind.u8 0, Value.int IntKind.u8 0, Value.int IntKind.u8 0, Value.int IntKind.u8 0, Value.int IntKind.u8 0, Value.int IntKind.u8 0, Value.int IntKind.u8 0, Value.int IntKind.u8 0, Value.int IntKind.u8 0, Value.int IntKind.u8 0, Value.int IntKind.u8 0, Value.int IntKind.u8 0, Value.int IntKind.u8 0, Value.int IntKind.u8 0, Value.int IntKind.u8 0, Value.int IntKind.u8 0, Value.int IntKind.u8 0, Value.int IntKind.u8 0, Value.int IntKind.u8 0, Value.int IntKind.u8 0, Value.int IntKind.u8 0, Value.int IntKind.u8 0, Value.int IntKind.u8 0, Value.int IntKind.u8 0, Value.int IntKind.u8 0, Value.int IntKind.u8 0, Value.int IntKind.u8 0, Value.int IntKind.u8 0, Value.int IntKind.u8 0])).run Tryd.prog W = .ok b W := eq_hash hx zeroH_length b h W
set_option maxRecDepth 100000 in
set_option maxHeartbeats 2000000 in
theorem proofUnusable_any (w : World) (at_ lo hi : Int) (ha : -9223372036854775808 ≤ at_ ∧ at_ ≤ 9223372036854775807) (hk : Kon w) :
    Calls Tryd.prog 6 #[.int .i64 at_, .int .i64 lo, .int .i64 hi] w fun e w' => e = .returned (.bool true) ∧ Below w.heap.size w w' := by
  have HK := Lib.hid hk
  have HMR := Lib.hid (fun W (hk : Kon W) => mapRoot_any W none [] (Rep.none W) hk)
  have HST := Lib.hid (fun W => state_bad W none [] at_ 1 (Rep.none W) (.inl ⟨rfl, rfl⟩) ha)
  have HRG := Lib.hid (fun W => range_bad W none [] lo hi 1 (Rep.none W) (.inl ⟨rfl, rfl⟩))
  rw [mapRoot0] at HMR
  clear hk ha
  go_enter Tryd.func6, Tryd.ntmps6
  go_upto_region 2 with (fail)
  obtain ⟨w0, hW0⟩ : ∃ w0, World.alloc w (.cells #[.pointer none] 47) = w0 := ⟨_, rfl⟩
  have x0 : Boxed w0 w.heap.size 47 (.pointer none) := hW0 ▸ Boxed.new w _ _
  have B0 : Below w.heap.size w w0 := hW0 ▸ Below.new1 _ _
  change Code.wp _ _ _ _ (World.alloc w (.cells #[.pointer none] 47))
  rw [hW0]
  have c0 := x0.cell
  clear hW0 x0
  go_upto_region 3 with (first
    | (go_at_call 25; refine (HMR.out _ (HK.out.next B0)).mono ?_; rintro e w1 ⟨rfl, b1⟩)
    | (refine wpList_storeH rfl (.tmp 8) (.tmp 17) rfl w1.heap.size zeroH rfl rfl (BoxA.new w1 _ _ (List.replicate 32 0) _ rfl) rfl rfl ?_))
  obtain ⟨w2, hW2⟩ : ∃ w2, World.setRow (World.alloc w1 (.cells (ints .u8 (List.replicate 32 0)) 30)) w1.heap.size (ints .u8 (nums zeroH)) = w2 := ⟨_, rfl⟩
  have x2 : BoxH w2 w1.heap.size zeroH := hW2 ▸ (BoxA.new w1 _ _ (List.replicate 32 0) _ rfl).setRow
  have b2 : Below w1.heap.size w1 w2 := hW2 ▸ below_setRow (Below.new1 w1 _) (Nat.le_refl _) _
  change Code.wp _ _ _ _ (World.setRow (World.alloc w1 (.cells (ints .u8 (List.replicate 32 0)) 30)) w1.heap.size (ints .u8 (nums zeroH)))
  rw [hW2]
  have B2 := Below.on (Below.on B0 b1) b2
  have c2 := cell_kept b2 (cell_kept b1 c0)
  generalize w1.heap.size = g1 at *
  clear hW2 b2 b1 c0 B0
  go_upto_region 4 with (go_at_call 26; refine (HST.out _).mono ?_; rintro e w3 ⟨rfl, b3⟩)
  obtain ⟨w4, hW4⟩ : ∃ w4, World.alloc w3 (.cells (cellsS ⟨0, 0, 0⟩ 0 0 0 none 0 0) 37) = w4 := ⟨_, rfl⟩
  have b4 : Below w3.heap.size w3 w4 := hW4 ▸ Below.new1 _ _
  have k4 : w4.heap[w3.heap.size]? = some (.cells (cellsS ⟨0, 0, 0⟩ 0 0 0 none 0 0) 37 (0, 0)) := hW4 ▸ heap_alloc_new w3 _
  change Code.wp _ _ _ _ (World.alloc w3 (.cells (cellsS ⟨0, 0, 0⟩ 0 0 0 none 0 0) 37))
  rw [hW4]
  have x4 := BoxA.next (BoxA.next x2 b3) b4
  have B4 := Below.on (Below.on B2 b3) b4
  have c4 := cell_kept b4 (cell_kept b3 c2)
  generalize w3.heap.size = g3 at *
  clear hW4 b4 b3 c2 B2 x2
  go_upto_region 5 with (go_at_call 27; refine (HRG.out _).mono ?_; rintro e w5 ⟨rfl, b5⟩)
  obtain ⟨w6, hW6⟩ : ∃ w6, World.alloc w5 (.cells #[.slice none 0 0, .int .i64 0, .int .i64 0, .int .i64 0, .slice none 0 0] 43) = w6 := ⟨_, rfl⟩
  have b6 : Below w5.heap.size w5 w6 := hW6 ▸ Below.new1 _ _
  have k6 : BoxC w6 w5.heap.size none 0 0 0 0 0 none 0 0 := hW6 ▸ BoxC.new w5 none 0 0 0 0 0 none 0 0
  change Code.wp _ _ _ _ (World.alloc w5 (.cells #[.slice none 0 0, .int .i64 0, .int .i64 0, .int .i64 0, .slice none 0 0] 43))
  rw [hW6]
  have x6 := BoxA.next (BoxA.next x4 b5) b6
  have k4' := (b6.block _ (by have := (Array.getElem?_eq_some_iff.1 k4).1; have := b5.size; omega)).trans ((b5.block _ (Array.getElem?_eq_some_iff.1 k4).1).trans k4)
  have B6 := Below.on (Below.on B4 b5) b6
  generalize w5.heap.size = g5 at *
  clear hW6 b6 b5 c4 B4 x4 k4
  have d2 : w6.cell? ⟨g3, 4, none⟩ = some (.int .i64 0) := (cell_of_row w6 g3 4 _ _ _ k4').trans rfl
  have d4 : w6.cell? ⟨g3, 6, none⟩ = some (.slice none 0 0) := (cell_of_row w6 g3 6 _ _ _ k4').trans rfl
  have e0 := k6.c0
  have e2 := k6.c2
  have HA := Lib.hid (awake_any w6 (HK.out.next B6))
  have he := fun W => eq_zero zeroH_length true (by simp) W
  clear k4' k6
  go_wp2_with (first
    | (refine wpList_loadH rfl (.tmp 8) rfl g1 zeroH rfl x6 rfl ?_)
    | (go_at_call 17; refine HA.out.mono ?_; rintro e w7 ⟨rfl, b7⟩))
  go_ret
  exact ⟨rfl, Below.on B6 b7⟩
end Go.Proofs.YtcocengpekndjaaDoor
