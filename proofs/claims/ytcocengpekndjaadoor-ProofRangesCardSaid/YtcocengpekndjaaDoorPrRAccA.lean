/- The walk over the reference's Accept: what it refuses. -/
import Derived.Test.YtcocengpekndjaaDoorPrLeaf
import Derived.Test.YtcocengpekndjaaDoorPrGrowV
import Derived.Test.YtcocengpekndjaaDoorPrFold
namespace Go.Proofs.YtcocengpekndjaaDoor
open Go.RowKit
set_option maxRecDepth 100000 in
set_option maxHeartbeats 4000000 in
theorem racc_no0 (root : Bs) (at_ : Int) (X : Rn) (index count size : Int) (PA : Option Addr) (pn pc : Nat) (w : World)  (h0 : ¬ 0 ≤ X.lo) : Calls Tryd.prog 22 #[wordsV, hashV root, .int .i64 at_, claim1V X index count size PA pn pc] w fun e w' => e = .returned (.tuple #[.int .i64 0, .bool false]) ∧ Below w.heap.size w w' := by
  obtain ⟨w0, hW0⟩ : ∃ w0, World.alloc (World.alloc (w.alloc (.cells (ints .u32 wordsL) 27)) (.cells (cellsB root).toArray 30)) (.cells #[.int .i64 X.lo, .int .i64 X.hi, .int .i64 X.tag, .int .i64 index, .int .i64 count, .int .i64 size, .slice PA pn pc] 37) = w0 := ⟨_, rfl⟩
  have B0 : Below w.heap.size w w0 := hW0 ▸ Below.on (Below.on (Below.new1 _ _) (Below.new1 _ _)) (Below.new1 _ _)
  have y4 : BoxW w0 w.heap.size := hW0 ▸ ((BoxW.new w).next (Below.new1 _ _)).next (Below.new1 _ _)
  have y5 : BoxH w0 (w.heap.size + 1) root := by
    have := (BoxH.new (w.alloc (.cells (ints .u32 wordsL) 27)) root).next (Below.new1 _ (.cells #[.int .i64 X.lo, .int .i64 X.hi, .int .i64 X.tag, .int .i64 index, .int .i64 count, .int .i64 size, .slice PA pn pc] 37))
    rw [World.size_alloc] at this; exact hW0 ▸ this
  have x7 : w0.heap[w.heap.size + 1 + 1]? = some (.cells #[.int .i64 X.lo, .int .i64 X.hi, .int .i64 X.tag, .int .i64 index, .int .i64 count, .int .i64 size, .slice PA pn pc] 37 (0, 0)) := by
    have := heap_alloc_new ((w.alloc (.cells (ints .u32 wordsL) 27)).alloc (.cells (cellsB root).toArray 30)) (.cells #[.int .i64 X.lo, .int .i64 X.hi, .int .i64 X.tag, .int .i64 index, .int .i64 count, .int .i64 size, .slice PA pn pc] 37)
    rw [World.size_alloc, World.size_alloc] at this; exact hW0 ▸ this
  have z0 : w.heap.size + 1 + 1 < w0.heap.size := (Array.getElem?_eq_some_iff.1 x7).1
  have c0 : w0.cell? ⟨w.heap.size + 1 + 1, 0, none⟩ = some (.int .i64 X.lo) := (cell_of_row w0 _ 0 _ _ _ x7).trans rfl
  have c1 : w0.cell? ⟨w.heap.size + 1 + 1, 1, none⟩ = some (.int .i64 X.hi) := (cell_of_row w0 _ 1 _ _ _ x7).trans rfl
  have c2 : w0.cell? ⟨w.heap.size + 1 + 1, 2, none⟩ = some (.int .i64 X.tag) := (cell_of_row w0 _ 2 _ _ _ x7).trans rfl
  have c3 : w0.cell? ⟨w.heap.size + 1 + 1, 3, none⟩ = some (.int .i64 index) := (cell_of_row w0 _ 3 _ _ _ x7).trans rfl
  have c4 : w0.cell? ⟨w.heap.size + 1 + 1, 4, none⟩ = some (.int .i64 count) := (cell_of_row w0 _ 4 _ _ _ x7).trans rfl
  have c5 : w0.cell? ⟨w.heap.size + 1 + 1, 5, none⟩ = some (.int .i64 size) := (cell_of_row w0 _ 5 _ _ _ x7).trans rfl
  have c6 : w0.cell? ⟨w.heap.size + 1 + 1, 6, none⟩ = some (.slice PA pn pc) := (cell_of_row w0 _ 6 _ _ _ x7).trans rfl
  have HO := Lib.hid hW0
  clear hW0 y4 y5 x7
  go_enter Tryd.func22, Tryd.ntmps22
  go_upto_region 1 with (fail)
  change Code.wp _ _ _ _ (World.alloc (World.alloc (w.alloc (.cells (ints .u32 wordsL) 27)) (.cells (cellsB root).toArray 30)) (.cells #[.int .i64 X.lo, .int .i64 X.hi, .int .i64 X.tag, .int .i64 index, .int .i64 count, .int .i64 size, .slice PA pn pc] 37))
  rw [HO.out]
  clear HO
  go_upto_region 2 with (fail)
  simp only [List.append_eq, List.cons_append, List.nil_append]
  go_wp2_with (fail)
  go_ret2
  exact ⟨rfl, Below.on B0 (Below.new1 _ _)⟩
set_option maxRecDepth 100000 in
set_option maxHeartbeats 4000000 in
theorem racc_no1 (root : Bs) (at_ : Int) (X : Rn) (index count size : Int) (PA : Option Addr) (pn pc : Nat) (w : World) (h0 : 0 ≤ X.lo) (h1 : ¬ X.lo ≤ at_) : Calls Tryd.prog 22 #[wordsV, hashV root, .int .i64 at_, claim1V X index count size PA pn pc] w fun e w' => e = .returned (.tuple #[.int .i64 0, .bool false]) ∧ Below w.heap.size w w' := by
  obtain ⟨w0, hW0⟩ : ∃ w0, World.alloc (World.alloc (w.alloc (.cells (ints .u32 wordsL) 27)) (.cells (cellsB root).toArray 30)) (.cells #[.int .i64 X.lo, .int .i64 X.hi, .int .i64 X.tag, .int .i64 index, .int .i64 count, .int .i64 size, .slice PA pn pc] 37) = w0 := ⟨_, rfl⟩
  have B0 : Below w.heap.size w w0 := hW0 ▸ Below.on (Below.on (Below.new1 _ _) (Below.new1 _ _)) (Below.new1 _ _)
  have y4 : BoxW w0 w.heap.size := hW0 ▸ ((BoxW.new w).next (Below.new1 _ _)).next (Below.new1 _ _)
  have y5 : BoxH w0 (w.heap.size + 1) root := by
    have := (BoxH.new (w.alloc (.cells (ints .u32 wordsL) 27)) root).next (Below.new1 _ (.cells #[.int .i64 X.lo, .int .i64 X.hi, .int .i64 X.tag, .int .i64 index, .int .i64 count, .int .i64 size, .slice PA pn pc] 37))
    rw [World.size_alloc] at this; exact hW0 ▸ this
  have x7 : w0.heap[w.heap.size + 1 + 1]? = some (.cells #[.int .i64 X.lo, .int .i64 X.hi, .int .i64 X.tag, .int .i64 index, .int .i64 count, .int .i64 size, .slice PA pn pc] 37 (0, 0)) := by
    have := heap_alloc_new ((w.alloc (.cells (ints .u32 wordsL) 27)).alloc (.cells (cellsB root).toArray 30)) (.cells #[.int .i64 X.lo, .int .i64 X.hi, .int .i64 X.tag, .int .i64 index, .int .i64 count, .int .i64 size, .slice PA pn pc] 37)
    rw [World.size_alloc, World.size_alloc] at this; exact hW0 ▸ this
  have z0 : w.heap.size + 1 + 1 < w0.heap.size := (Array.getElem?_eq_some_iff.1 x7).1
  have c0 : w0.cell? ⟨w.heap.size + 1 + 1, 0, none⟩ = some (.int .i64 X.lo) := (cell_of_row w0 _ 0 _ _ _ x7).trans rfl
  have c1 : w0.cell? ⟨w.heap.size + 1 + 1, 1, none⟩ = some (.int .i64 X.hi) := (cell_of_row w0 _ 1 _ _ _ x7).trans rfl
  have c2 : w0.cell? ⟨w.heap.size + 1 + 1, 2, none⟩ = some (.int .i64 X.tag) := (cell_of_row w0 _ 2 _ _ _ x7).trans rfl
  have c3 : w0.cell? ⟨w.heap.size + 1 + 1, 3, none⟩ = some (.int .i64 index) := (cell_of_row w0 _ 3 _ _ _ x7).trans rfl
  have c4 : w0.cell? ⟨w.heap.size + 1 + 1, 4, none⟩ = some (.int .i64 count) := (cell_of_row w0 _ 4 _ _ _ x7).trans rfl
  have c5 : w0.cell? ⟨w.heap.size + 1 + 1, 5, none⟩ = some (.int .i64 size) := (cell_of_row w0 _ 5 _ _ _ x7).trans rfl
  have c6 : w0.cell? ⟨w.heap.size + 1 + 1, 6, none⟩ = some (.slice PA pn pc) := (cell_of_row w0 _ 6 _ _ _ x7).trans rfl
  have HO := Lib.hid hW0
  clear hW0 y4 y5 x7
  go_enter Tryd.func22, Tryd.ntmps22
  go_upto_region 1 with (fail)
  change Code.wp _ _ _ _ (World.alloc (World.alloc (w.alloc (.cells (ints .u32 wordsL) 27)) (.cells (cellsB root).toArray 30)) (.cells #[.int .i64 X.lo, .int .i64 X.hi, .int .i64 X.tag, .int .i64 index, .int .i64 count, .int .i64 size, .slice PA pn pc] 37))
  rw [HO.out]
  clear HO
  go_upto_region 2 with (fail)
  simp only [List.append_eq, List.cons_append, List.nil_append]
  go_wp2_with (fail)
  go_ret2
  exact ⟨rfl, Below.on B0 (Below.new1 _ _)⟩
set_option maxRecDepth 100000 in
set_option maxHeartbeats 4000000 in
theorem racc_no2 (root : Bs) (at_ : Int) (X : Rn) (index count size : Int) (PA : Option Addr) (pn pc : Nat) (w : World) (h0 : 0 ≤ X.lo) (h1 : X.lo ≤ at_) (h2 : ¬ at_ < X.hi) : Calls Tryd.prog 22 #[wordsV, hashV root, .int .i64 at_, claim1V X index count size PA pn pc] w fun e w' => e = .returned (.tuple #[.int .i64 0, .bool false]) ∧ Below w.heap.size w w' := by
  obtain ⟨w0, hW0⟩ : ∃ w0, World.alloc (World.alloc (w.alloc (.cells (ints .u32 wordsL) 27)) (.cells (cellsB root).toArray 30)) (.cells #[.int .i64 X.lo, .int .i64 X.hi, .int .i64 X.tag, .int .i64 index, .int .i64 count, .int .i64 size, .slice PA pn pc] 37) = w0 := ⟨_, rfl⟩
  have B0 : Below w.heap.size w w0 := hW0 ▸ Below.on (Below.on (Below.new1 _ _) (Below.new1 _ _)) (Below.new1 _ _)
  have y4 : BoxW w0 w.heap.size := hW0 ▸ ((BoxW.new w).next (Below.new1 _ _)).next (Below.new1 _ _)
  have y5 : BoxH w0 (w.heap.size + 1) root := by
    have := (BoxH.new (w.alloc (.cells (ints .u32 wordsL) 27)) root).next (Below.new1 _ (.cells #[.int .i64 X.lo, .int .i64 X.hi, .int .i64 X.tag, .int .i64 index, .int .i64 count, .int .i64 size, .slice PA pn pc] 37))
    rw [World.size_alloc] at this; exact hW0 ▸ this
  have x7 : w0.heap[w.heap.size + 1 + 1]? = some (.cells #[.int .i64 X.lo, .int .i64 X.hi, .int .i64 X.tag, .int .i64 index, .int .i64 count, .int .i64 size, .slice PA pn pc] 37 (0, 0)) := by
    have := heap_alloc_new ((w.alloc (.cells (ints .u32 wordsL) 27)).alloc (.cells (cellsB root).toArray 30)) (.cells #[.int .i64 X.lo, .int .i64 X.hi, .int .i64 X.tag, .int .i64 index, .int .i64 count, .int .i64 size, .slice PA pn pc] 37)
    rw [World.size_alloc, World.size_alloc] at this; exact hW0 ▸ this
  have z0 : w.heap.size + 1 + 1 < w0.heap.size := (Array.getElem?_eq_some_iff.1 x7).1
  have c0 : w0.cell? ⟨w.heap.size + 1 + 1, 0, none⟩ = some (.int .i64 X.lo) := (cell_of_row w0 _ 0 _ _ _ x7).trans rfl
  have c1 : w0.cell? ⟨w.heap.size + 1 + 1, 1, none⟩ = some (.int .i64 X.hi) := (cell_of_row w0 _ 1 _ _ _ x7).trans rfl
  have c2 : w0.cell? ⟨w.heap.size + 1 + 1, 2, none⟩ = some (.int .i64 X.tag) := (cell_of_row w0 _ 2 _ _ _ x7).trans rfl
  have c3 : w0.cell? ⟨w.heap.size + 1 + 1, 3, none⟩ = some (.int .i64 index) := (cell_of_row w0 _ 3 _ _ _ x7).trans rfl
  have c4 : w0.cell? ⟨w.heap.size + 1 + 1, 4, none⟩ = some (.int .i64 count) := (cell_of_row w0 _ 4 _ _ _ x7).trans rfl
  have c5 : w0.cell? ⟨w.heap.size + 1 + 1, 5, none⟩ = some (.int .i64 size) := (cell_of_row w0 _ 5 _ _ _ x7).trans rfl
  have c6 : w0.cell? ⟨w.heap.size + 1 + 1, 6, none⟩ = some (.slice PA pn pc) := (cell_of_row w0 _ 6 _ _ _ x7).trans rfl
  have HO := Lib.hid hW0
  clear hW0 y4 y5 x7
  go_enter Tryd.func22, Tryd.ntmps22
  go_upto_region 1 with (fail)
  change Code.wp _ _ _ _ (World.alloc (World.alloc (w.alloc (.cells (ints .u32 wordsL) 27)) (.cells (cellsB root).toArray 30)) (.cells #[.int .i64 X.lo, .int .i64 X.hi, .int .i64 X.tag, .int .i64 index, .int .i64 count, .int .i64 size, .slice PA pn pc] 37))
  rw [HO.out]
  clear HO
  go_upto_region 2 with (fail)
  simp only [List.append_eq, List.cons_append, List.nil_append]
  go_wp2_with (fail)
  go_ret2
  exact ⟨rfl, Below.on B0 (Below.new1 _ _)⟩
set_option maxRecDepth 100000 in
set_option maxHeartbeats 4000000 in
theorem racc_no3 (root : Bs) (at_ : Int) (X : Rn) (index count size : Int) (PA : Option Addr) (pn pc : Nat) (w : World) (h0 : 0 ≤ X.lo) (h1 : X.lo ≤ at_) (h2 : at_ < X.hi) (h3 : ¬ X.hi ≤ size) : Calls Tryd.prog 22 #[wordsV, hashV root, .int .i64 at_, claim1V X index count size PA pn pc] w fun e w' => e = .returned (.tuple #[.int .i64 0, .bool false]) ∧ Below w.heap.size w w' := by
  obtain ⟨w0, hW0⟩ : ∃ w0, World.alloc (World.alloc (w.alloc (.cells (ints .u32 wordsL) 27)) (.cells (cellsB root).toArray 30)) (.cells #[.int .i64 X.lo, .int .i64 X.hi, .int .i64 X.tag, .int .i64 index, .int .i64 count, .int .i64 size, .slice PA pn pc] 37) = w0 := ⟨_, rfl⟩
  have B0 : Below w.heap.size w w0 := hW0 ▸ Below.on (Below.on (Below.new1 _ _) (Below.new1 _ _)) (Below.new1 _ _)
  have y4 : BoxW w0 w.heap.size := hW0 ▸ ((BoxW.new w).next (Below.new1 _ _)).next (Below.new1 _ _)
  have y5 : BoxH w0 (w.heap.size + 1) root := by
    have := (BoxH.new (w.alloc (.cells (ints .u32 wordsL) 27)) root).next (Below.new1 _ (.cells #[.int .i64 X.lo, .int .i64 X.hi, .int .i64 X.tag, .int .i64 index, .int .i64 count, .int .i64 size, .slice PA pn pc] 37))
    rw [World.size_alloc] at this; exact hW0 ▸ this
  have x7 : w0.heap[w.heap.size + 1 + 1]? = some (.cells #[.int .i64 X.lo, .int .i64 X.hi, .int .i64 X.tag, .int .i64 index, .int .i64 count, .int .i64 size, .slice PA pn pc] 37 (0, 0)) := by
    have := heap_alloc_new ((w.alloc (.cells (ints .u32 wordsL) 27)).alloc (.cells (cellsB root).toArray 30)) (.cells #[.int .i64 X.lo, .int .i64 X.hi, .int .i64 X.tag, .int .i64 index, .int .i64 count, .int .i64 size, .slice PA pn pc] 37)
    rw [World.size_alloc, World.size_alloc] at this; exact hW0 ▸ this
  have z0 : w.heap.size + 1 + 1 < w0.heap.size := (Array.getElem?_eq_some_iff.1 x7).1
  have c0 : w0.cell? ⟨w.heap.size + 1 + 1, 0, none⟩ = some (.int .i64 X.lo) := (cell_of_row w0 _ 0 _ _ _ x7).trans rfl
  have c1 : w0.cell? ⟨w.heap.size + 1 + 1, 1, none⟩ = some (.int .i64 X.hi) := (cell_of_row w0 _ 1 _ _ _ x7).trans rfl
  have c2 : w0.cell? ⟨w.heap.size + 1 + 1, 2, none⟩ = some (.int .i64 X.tag) := (cell_of_row w0 _ 2 _ _ _ x7).trans rfl
  have c3 : w0.cell? ⟨w.heap.size + 1 + 1, 3, none⟩ = some (.int .i64 index) := (cell_of_row w0 _ 3 _ _ _ x7).trans rfl
  have c4 : w0.cell? ⟨w.heap.size + 1 + 1, 4, none⟩ = some (.int .i64 count) := (cell_of_row w0 _ 4 _ _ _ x7).trans rfl
  have c5 : w0.cell? ⟨w.heap.size + 1 + 1, 5, none⟩ = some (.int .i64 size) := (cell_of_row w0 _ 5 _ _ _ x7).trans rfl
  have c6 : w0.cell? ⟨w.heap.size + 1 + 1, 6, none⟩ = some (.slice PA pn pc) := (cell_of_row w0 _ 6 _ _ _ x7).trans rfl
  have HO := Lib.hid hW0
  clear hW0 y4 y5 x7
  go_enter Tryd.func22, Tryd.ntmps22
  go_upto_region 1 with (fail)
  change Code.wp _ _ _ _ (World.alloc (World.alloc (w.alloc (.cells (ints .u32 wordsL) 27)) (.cells (cellsB root).toArray 30)) (.cells #[.int .i64 X.lo, .int .i64 X.hi, .int .i64 X.tag, .int .i64 index, .int .i64 count, .int .i64 size, .slice PA pn pc] 37))
  rw [HO.out]
  clear HO
  go_upto_region 2 with (fail)
  simp only [List.append_eq, List.cons_append, List.nil_append]
  go_wp2_with (fail)
  go_ret2
  exact ⟨rfl, Below.on B0 (Below.new1 _ _)⟩
set_option maxRecDepth 100000 in
set_option maxHeartbeats 4000000 in
theorem racc_no4 (root : Bs) (at_ : Int) (X : Rn) (index count size : Int) (PA : Option Addr) (pn pc : Nat) (w : World) (h0 : 0 ≤ X.lo) (h1 : X.lo ≤ at_) (h2 : at_ < X.hi) (h3 : X.hi ≤ size) (h4 : ¬ size ≤ 1099511627776) : Calls Tryd.prog 22 #[wordsV, hashV root, .int .i64 at_, claim1V X index count size PA pn pc] w fun e w' => e = .returned (.tuple #[.int .i64 0, .bool false]) ∧ Below w.heap.size w w' := by
  obtain ⟨w0, hW0⟩ : ∃ w0, World.alloc (World.alloc (w.alloc (.cells (ints .u32 wordsL) 27)) (.cells (cellsB root).toArray 30)) (.cells #[.int .i64 X.lo, .int .i64 X.hi, .int .i64 X.tag, .int .i64 index, .int .i64 count, .int .i64 size, .slice PA pn pc] 37) = w0 := ⟨_, rfl⟩
  have B0 : Below w.heap.size w w0 := hW0 ▸ Below.on (Below.on (Below.new1 _ _) (Below.new1 _ _)) (Below.new1 _ _)
  have y4 : BoxW w0 w.heap.size := hW0 ▸ ((BoxW.new w).next (Below.new1 _ _)).next (Below.new1 _ _)
  have y5 : BoxH w0 (w.heap.size + 1) root := by
    have := (BoxH.new (w.alloc (.cells (ints .u32 wordsL) 27)) root).next (Below.new1 _ (.cells #[.int .i64 X.lo, .int .i64 X.hi, .int .i64 X.tag, .int .i64 index, .int .i64 count, .int .i64 size, .slice PA pn pc] 37))
    rw [World.size_alloc] at this; exact hW0 ▸ this
  have x7 : w0.heap[w.heap.size + 1 + 1]? = some (.cells #[.int .i64 X.lo, .int .i64 X.hi, .int .i64 X.tag, .int .i64 index, .int .i64 count, .int .i64 size, .slice PA pn pc] 37 (0, 0)) := by
    have := heap_alloc_new ((w.alloc (.cells (ints .u32 wordsL) 27)).alloc (.cells (cellsB root).toArray 30)) (.cells #[.int .i64 X.lo, .int .i64 X.hi, .int .i64 X.tag, .int .i64 index, .int .i64 count, .int .i64 size, .slice PA pn pc] 37)
    rw [World.size_alloc, World.size_alloc] at this; exact hW0 ▸ this
  have z0 : w.heap.size + 1 + 1 < w0.heap.size := (Array.getElem?_eq_some_iff.1 x7).1
  have c0 : w0.cell? ⟨w.heap.size + 1 + 1, 0, none⟩ = some (.int .i64 X.lo) := (cell_of_row w0 _ 0 _ _ _ x7).trans rfl
  have c1 : w0.cell? ⟨w.heap.size + 1 + 1, 1, none⟩ = some (.int .i64 X.hi) := (cell_of_row w0 _ 1 _ _ _ x7).trans rfl
  have c2 : w0.cell? ⟨w.heap.size + 1 + 1, 2, none⟩ = some (.int .i64 X.tag) := (cell_of_row w0 _ 2 _ _ _ x7).trans rfl
  have c3 : w0.cell? ⟨w.heap.size + 1 + 1, 3, none⟩ = some (.int .i64 index) := (cell_of_row w0 _ 3 _ _ _ x7).trans rfl
  have c4 : w0.cell? ⟨w.heap.size + 1 + 1, 4, none⟩ = some (.int .i64 count) := (cell_of_row w0 _ 4 _ _ _ x7).trans rfl
  have c5 : w0.cell? ⟨w.heap.size + 1 + 1, 5, none⟩ = some (.int .i64 size) := (cell_of_row w0 _ 5 _ _ _ x7).trans rfl
  have c6 : w0.cell? ⟨w.heap.size + 1 + 1, 6, none⟩ = some (.slice PA pn pc) := (cell_of_row w0 _ 6 _ _ _ x7).trans rfl
  have HO := Lib.hid hW0
  clear hW0 y4 y5 x7
  go_enter Tryd.func22, Tryd.ntmps22
  go_upto_region 1 with (fail)
  change Code.wp _ _ _ _ (World.alloc (World.alloc (w.alloc (.cells (ints .u32 wordsL) 27)) (.cells (cellsB root).toArray 30)) (.cells #[.int .i64 X.lo, .int .i64 X.hi, .int .i64 X.tag, .int .i64 index, .int .i64 count, .int .i64 size, .slice PA pn pc] 37))
  rw [HO.out]
  clear HO
  go_upto_region 2 with (fail)
  simp only [List.append_eq, List.cons_append, List.nil_append]
  go_wp2_with (fail)
  go_ret2
  exact ⟨rfl, Below.on B0 (Below.new1 _ _)⟩
set_option maxRecDepth 100000 in
set_option maxHeartbeats 4000000 in
theorem racc_no5 (root : Bs) (at_ : Int) (X : Rn) (index count size : Int) (PA : Option Addr) (pn pc : Nat) (w : World) (h0 : 0 ≤ X.lo) (h1 : X.lo ≤ at_) (h2 : at_ < X.hi) (h3 : X.hi ≤ size) (h4 : size ≤ 1099511627776) (h5 : X.tag < 0) : Calls Tryd.prog 22 #[wordsV, hashV root, .int .i64 at_, claim1V X index count size PA pn pc] w fun e w' => e = .returned (.tuple #[.int .i64 0, .bool false]) ∧ Below w.heap.size w w' := by
  obtain ⟨w0, hW0⟩ : ∃ w0, World.alloc (World.alloc (w.alloc (.cells (ints .u32 wordsL) 27)) (.cells (cellsB root).toArray 30)) (.cells #[.int .i64 X.lo, .int .i64 X.hi, .int .i64 X.tag, .int .i64 index, .int .i64 count, .int .i64 size, .slice PA pn pc] 37) = w0 := ⟨_, rfl⟩
  have B0 : Below w.heap.size w w0 := hW0 ▸ Below.on (Below.on (Below.new1 _ _) (Below.new1 _ _)) (Below.new1 _ _)
  have y4 : BoxW w0 w.heap.size := hW0 ▸ ((BoxW.new w).next (Below.new1 _ _)).next (Below.new1 _ _)
  have y5 : BoxH w0 (w.heap.size + 1) root := by
    have := (BoxH.new (w.alloc (.cells (ints .u32 wordsL) 27)) root).next (Below.new1 _ (.cells #[.int .i64 X.lo, .int .i64 X.hi, .int .i64 X.tag, .int .i64 index, .int .i64 count, .int .i64 size, .slice PA pn pc] 37))
    rw [World.size_alloc] at this; exact hW0 ▸ this
  have x7 : w0.heap[w.heap.size + 1 + 1]? = some (.cells #[.int .i64 X.lo, .int .i64 X.hi, .int .i64 X.tag, .int .i64 index, .int .i64 count, .int .i64 size, .slice PA pn pc] 37 (0, 0)) := by
    have := heap_alloc_new ((w.alloc (.cells (ints .u32 wordsL) 27)).alloc (.cells (cellsB root).toArray 30)) (.cells #[.int .i64 X.lo, .int .i64 X.hi, .int .i64 X.tag, .int .i64 index, .int .i64 count, .int .i64 size, .slice PA pn pc] 37)
    rw [World.size_alloc, World.size_alloc] at this; exact hW0 ▸ this
  have z0 : w.heap.size + 1 + 1 < w0.heap.size := (Array.getElem?_eq_some_iff.1 x7).1
  have c0 : w0.cell? ⟨w.heap.size + 1 + 1, 0, none⟩ = some (.int .i64 X.lo) := (cell_of_row w0 _ 0 _ _ _ x7).trans rfl
  have c1 : w0.cell? ⟨w.heap.size + 1 + 1, 1, none⟩ = some (.int .i64 X.hi) := (cell_of_row w0 _ 1 _ _ _ x7).trans rfl
  have c2 : w0.cell? ⟨w.heap.size + 1 + 1, 2, none⟩ = some (.int .i64 X.tag) := (cell_of_row w0 _ 2 _ _ _ x7).trans rfl
  have c3 : w0.cell? ⟨w.heap.size + 1 + 1, 3, none⟩ = some (.int .i64 index) := (cell_of_row w0 _ 3 _ _ _ x7).trans rfl
  have c4 : w0.cell? ⟨w.heap.size + 1 + 1, 4, none⟩ = some (.int .i64 count) := (cell_of_row w0 _ 4 _ _ _ x7).trans rfl
  have c5 : w0.cell? ⟨w.heap.size + 1 + 1, 5, none⟩ = some (.int .i64 size) := (cell_of_row w0 _ 5 _ _ _ x7).trans rfl
  have c6 : w0.cell? ⟨w.heap.size + 1 + 1, 6, none⟩ = some (.slice PA pn pc) := (cell_of_row w0 _ 6 _ _ _ x7).trans rfl
  have HO := Lib.hid hW0
  clear hW0 y4 y5 x7
  go_enter Tryd.func22, Tryd.ntmps22
  go_upto_region 1 with (fail)
  change Code.wp _ _ _ _ (World.alloc (World.alloc (w.alloc (.cells (ints .u32 wordsL) 27)) (.cells (cellsB root).toArray 30)) (.cells #[.int .i64 X.lo, .int .i64 X.hi, .int .i64 X.tag, .int .i64 index, .int .i64 count, .int .i64 size, .slice PA pn pc] 37))
  rw [HO.out]
  clear HO
  go_upto_region 2 with (fail)
  simp only [List.append_eq, List.cons_append, List.nil_append]
  go_wp2_with (fail)
  go_ret2
  exact ⟨rfl, Below.on B0 (Below.new1 _ _)⟩
set_option maxRecDepth 100000 in
set_option maxHeartbeats 4000000 in
theorem racc_no6 (root : Bs) (at_ : Int) (X : Rn) (index count size : Int) (PA : Option Addr) (pn pc : Nat) (w : World) (h0 : 0 ≤ X.lo) (h1 : X.lo ≤ at_) (h2 : at_ < X.hi) (h3 : X.hi ≤ size) (h4 : size ≤ 1099511627776) (h5 : ¬ X.tag < 0) (h6 : 16 ≤ X.tag) : Calls Tryd.prog 22 #[wordsV, hashV root, .int .i64 at_, claim1V X index count size PA pn pc] w fun e w' => e = .returned (.tuple #[.int .i64 0, .bool false]) ∧ Below w.heap.size w w' := by
  obtain ⟨w0, hW0⟩ : ∃ w0, World.alloc (World.alloc (w.alloc (.cells (ints .u32 wordsL) 27)) (.cells (cellsB root).toArray 30)) (.cells #[.int .i64 X.lo, .int .i64 X.hi, .int .i64 X.tag, .int .i64 index, .int .i64 count, .int .i64 size, .slice PA pn pc] 37) = w0 := ⟨_, rfl⟩
  have B0 : Below w.heap.size w w0 := hW0 ▸ Below.on (Below.on (Below.new1 _ _) (Below.new1 _ _)) (Below.new1 _ _)
  have y4 : BoxW w0 w.heap.size := hW0 ▸ ((BoxW.new w).next (Below.new1 _ _)).next (Below.new1 _ _)
  have y5 : BoxH w0 (w.heap.size + 1) root := by
    have := (BoxH.new (w.alloc (.cells (ints .u32 wordsL) 27)) root).next (Below.new1 _ (.cells #[.int .i64 X.lo, .int .i64 X.hi, .int .i64 X.tag, .int .i64 index, .int .i64 count, .int .i64 size, .slice PA pn pc] 37))
    rw [World.size_alloc] at this; exact hW0 ▸ this
  have x7 : w0.heap[w.heap.size + 1 + 1]? = some (.cells #[.int .i64 X.lo, .int .i64 X.hi, .int .i64 X.tag, .int .i64 index, .int .i64 count, .int .i64 size, .slice PA pn pc] 37 (0, 0)) := by
    have := heap_alloc_new ((w.alloc (.cells (ints .u32 wordsL) 27)).alloc (.cells (cellsB root).toArray 30)) (.cells #[.int .i64 X.lo, .int .i64 X.hi, .int .i64 X.tag, .int .i64 index, .int .i64 count, .int .i64 size, .slice PA pn pc] 37)
    rw [World.size_alloc, World.size_alloc] at this; exact hW0 ▸ this
  have z0 : w.heap.size + 1 + 1 < w0.heap.size := (Array.getElem?_eq_some_iff.1 x7).1
  have c0 : w0.cell? ⟨w.heap.size + 1 + 1, 0, none⟩ = some (.int .i64 X.lo) := (cell_of_row w0 _ 0 _ _ _ x7).trans rfl
  have c1 : w0.cell? ⟨w.heap.size + 1 + 1, 1, none⟩ = some (.int .i64 X.hi) := (cell_of_row w0 _ 1 _ _ _ x7).trans rfl
  have c2 : w0.cell? ⟨w.heap.size + 1 + 1, 2, none⟩ = some (.int .i64 X.tag) := (cell_of_row w0 _ 2 _ _ _ x7).trans rfl
  have c3 : w0.cell? ⟨w.heap.size + 1 + 1, 3, none⟩ = some (.int .i64 index) := (cell_of_row w0 _ 3 _ _ _ x7).trans rfl
  have c4 : w0.cell? ⟨w.heap.size + 1 + 1, 4, none⟩ = some (.int .i64 count) := (cell_of_row w0 _ 4 _ _ _ x7).trans rfl
  have c5 : w0.cell? ⟨w.heap.size + 1 + 1, 5, none⟩ = some (.int .i64 size) := (cell_of_row w0 _ 5 _ _ _ x7).trans rfl
  have c6 : w0.cell? ⟨w.heap.size + 1 + 1, 6, none⟩ = some (.slice PA pn pc) := (cell_of_row w0 _ 6 _ _ _ x7).trans rfl
  have HO := Lib.hid hW0
  clear hW0 y4 y5 x7
  go_enter Tryd.func22, Tryd.ntmps22
  go_upto_region 1 with (fail)
  change Code.wp _ _ _ _ (World.alloc (World.alloc (w.alloc (.cells (ints .u32 wordsL) 27)) (.cells (cellsB root).toArray 30)) (.cells #[.int .i64 X.lo, .int .i64 X.hi, .int .i64 X.tag, .int .i64 index, .int .i64 count, .int .i64 size, .slice PA pn pc] 37))
  rw [HO.out]
  clear HO
  go_upto_region 2 with (fail)
  simp only [List.append_eq, List.cons_append, List.nil_append]
  go_wp2_with (fail)
  go_ret2
  exact ⟨rfl, Below.on B0 (Below.new1 _ _)⟩
set_option maxRecDepth 100000 in
set_option maxHeartbeats 4000000 in
theorem racc_no7 (root : Bs) (at_ : Int) (X : Rn) (index count size : Int) (PA : Option Addr) (pn pc : Nat) (w : World) (h0 : 0 ≤ X.lo) (h1 : X.lo ≤ at_) (h2 : at_ < X.hi) (h3 : X.hi ≤ size) (h4 : size ≤ 1099511627776) (h5 : ¬ X.tag < 0) (h6 : ¬ 16 ≤ X.tag) (h7 : ¬ 0 ≤ index) : Calls Tryd.prog 22 #[wordsV, hashV root, .int .i64 at_, claim1V X index count size PA pn pc] w fun e w' => e = .returned (.tuple #[.int .i64 0, .bool false]) ∧ Below w.heap.size w w' := by
  obtain ⟨w0, hW0⟩ : ∃ w0, World.alloc (World.alloc (w.alloc (.cells (ints .u32 wordsL) 27)) (.cells (cellsB root).toArray 30)) (.cells #[.int .i64 X.lo, .int .i64 X.hi, .int .i64 X.tag, .int .i64 index, .int .i64 count, .int .i64 size, .slice PA pn pc] 37) = w0 := ⟨_, rfl⟩
  have B0 : Below w.heap.size w w0 := hW0 ▸ Below.on (Below.on (Below.new1 _ _) (Below.new1 _ _)) (Below.new1 _ _)
  have y4 : BoxW w0 w.heap.size := hW0 ▸ ((BoxW.new w).next (Below.new1 _ _)).next (Below.new1 _ _)
  have y5 : BoxH w0 (w.heap.size + 1) root := by
    have := (BoxH.new (w.alloc (.cells (ints .u32 wordsL) 27)) root).next (Below.new1 _ (.cells #[.int .i64 X.lo, .int .i64 X.hi, .int .i64 X.tag, .int .i64 index, .int .i64 count, .int .i64 size, .slice PA pn pc] 37))
    rw [World.size_alloc] at this; exact hW0 ▸ this
  have x7 : w0.heap[w.heap.size + 1 + 1]? = some (.cells #[.int .i64 X.lo, .int .i64 X.hi, .int .i64 X.tag, .int .i64 index, .int .i64 count, .int .i64 size, .slice PA pn pc] 37 (0, 0)) := by
    have := heap_alloc_new ((w.alloc (.cells (ints .u32 wordsL) 27)).alloc (.cells (cellsB root).toArray 30)) (.cells #[.int .i64 X.lo, .int .i64 X.hi, .int .i64 X.tag, .int .i64 index, .int .i64 count, .int .i64 size, .slice PA pn pc] 37)
    rw [World.size_alloc, World.size_alloc] at this; exact hW0 ▸ this
  have z0 : w.heap.size + 1 + 1 < w0.heap.size := (Array.getElem?_eq_some_iff.1 x7).1
  have c0 : w0.cell? ⟨w.heap.size + 1 + 1, 0, none⟩ = some (.int .i64 X.lo) := (cell_of_row w0 _ 0 _ _ _ x7).trans rfl
  have c1 : w0.cell? ⟨w.heap.size + 1 + 1, 1, none⟩ = some (.int .i64 X.hi) := (cell_of_row w0 _ 1 _ _ _ x7).trans rfl
  have c2 : w0.cell? ⟨w.heap.size + 1 + 1, 2, none⟩ = some (.int .i64 X.tag) := (cell_of_row w0 _ 2 _ _ _ x7).trans rfl
  have c3 : w0.cell? ⟨w.heap.size + 1 + 1, 3, none⟩ = some (.int .i64 index) := (cell_of_row w0 _ 3 _ _ _ x7).trans rfl
  have c4 : w0.cell? ⟨w.heap.size + 1 + 1, 4, none⟩ = some (.int .i64 count) := (cell_of_row w0 _ 4 _ _ _ x7).trans rfl
  have c5 : w0.cell? ⟨w.heap.size + 1 + 1, 5, none⟩ = some (.int .i64 size) := (cell_of_row w0 _ 5 _ _ _ x7).trans rfl
  have c6 : w0.cell? ⟨w.heap.size + 1 + 1, 6, none⟩ = some (.slice PA pn pc) := (cell_of_row w0 _ 6 _ _ _ x7).trans rfl
  have HO := Lib.hid hW0
  clear hW0 y4 y5 x7
  go_enter Tryd.func22, Tryd.ntmps22
  go_upto_region 1 with (fail)
  change Code.wp _ _ _ _ (World.alloc (World.alloc (w.alloc (.cells (ints .u32 wordsL) 27)) (.cells (cellsB root).toArray 30)) (.cells #[.int .i64 X.lo, .int .i64 X.hi, .int .i64 X.tag, .int .i64 index, .int .i64 count, .int .i64 size, .slice PA pn pc] 37))
  rw [HO.out]
  clear HO
  go_upto_region 2 with (fail)
  simp only [List.append_eq, List.cons_append, List.nil_append]
  go_wp2_with (fail)
  go_ret2
  exact ⟨rfl, Below.on B0 (Below.new1 _ _)⟩
set_option maxRecDepth 100000 in
set_option maxHeartbeats 4000000 in
theorem racc_no8 (root : Bs) (at_ : Int) (X : Rn) (index count size : Int) (PA : Option Addr) (pn pc : Nat) (w : World) (h0 : 0 ≤ X.lo) (h1 : X.lo ≤ at_) (h2 : at_ < X.hi) (h3 : X.hi ≤ size) (h4 : size ≤ 1099511627776) (h5 : ¬ X.tag < 0) (h6 : ¬ 16 ≤ X.tag) (h7 : 0 ≤ index) (h8 : ¬ index < count) : Calls Tryd.prog 22 #[wordsV, hashV root, .int .i64 at_, claim1V X index count size PA pn pc] w fun e w' => e = .returned (.tuple #[.int .i64 0, .bool false]) ∧ Below w.heap.size w w' := by
  obtain ⟨w0, hW0⟩ : ∃ w0, World.alloc (World.alloc (w.alloc (.cells (ints .u32 wordsL) 27)) (.cells (cellsB root).toArray 30)) (.cells #[.int .i64 X.lo, .int .i64 X.hi, .int .i64 X.tag, .int .i64 index, .int .i64 count, .int .i64 size, .slice PA pn pc] 37) = w0 := ⟨_, rfl⟩
  have B0 : Below w.heap.size w w0 := hW0 ▸ Below.on (Below.on (Below.new1 _ _) (Below.new1 _ _)) (Below.new1 _ _)
  have y4 : BoxW w0 w.heap.size := hW0 ▸ ((BoxW.new w).next (Below.new1 _ _)).next (Below.new1 _ _)
  have y5 : BoxH w0 (w.heap.size + 1) root := by
    have := (BoxH.new (w.alloc (.cells (ints .u32 wordsL) 27)) root).next (Below.new1 _ (.cells #[.int .i64 X.lo, .int .i64 X.hi, .int .i64 X.tag, .int .i64 index, .int .i64 count, .int .i64 size, .slice PA pn pc] 37))
    rw [World.size_alloc] at this; exact hW0 ▸ this
  have x7 : w0.heap[w.heap.size + 1 + 1]? = some (.cells #[.int .i64 X.lo, .int .i64 X.hi, .int .i64 X.tag, .int .i64 index, .int .i64 count, .int .i64 size, .slice PA pn pc] 37 (0, 0)) := by
    have := heap_alloc_new ((w.alloc (.cells (ints .u32 wordsL) 27)).alloc (.cells (cellsB root).toArray 30)) (.cells #[.int .i64 X.lo, .int .i64 X.hi, .int .i64 X.tag, .int .i64 index, .int .i64 count, .int .i64 size, .slice PA pn pc] 37)
    rw [World.size_alloc, World.size_alloc] at this; exact hW0 ▸ this
  have z0 : w.heap.size + 1 + 1 < w0.heap.size := (Array.getElem?_eq_some_iff.1 x7).1
  have c0 : w0.cell? ⟨w.heap.size + 1 + 1, 0, none⟩ = some (.int .i64 X.lo) := (cell_of_row w0 _ 0 _ _ _ x7).trans rfl
  have c1 : w0.cell? ⟨w.heap.size + 1 + 1, 1, none⟩ = some (.int .i64 X.hi) := (cell_of_row w0 _ 1 _ _ _ x7).trans rfl
  have c2 : w0.cell? ⟨w.heap.size + 1 + 1, 2, none⟩ = some (.int .i64 X.tag) := (cell_of_row w0 _ 2 _ _ _ x7).trans rfl
  have c3 : w0.cell? ⟨w.heap.size + 1 + 1, 3, none⟩ = some (.int .i64 index) := (cell_of_row w0 _ 3 _ _ _ x7).trans rfl
  have c4 : w0.cell? ⟨w.heap.size + 1 + 1, 4, none⟩ = some (.int .i64 count) := (cell_of_row w0 _ 4 _ _ _ x7).trans rfl
  have c5 : w0.cell? ⟨w.heap.size + 1 + 1, 5, none⟩ = some (.int .i64 size) := (cell_of_row w0 _ 5 _ _ _ x7).trans rfl
  have c6 : w0.cell? ⟨w.heap.size + 1 + 1, 6, none⟩ = some (.slice PA pn pc) := (cell_of_row w0 _ 6 _ _ _ x7).trans rfl
  have HO := Lib.hid hW0
  clear hW0 y4 y5 x7
  go_enter Tryd.func22, Tryd.ntmps22
  go_upto_region 1 with (fail)
  change Code.wp _ _ _ _ (World.alloc (World.alloc (w.alloc (.cells (ints .u32 wordsL) 27)) (.cells (cellsB root).toArray 30)) (.cells #[.int .i64 X.lo, .int .i64 X.hi, .int .i64 X.tag, .int .i64 index, .int .i64 count, .int .i64 size, .slice PA pn pc] 37))
  rw [HO.out]
  clear HO
  go_upto_region 2 with (fail)
  simp only [List.append_eq, List.cons_append, List.nil_append]
  go_wp2_with (fail)
  go_ret2
  exact ⟨rfl, Below.on B0 (Below.new1 _ _)⟩
set_option maxRecDepth 100000 in
set_option maxHeartbeats 4000000 in
theorem racc_no9 (root : Bs) (at_ : Int) (X : Rn) (index count size : Int) (PA : Option Addr) (pn pc : Nat) (w : World) (h0 : 0 ≤ X.lo) (h1 : X.lo ≤ at_) (h2 : at_ < X.hi) (h3 : X.hi ≤ size) (h4 : size ≤ 1099511627776) (h5 : ¬ X.tag < 0) (h6 : ¬ 16 ≤ X.tag) (h7 : 0 ≤ index) (h8 : index < count) (h9 : ¬ count ≤ 4096) : Calls Tryd.prog 22 #[wordsV, hashV root, .int .i64 at_, claim1V X index count size PA pn pc] w fun e w' => e = .returned (.tuple #[.int .i64 0, .bool false]) ∧ Below w.heap.size w w' := by
  obtain ⟨w0, hW0⟩ : ∃ w0, World.alloc (World.alloc (w.alloc (.cells (ints .u32 wordsL) 27)) (.cells (cellsB root).toArray 30)) (.cells #[.int .i64 X.lo, .int .i64 X.hi, .int .i64 X.tag, .int .i64 index, .int .i64 count, .int .i64 size, .slice PA pn pc] 37) = w0 := ⟨_, rfl⟩
  have B0 : Below w.heap.size w w0 := hW0 ▸ Below.on (Below.on (Below.new1 _ _) (Below.new1 _ _)) (Below.new1 _ _)
  have y4 : BoxW w0 w.heap.size := hW0 ▸ ((BoxW.new w).next (Below.new1 _ _)).next (Below.new1 _ _)
  have y5 : BoxH w0 (w.heap.size + 1) root := by
    have := (BoxH.new (w.alloc (.cells (ints .u32 wordsL) 27)) root).next (Below.new1 _ (.cells #[.int .i64 X.lo, .int .i64 X.hi, .int .i64 X.tag, .int .i64 index, .int .i64 count, .int .i64 size, .slice PA pn pc] 37))
    rw [World.size_alloc] at this; exact hW0 ▸ this
  have x7 : w0.heap[w.heap.size + 1 + 1]? = some (.cells #[.int .i64 X.lo, .int .i64 X.hi, .int .i64 X.tag, .int .i64 index, .int .i64 count, .int .i64 size, .slice PA pn pc] 37 (0, 0)) := by
    have := heap_alloc_new ((w.alloc (.cells (ints .u32 wordsL) 27)).alloc (.cells (cellsB root).toArray 30)) (.cells #[.int .i64 X.lo, .int .i64 X.hi, .int .i64 X.tag, .int .i64 index, .int .i64 count, .int .i64 size, .slice PA pn pc] 37)
    rw [World.size_alloc, World.size_alloc] at this; exact hW0 ▸ this
  have z0 : w.heap.size + 1 + 1 < w0.heap.size := (Array.getElem?_eq_some_iff.1 x7).1
  have c0 : w0.cell? ⟨w.heap.size + 1 + 1, 0, none⟩ = some (.int .i64 X.lo) := (cell_of_row w0 _ 0 _ _ _ x7).trans rfl
  have c1 : w0.cell? ⟨w.heap.size + 1 + 1, 1, none⟩ = some (.int .i64 X.hi) := (cell_of_row w0 _ 1 _ _ _ x7).trans rfl
  have c2 : w0.cell? ⟨w.heap.size + 1 + 1, 2, none⟩ = some (.int .i64 X.tag) := (cell_of_row w0 _ 2 _ _ _ x7).trans rfl
  have c3 : w0.cell? ⟨w.heap.size + 1 + 1, 3, none⟩ = some (.int .i64 index) := (cell_of_row w0 _ 3 _ _ _ x7).trans rfl
  have c4 : w0.cell? ⟨w.heap.size + 1 + 1, 4, none⟩ = some (.int .i64 count) := (cell_of_row w0 _ 4 _ _ _ x7).trans rfl
  have c5 : w0.cell? ⟨w.heap.size + 1 + 1, 5, none⟩ = some (.int .i64 size) := (cell_of_row w0 _ 5 _ _ _ x7).trans rfl
  have c6 : w0.cell? ⟨w.heap.size + 1 + 1, 6, none⟩ = some (.slice PA pn pc) := (cell_of_row w0 _ 6 _ _ _ x7).trans rfl
  have HO := Lib.hid hW0
  clear hW0 y4 y5 x7
  go_enter Tryd.func22, Tryd.ntmps22
  go_upto_region 1 with (fail)
  change Code.wp _ _ _ _ (World.alloc (World.alloc (w.alloc (.cells (ints .u32 wordsL) 27)) (.cells (cellsB root).toArray 30)) (.cells #[.int .i64 X.lo, .int .i64 X.hi, .int .i64 X.tag, .int .i64 index, .int .i64 count, .int .i64 size, .slice PA pn pc] 37))
  rw [HO.out]
  clear HO
  go_upto_region 2 with (fail)
  simp only [List.append_eq, List.cons_append, List.nil_append]
  go_wp2_with (fail)
  go_ret2
  exact ⟨rfl, Below.on B0 (Below.new1 _ _)⟩
set_option maxRecDepth 100000 in
set_option maxHeartbeats 4000000 in
theorem racc_no10 (root : Bs) (at_ : Int) (X : Rn) (index count size : Int) (PA : Option Addr) (pn pc : Nat) (w : World) (h0 : 0 ≤ X.lo) (h1 : X.lo ≤ at_) (h2 : at_ < X.hi) (h3 : X.hi ≤ size) (h4 : size ≤ 1099511627776) (h5 : ¬ X.tag < 0) (h6 : ¬ 16 ≤ X.tag) (h7 : 0 ≤ index) (h8 : index < count) (h9 : count ≤ 4096) (b1 : Bool) (ha : (X.lo == 0) = b1) (hb : (index == 0) = !b1) : Calls Tryd.prog 22 #[wordsV, hashV root, .int .i64 at_, claim1V X index count size PA pn pc] w fun e w' => e = .returned (.tuple #[.int .i64 0, .bool false]) ∧ Below w.heap.size w w' := by
  obtain ⟨w0, hW0⟩ : ∃ w0, World.alloc (World.alloc (w.alloc (.cells (ints .u32 wordsL) 27)) (.cells (cellsB root).toArray 30)) (.cells #[.int .i64 X.lo, .int .i64 X.hi, .int .i64 X.tag, .int .i64 index, .int .i64 count, .int .i64 size, .slice PA pn pc] 37) = w0 := ⟨_, rfl⟩
  have B0 : Below w.heap.size w w0 := hW0 ▸ Below.on (Below.on (Below.new1 _ _) (Below.new1 _ _)) (Below.new1 _ _)
  have y4 : BoxW w0 w.heap.size := hW0 ▸ ((BoxW.new w).next (Below.new1 _ _)).next (Below.new1 _ _)
  have y5 : BoxH w0 (w.heap.size + 1) root := by
    have := (BoxH.new (w.alloc (.cells (ints .u32 wordsL) 27)) root).next (Below.new1 _ (.cells #[.int .i64 X.lo, .int .i64 X.hi, .int .i64 X.tag, .int .i64 index, .int .i64 count, .int .i64 size, .slice PA pn pc] 37))
    rw [World.size_alloc] at this; exact hW0 ▸ this
  have x7 : w0.heap[w.heap.size + 1 + 1]? = some (.cells #[.int .i64 X.lo, .int .i64 X.hi, .int .i64 X.tag, .int .i64 index, .int .i64 count, .int .i64 size, .slice PA pn pc] 37 (0, 0)) := by
    have := heap_alloc_new ((w.alloc (.cells (ints .u32 wordsL) 27)).alloc (.cells (cellsB root).toArray 30)) (.cells #[.int .i64 X.lo, .int .i64 X.hi, .int .i64 X.tag, .int .i64 index, .int .i64 count, .int .i64 size, .slice PA pn pc] 37)
    rw [World.size_alloc, World.size_alloc] at this; exact hW0 ▸ this
  have z0 : w.heap.size + 1 + 1 < w0.heap.size := (Array.getElem?_eq_some_iff.1 x7).1
  have c0 : w0.cell? ⟨w.heap.size + 1 + 1, 0, none⟩ = some (.int .i64 X.lo) := (cell_of_row w0 _ 0 _ _ _ x7).trans rfl
  have c1 : w0.cell? ⟨w.heap.size + 1 + 1, 1, none⟩ = some (.int .i64 X.hi) := (cell_of_row w0 _ 1 _ _ _ x7).trans rfl
  have c2 : w0.cell? ⟨w.heap.size + 1 + 1, 2, none⟩ = some (.int .i64 X.tag) := (cell_of_row w0 _ 2 _ _ _ x7).trans rfl
  have c3 : w0.cell? ⟨w.heap.size + 1 + 1, 3, none⟩ = some (.int .i64 index) := (cell_of_row w0 _ 3 _ _ _ x7).trans rfl
  have c4 : w0.cell? ⟨w.heap.size + 1 + 1, 4, none⟩ = some (.int .i64 count) := (cell_of_row w0 _ 4 _ _ _ x7).trans rfl
  have c5 : w0.cell? ⟨w.heap.size + 1 + 1, 5, none⟩ = some (.int .i64 size) := (cell_of_row w0 _ 5 _ _ _ x7).trans rfl
  have c6 : w0.cell? ⟨w.heap.size + 1 + 1, 6, none⟩ = some (.slice PA pn pc) := (cell_of_row w0 _ 6 _ _ _ x7).trans rfl
  have HO := Lib.hid hW0
  clear hW0 y4 y5 x7
  go_enter Tryd.func22, Tryd.ntmps22
  go_upto_region 1 with (fail)
  change Code.wp _ _ _ _ (World.alloc (World.alloc (w.alloc (.cells (ints .u32 wordsL) 27)) (.cells (cellsB root).toArray 30)) (.cells #[.int .i64 X.lo, .int .i64 X.hi, .int .i64 X.tag, .int .i64 index, .int .i64 count, .int .i64 size, .slice PA pn pc] 37))
  rw [HO.out]
  clear HO
  cases b1
  all_goals
    simp only [Bool.not_true, Bool.not_false] at hb
    go_upto_region 2 with (fail)
    simp only [List.append_eq, List.cons_append, List.nil_append]
    go_wp2_with (fail)
    go_ret2
    exact ⟨rfl, Below.on B0 (Below.new1 _ _)⟩
set_option maxRecDepth 100000 in
set_option maxHeartbeats 4000000 in
theorem racc_no11 (root : Bs) (at_ : Int) (X : Rn) (index count size : Int) (PA : Option Addr) (pn pc : Nat) (w : World) (h0 : 0 ≤ X.lo) (h1 : X.lo ≤ at_) (h2 : at_ < X.hi) (h3 : X.hi ≤ size) (h4 : size ≤ 1099511627776) (h5 : ¬ X.tag < 0) (h6 : ¬ 16 ≤ X.tag) (h7 : 0 ≤ index) (h8 : index < count) (h9 : count ≤ 4096) (b1 b2 : Bool) (ha : (X.lo == 0) = b1) (hb : (index == 0) = b1) (hc : (X.hi == size) = b2) (hd : (index == count - 1) = !b2) : Calls Tryd.prog 22 #[wordsV, hashV root, .int .i64 at_, claim1V X index count size PA pn pc] w fun e w' => e = .returned (.tuple #[.int .i64 0, .bool false]) ∧ Below w.heap.size w w' := by
  obtain ⟨w0, hW0⟩ : ∃ w0, World.alloc (World.alloc (w.alloc (.cells (ints .u32 wordsL) 27)) (.cells (cellsB root).toArray 30)) (.cells #[.int .i64 X.lo, .int .i64 X.hi, .int .i64 X.tag, .int .i64 index, .int .i64 count, .int .i64 size, .slice PA pn pc] 37) = w0 := ⟨_, rfl⟩
  have B0 : Below w.heap.size w w0 := hW0 ▸ Below.on (Below.on (Below.new1 _ _) (Below.new1 _ _)) (Below.new1 _ _)
  have y4 : BoxW w0 w.heap.size := hW0 ▸ ((BoxW.new w).next (Below.new1 _ _)).next (Below.new1 _ _)
  have y5 : BoxH w0 (w.heap.size + 1) root := by
    have := (BoxH.new (w.alloc (.cells (ints .u32 wordsL) 27)) root).next (Below.new1 _ (.cells #[.int .i64 X.lo, .int .i64 X.hi, .int .i64 X.tag, .int .i64 index, .int .i64 count, .int .i64 size, .slice PA pn pc] 37))
    rw [World.size_alloc] at this; exact hW0 ▸ this
  have x7 : w0.heap[w.heap.size + 1 + 1]? = some (.cells #[.int .i64 X.lo, .int .i64 X.hi, .int .i64 X.tag, .int .i64 index, .int .i64 count, .int .i64 size, .slice PA pn pc] 37 (0, 0)) := by
    have := heap_alloc_new ((w.alloc (.cells (ints .u32 wordsL) 27)).alloc (.cells (cellsB root).toArray 30)) (.cells #[.int .i64 X.lo, .int .i64 X.hi, .int .i64 X.tag, .int .i64 index, .int .i64 count, .int .i64 size, .slice PA pn pc] 37)
    rw [World.size_alloc, World.size_alloc] at this; exact hW0 ▸ this
  have z0 : w.heap.size + 1 + 1 < w0.heap.size := (Array.getElem?_eq_some_iff.1 x7).1
  have c0 : w0.cell? ⟨w.heap.size + 1 + 1, 0, none⟩ = some (.int .i64 X.lo) := (cell_of_row w0 _ 0 _ _ _ x7).trans rfl
  have c1 : w0.cell? ⟨w.heap.size + 1 + 1, 1, none⟩ = some (.int .i64 X.hi) := (cell_of_row w0 _ 1 _ _ _ x7).trans rfl
  have c2 : w0.cell? ⟨w.heap.size + 1 + 1, 2, none⟩ = some (.int .i64 X.tag) := (cell_of_row w0 _ 2 _ _ _ x7).trans rfl
  have c3 : w0.cell? ⟨w.heap.size + 1 + 1, 3, none⟩ = some (.int .i64 index) := (cell_of_row w0 _ 3 _ _ _ x7).trans rfl
  have c4 : w0.cell? ⟨w.heap.size + 1 + 1, 4, none⟩ = some (.int .i64 count) := (cell_of_row w0 _ 4 _ _ _ x7).trans rfl
  have c5 : w0.cell? ⟨w.heap.size + 1 + 1, 5, none⟩ = some (.int .i64 size) := (cell_of_row w0 _ 5 _ _ _ x7).trans rfl
  have c6 : w0.cell? ⟨w.heap.size + 1 + 1, 6, none⟩ = some (.slice PA pn pc) := (cell_of_row w0 _ 6 _ _ _ x7).trans rfl
  have HO := Lib.hid hW0
  clear hW0 y4 y5 x7
  go_enter Tryd.func22, Tryd.ntmps22
  go_upto_region 1 with (fail)
  change Code.wp _ _ _ _ (World.alloc (World.alloc (w.alloc (.cells (ints .u32 wordsL) 27)) (.cells (cellsB root).toArray 30)) (.cells #[.int .i64 X.lo, .int .i64 X.hi, .int .i64 X.tag, .int .i64 index, .int .i64 count, .int .i64 size, .slice PA pn pc] 37))
  rw [HO.out]
  clear HO
  have hw : IntKind.i64.wrap (count - 1) = count - 1 := IntWalk.i64_in _ (by omega)
  cases b1 <;> cases b2
  all_goals
    simp only [Bool.not_true, Bool.not_false] at hd
    go_upto_region 2 with (fail)
    simp only [List.append_eq, List.cons_append, List.nil_append]
    go_wp2_with (fail)
    go_ret2
    exact ⟨rfl, Below.on B0 (Below.new1 _ _)⟩
end Go.Proofs.YtcocengpekndjaaDoor
