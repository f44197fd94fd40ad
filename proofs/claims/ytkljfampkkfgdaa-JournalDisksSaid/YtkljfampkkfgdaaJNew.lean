/- The journal layer: the walk over NewDisk. -/
import Derived.Test.YtkljfampkkfgdaaJSync
namespace Go.Proofs.Ytkljfampkkfgdaa
open Go.RowKit
noncomputable abbrev zeroSec : Value := .agg (ints .u8 (List.replicate 64 0) ++ #[.slice none 0 0])
theorem infoSec : (Try.prog.info? 98).map (fun i => (i.zero, i.size, i.bytes)) = some (some zeroSec, 65, 88) := by kernel_rfl
theorem zeroSec_cells : zeroSec.cells = (cellsB (List.replicate 64 0) ++ [Value.slice none 0 0]).toArray := by
  show (ints .u8 (List.replicate 64 0) ++ #[.slice none 0 0]) = _
  simp [ints, cellsB]
theorem make_secs (n : Nat) (hn : n ≤ 4096) (W : World) : (Instr.makeSlice 92 (.int .i64 n) (.int .i64 n)).run Try.prog W = .ok (.slice (some ⟨W.heap.size, 0, none⟩) n n) (W.alloc (.cells (madeCells zeroSec.cells (n * 65)) 98)) := by
  obtain ⟨i0, hi, hz0, hz1, hz2⟩ := info_parts infoSec
  have h := run_make (P := Try.prog) W 92 98 i0 zeroSec (by kernel_rfl) hi hz0 .i64 .i64 n n (by omega) (by omega) (by rw [hz2]; omega) (by omega)
  rw [h, hz1, Int.toNat_natCast]
theorem secs_at {n i j : Nat} (hi : i < n) {v : Value} (hv : (cellsB (List.replicate 64 0) ++ [Value.slice none 0 0])[j]? = some v) : (madeCells zeroSec.cells (n * 65))[i * 65 + j]? = some v := by
  have hj : j < 65 := by have := (List.getElem?_eq_some_iff.1 hv).1; simpa [cellsB_length] using this
  have hs : zeroSec.cells.size = 65 := by rw [zeroSec_cells]; simp [cellsB_length]
  have hlt : i * 65 + j < n * 65 := by
    have : (i + 1) * 65 ≤ n * 65 := Nat.mul_le_mul_right _ hi
    omega
  unfold madeCells
  rw [Array.getElem?_map, Array.getElem?_range, if_pos hlt, Option.map_some, hs, show (i * 65 + j) % 65 = j from by omega]
  congr 1
  rw [getElem!_pos _ _ (by rw [hs]; exact hj)]
  have : zeroSec.cells[j]? = some v := by rw [zeroSec_cells, List.getElem?_toArray]; exact hv
  rw [Array.getElem?_eq_getElem (by rw [hs]; exact hj)] at this
  exact Option.some.inj this
theorem newM_at (W : World) (n : Nat) (h8 : 8 ≤ n) (hn : n ≤ 4096) :
    DiskAt ((W.alloc (.cells (madeCells zeroSec.cells (n * 65)) 98)).alloc (.cells #[.slice (some ⟨W.heap.size, 0, none⟩) n n, .bool false, .int .i64 (-1), .int .i64 0] 100)) (W.heap.size + 1) (newM n) (fun i => i = W.heap.size + 1 ∨ i = W.heap.size) := by
  have hb : ∀ o, ((W.alloc (.cells (madeCells zeroSec.cells (n * 65)) 98)).alloc o).heap[W.heap.size]? = some (.cells (madeCells zeroSec.cells (n * 65)) 98 (0, 0)) := fun o => by
    rw [Below.heap_alloc _ _ _ (by simp)]
    exact heap_alloc_new W _
  have hd : ∀ o, ((W.alloc (.cells (madeCells zeroSec.cells (n * 65)) 98)).alloc o).heap[W.heap.size + 1]? = some o := fun o => by
    have := heap_alloc_new (W.alloc (.cells (madeCells zeroSec.cells (n * 65)) 98)) o
    rw [World.size_alloc] at this; exact this
  refine ⟨W.heap.size, n, List.replicate n (.slice none 0 0), ⟨?_, ?_, ?_, ?_, ?_, ?_, ?_, ?_, ?_, ⟨?_, ?_, ?_, ?_, ?_, ?_⟩⟩, ?_⟩
  · rw [hd]; simp [newM]
  · intro i s v hs hv j u hu
    have hi : i < n := by have := (List.getElem?_eq_some_iff.1 hv).1; simpa using this
    obtain rfl : zeroS = s := by simpa [newM, List.getElem?_replicate, hi] using hs
    obtain rfl : Value.slice none 0 0 = v := by simpa [List.getElem?_replicate, hi] using hv
    rw [cell_of_row _ _ _ _ _ _ (hb _)]
    exact secs_at hi hu
  · intro o
    simp [World.frozen?, hb]
  · simp [newM]
  · simp [newM]
  · intro i s v hs hv
    have hi : i < n := by have := (List.getElem?_eq_some_iff.1 hv).1; simpa using this
    obtain rfl : zeroS = s := by simpa [newM, List.getElem?_replicate, hi] using hs
    obtain rfl : Value.slice none 0 0 = v := by simpa [List.getElem?_replicate, hi] using hv
    exact OwnHs.none_ _ _
  · omega
  · intro i v g hv hg
    have hi : i < n := by have := (List.getElem?_eq_some_iff.1 hv).1; simpa using this
    obtain rfl : Value.slice none 0 0 = v := by simpa [List.getElem?_replicate, hi] using hv
    cases hg
  · intro i j v u g hv hu hg
    have hi : i < n := by have := (List.getElem?_eq_some_iff.1 hv).1; simpa using this
    obtain rfl : Value.slice none 0 0 = v := by simpa [List.getElem?_replicate, hi] using hv
    cases hg
  · intro s hs
    rw [List.eq_of_mem_replicate hs]; simp [zeroS]
  · intro s hs
    rw [List.eq_of_mem_replicate hs]; exact B64.nil
  · simp [newM]; omega
  · simp [newM]; omega
  · simp [newM]
  · simp [newM]
  · funext i
    simp only [Fp, eq_iff_iff]
    constructor
    · rintro (h | h)
      · exact .inl h
      · exact .inr (.inl h)
    · rintro (h | h | ⟨v, hv, hg⟩)
      · exact .inl h
      · exact .inr h
      · rw [List.eq_of_mem_replicate hv] at hg; cases hg
set_option maxRecDepth 100000 in
set_option maxHeartbeats 1000000 in
theorem newdisk_any (W : World) (n : Nat) (h8 : 8 ≤ n) (hn : n ≤ 4096) : Calls Try.prog 24 #[.int .i64 n] W fun e w' => e = .returned (.tuple #[.pointer (some ⟨W.heap.size + 1, 0, none⟩), .int .i64 0]) ∧ Below W.heap.size W w' ∧ DiskAt w' (W.heap.size + 1) (newM n) (fun i => i = W.heap.size + 1 ∨ i = W.heap.size) := by
  have mk := make_secs n hn W
  have hM := newM_at W n h8 hn
  have HM := Lib.hid hM
  generalize madeCells zeroSec.cells (n * 65) = cs at *
  have n1 : ¬ ((n : Int) < 8) := by omega
  have n2 : ¬ ((n : Int) > 4096) := by omega
  clear hM
  go_enter Try.func24, Try.ntmps24
  go_wp2_with (fail)
  go_ret2
  exact ⟨rfl, Below.on (Below.new1 _ _) (Below.new1 _ _), HM.out⟩
theorem newdisk_bad (W : World) (n : Int) (h : n < 8 ∨ 4096 < n) : Calls Try.prog 24 #[.int .i64 n] W fun e w' => e = .returned (.tuple #[.pointer none, .int .i64 2]) ∧ w' = W := by
  by_cases h1 : n < 8
  · go_enter Try.func24, Try.ntmps24
    go_wp2_with (fail)
    go_ret2
    exact ⟨rfl, rfl⟩
  · have h2 : n > 4096 := by omega
    go_enter Try.func24, Try.ntmps24
    go_wp2_with (fail)
    go_ret2
    exact ⟨rfl, rfl⟩
end Go.Proofs.Ytkljfampkkfgdaa
