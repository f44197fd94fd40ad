/- Rows of numbers in memory: arrays, and slices of a call's own. The walks over turn, of the program and of the reference. The walk over number. Hashes in memory: rows of blocks of 32 bytes. The walk over schedule. The walk over compress. -/
import Derived.Test.YtcocengpekndjaaDoorRows
import Derived.Test.YtcocengpekndjaaDoorPrTreeL
import Derived.WalkKit
import Derived.WalkSpells
import Derived.WalkLawsBesides
import Derived.Deep.QuietTactic
import Derived.BigQuiet
import Derived.LoopTactic
import Derived.RegionTactic
import Derived.Deep.Cut
import Derived.Lib.Hide
import Derived.Deep.RegionHeld3
import Derived.Laws.Rows
import Derived.Laws.Tables
import Derived.Laws.AppendOwn
import Derived.RangeFuncBox
import Derived.Laws.CopyOwn
import Derived.StillTailTactics
import Derived.Outline
import Derived.Laws.IdiomStrings
namespace Go.Proofs.YtcocengpekndjaaDoor
section
open Go.RowKit

theorem Below.on {w w0 w1 : World} (h : Below w.heap.size w w0) (hb : Below w0.heap.size w0 w1) : Below w.heap.size w w1 := h.trans (hb.mono h.size)
theorem Below.new1 (w : World) (o : Obj) : Below w.heap.size w (w.alloc o) := (Below.refl _ _).alloc (Nat.le_refl _) _
theorem Below.drawn (w : World) (n B : Nat) : Below B w (w.drewN n) := ⟨rfl, rfl, rfl, Nat.le_refl _, fun _ _ => rfl⟩
theorem cell_kept {w w' : World} (hB : Below w.heap.size w w') {p : Addr} {v : Value} (h : w.cell? p = some v) : w'.cell? p = some v := by
  have e := hB.block p.block (block_lt_of_cell h)
  unfold World.cell? at h ⊢
  rw [e]; exact h
/-- Numbers as values. -/
def ints (k : IntKind) (l : List Int) : Array Value := (l.map (Value.int k)).toArray
theorem ints_get {k : IntKind} {l : List Int} {i : Nat} (h : i < l.length) : (ints k l)[i]? = some (.int k l[i]) := by simp [ints, List.getElem?_eq_getElem h]
theorem ints_size (k : IntKind) (l : List Int) : (ints k l).size = l.length := by simp [ints]
theorem ints_set (k : IntKind) (l : List Int) (i : Nat) (x : Int) : (ints k l).setIfInBounds i (.int k x) = ints k (l.set i x) := by
  simp only [ints, List.setIfInBounds_toArray, List.map_set]
/-- Block b is a variable that holds an array of numbers. -/
def BoxA (W : World) (b : Nat) (t : TypeId) (k : IntKind) (l : List Int) : Prop := W.heap[b]? = some (.cells (ints k l) t (0, 0))
theorem BoxA.lt {W : World} {b : Nat} {t : TypeId} {k : IntKind} {l : List Int} (h : BoxA W b t k l) : b < W.heap.size := (Array.getElem?_eq_some_iff.1 h).1
theorem BoxA.next {W W' : World} {b : Nat} {t : TypeId} {k : IntKind} {l : List Int} (h : BoxA W b t k l) (hB : Below W.heap.size W W') : BoxA W' b t k l := (hB.block b h.lt).trans h
theorem BoxA.cell {W : World} {b : Nat} {t : TypeId} {k : IntKind} {l : List Int} (h : BoxA W b t k l) {i : Nat} (hi : i < l.length) : W.cell? ⟨b, i, none⟩ = some (.int k l[i]) := (cell_of_row W b i _ _ _ h).trans (ints_get hi)
theorem BoxA.cellD {W : World} {b : Nat} {t : TypeId} {k : IntKind} {l : List Int} (h : BoxA W b t k l) {i : Nat} (hi : i < l.length) : W.cell? ⟨b, i, none⟩ = some (.int k (l.getD i 0)) := by
  rw [h.cell hi, List.getD_eq_getElem?_getD, List.getElem?_eq_getElem hi]; rfl
theorem BoxA.frozen {W : World} {b : Nat} {t : TypeId} {k : IntKind} {l : List Int} (h : BoxA W b t k l) (i : Nat) : W.frozen? ⟨b, i, none⟩ = false := by unfold BoxA at h; simp [World.frozen?, h]
theorem BoxA.set {W : World} {b : Nat} {t : TypeId} {k : IntKind} {l : List Int} (h : BoxA W b t k l) (i : Nat) (x : Int) : BoxA (W.setCell ⟨b, i, none⟩ (.int k x)) b t k (l.set i x) := by
  unfold BoxA at h ⊢
  rw [← ints_set]
  simp [World.setCell, Array.getElem?_modify, h]
theorem BoxA.far {W : World} {b : Nat} {t : TypeId} {k : IntKind} {l : List Int} (h : BoxA W b t k l) {b' : Nat} (hne : b ≠ b') (off : Nat) (sp : Option Nat) (u : Value) : BoxA (W.setCell ⟨b', off, sp⟩ u) b t k l := by
  unfold BoxA at h ⊢
  rw [← h]
  simp only [World.setCell, Array.getElem?_modify]
  rw [if_neg (by omega)]
theorem BoxA.new (w : World) (t : TypeId) (k : IntKind) (l : List Int) (cs : Array Value) (h : cs = ints k l) : BoxA (w.alloc (.cells cs t)) w.heap.size t k l := h ▸ heap_alloc_new w _
theorem BoxA.setRow {W : World} {b : Nat} {t : TypeId} {k : IntKind} {l l' : List Int} (h : BoxA W b t k l) : BoxA (W.setRow b (ints k l')) b t k l' := setRow_heap W b _ _ _ _ h
theorem BoxA.farRow {W : World} {b : Nat} {t : TypeId} {k : IntKind} {l : List Int} (h : BoxA W b t k l) {b' : Nat} (hne : b ≠ b') (cs : Array Value) : BoxA (W.setRow b' cs) b t k l := (setRow_other W b' b cs hne).trans h
theorem ints_one (k : IntKind) (l : List Int) : (ints k l).all (·.oneCell') = true := by
  rw [Array.all_eq_true_iff_forall_mem]
  intro x hx
  obtain ⟨y, _, rfl⟩ := List.mem_map.1 (by simpa [ints] using hx)
  rfl
theorem BoxA.load {P : Program} {W : World} {b : Nat} {t : TypeId} {k : IntKind} {l : List Int} (h : BoxA W b t k l) (n : Nat) (hn : l.length = n) :
    (loadCellsFrom ⟨b, 0, none⟩ 0 n #[]).run P W = .ok (ints k l) W := by
  subst hn
  have := run_loadCells_list (P := P) W ⟨b, 0, none⟩ (ints k l).toList (fun j v hv => by
    have hadd : (⟨b, 0, none⟩ : Addr).add j = ⟨b, j, none⟩ := by unfold Addr.add; split <;> simp_all
    rw [hadd, cell_of_row _ _ j _ t (0, 0) h]
    simpa using hv)
  simpa [loadCells, ints_size] using this
theorem BoxA.store {P : Program} {W : World} {b : Nat} {t : TypeId} {k : IntKind} {l : List Int} (h : BoxA W b t k l) (l' : List Int) (hl : l.length = l'.length) :
    (storeCells ⟨b, 0, none⟩ (ints k l').toList 0).run P W = .ok () (W.setRow b (ints k l')) := by
  have := run_storeCells_from (P := P) b t (ints k l').toList 0 (ints k l) W h (by simp [ints_size, hl]) (fun v hv => by
    have := Array.all_eq_true_iff_forall_mem.1 (ints_one k l') v (by simpa using hv)
    exact this)
  simpa using this
/-- A string of bytes as a value. -/
theorem bs_size (s : Bs) : (ByteArray.mk s.toArray).size = s.length := by show s.toArray.size = _; simp
theorem bs_index {P : Program} (s : Bs) (W : World) (t : TypeId) (h : P.underlying t = some .string) (k : IntKind) (i : Int) (n : Nat) (e : i = n) (hn : n < s.length) : (Instr.index t (.string ⟨s.toArray⟩) (.int k i)).run P W = .ok (.int .u8 (byt s n)) W := by
  subst e
  rw [run_index_string W t _ k _ h, dif_pos ⟨Int.natCast_nonneg n, by rw [bs_size]; omega⟩]
  have : (ByteArray.mk s.toArray)[(n : Int).toNat]'(by rw [bs_size]; omega) = s.getD n 0 := by
    show s.toArray[(n : Int).toNat]'_ = _
    simp [List.getElem?_eq_getElem hn]
  rw [this]; rfl
/-- Block g begins with a row of numbers. -/
def RowA (W : World) (g : Nat) (t : TypeId) (k : IntKind) (l : List Int) : Prop := ∃ cur, W.heap[g]? = some (.cells cur t (0, 0)) ∧ ∀ i (h : i < l.length), cur[i]? = some (.int k l[i])
theorem RowA.lt {W : World} {b : Nat} {t : TypeId} {k : IntKind} {l : List Int} (h : RowA W b t k l) : b < W.heap.size := by obtain ⟨_, h, _⟩ := h; exact (Array.getElem?_eq_some_iff.1 h).1
theorem RowA.next {W W' : World} {b : Nat} {t : TypeId} {k : IntKind} {l : List Int} (h : RowA W b t k l) (hB : Below W.heap.size W W') : RowA W' b t k l := by
  obtain ⟨cur, h1, h2⟩ := h
  exact ⟨cur, (hB.block b (Array.getElem?_eq_some_iff.1 h1).1).trans h1, h2⟩
theorem RowA.cell {W : World} {b : Nat} {t : TypeId} {k : IntKind} {l : List Int} (h : RowA W b t k l) {i : Nat} (hi : i < l.length) : W.cell? ⟨b, i, none⟩ = some (.int k l[i]) := by
  obtain ⟨cur, h1, h2⟩ := h
  exact (cell_of_row W b i _ _ _ h1).trans (h2 i hi)
theorem RowA.cellD {W : World} {b : Nat} {t : TypeId} {k : IntKind} {l : List Int} (h : RowA W b t k l) {i : Nat} (hi : i < l.length) : W.cell? ⟨b, i, none⟩ = some (.int k (l.getD i 0)) := by
  rw [h.cell hi, List.getD_eq_getElem?_getD, List.getElem?_eq_getElem hi]; rfl
theorem RowA.frozen {W : World} {b : Nat} {t : TypeId} {k : IntKind} {l : List Int} (h : RowA W b t k l) (i : Nat) : W.frozen? ⟨b, i, none⟩ = false := by
  obtain ⟨cur, h1, h2⟩ := h; simp [World.frozen?, h1]
theorem RowA.set {W : World} {b : Nat} {t : TypeId} {k : IntKind} {l : List Int} (h : RowA W b t k l) (i : Nat) (x : Int) : RowA (W.setCell ⟨b, i, none⟩ (.int k x)) b t k (l.set i x) := by
  obtain ⟨cur, h1, h2⟩ := h
  refine ⟨cur.setIfInBounds i (.int k x), by simp [World.setCell, Array.getElem?_modify, h1], fun j hj => ?_⟩
  have hj' : j < l.length := by simpa using hj
  have hc := h2 j hj'
  have hs := (Array.getElem?_eq_some_iff.1 hc).1
  rw [Array.getElem?_setIfInBounds, List.getElem_set]
  by_cases e : i = j
  · rw [if_pos e, if_pos (by omega), if_pos e]
  · rw [if_neg e, if_neg e]; exact hc
theorem RowA.far {W : World} {b : Nat} {t : TypeId} {k : IntKind} {l : List Int} (h : RowA W b t k l) {b' : Nat} (hne : b ≠ b') (off : Nat) (sp : Option Nat) (u : Value) : RowA (W.setCell ⟨b', off, sp⟩ u) b t k l := by
  obtain ⟨cur, h1, h2⟩ := h
  refine ⟨cur, ?_, h2⟩
  rw [← h1]
  simp only [World.setCell, Array.getElem?_modify]
  rw [if_neg (by omega)]
/-- A slice of a call's own that holds numbers is such a row. -/
theorem RowA.of_own {W : World} {base g n c : Nat} {t : TypeId} {k : IntKind} {l : List Int} (h : W.ownsRow base t 1 (.slice (some ⟨g, 0, none⟩) n c) n (l.map (Value.int k))) : RowA W g t k l ∧ base ≤ g ∧ l.length = n := by
  obtain ⟨h1, h2⟩ := h
  have hl : l.length = n := by simpa using h1
  rcases h2 with ⟨h2, _⟩ | ⟨g', cap, cur, e, hg, hh, hc, _, hs, ht⟩
  · cases h2
  · cases e
    refine ⟨⟨cur, hh, fun i hi => ?_⟩, hg, hl⟩
    have : (l.map (Value.int k))[i]? = some (.int k l[i]) := by simp [List.getElem?_eq_getElem hi]
    rw [← ht, List.getElem?_take, if_pos (by omega)] at this
    rw [← Array.getElem?_toList]; exact this
end
section
open Go.RowKit

set_option maxRecDepth 100000 in
set_option maxHeartbeats 400000 in
theorem rotl_2 (x : Int) (w : World) (_h : 0 ≤ x) (_h2 : x < 4294967296) : Calls Tryd.prog 106 #[.int .u32 x, .int .i64 (-2)] w fun e w' => e = .returned (.int .u32 (rotr 2 x)) ∧ w' = w := by
  have e1 : bits .and .u64 (IntKind.u64.wrap (-2)) 31 = 30 := by decide
  go_enter Tryd.func106, Tryd.ntmps106
  go_wp2_with (fail)
  go_ret
  exact ⟨congrArg (fun y => Ending.returned (.int .u32 y)) (og_comm _ _), rfl⟩
set_option maxRecDepth 100000 in
set_option maxHeartbeats 400000 in
theorem turn_2 (x : Int) (w : World) (h : 0 ≤ x) (h2 : x < 4294967296) : Calls Tryd.prog 90 #[.int .u32 x, .int .i64 2] w fun e w' => e = .returned (.int .u32 (rotr 2 x)) ∧ w' = w := by
  go_enter Tryd.func90, Tryd.ntmps90
  go_wp2_with (go_at_call 106; refine (rotl_2 x _ h h2).mono ?_; rintro e w' ⟨rfl, rfl⟩)
  go_ret
  exact ⟨rfl, rfl⟩
set_option maxRecDepth 100000 in
set_option maxHeartbeats 400000 in
theorem rturn_2 (x : Int) (w : World) (_h : 0 ≤ x) (_h2 : x < 4294967296) : Calls Tryd.prog 91 #[.int .u32 x, .int .i64 2] w fun e w' => e = .returned (.int .u32 (rotr 2 x)) ∧ w' = w := by
  go_enter Tryd.func91, Tryd.ntmps91
  go_wp2_with (fail)
  go_ret
  exact ⟨rfl, rfl⟩
set_option maxRecDepth 100000 in
set_option maxHeartbeats 400000 in
theorem rotl_6 (x : Int) (w : World) (_h : 0 ≤ x) (_h2 : x < 4294967296) : Calls Tryd.prog 106 #[.int .u32 x, .int .i64 (-6)] w fun e w' => e = .returned (.int .u32 (rotr 6 x)) ∧ w' = w := by
  have e1 : bits .and .u64 (IntKind.u64.wrap (-6)) 31 = 26 := by decide
  go_enter Tryd.func106, Tryd.ntmps106
  go_wp2_with (fail)
  go_ret
  exact ⟨congrArg (fun y => Ending.returned (.int .u32 y)) (og_comm _ _), rfl⟩
set_option maxRecDepth 100000 in
set_option maxHeartbeats 400000 in
theorem turn_6 (x : Int) (w : World) (h : 0 ≤ x) (h2 : x < 4294967296) : Calls Tryd.prog 90 #[.int .u32 x, .int .i64 6] w fun e w' => e = .returned (.int .u32 (rotr 6 x)) ∧ w' = w := by
  go_enter Tryd.func90, Tryd.ntmps90
  go_wp2_with (go_at_call 106; refine (rotl_6 x _ h h2).mono ?_; rintro e w' ⟨rfl, rfl⟩)
  go_ret
  exact ⟨rfl, rfl⟩
set_option maxRecDepth 100000 in
set_option maxHeartbeats 400000 in
theorem rturn_6 (x : Int) (w : World) (_h : 0 ≤ x) (_h2 : x < 4294967296) : Calls Tryd.prog 91 #[.int .u32 x, .int .i64 6] w fun e w' => e = .returned (.int .u32 (rotr 6 x)) ∧ w' = w := by
  go_enter Tryd.func91, Tryd.ntmps91
  go_wp2_with (fail)
  go_ret
  exact ⟨rfl, rfl⟩
set_option maxRecDepth 100000 in
set_option maxHeartbeats 400000 in
theorem rotl_7 (x : Int) (w : World) (_h : 0 ≤ x) (_h2 : x < 4294967296) : Calls Tryd.prog 106 #[.int .u32 x, .int .i64 (-7)] w fun e w' => e = .returned (.int .u32 (rotr 7 x)) ∧ w' = w := by
  have e1 : bits .and .u64 (IntKind.u64.wrap (-7)) 31 = 25 := by decide
  go_enter Tryd.func106, Tryd.ntmps106
  go_wp2_with (fail)
  go_ret
  exact ⟨congrArg (fun y => Ending.returned (.int .u32 y)) (og_comm _ _), rfl⟩
set_option maxRecDepth 100000 in
set_option maxHeartbeats 400000 in
theorem turn_7 (x : Int) (w : World) (h : 0 ≤ x) (h2 : x < 4294967296) : Calls Tryd.prog 90 #[.int .u32 x, .int .i64 7] w fun e w' => e = .returned (.int .u32 (rotr 7 x)) ∧ w' = w := by
  go_enter Tryd.func90, Tryd.ntmps90
  go_wp2_with (go_at_call 106; refine (rotl_7 x _ h h2).mono ?_; rintro e w' ⟨rfl, rfl⟩)
  go_ret
  exact ⟨rfl, rfl⟩
set_option maxRecDepth 100000 in
set_option maxHeartbeats 400000 in
theorem rturn_7 (x : Int) (w : World) (_h : 0 ≤ x) (_h2 : x < 4294967296) : Calls Tryd.prog 91 #[.int .u32 x, .int .i64 7] w fun e w' => e = .returned (.int .u32 (rotr 7 x)) ∧ w' = w := by
  go_enter Tryd.func91, Tryd.ntmps91
  go_wp2_with (fail)
  go_ret
  exact ⟨rfl, rfl⟩
set_option maxRecDepth 100000 in
set_option maxHeartbeats 400000 in
theorem rotl_11 (x : Int) (w : World) (_h : 0 ≤ x) (_h2 : x < 4294967296) : Calls Tryd.prog 106 #[.int .u32 x, .int .i64 (-11)] w fun e w' => e = .returned (.int .u32 (rotr 11 x)) ∧ w' = w := by
  have e1 : bits .and .u64 (IntKind.u64.wrap (-11)) 31 = 21 := by decide
  go_enter Tryd.func106, Tryd.ntmps106
  go_wp2_with (fail)
  go_ret
  exact ⟨congrArg (fun y => Ending.returned (.int .u32 y)) (og_comm _ _), rfl⟩
set_option maxRecDepth 100000 in
set_option maxHeartbeats 400000 in
theorem turn_11 (x : Int) (w : World) (h : 0 ≤ x) (h2 : x < 4294967296) : Calls Tryd.prog 90 #[.int .u32 x, .int .i64 11] w fun e w' => e = .returned (.int .u32 (rotr 11 x)) ∧ w' = w := by
  go_enter Tryd.func90, Tryd.ntmps90
  go_wp2_with (go_at_call 106; refine (rotl_11 x _ h h2).mono ?_; rintro e w' ⟨rfl, rfl⟩)
  go_ret
  exact ⟨rfl, rfl⟩
set_option maxRecDepth 100000 in
set_option maxHeartbeats 400000 in
theorem rturn_11 (x : Int) (w : World) (_h : 0 ≤ x) (_h2 : x < 4294967296) : Calls Tryd.prog 91 #[.int .u32 x, .int .i64 11] w fun e w' => e = .returned (.int .u32 (rotr 11 x)) ∧ w' = w := by
  go_enter Tryd.func91, Tryd.ntmps91
  go_wp2_with (fail)
  go_ret
  exact ⟨rfl, rfl⟩
set_option maxRecDepth 100000 in
set_option maxHeartbeats 400000 in
theorem rotl_13 (x : Int) (w : World) (_h : 0 ≤ x) (_h2 : x < 4294967296) : Calls Tryd.prog 106 #[.int .u32 x, .int .i64 (-13)] w fun e w' => e = .returned (.int .u32 (rotr 13 x)) ∧ w' = w := by
  have e1 : bits .and .u64 (IntKind.u64.wrap (-13)) 31 = 19 := by decide
  go_enter Tryd.func106, Tryd.ntmps106
  go_wp2_with (fail)
  go_ret
  exact ⟨congrArg (fun y => Ending.returned (.int .u32 y)) (og_comm _ _), rfl⟩
set_option maxRecDepth 100000 in
set_option maxHeartbeats 400000 in
theorem turn_13 (x : Int) (w : World) (h : 0 ≤ x) (h2 : x < 4294967296) : Calls Tryd.prog 90 #[.int .u32 x, .int .i64 13] w fun e w' => e = .returned (.int .u32 (rotr 13 x)) ∧ w' = w := by
  go_enter Tryd.func90, Tryd.ntmps90
  go_wp2_with (go_at_call 106; refine (rotl_13 x _ h h2).mono ?_; rintro e w' ⟨rfl, rfl⟩)
  go_ret
  exact ⟨rfl, rfl⟩
set_option maxRecDepth 100000 in
set_option maxHeartbeats 400000 in
theorem rturn_13 (x : Int) (w : World) (_h : 0 ≤ x) (_h2 : x < 4294967296) : Calls Tryd.prog 91 #[.int .u32 x, .int .i64 13] w fun e w' => e = .returned (.int .u32 (rotr 13 x)) ∧ w' = w := by
  go_enter Tryd.func91, Tryd.ntmps91
  go_wp2_with (fail)
  go_ret
  exact ⟨rfl, rfl⟩
set_option maxRecDepth 100000 in
set_option maxHeartbeats 400000 in
theorem rotl_17 (x : Int) (w : World) (_h : 0 ≤ x) (_h2 : x < 4294967296) : Calls Tryd.prog 106 #[.int .u32 x, .int .i64 (-17)] w fun e w' => e = .returned (.int .u32 (rotr 17 x)) ∧ w' = w := by
  have e1 : bits .and .u64 (IntKind.u64.wrap (-17)) 31 = 15 := by decide
  go_enter Tryd.func106, Tryd.ntmps106
  go_wp2_with (fail)
  go_ret
  exact ⟨congrArg (fun y => Ending.returned (.int .u32 y)) (og_comm _ _), rfl⟩
set_option maxRecDepth 100000 in
set_option maxHeartbeats 400000 in
theorem turn_17 (x : Int) (w : World) (h : 0 ≤ x) (h2 : x < 4294967296) : Calls Tryd.prog 90 #[.int .u32 x, .int .i64 17] w fun e w' => e = .returned (.int .u32 (rotr 17 x)) ∧ w' = w := by
  go_enter Tryd.func90, Tryd.ntmps90
  go_wp2_with (go_at_call 106; refine (rotl_17 x _ h h2).mono ?_; rintro e w' ⟨rfl, rfl⟩)
  go_ret
  exact ⟨rfl, rfl⟩
set_option maxRecDepth 100000 in
set_option maxHeartbeats 400000 in
theorem rturn_17 (x : Int) (w : World) (_h : 0 ≤ x) (_h2 : x < 4294967296) : Calls Tryd.prog 91 #[.int .u32 x, .int .i64 17] w fun e w' => e = .returned (.int .u32 (rotr 17 x)) ∧ w' = w := by
  go_enter Tryd.func91, Tryd.ntmps91
  go_wp2_with (fail)
  go_ret
  exact ⟨rfl, rfl⟩
set_option maxRecDepth 100000 in
set_option maxHeartbeats 400000 in
theorem rotl_18 (x : Int) (w : World) (_h : 0 ≤ x) (_h2 : x < 4294967296) : Calls Tryd.prog 106 #[.int .u32 x, .int .i64 (-18)] w fun e w' => e = .returned (.int .u32 (rotr 18 x)) ∧ w' = w := by
  have e1 : bits .and .u64 (IntKind.u64.wrap (-18)) 31 = 14 := by decide
  go_enter Tryd.func106, Tryd.ntmps106
  go_wp2_with (fail)
  go_ret
  exact ⟨congrArg (fun y => Ending.returned (.int .u32 y)) (og_comm _ _), rfl⟩
set_option maxRecDepth 100000 in
set_option maxHeartbeats 400000 in
theorem turn_18 (x : Int) (w : World) (h : 0 ≤ x) (h2 : x < 4294967296) : Calls Tryd.prog 90 #[.int .u32 x, .int .i64 18] w fun e w' => e = .returned (.int .u32 (rotr 18 x)) ∧ w' = w := by
  go_enter Tryd.func90, Tryd.ntmps90
  go_wp2_with (go_at_call 106; refine (rotl_18 x _ h h2).mono ?_; rintro e w' ⟨rfl, rfl⟩)
  go_ret
  exact ⟨rfl, rfl⟩
set_option maxRecDepth 100000 in
set_option maxHeartbeats 400000 in
theorem rturn_18 (x : Int) (w : World) (_h : 0 ≤ x) (_h2 : x < 4294967296) : Calls Tryd.prog 91 #[.int .u32 x, .int .i64 18] w fun e w' => e = .returned (.int .u32 (rotr 18 x)) ∧ w' = w := by
  go_enter Tryd.func91, Tryd.ntmps91
  go_wp2_with (fail)
  go_ret
  exact ⟨rfl, rfl⟩
set_option maxRecDepth 100000 in
set_option maxHeartbeats 400000 in
theorem rotl_19 (x : Int) (w : World) (_h : 0 ≤ x) (_h2 : x < 4294967296) : Calls Tryd.prog 106 #[.int .u32 x, .int .i64 (-19)] w fun e w' => e = .returned (.int .u32 (rotr 19 x)) ∧ w' = w := by
  have e1 : bits .and .u64 (IntKind.u64.wrap (-19)) 31 = 13 := by decide
  go_enter Tryd.func106, Tryd.ntmps106
  go_wp2_with (fail)
  go_ret
  exact ⟨congrArg (fun y => Ending.returned (.int .u32 y)) (og_comm _ _), rfl⟩
set_option maxRecDepth 100000 in
set_option maxHeartbeats 400000 in
theorem turn_19 (x : Int) (w : World) (h : 0 ≤ x) (h2 : x < 4294967296) : Calls Tryd.prog 90 #[.int .u32 x, .int .i64 19] w fun e w' => e = .returned (.int .u32 (rotr 19 x)) ∧ w' = w := by
  go_enter Tryd.func90, Tryd.ntmps90
  go_wp2_with (go_at_call 106; refine (rotl_19 x _ h h2).mono ?_; rintro e w' ⟨rfl, rfl⟩)
  go_ret
  exact ⟨rfl, rfl⟩
set_option maxRecDepth 100000 in
set_option maxHeartbeats 400000 in
theorem rturn_19 (x : Int) (w : World) (_h : 0 ≤ x) (_h2 : x < 4294967296) : Calls Tryd.prog 91 #[.int .u32 x, .int .i64 19] w fun e w' => e = .returned (.int .u32 (rotr 19 x)) ∧ w' = w := by
  go_enter Tryd.func91, Tryd.ntmps91
  go_wp2_with (fail)
  go_ret
  exact ⟨rfl, rfl⟩
set_option maxRecDepth 100000 in
set_option maxHeartbeats 400000 in
theorem rotl_22 (x : Int) (w : World) (_h : 0 ≤ x) (_h2 : x < 4294967296) : Calls Tryd.prog 106 #[.int .u32 x, .int .i64 (-22)] w fun e w' => e = .returned (.int .u32 (rotr 22 x)) ∧ w' = w := by
  have e1 : bits .and .u64 (IntKind.u64.wrap (-22)) 31 = 10 := by decide
  go_enter Tryd.func106, Tryd.ntmps106
  go_wp2_with (fail)
  go_ret
  exact ⟨congrArg (fun y => Ending.returned (.int .u32 y)) (og_comm _ _), rfl⟩
set_option maxRecDepth 100000 in
set_option maxHeartbeats 400000 in
theorem turn_22 (x : Int) (w : World) (h : 0 ≤ x) (h2 : x < 4294967296) : Calls Tryd.prog 90 #[.int .u32 x, .int .i64 22] w fun e w' => e = .returned (.int .u32 (rotr 22 x)) ∧ w' = w := by
  go_enter Tryd.func90, Tryd.ntmps90
  go_wp2_with (go_at_call 106; refine (rotl_22 x _ h h2).mono ?_; rintro e w' ⟨rfl, rfl⟩)
  go_ret
  exact ⟨rfl, rfl⟩
set_option maxRecDepth 100000 in
set_option maxHeartbeats 400000 in
theorem rturn_22 (x : Int) (w : World) (_h : 0 ≤ x) (_h2 : x < 4294967296) : Calls Tryd.prog 91 #[.int .u32 x, .int .i64 22] w fun e w' => e = .returned (.int .u32 (rotr 22 x)) ∧ w' = w := by
  go_enter Tryd.func91, Tryd.ntmps91
  go_wp2_with (fail)
  go_ret
  exact ⟨rfl, rfl⟩
set_option maxRecDepth 100000 in
set_option maxHeartbeats 400000 in
theorem rotl_25 (x : Int) (w : World) (_h : 0 ≤ x) (_h2 : x < 4294967296) : Calls Tryd.prog 106 #[.int .u32 x, .int .i64 (-25)] w fun e w' => e = .returned (.int .u32 (rotr 25 x)) ∧ w' = w := by
  have e1 : bits .and .u64 (IntKind.u64.wrap (-25)) 31 = 7 := by decide
  go_enter Tryd.func106, Tryd.ntmps106
  go_wp2_with (fail)
  go_ret
  exact ⟨congrArg (fun y => Ending.returned (.int .u32 y)) (og_comm _ _), rfl⟩
set_option maxRecDepth 100000 in
set_option maxHeartbeats 400000 in
theorem turn_25 (x : Int) (w : World) (h : 0 ≤ x) (h2 : x < 4294967296) : Calls Tryd.prog 90 #[.int .u32 x, .int .i64 25] w fun e w' => e = .returned (.int .u32 (rotr 25 x)) ∧ w' = w := by
  go_enter Tryd.func90, Tryd.ntmps90
  go_wp2_with (go_at_call 106; refine (rotl_25 x _ h h2).mono ?_; rintro e w' ⟨rfl, rfl⟩)
  go_ret
  exact ⟨rfl, rfl⟩
set_option maxRecDepth 100000 in
set_option maxHeartbeats 400000 in
theorem rturn_25 (x : Int) (w : World) (_h : 0 ≤ x) (_h2 : x < 4294967296) : Calls Tryd.prog 91 #[.int .u32 x, .int .i64 25] w fun e w' => e = .returned (.int .u32 (rotr 25 x)) ∧ w' = w := by
  go_enter Tryd.func91, Tryd.ntmps91
  go_wp2_with (fail)
  go_ret
  exact ⟨rfl, rfl⟩
end
section
open Go.RowKit
/-- The bytes of a number, the first k of them. -/
def numP (n : Int) : Nat → List Int
  | 0 => List.replicate 8 0
  | k + 1 => (numP n k).set k (n / 2 ^ (56 - 8 * k) % 256)
theorem numP_length (n : Int) (k : Nat) : (numP n k).length = 8 := by
  induction k with
  | zero => rfl
  | succ k ih => rw [numP, List.length_set, ih]
theorem byte_of (x : Int) : (((x % 256).toNat.toUInt8.toNat : Nat) : Int) = x % 256 := by
  rw [Nat.toUInt8_eq, UInt8.toNat_ofNat_of_lt' (by show _ < 256; omega)]; omega
theorem numP_8 (n : Int) : numP n 8 = (eightM n).map fun b => (b.toNat : Int) := by
  simp only [eightM, List.map_cons, List.map_nil, byte_of]; simp [numP, List.replicate]
/-- A row of bytes read as a string. -/
theorem bytes_back (l : Bs) (W : World) (g c : Nat) (src dst e : TypeId) (hs : Tryd.prog.underlying src = some (.slice e)) (he : Tryd.prog.underlying e = some (.int .u8)) (hd : Tryd.prog.underlying dst = some .string)
    (hc : ∀ j (hj : j < l.length), W.cell? ⟨g, j, none⟩ = some (.int .u8 (l[j].toNat : Int))) (n : Nat) (hn : n = l.length) : (convert src dst (.slice (some ⟨g, 0, none⟩) n c)).run Tryd.prog W = .ok (.string ⟨l.toArray⟩) W := by
  subst hn
  refine run_convert_bytes_back W src dst e ⟨g, 0, none⟩ c l hs he hd fun j hj => ?_
  rw [Addr.add_mid, Nat.zero_add]; exact hc j hj
theorem infoU8 : (Tryd.prog.info? 5).map (fun i => (i.zero, i.size, i.bytes)) = some (some (.int .u8 0), 1, 1) := by kernel_rfl
theorem make8 (W : World) : (Instr.makeSlice 67 (.int .i64 8) (.int .i64 8)).run Tryd.prog W = .ok (.slice (some ⟨W.heap.size, 0, none⟩) 8 8) (W.alloc (.cells (ints .u8 (List.replicate 8 0)) 5)) := by
  obtain ⟨i0, hi, hz0, hz1, hz2⟩ := info_parts infoU8
  have h := run_make (P := Tryd.prog) W 67 5 i0 (.int .u8 0) (by kernel_rfl) hi hz0 .i64 .i64 8 8 (by decide) (by decide) (by rw [hz2]; decide) (by decide)
  rw [h, hz1]
  have e : madeCells (Value.int .u8 0).cells ((8 : Int).toNat * 1) = ints .u8 (List.replicate 8 0) := by kernel_rfl
  rw [e]; rfl
set_option maxRecDepth 100000 in
set_option maxHeartbeats 2000000 in
theorem number_any (n : Int) (w : World) (_h0 : 0 ≤ n) (_h1 : n < 9223372036854775808) : Calls Tryd.prog 58 #[.int .i64 n] w fun e w' => e = .returned (.string ⟨(eightM n).toArray⟩) ∧ Below w.heap.size w w' := by
  have mk := make8 w
  have MK := Lib.hid mk
  go_enter Tryd.func58, Tryd.ntmps58
  go_wp2_with (fail)
  clear mk
  go_loopw [4, 8] (fun _ i W => ∃ k : Nat, k ≤ 8 ∧ i = .int .i64 k ∧ BoxA W w.heap.size 5 .u8 (numP n k) ∧ Below w.heap.size w W) (fun _ i _ => 8 - (intOf i).toNat)
  case atStart => exact ⟨0, by decide, rfl, BoxA.new w _ _ _ _ rfl, Below.new1 _ _⟩
  case round =>
    obtain ⟨k, hk, rfl, hb, hB⟩ := hrel
    by_cases hlt : k < 8
    · have k1 : (k : Int) < 8 := by omega
      have k0 : 0 ≤ (k : Int) := by omega
      have cf := hb.frozen k
      have ck := hb.cell (i := k) (by rw [numP_length]; omega)
      have m0 : IntKind.i64.wrap (8 * (k : Int)) = 8 * k := IntWalk.i64_in _ (by omega)
      have m1 : IntKind.i64.wrap (56 - 8 * (k : Int)) = 56 - 8 * k := IntWalk.i64_in _ (by omega)
      go_wp2_with (fail)
      exact ⟨⟨k + 1, by omega, by go_num, hb.set k _, hB.setCell (p := ⟨w.heap.size, k, none⟩) (Nat.le_refl _) _⟩, by simp [intOf]; omega⟩
    · obtain rfl : k = 8 := by omega
      rw [numP_8] at hb
      have cv := bytes_back (eightM n) wr w.heap.size 8 67 9 5 (by kernel_rfl) (by kernel_rfl) (by kernel_rfl) (fun j hj => by
        have := hb.cell (i := j) (by simpa using hj)
        simpa using this) 8 rfl
      go_wp2_with (fail)
      go_ret
      exact ⟨rfl, hB⟩
end
section
open Go.RowKit

/-- The cells of a string of bytes; of hashes in a row. -/
def cellsB (h : Bs) : List Value := h.map fun b => Value.int .u8 (b.toNat : Int)
def cellsH (l : List Bs) : List Value := l.flatMap cellsB
abbrev hashV (h : Bs) : Value := .agg (cellsB h).toArray
/-- Hashes have 32 bytes. -/
def H32 (l : List Bs) : Prop := ∀ h ∈ l, h.length = 32
theorem H32.nil : H32 [] := fun _ h => by cases h
theorem H32.one {h : Bs} (hh : h.length = 32) : H32 [h] := fun x hx => by rw [List.mem_singleton.1 hx]; exact hh
theorem H32.app {l l' : List Bs} (h : H32 l) (h' : H32 l') : H32 (l ++ l') := fun x hx => (List.mem_append.1 hx).elim (h x) (h' x)
theorem H32.take {l : List Bs} (h : H32 l) (k : Nat) : H32 (l.take k) := fun x hx => h x (List.mem_of_mem_take hx)
theorem H32.drop {l : List Bs} (h : H32 l) (k : Nat) : H32 (l.drop k) := fun x hx => h x (List.mem_of_mem_drop hx)
theorem cellsB_length (h : Bs) : (cellsB h).length = h.length := by simp [cellsB]
theorem cellsB_inj {a b : Bs} (h : cellsB a = cellsB b) : a = b := by
  have : a.map UInt8.toNat = b.map UInt8.toNat := by
    have := congrArg (List.map fun v => match v with | Value.int _ n => n.toNat | _ => 0) h
    simpa [cellsB, Function.comp_def] using this
  exact (List.map_inj_right fun x y e => UInt8.toNat_inj.1 e).1 this
theorem cellsB_one (h : Bs) : ∀ v ∈ cellsB h, v.oneCell' = true := fun v hv => by
  obtain ⟨b, _, rfl⟩ := List.mem_map.1 hv; rfl
theorem cellsB_get {h : Bs} {i : Nat} (hi : i < h.length) : (cellsB h)[i]? = some (.int .u8 ((h[i]).toNat : Int)) := by simp [cellsB, List.getElem?_eq_getElem hi]
theorem cellsH_nil : cellsH [] = [] := rfl
theorem cellsH_cons (x : Bs) (l : List Bs) : cellsH (x :: l) = cellsB x ++ cellsH l := by simp [cellsH]
theorem cellsH_append (a b : List Bs) : cellsH (a ++ b) = cellsH a ++ cellsH b := by simp [cellsH]
theorem cellsH_one (l : List Bs) : ∀ v ∈ cellsH l, v.oneCell' = true := fun v hv => by
  obtain ⟨h, _, hv⟩ := List.mem_flatMap.1 hv; exact cellsB_one h v hv
theorem cellsH_length {l : List Bs} (h : H32 l) : (cellsH l).length = l.length * 32 := by
  induction l with
  | nil => rfl
  | cons x l ih =>
    rw [cellsH_cons, List.length_append, cellsB_length, h x (by simp), ih fun y hy => h y (by simp [hy]), List.length_cons]; omega
theorem cellsH_drop {l : List Bs} (h : H32 l) (k : Nat) : (cellsH l).drop (k * 32) = cellsH (l.drop k) := by
  induction l generalizing k with
  | nil => simp [cellsH_nil]
  | cons x l ih =>
    cases k with
    | zero => simp
    | succ k =>
      rw [cellsH_cons, List.drop_append, List.drop_eq_nil_of_le (by rw [cellsB_length, h x (by simp)]; omega), List.nil_append, cellsB_length, h x (by simp), show (k + 1) * 32 - 32 = k * 32 from by omega, ih (fun y hy => h y (by simp [hy])), List.drop_succ_cons]
theorem cellsH_take {l : List Bs} (h : H32 l) (k : Nat) : (cellsH l).take (k * 32) = cellsH (l.take k) := by
  induction l generalizing k with
  | nil => simp [cellsH_nil]
  | cons x l ih =>
    cases k with
    | zero => simp [cellsH_nil]
    | succ k =>
      rw [cellsH_cons, List.take_append, List.take_of_length_le (by rw [cellsB_length, h x (by simp)]; omega), cellsB_length, h x (by simp), show (k + 1) * 32 - 32 = k * 32 from by omega, ih (fun y hy => h y (by simp [hy])), List.take_succ_cons, cellsH_cons]
theorem cellsH_at {l : List Bs} (h : H32 l) {i : Nat} (hi : i < l.length) {j : Nat} {u : Value} (hu : (cellsB l[i])[j]? = some u) : (cellsH l)[i * 32 + j]? = some u := by
  rw [← List.getElem?_drop, cellsH_drop h, List.drop_eq_getElem_cons hi, cellsH_cons, List.getElem?_append_left (List.getElem?_eq_some_iff.1 hu).1]; exact hu
/-- The hashes l lie at A. -/
def Hs (w : World) (A : Option Addr) (l : List Bs) : Prop := H32 l ∧ (l = [] ∨ ∃ a, A = some a ∧ ∀ j u, (cellsH l)[j]? = some u → w.cell? (a.add j) = some u)
theorem Hs.next {w w' : World} {A : Option Addr} {l : List Bs} (h : Hs w A l) (hB : Below w.heap.size w w') : Hs w' A l := by
  obtain ⟨h0, h | ⟨a, e, h⟩⟩ := h
  · exact ⟨h0, .inl h⟩
  · exact ⟨h0, .inr ⟨a, e, fun j u hu => cell_kept hB (h j u hu)⟩⟩
theorem Hs.nil (w : World) (A : Option Addr) : Hs w A [] := ⟨H32.nil, .inl rfl⟩
theorem Hs.block {w : World} {a : Addr} {l : List Bs} (h : Hs w (some a) l) (hl : l ≠ []) : a.block < w.heap.size := by
  obtain ⟨h0, h | ⟨a', e, h⟩⟩ := h
  · exact absurd h hl
  · cases e
    have hp : 0 < l.length := List.length_pos_iff.2 hl
    have := h 0 _ (List.getElem?_eq_getElem (by rw [cellsH_length h0]; omega))
    exact block_lt_of_cell (show w.cell? a = _ from this)
theorem add_add (a : Addr) (i j : Nat) : (a.add i).add j = a.add (i + j) := by
  unfold Addr.add
  by_cases hi : i = 0
  · subst hi; simp
  · by_cases hj : j = 0
    · subst hj; simp [hi]
    · simp [hi, hj]; omega
/-- The hashes at the positions from i to j - 1. -/
theorem Hs.cut {w : World} {A : Option Addr} {l : List Bs} (h : Hs w A l) {c : Nat} (hlc : l.length ≤ c) (i j : Nat) (hij : i ≤ j) (hj : j ≤ l.length) : Hs w (if c = i then A else A.map (·.add (i * 32))) ((l.drop i).take (j - i)) := by
  obtain ⟨h0, h | ⟨a, rfl, h⟩⟩ := h
  · subst h
    exact ⟨by simpa using H32.nil, .inl (by simp)⟩
  · refine ⟨(h0.drop i).take _, ?_⟩
    by_cases hc : c = i
    · exact .inl (List.eq_nil_of_length_eq_zero (by rw [List.length_take, List.length_drop]; omega))
    · rw [if_neg hc]
      refine .inr ⟨a.add (i * 32), rfl, fun k u hu => ?_⟩
      rw [add_add]
      refine h _ _ ?_
      rw [← cellsH_take (h0.drop i), List.getElem?_take] at hu
      split at hu
      · rw [← cellsH_drop h0, List.getElem?_drop] at hu; exact hu
      · cases hu
/-- A whole array is loaded from wherever its cells lie. -/
theorem run_loadAt_list {P : Program} (w : World) (a : Addr) (ty : TypeId) (cs : List Value) (n : Nat) (e : TypeId) (hc : ∀ j v, cs[j]? = some v → w.cell? (a.add j) = some v)
    (hu : P.underlying ty = some (.array n e)) (hi : (P.info? ty).map (·.size) = some cs.length) :
    (Instr.loadAt ty (.pointer (some a))).run P w = .ok (.agg cs.toArray) w := by
  have hl : (loadCells a cs.length).run P w = .ok cs.toArray w := run_loadCells_list (P := P) w a cs hc
  cases hq : P.info? ty with
  | none => simp [hq] at hi
  | some i =>
    have hs : i.size = cs.length := by simpa [hq] using hi
    have hagg : (isAgg ty).run P w = .ok true w := by
      unfold isAgg
      rw [Sem.run_bind, run_underlying hu w]
      simp
    simp only [Instr.loadAt, Instr.sureAddr, Sem.run_bind, Sem.run_pure, Result.andThen_ok]
    simp [loadVar, Sem.run_bind, hagg, sizeOf, typeInfo, hq, hs, hl]
theorem Hs.load {P : Program} {w : World} {a : Addr} {l : List Bs} (h : Hs w (some a) l) {i : Nat} (hi : i < l.length) (ty : TypeId) (n : Nat) (e : TypeId)
    (hu : P.underlying ty = some (.array n e)) (hz : (P.info? ty).map (·.size) = some 32) : (Instr.loadAt ty (.pointer (some (a.add (i * 32))))).run P w = .ok (hashV l[i]) w := by
  obtain ⟨h0, h | ⟨a', e', h⟩⟩ := h
  · rw [h] at hi; simp at hi
  · cases e'
    refine run_loadAt_list w _ ty (cellsB l[i]) n e (fun j v hv => ?_) hu (by rw [cellsB_length, h0 _ (List.getElem_mem hi)]; exact hz)
    rw [add_add]
    exact h _ _ (cellsH_at h0 hi hv)
/-- A slice of hashes that lies in a block from base on. -/
def OwnHs (w : World) (base : Nat) (v : Value) (l : List Bs) : Prop := H32 l ∧ w.ownsRow base 30 32 v l.length (cellsH l)
theorem OwnHs.toHs {w : World} {base : Nat} {v : Value} {l : List Bs} (h : OwnHs w base v l) : ∃ A c, v = .slice A l.length c ∧ l.length ≤ c ∧ Hs w A l := by
  obtain ⟨h0, h1, h2⟩ := h
  rcases h2 with ⟨h2, h3⟩ | ⟨g, cap, cur, e, hg, hh, hc, _, hs, ht⟩
  · have : l = [] := List.eq_nil_of_length_eq_zero h3
    subst this
    exact ⟨none, 0, h2, Nat.le_refl _, Hs.nil _ _⟩
  · refine ⟨some ⟨g, 0, none⟩, cap, e, hc, h0, .inr ⟨_, rfl, fun j u hu => ?_⟩⟩
    rw [← ht, List.getElem?_take] at hu
    split at hu
    · rw [Addr.add_mid, Nat.zero_add, cell_of_row w g j cur _ _ hh, ← Array.getElem?_toList]; exact hu
    · cases hu
theorem OwnHs.next {w w' : World} {base : Nat} {v : Value} {l : List Bs} (h : OwnHs w base v l) (hB : Below w.heap.size w w') : OwnHs w' base v l := by
  obtain ⟨h0, h1, h2⟩ := h
  refine ⟨h0, h1, ?_⟩
  rcases h2 with h2 | ⟨g, cap, cur, e, hg, hh, r⟩
  · exact .inl h2
  · exact .inr ⟨g, cap, cur, e, hg, (hB.block g (Array.getElem?_eq_some_iff.1 hh).1).trans hh, r⟩
end
section
open Go.RowKit
theorem w32_four (a b c d : Int) : w32 (w32 (w32 (a + b) + c) + d) = (a + b + c + d) % 4294967296 := by
  simp only [w32, IntKind.wrap_u32']; omega
set_option maxRecDepth 100000 in
set_option maxHeartbeats 2000000 in
theorem sched_any (s : Bs) (w : World) (hs : s.length = 64) : Calls Tryd.prog 89 #[.string ⟨s.toArray⟩] w fun e w' => e = .returned (.agg (ints .u32 (schedM s 48))) ∧ Below w.heap.size w w' := by
  obtain ⟨X, hX⟩ : ∃ X, schedM s 48 = X := ⟨_, rfl⟩
  rw [hX]
  go_enter Tryd.func89, Tryd.ntmps89
  go_wp2_with (fail)
  go_loopw [4, 8] (fun _ i W => ∃ k : Nat, k ≤ 16 ∧ i = .int .i64 k ∧ BoxA W (w.heap.size + 1) 25 .u32 (fillM s k) ∧ BoxA W w.heap.size 25 .u32 (List.replicate 64 0) ∧ Below w.heap.size w W) (fun _ i _ => 16 - (intOf i).toNat)
  case atStart =>
    refine ⟨0, by decide, rfl, ?_, ?_, ?_⟩
    · have := BoxA.new (w.alloc (.cells (ints .u32 (List.replicate 64 0)) 25)) 25 .u32 (List.replicate 64 0) _ rfl
      rw [World.size_alloc] at this; exact this
    · exact (BoxA.new w 25 .u32 (List.replicate 64 0) _ rfl).next (Below.new1 _ _)
    · exact Below.on (Below.new1 _ _) (Below.new1 _ _)
  case round =>
    obtain ⟨k, hk, rfl, hb, hr, hB⟩ := hrel
    by_cases hlt : k < 16
    · have k1 : (k : Int) < 16 := by omega
      have q0 : ∀ W, (Instr.index 9 (.string ⟨s.toArray⟩) (.int .i64 (4 * (k : Int)))).run Tryd.prog W = .ok (.int .u8 (byt s (4 * k))) W := fun W => bs_index s W _ (by kernel_rfl) _ _ _ (by omega) (by omega)
      have q1 : ∀ W, (Instr.index 9 (.string ⟨s.toArray⟩) (.int .i64 (4 * (k : Int) + 1))).run Tryd.prog W = .ok (.int .u8 (byt s (4 * k + 1))) W := fun W => bs_index s W _ (by kernel_rfl) _ _ _ (by omega) (by omega)
      have q2 : ∀ W, (Instr.index 9 (.string ⟨s.toArray⟩) (.int .i64 (4 * (k : Int) + 2))).run Tryd.prog W = .ok (.int .u8 (byt s (4 * k + 2))) W := fun W => bs_index s W _ (by kernel_rfl) _ _ _ (by omega) (by omega)
      have q3 : ∀ W, (Instr.index 9 (.string ⟨s.toArray⟩) (.int .i64 (4 * (k : Int) + 3))).run Tryd.prog W = .ok (.int .u8 (byt s (4 * k + 3))) W := fun W => bs_index s W _ (by kernel_rfl) _ _ _ (by omega) (by omega)
      obtain ⟨y0, z0⟩ := wd_byt s (4 * k)
      obtain ⟨y1, z1⟩ := wd_byt s (4 * k + 1)
      obtain ⟨y2, z2⟩ := wd_byt s (4 * k + 2)
      obtain ⟨y3, z3⟩ := wd_byt s (4 * k + 3)
      have hl := fillM_length s k
      have m0 : IntKind.i64.wrap (4 * (k : Int)) = 4 * k := IntWalk.i64_in _ (by omega)
      have m1 : IntKind.i64.wrap (4 * (k : Int) + 1) = 4 * k + 1 := IntWalk.i64_in _ (by omega)
      have m2 : IntKind.i64.wrap (4 * (k : Int) + 2) = 4 * k + 2 := IntWalk.i64_in _ (by omega)
      have m3 : IntKind.i64.wrap (4 * (k : Int) + 3) = 4 * k + 3 := IntWalk.i64_in _ (by omega)
      have n0 : IntKind.u32.wrap (byt s (4 * k)) = byt s (4 * k) := by rw [IntKind.wrap_u32']; omega
      have n1 : IntKind.u32.wrap (byt s (4 * k + 1)) = byt s (4 * k + 1) := by rw [IntKind.wrap_u32']; omega
      have n2 : IntKind.u32.wrap (byt s (4 * k + 2)) = byt s (4 * k + 2) := by rw [IntKind.wrap_u32']; omega
      have n3 : IntKind.u32.wrap (byt s (4 * k + 3)) = byt s (4 * k + 3) := by rw [IntKind.wrap_u32']; omega
      have p0 : 0 ≤ (k : Int) := by omega
      have p1 : (k : Int) < 64 := by omega
      have HL := Lib.hid hl
      clear hl
      go_upto_region 5 with (fail)
      go_still_tail 31, (by kernel_rfl)
      clear q0 q1 q2 q3 y0 y1 y2 y3 z0 z1 z2 z3 m0 m1 m2 m3 n0 n1 n2 n3 p0 p1
      have Dd : Below wr.heap.size wr wr.drew := Below.drawn wr 1 _
      have hb' := hb.next Dd
      have hr' := hr.next Dd
      have hB' := Below.on hB Dd
      clear hb hr hB Dd
      change wpList _ _ _ _ _ wr.drew
      generalize wr.drew = wd at *
      have ck := hb'.cell (i := k) (by rw [HL.out]; omega)
      have cf := hb'.frozen k
      have bl := hb'.lt
      go_wp2_with (fail)
      exact ⟨⟨k + 1, by omega, by go_num, hb'.set k _, hr'.far (by omega) _ _ _, hB'.setCell (p := ⟨w.heap.size + 1, k, none⟩) (show w.heap.size ≤ w.heap.size + 1 by omega) _⟩, by simp [intOf]; omega⟩
    · obtain rfl : k = 16 := by omega
      have hb0 : BoxA wr (w.heap.size + 1) 25 .u32 (schedM s 0) := hb
      clear hb
      go_wp2_with (fail)
      go_loopw [5, 6, 7] (fun i _ _ W => ∃ k j : Nat, k ≤ 48 ∧ j = 16 + k ∧ i = .int .i64 j ∧ BoxA W (w.heap.size + 1) 25 .u32 (schedM s k) ∧ BoxA W w.heap.size 25 .u32 (List.replicate 64 0) ∧ Below w.heap.size w W) (fun i _ _ _ => 64 - (intOf i).toNat)
      case atStart => exact ⟨0, 16, by decide, rfl, rfl, hb0, hr, hB⟩
      case round =>
        obtain ⟨k, j, hk, hj, rfl, hb, hr, hB⟩ := hrel
        have hl := schedM_length s k
        have hw := schedM_wd s k
        by_cases hlt : k < 48
        · have j1 : (j : Int) < 64 := by omega
          have j0 : 16 ≤ (j : Int) := by omega
          obtain ⟨j2, h2⟩ : ∃ i, i = j - 2 := ⟨_, rfl⟩
          obtain ⟨j7, h7⟩ : ∃ i, i = j - 7 := ⟨_, rfl⟩
          obtain ⟨j15, h15⟩ : ∃ i, i = j - 15 := ⟨_, rfl⟩
          obtain ⟨j16, h16⟩ : ∃ i, i = j - 16 := ⟨_, rfl⟩
          have g2 : (j2 : Int) < 64 := by omega
          have g7 : (j7 : Int) < 64 := by omega
          have g15 : (j15 : Int) < 64 := by omega
          have g16 : (j16 : Int) < 64 := by omega
          have n2 : 0 ≤ (j2 : Int) := by omega
          have n7 : 0 ≤ (j7 : Int) := by omega
          have n15 : 0 ≤ (j15 : Int) := by omega
          have n16 : 0 ≤ (j16 : Int) := by omega
          have nj : 0 ≤ (j : Int) := by omega
          have m2 : IntKind.i64.wrap ((j : Int) - 2) = j2 := by rw [IntWalk.i64_in _ (by omega)]; omega
          have m7 : IntKind.i64.wrap ((j : Int) - 7) = j7 := by rw [IntWalk.i64_in _ (by omega)]; omega
          have m15 : IntKind.i64.wrap ((j : Int) - 15) = j15 := by rw [IntWalk.i64_in _ (by omega)]; omega
          have m16 : IntKind.i64.wrap ((j : Int) - 16) = j16 := by rw [IntWalk.i64_in _ (by omega)]; omega
          have d2 := hb.cell (i := j2) (by omega)
          have d7 := hb.cell (i := j7) (by omega)
          have d15 := hb.cell (i := j15) (by omega)
          have d16 := hb.cell (i := j16) (by omega)
          have w2 := hw _ (List.getElem_mem (show j2 < (schedM s k).length by omega))
          have w15 := hw _ (List.getElem_mem (show j15 < (schedM s k).length by omega))
          have hst : nextW (schedM s k) j = w32 (w32 (w32 ((schedM s k)[j16] + sg0 (schedM s k)[j15]) + (schedM s k)[j7]) + sg1 (schedM s k)[j2]) := by
            subst h2 h7 h15 h16
            simp only [nextW, List.getD_eq_getElem?_getD]
            rw [List.getElem?_eq_getElem (by omega), List.getElem?_eq_getElem (by omega), List.getElem?_eq_getElem (by omega), List.getElem?_eq_getElem (by omega)]
            rfl
          generalize (schedM s k)[j2] = x2 at *
          generalize (schedM s k)[j7] = x7 at *
          generalize (schedM s k)[j15] = x15 at *
          generalize (schedM s k)[j16] = x16 at *
          have HST := Lib.hid hst
          have HL := Lib.hid hl
          have HJ := Lib.hid hj
          obtain ⟨v2, u2⟩ := w2
          obtain ⟨v15, u15⟩ := w15
          clear hw hst hl h2 h7 h15 h16 hj
          go_upto_region 10 with (fail)
          go_quiet ((first | (go_at_call_of 90 (Value.int IntKind.i64 7); exact Calls.quiet_of_same (turn_7 _ _ v15 u15)) | (go_at_call_of 90 (Value.int IntKind.i64 18); exact Calls.quiet_of_same (turn_18 _ _ v15 u15))))
          go_upto_region 11 with (fail)
          have Dd : Below wr.heap.size wr (wr.drewN nq) := Below.drawn wr nq _
          replace hb := hb.next Dd
          replace hr := hr.next Dd
          replace hB := Below.on hB Dd
          replace d2 := cell_kept Dd d2
          replace d7 := cell_kept Dd d7
          replace d16 := cell_kept Dd d16
          clear d15 Dd m15 g15 n15
          generalize wr.drewN nq = wq at *
          go_quiet ((first | (go_at_call_of 90 (Value.int IntKind.i64 17); exact Calls.quiet_of_same (turn_17 _ _ v2 u2)) | (go_at_call_of 90 (Value.int IntKind.i64 19); exact Calls.quiet_of_same (turn_19 _ _ v2 u2))))
          go_upto_region 12 with (fail)
          have Dd : Below wq.heap.size wq (wq.drewN nq) := Below.drawn wq nq _
          replace hb := hb.next Dd
          replace hr := hr.next Dd
          replace hB := Below.on hB Dd
          replace d7 := cell_kept Dd d7
          replace d16 := cell_kept Dd d16
          clear d2 Dd m2 g2 n2
          generalize wq.drewN nq = wp at *
          go_still_tail 15, (by kernel_rfl)
          have Dd : Below wp.heap.size wp wp.drew := Below.drawn wp 1 _
          replace hb := hb.next Dd
          replace hr := hr.next Dd
          replace hB := Below.on hB Dd
          clear d7 d16 Dd
          change wpList _ _ _ _ _ wp.drew
          generalize wp.drew = wd at *
          have ck := hb.cell (i := j) (by rw [HL.out]; omega)
          have cf := hb.frozen j
          have bl := hb.lt
          have key : BoxA (wd.setCell ⟨w.heap.size + 1, j, none⟩ (.int .u32 ((x16 + sg0 x15 + x7 + sg1 x2) % 4294967296))) (w.heap.size + 1) 25 .u32 (schedM s (k + 1)) := by
            rw [← w32_four, ← HST.out]
            have := hb.set j (nextW (schedM s k) j)
            rw [show schedM s (k + 1) = (schedM s k).set j (nextW (schedM s k) j) from by rw [HJ.out]; rfl]
            exact this
          clear HST
          go_wp2_with (fail)
          refine ⟨?_, by simp [intOf]; omega⟩
          iterate 56 (apply Exists.intro)
          exact ⟨⟨k + 1, j + 1, by omega, by have := HJ.out; omega, by go_num, key, hr.far (by omega) _ _ _, hB.setCell (p := ⟨w.heap.size + 1, j, none⟩) (show w.heap.size ≤ w.heap.size + 1 by omega) _⟩, rfl⟩
        · obtain rfl : k = 48 := by omega
          rw [hX] at hb hl
          clear hw hX hb0
          subst hj
          have nb : w.heap.size ≠ w.heap.size + 1 := by omega
          have sz : (Tryd.prog.info? 25).map (·.size) = some (ints .u32 X).size := by rw [ints_size, hl]; kernel_rfl
          have sx : (ints .u32 (List.replicate 64 0)).size = (ints .u32 X).size := by rw [ints_size, ints_size, hl]; rfl
          go_wp2_with (first
            | (refine wpList_load_row rfl 25 (.tmp 3) rfl (w.heap.size + 1) rfl 25 (ints .u32 X) (0, 0) (.array 64 23) hb (by kernel_rfl) rfl sz ?_)
            | (refine wpList_store_row rfl 25 (.tmp 2) (.tmp 96) rfl w.heap.size (ints .u32 X) rfl rfl 25 _ hr sz sx (ints_one _ _) ?_))
          exact bodyPost_ret (v := .agg (ints .u32 X)) (results_cell_row (p := 2) (ty := 25) rfl _ _ w.heap.size 25 (ints .u32 X) (0, 0) (.array 64 23) rfl hr.setRow (by kernel_rfl) rfl sz) rfl ⟨rfl, below_setRow hB (Nat.le_refl _) _⟩
end
section
open Go.RowKit
/-- The constants of the rounds lie in the first block. -/
def Kon (w : World) : Prop := 0 < w.heap.size ∧ ∀ i, i < 64 → w.cell? ⟨0, i, none⟩ = some (.int .u32 (kM.getD i 0))
theorem Kon.next {w w' : World} (h : Kon w) (hB : Below w.heap.size w w') : Kon w' := ⟨Nat.lt_of_lt_of_le h.1 hB.size, fun i hi => cell_kept hB (h.2 i hi)⟩
/-- The first k words of a state, with those of another one added. -/
def addP (r x : List Int) : Nat → List Int
  | 0 => r
  | k + 1 => (addP r x k).set k (w32 (r.getD k 0 + x.getD k 0))
theorem addP_length (r x : List Int) (k : Nat) : (addP r x k).length = r.length := by
  induction k with
  | zero => rfl
  | succ k ih => rw [addP, List.length_set, ih]
theorem addP_get (r x : List Int) (k : Nat) : ∀ j, k ≤ j → (addP r x k)[j]? = r[j]? := by
  induction k with
  | zero => intro j _; rfl
  | succ k ih => intro j hj; rw [addP, List.getElem?_set, if_neg (by omega), ih j (by omega)]
theorem addP_all {r x : List Int} (hr : r.length = 8) (hx : x.length = 8) : addP r x 8 = addM r x := by
  match r, hr, x, hx with
  | [_, _, _, _, _, _, _, _], _, [_, _, _, _, _, _, _, _], _ => rfl
theorem w32_eq (x : Int) : w32 x = x % 4294967296 := by unfold w32; rw [IntKind.wrap_u32']
theorem list8 {x : List Int} (h : St x) : ∃ a b c d e f g i, x = [a, b, c, d, e, f, g, i] ∧ Wd a ∧ Wd b ∧ Wd c ∧ Wd d ∧ Wd e ∧ Wd f ∧ Wd g ∧ Wd i := by
  obtain ⟨h1, h2⟩ := h
  match x, h1 with
  | [a, b, c, d, e, f, g, i], _ => exact ⟨a, b, c, d, e, f, g, i, rfl, h2 _ (by simp), h2 _ (by simp), h2 _ (by simp), h2 _ (by simp), h2 _ (by simp), h2 _ (by simp), h2 _ (by simp), h2 _ (by simp)⟩
/-- Eight stores in a row. -/
theorem set8 {W W' : World} {b : Nat} {t : TypeId} {v0 v1 v2 v3 v4 v5 v6 v7 : Int} {l : List Int} (hW : (World.setCell (World.setCell (World.setCell (World.setCell (World.setCell (World.setCell (World.setCell (World.setCell W ⟨b, 0, none⟩ (.int .u32 v0)) ⟨b, 1, none⟩ (.int .u32 v1)) ⟨b, 2, none⟩ (.int .u32 v2)) ⟨b, 3, none⟩ (.int .u32 v3)) ⟨b, 4, none⟩ (.int .u32 v4)) ⟨b, 5, none⟩ (.int .u32 v5)) ⟨b, 6, none⟩ (.int .u32 v6)) ⟨b, 7, none⟩ (.int .u32 v7)) = W') (h : BoxA W b t .u32 l) :
    (l.length = 8 → BoxA W' b t .u32 [v0, v1, v2, v3, v4, v5, v6, v7]) ∧ (∀ b' t' k' l', b' ≠ b → BoxA W b' t' k' l' → BoxA W' b' t' k' l') ∧ (∀ w0 n, n ≤ b → Below n w0 W → Below n w0 W') := by
  subst hW
  refine ⟨fun hl => ?_, fun b' t' k' l' hne h' => ?_, fun w0 n hn hB => ?_⟩
  · have := (((((((h.set 0 v0).set 1 v1).set 2 v2).set 3 v3).set 4 v4).set 5 v5).set 6 v6).set 7 v7
    match l, hl with
    | [_, _, _, _, _, _, _, _], _ => exact this
  · exact (((((((h'.far hne _ _ _).far hne _ _ _).far hne _ _ _).far hne _ _ _).far hne _ _ _).far hne _ _ _).far hne _ _ _).far hne _ _ _
  · have q : ∀ i, n ≤ (⟨b, i, none⟩ : Addr).block := fun i => hn
    exact (((((((hB.setCell (q 0) _).setCell (q 1) _).setCell (q 2) _).setCell (q 3) _).setCell (q 4) _).setCell (q 5) _).setCell (q 6) _).setCell (q 7) _
set_option maxRecDepth 100000 in
set_option maxHeartbeats 2000000 in
theorem compress_any (x : List Int) (s : Bs) (w : World) (hx : St x) (hs : s.length = 64) (hk : Kon w) : Calls Tryd.prog 57 #[.agg (ints .u32 x), .string ⟨s.toArray⟩] w fun e w' => e = .returned (.agg (ints .u32 (compM x s))) ∧ Below w.heap.size w w' := by
  have hsch := fun W => sched_any s W hs
  have hXl := schedM_length s 48
  have hXw := schedM_wd s 48
  have hC : compM x s = addP (roundsM kM (schedM s 48) x 64) x 8 := (addP_all (roundsM_st _ _ hx 64).1 hx.1).symm
  rw [hC]
  generalize schedM s 48 = X at *
  have HSC := Lib.hid hsch
  have hst := roundsM_st kM X hx 64
  obtain ⟨Y, hY⟩ : ∃ Y, roundsM kM X x 64 = Y := ⟨_, rfl⟩
  rw [hY] at hst ⊢
  have HY := Lib.hid hY
  have HST := Lib.hid hst
  clear hsch hs hC hst hY
  have sz : (Tryd.prog.info? 24).map (·.size) = some (ints .u32 x).size := by rw [ints_size, hx.1]; kernel_rfl
  have sx : (Tryd.prog.info? 25).map (·.size) = some (ints .u32 X).size := by rw [ints_size, hXl]; kernel_rfl
  go_enter Tryd.func57, Tryd.ntmps57
  go_upto_region 1 with (fail)
  generalize hW0 : (World.alloc (w.alloc _) _) = w0
  have B0 : Below w.heap.size w w0 := hW0 ▸ Below.on (Below.new1 _ _) (Below.new1 _ _)
  have x2 : BoxA w0 w.heap.size 24 .u32 x := hW0 ▸ (BoxA.new w _ _ _ _ rfl).next (Below.new1 _ _)
  have x4 : BoxA w0 (w.heap.size + 1) 24 .u32 (List.replicate 8 0) := by
    have := BoxA.new (w.alloc (.cells (ints .u32 x) 24)) 24 .u32 (List.replicate 8 0) _ rfl
    rw [World.size_alloc] at this; exact hW0 ▸ this
  clear hW0
  go_wp2_with (first
    | (go_at_call 89; refine (HSC.out _).mono ?_; rintro e w1 ⟨rfl, b1⟩; have y2 := x2.next b1; have y4 := x4.next b1; have B1 := Below.on B0 b1; have s1 : w.heap.size + 1 < w1.heap.size := y4.lt; clear x2 x4)
    | (refine wpList_store_row rfl 25 (.tmp 5) (.tmp 14) rfl w1.heap.size (ints .u32 X) rfl rfl 25 (ints .u32 (List.replicate 64 0)) (heap_alloc_new _ _) sx (by rw [ints_size, ints_size, hXl]; rfl) (ints_one _ _) ?_
       obtain ⟨w2, hW⟩ : ∃ w2, World.setRow (World.alloc w1 (.cells (ints .u32 (List.replicate 64 0)) 25)) w1.heap.size (ints .u32 X) = w2 := ⟨_, rfl⟩
       have b12 : Below w1.heap.size w1 w2 := hW ▸ below_setRow (Below.new1 w1 _) (Nat.le_refl _) _
       have z5 : BoxA w2 w1.heap.size 25 .u32 X := hW ▸ (BoxA.new w1 _ _ (List.replicate 64 0) _ rfl).setRow
       have z2 := y2.next b12
       have z4 := y4.next b12
       have B2 := Below.on B1 b12
       change wpList _ _ _ _ _ (World.setRow (World.alloc w1 (.cells (ints .u32 (List.replicate 64 0)) 25)) w1.heap.size (ints .u32 X))
       rw [hW]
       clear hW y2 y4 b12)
    | (refine wpList_load_row rfl 24 (.tmp 2) rfl w.heap.size rfl 24 (ints .u32 x) (0, 0) (.array 8 23) z2 (by kernel_rfl) rfl sz ?_)
    | (refine wpList_store_row rfl 24 (.tmp 6) (.tmp 15) rfl w2.heap.size (ints .u32 x) rfl rfl 24 (ints .u32 (List.replicate 8 0)) (heap_alloc_new _ _) sz (by rw [ints_size, ints_size, hx.1]; rfl) (ints_one _ _) ?_
       obtain ⟨w3, hW⟩ : ∃ w3, World.setRow (World.alloc w2 (.cells (ints .u32 (List.replicate 8 0)) 24)) w2.heap.size (ints .u32 x) = w3 := ⟨_, rfl⟩
       have b23 : Below w2.heap.size w2 w3 := hW ▸ below_setRow (Below.new1 w2 _) (Nat.le_refl _) _
       have u6 : BoxA w3 w2.heap.size 24 .u32 x := hW ▸ (BoxA.new w2 _ _ (List.replicate 8 0) _ rfl).setRow
       have u5 := z5.next b23
       have u2 := z2.next b23
       have u4 := z4.next b23
       have B3 := Below.on B2 b23
       change wpList _ _ _ _ _ (World.setRow (World.alloc w2 (.cells (ints .u32 (List.replicate 8 0)) 24)) w2.heap.size (ints .u32 x))
       rw [hW]
       clear hW b23))
  have s2 : w1.heap.size < w2.heap.size := z5.lt
  go_loopw [7, 8, 9, 10, 11, 16] (fun _ _ _ _ _ i W => ∃ k : Nat, k ≤ 64 ∧ i = .int .i64 k ∧ BoxA W w2.heap.size 24 .u32 (roundsM kM X x k) ∧ BoxA W w1.heap.size 25 .u32 X ∧ BoxA W w.heap.size 24 .u32 x ∧ BoxA W (w.heap.size + 1) 24 .u32 (List.replicate 8 0) ∧ Below w.heap.size w W) (fun _ _ _ _ _ i _ => 64 - (intOf i).toNat)
  case atStart => exact ⟨0, by decide, rfl, u6, u5, u2, u4, B3⟩
  case round =>
    obtain ⟨k, hk64, rfl, v6, v5, v2, v4, Bv⟩ := hrel
    by_cases hlt : k < 64
    · have k1 : (k : Int) < 64 := by omega
      have k0 : 0 ≤ (k : Int) := by omega
      obtain ⟨xa, xb, xc, xd, xe, xf, xg, xh, hst, wa, wb, wc, wd', we, wf, wg, wh⟩ := list8 (roundsM_st kM X hx k)
      rw [hst] at v6
      obtain ⟨wk, hwk⟩ : ∃ y, X.getD k 0 = y := ⟨_, rfl⟩
      obtain ⟨kk, hkk⟩ : ∃ y, kM.getD k 0 = y := ⟨_, rfl⟩
      have HSR : Hid (roundsM kM X x (k + 1) = [w32 (t1M kk wk xe xf xg xh + t2M xa xb xc), xa, xb, xc, w32 (xd + t1M kk wk xe xf xg xh), xe, xf, xg]) := by
        show _ = _
        rw [roundsM, hst, hwk, hkk]; rfl
      have c0 := v6.cell (i := 0) (by simp)
      have c1 := v6.cell (i := 1) (by simp)
      have c2 := v6.cell (i := 2) (by simp)
      have c3 := v6.cell (i := 3) (by simp)
      have c4 := v6.cell (i := 4) (by simp)
      have c5 := v6.cell (i := 5) (by simp)
      have c6 := v6.cell (i := 6) (by simp)
      have c7 := v6.cell (i := 7) (by simp)
      have ck := v5.cellD (i := k) (by omega)
      have cc := (hk.next Bv).2 k hlt
      rw [hwk] at ck
      rw [hkk] at cc
      simp only [List.getElem_cons_zero, List.getElem_cons_succ] at c0 c1 c2 c3 c4 c5 c6 c7
      clear hst hwk hkk hx hXw
      go_upto_region 6 with (fail)
      go_quiet (fail)
      go_upto_region 7 with (fail)
      have sgn : IntKind.u32.signed = false := rfl
      have Dd : Below wr.heap.size wr (wr.drewN nq) := Below.drawn wr nq _
      replace v6 := v6.next Dd
      replace v5 := v5.next Dd
      replace v2 := v2.next Dd
      replace v4 := v4.next Dd
      replace Bv := Below.on Bv Dd
      replace c0 := cell_kept Dd c0
      replace c1 := cell_kept Dd c1
      replace c2 := cell_kept Dd c2
      replace c3 := cell_kept Dd c3
      replace c4 := cell_kept Dd c4
      replace c5 := cell_kept Dd c5
      replace c6 := cell_kept Dd c6
      replace c7 := cell_kept Dd c7
      replace ck := cell_kept Dd ck
      replace cc := cell_kept Dd cc
      clear Dd
      generalize wr.drewN nq = wa0 at *
      go_quiet ((first | (go_at_call_of 90 (Value.int IntKind.i64 6); exact Calls.quiet_of_same (turn_6 _ _ we.1 we.2)) | (go_at_call_of 90 (Value.int IntKind.i64 11); exact Calls.quiet_of_same (turn_11 _ _ we.1 we.2)) | (go_at_call_of 90 (Value.int IntKind.i64 25); exact Calls.quiet_of_same (turn_25 _ _ we.1 we.2))))
      go_upto_region 8 with (fail)
      clear sgn
      generalize hT1 : ((xh + bits .xor .u32 (bits .xor .u32 (rotr 6 xe) (rotr 11 xe)) (rotr 25 xe) + bits .xor .u32 (bits .and .u32 xe xf) (bits .and .u32 (bits .xor .u32 IntKind.u32.max xe) xg) + kk) % 4294967296 + wk) % 4294967296 = T1
      have Dd : Below wa0.heap.size wa0 (wa0.drewN nq) := Below.drawn wa0 nq _
      replace v6 := v6.next Dd
      replace v5 := v5.next Dd
      replace v2 := v2.next Dd
      replace v4 := v4.next Dd
      replace Bv := Below.on Bv Dd
      replace c0 := cell_kept Dd c0
      replace c1 := cell_kept Dd c1
      replace c2 := cell_kept Dd c2
      replace c3 := cell_kept Dd c3
      replace c4 := cell_kept Dd c4
      replace c5 := cell_kept Dd c5
      replace c6 := cell_kept Dd c6
      replace c7 := cell_kept Dd c7
      clear Dd
      generalize wa0.drewN nq = wb0 at *
      go_quiet ((first | (go_at_call_of 90 (Value.int IntKind.i64 2); exact Calls.quiet_of_same (turn_2 _ _ wa.1 wa.2)) | (go_at_call_of 90 (Value.int IntKind.i64 13); exact Calls.quiet_of_same (turn_13 _ _ wa.1 wa.2)) | (go_at_call_of 90 (Value.int IntKind.i64 22); exact Calls.quiet_of_same (turn_22 _ _ wa.1 wa.2))))
      go_upto_region 9 with (fail)
      generalize hT2 : (bits .xor .u32 (bits .xor .u32 (rotr 2 xa) (rotr 13 xa)) (rotr 22 xa) + bits .xor .u32 (bits .xor .u32 (bits .and .u32 xa xb) (bits .and .u32 xa xc)) (bits .and .u32 xb xc)) % 4294967296 = T2
      replace hT1 : t1M kk wk xe xf xg xh = T1 := by rw [← hT1, Int.emod_add_emod]; rfl
      replace hT2 : t2M xa xb xc = T2 := hT2
      have HS2 := Lib.hid HSR.out
      rw [hT1, hT2, w32_eq, w32_eq] at HS2
      clear HSR hT1 hT2
      have Dd : Below wb0.heap.size wb0 (wb0.drewN nq) := Below.drawn wb0 nq _
      replace v6 := v6.next Dd
      replace v5 := v5.next Dd
      replace v2 := v2.next Dd
      replace v4 := v4.next Dd
      replace Bv := Below.on Bv Dd
      replace c0 := cell_kept Dd c0
      replace c1 := cell_kept Dd c1
      replace c2 := cell_kept Dd c2
      replace c3 := cell_kept Dd c3
      replace c4 := cell_kept Dd c4
      replace c5 := cell_kept Dd c5
      replace c6 := cell_kept Dd c6
      replace c7 := cell_kept Dd c7
      clear Dd
      generalize wb0.drewN nq = wc0 at *
      have szb : (Tryd.prog.info? 24).map (·.size) = some 8 := by kernel_rfl
      clear ck cc
      have f0 := v6.frozen 0
      have f1 := v6.frozen 1
      have f2 := v6.frozen 2
      have f3 := v6.frozen 3
      have f4 := v6.frozen 4
      have f5 := v6.frozen 5
      have f6 := v6.frozen 6
      have f7 := v6.frozen 7
      go_wp2_with (fail)
      generalize hW8 : (World.setCell (World.setCell (World.setCell (World.setCell (World.setCell (World.setCell (World.setCell (World.setCell wc0 ⟨w2.heap.size, 0, none⟩ _) ⟨w2.heap.size, 1, none⟩ _) ⟨w2.heap.size, 2, none⟩ _) ⟨w2.heap.size, 3, none⟩ _) ⟨w2.heap.size, 4, none⟩ _) ⟨w2.heap.size, 5, none⟩ _) ⟨w2.heap.size, 6, none⟩ _) ⟨w2.heap.size, 7, none⟩ _) = W8
      obtain ⟨e6, e5, e4⟩ := set8 hW8 v6
      replace v6 := e6 rfl
      replace v5 := e5 _ _ _ _ (by omega) v5
      replace v2 := e5 _ _ _ _ (by omega) v2
      replace v4 := e5 _ _ _ _ (by omega) v4
      replace Bv := e4 _ _ (by omega) Bv
      rw [← HS2.out] at v6
      exact ⟨⟨k + 1, by omega, by go_num, v6, v5, v2, v4, Bv⟩, by simp [intOf]; omega⟩
    · obtain rfl : k = 64 := by omega
      rw [HY.out] at v6
      have HX := Lib.hid hx
      clear hx v5 hXl hXw
      go_wp2_with (fail)
      go_loopw [12, 98] (fun _ i W => ∃ k : Nat, k ≤ 8 ∧ i = .int .i64 k ∧ BoxA W w2.heap.size 24 .u32 (addP Y x k) ∧ BoxA W w.heap.size 24 .u32 x ∧ BoxA W (w.heap.size + 1) 24 .u32 (List.replicate 8 0) ∧ Below w.heap.size w W) (fun _ i _ => 8 - (intOf i).toNat)
      case atStart => exact ⟨0, by decide, rfl, v6, v2, v4, Bv⟩
      case round =>
        clear v6 v2 v4 Bv
        obtain ⟨k, hk8, rfl, v6, v2, v4, Bv⟩ := hrel
        by_cases hlt : k < 8
        · have k1 : (k : Int) < 8 := by omega
          have k0 : 0 ≤ (k : Int) := by omega
          have hl : (addP Y x k).length = 8 := by rw [addP_length]; exact HST.out.1
          have e6 := v6.cell (i := k) (by omega)
          have e2 := v2.cell (i := k) (by rw [HX.out.1]; omega)
          have ff := v6.frozen k
          have gY : (addP Y x k)[k] = Y.getD k 0 := by
            rw [List.getD_eq_getElem?_getD, ← addP_get Y x k k (Nat.le_refl _), List.getElem?_eq_getElem (by omega)]; rfl
          have gx : x[k]'(by rw [HX.out.1]; omega) = x.getD k 0 := by
            rw [List.getD_eq_getElem?_getD, List.getElem?_eq_getElem (by rw [HX.out.1]; omega)]; rfl
          rw [gY] at e6
          rw [gx] at e2
          clear hl gY gx
          generalize hq : Y.getD k 0 = y1 at *
          generalize hp : x.getD k 0 = y2 at *
          have HQ := Lib.hid hq
          have HP := Lib.hid hp
          clear hq hp
          go_upto_region 14 with (fail)
          go_still_tail 7, (by kernel_rfl)
          have Dd : Below wr.heap.size wr wr.drew := Below.drawn wr 1 _
          replace v6 := v6.next Dd
          replace v2 := v2.next Dd
          replace v4 := v4.next Dd
          replace Bv := Below.on Bv Dd
          change wpList _ _ _ _ _ wr.drew
          generalize wr.drew = wd at *
          have ff := v6.frozen k
          have cc := v6.cell (i := k) (by rw [addP_length]; have := HST.out.1; omega)
          have key := v6.set k (w32 (y1 + y2))
          rw [← HQ.out, ← HP.out, show (addP Y x k).set k (w32 (Y.getD k 0 + x.getD k 0)) = addP Y x (k + 1) from rfl, w32_eq, HQ.out, HP.out] at key
          have KEY := Lib.hid key
          clear key
          go_wp2_with (fail)
          refine ⟨?_, by simp [intOf]; omega⟩
          iterate 13 (apply Exists.intro)
          exact ⟨⟨k + 1, by omega, by go_num, KEY.out, v2.far (by omega) _ _ _, v4.far (by omega) _ _ _, Bv.setCell (p := ⟨w2.heap.size, k, none⟩) (show w.heap.size ≤ w2.heap.size by omega) _⟩, rfl⟩
        · obtain rfl : k = 8 := by omega
          have hl : (addP Y x 8).length = 8 := by rw [addP_length]; exact HST.out.1
          obtain ⟨Z, hZ⟩ : ∃ Z, addP Y x 8 = Z := ⟨_, rfl⟩
          rw [hZ] at v6 hl
          have szZ : (Tryd.prog.info? 24).map (·.size) = some (ints .u32 Z).size := by rw [ints_size, hl]; kernel_rfl
          have sxZ : (ints .u32 (List.replicate 8 0)).size = (ints .u32 Z).size := by rw [ints_size, ints_size, hl]; rfl
          have HZ := Lib.hid hZ
          clear hZ hl
          have nb : w2.heap.size ≠ w.heap.size + 1 := by omega
          go_wp2_with (first
            | (refine wpList_load_row rfl 24 (.tmp 6) rfl w2.heap.size rfl 24 (ints .u32 Z) (0, 0) (.array 8 23) v6 (by kernel_rfl) rfl szZ ?_)
            | (refine wpList_store_row rfl 24 (.tmp 4) (.tmp 110) rfl (w.heap.size + 1) (ints .u32 Z) rfl rfl 24 _ v4 szZ sxZ (ints_one _ _) ?_))
          exact bodyPost_ret (v := .agg (ints .u32 Z)) (results_cell_row (p := 4) (ty := 24) rfl _ _ (w.heap.size + 1) 24 (ints .u32 Z) (0, 0) (.array 8 23) rfl v4.setRow (by kernel_rfl) rfl szZ) rfl ⟨by rw [HZ.out], below_setRow Bv (by omega) _⟩
end
end Go.Proofs.YtcocengpekndjaaDoor
