/- The walk over Merge of the reference. -/
import Derived.Test.YtfmplibjhohpgaaSpRefDiff
import Derived.Test.YtfmplibjhohpgaaSpMergeP
import Derived.Test.YtfmplibjhohpgaaSpMerge
import Derived.Test.YtfmplibjhohpgaaSpDo
import Derived.Deep.DeepCutAuto
import Derived.Deep.CutRange
import Derived.Deep.CutBlock
namespace Go.Proofs.Ytfmplibjhohpgaa
open Go.RowKit Go.Shelf
attribute [local go_sem] Oper.semAt_some
attribute [local go_sem ↓] run_max run_min

/-- What Merge of the reference leaves. -/
def RMergePost (w : World) (r : Int × List (Int × Int) × List Ch) (e : Ending) (w' : World) : Prop :=
  ∃ A c v, e = .returned (.tuple #[.agg #[.int .i64 (Tr.total r.2.1), .slice A r.2.1.length c], v, .int .i64 r.1]) ∧ OwnRuns w' w.heap.size (.slice A r.2.1.length c) (lay 0 r.2.1) ∧ r.2.1.length ≤ c ∧ OwnChs w' w.heap.size v r.2.2 ∧ Below w.heap.size w w'
/-- The boxes of the three maps and of the result. -/
structure MQ (W : World) (b : Nat) (x y z : Int) (u v t : Value) : Prop where
  x3 : BoxM W b x u
  x4 : BoxM W (b + 1) y v
  x5 : BoxM W (b + 1 + 1) z t
  x6 : BoxM W (b + 1 + 1 + 1) 0 (.slice none 0 0)
theorem MQ.next {W W' : World} {b : Nat} {x y z : Int} {u v t : Value} (h : MQ W b x y z u v t) (hB : Below W.heap.size W W') : MQ W' b x y z u v t := ⟨h.x3.next hB, h.x4.next hB, h.x5.next hB, h.x6.next hB⟩
theorem MQ.cells {W : World} {b : Nat} {x y z : Int} {u v t : Value} (h : MQ W b x y z u v t) :
    W.cell? ⟨b, 0, none⟩ = some (.int .i64 x) ∧ W.cell? ⟨b, 1, none⟩ = some u ∧ W.cell? ⟨b + 1, 0, none⟩ = some (.int .i64 y) ∧ W.cell? ⟨b + 1, 1, none⟩ = some v ∧ W.cell? ⟨b + 1 + 1, 0, none⟩ = some (.int .i64 z) ∧ W.cell? ⟨b + 1 + 1, 1, none⟩ = some t ∧ W.cell? ⟨b + 1 + 1 + 1, 0, none⟩ = some (.int .i64 0) ∧ W.cell? ⟨b + 1 + 1 + 1, 1, none⟩ = some (.slice none 0 0) ∧ W.frozen? ⟨b + 1 + 1 + 1, 0, none⟩ = false ∧ W.frozen? ⟨b + 1 + 1 + 1, 1, none⟩ = false :=
  ⟨h.x3.c0, h.x3.c1, h.x4.c0, h.x4.c1, h.x5.c0, h.x5.c1, h.x6.c0, h.x6.c1, h.x6.frozen 0, h.x6.frozen 1⟩
theorem MQ.six {W : World} {b : Nat} {x y z : Int} {u v t : Value} (h : MQ W b x y z u v t) :
    W.cell? ⟨b, 0, none⟩ = some (.int .i64 x) ∧ W.cell? ⟨b, 1, none⟩ = some u ∧ W.cell? ⟨b + 1, 0, none⟩ = some (.int .i64 y) ∧ W.cell? ⟨b + 1, 1, none⟩ = some v ∧ W.cell? ⟨b + 1 + 1, 0, none⟩ = some (.int .i64 z) ∧ W.cell? ⟨b + 1 + 1, 1, none⟩ = some t :=
  ⟨h.x3.c0, h.x3.c1, h.x4.c0, h.x4.c1, h.x5.c0, h.x5.c1⟩
theorem MQ.low {W W' : World} {b n : Nat} {x y z : Int} {u v t : Value} (h : MQ W b x y z u v t) (hB : Below n W W') (hn : b + 1 + 1 + 1 < n) : MQ W' b x y z u v t :=
  ⟨(hB.block _ (by omega)).trans h.x3, (hB.block _ (by omega)).trans h.x4, (hB.block _ (by omega)).trans h.x5, (hB.block _ (by omega)).trans h.x6⟩
set_option maxRecDepth 100000 in
set_option maxHeartbeats 4000000 in
theorem rmerge_a (w : World) (x y z : Int) (P0 P Q : Option Addr) (m0 c0 m c n d : Nat) (_hm0 : (m0 : Int) ≤ 4096) (_hm : (m : Int) ≤ 4096) (_hn : (n : Int) ≤ 4096) (h : m0 = 0) :
    Calls Try.prog 47 #[.agg #[.int .i64 x, .slice P0 m0 c0], .agg #[.int .i64 y, .slice P m c], .agg #[.int .i64 z, .slice Q n d]] w (RMergePost w (1, [], [])) := by
  obtain ⟨wa, hwa⟩ : ∃ wa, (((w.alloc (.cells #[.int .i64 x, .slice P0 m0 c0] 31)).alloc (.cells #[.int .i64 y, .slice P m c] 31)).alloc (.cells #[.int .i64 z, .slice Q n d] 31)).alloc (.cells #[.int .i64 0, .slice none 0 0] 31) = wa := ⟨_, rfl⟩
  have hBa : Below w.heap.size w wa := hwa ▸ Below.next (Below.next (Below.alloc2 w _ _) (Below.alloc1 _ _)) (Below.alloc1 _ _)
  have x3 : BoxM wa w.heap.size x (.slice P0 m0 c0) := hwa ▸ (((BoxM.new w x (.slice P0 m0 c0)).next (Below.alloc1 _ _)).next (Below.alloc1 _ _)).next (Below.alloc1 _ _)
  have x4 : BoxM wa (w.heap.size + 1) y (.slice P m c) := by
    have t := ((BoxM.new (w.alloc (.cells #[.int .i64 x, .slice P0 m0 c0] 31)) y (.slice P m c)).next (Below.alloc1 _ (.cells #[.int .i64 z, .slice Q n d] 31))).next (Below.alloc1 _ (.cells #[.int .i64 0, .slice none 0 0] 31))
    rw [World.size_alloc] at t; exact hwa ▸ t
  have x5 : BoxM wa (w.heap.size + 1 + 1) z (.slice Q n d) := by
    have t := (BoxM.new ((w.alloc (.cells #[.int .i64 x, .slice P0 m0 c0] 31)).alloc (.cells #[.int .i64 y, .slice P m c] 31)) z (.slice Q n d)).next (Below.alloc1 _ (.cells #[.int .i64 0, .slice none 0 0] 31))
    rw [World.size_alloc, World.size_alloc] at t; exact hwa ▸ t
  have x6 : BoxM wa (w.heap.size + 1 + 1 + 1) 0 (.slice none 0 0) := by
    have t := BoxM.new (((w.alloc (.cells #[.int .i64 x, .slice P0 m0 c0] 31)).alloc (.cells #[.int .i64 y, .slice P m c] 31)).alloc (.cells #[.int .i64 z, .slice Q n d] 31)) 0 (.slice none 0 0)
    rw [World.size_alloc, World.size_alloc, World.size_alloc] at t; exact hwa ▸ t
  have HWA := Lib.hid hwa
  clear hwa
  have F0 : MQ wa w.heap.size x y z (.slice P0 m0 c0) (.slice P m c) (.slice Q n d) := ⟨x3, x4, x5, x6⟩
  clear x3 x4 x5 x6
  have hu0 : ∀ W, Calls Try.prog 55 #[.agg #[.int .i64 x, .slice P0 m0 c0]] W fun e w' => e = .returned (.bool false) ∧ Below W.heap.size W w' := fun W => by
    have := usable_any x P0 m0 c0 W (by omega)
    rw [show decide (0 < m0) = false from by simp; omega] at this
    exact this
  have HU0 := Lib.hid hu0
  clear hu0
  clear h
  obtain ⟨c30, c31, c40, c41, c50, c51, c60, c61, f60, f61⟩ := F0.cells
  go_enter Try.func47, Try.ntmps47
  go_upto_region 1 with (fail)
  rw [HWA.out]
  go_wp2_with (fail)
  go_at_call 55
  refine (HU0.out _).mono ?_
  rintro e w1 ⟨rfl, b1⟩
  have F1 := F0.next b1
  have B1 := Below.next hBa b1
  clear c30 c31 c40 c41 c50 c51 c60 c61 f60 f61
  clear F0 b1
  obtain ⟨c30, c31, c40, c41, c50, c51, c60, c61, f60, f61⟩ := F1.cells
  have g6 := boxM_set F1.x6 0 (.slice none 0 0)
  have g60 := g6.c0
  have g61 := g6.c1
  have l6 := F1.x6.lt
  go_wp2_with (fail)
  refine bodyPost_ret (v := .tuple #[.agg #[.int .i64 0, .slice none 0 0], .slice none 0 0, .int .i64 1]) (by simp [results, Try.results47, go_sem, g60, g61]) rfl ?_
  exact ⟨none, 0, .slice none 0 0, rfl, World.ownsRow_nil _ _ _ _, Nat.le_refl _, World.ownsRow_nil _ _ _ _, (B1.setCell (p := ⟨w.heap.size + 1 + 1 + 1, 0, none⟩) (show w.heap.size ≤ w.heap.size + 1 + 1 + 1 by omega) _).setCell (p := ⟨w.heap.size + 1 + 1 + 1, 1, none⟩) (show w.heap.size ≤ w.heap.size + 1 + 1 + 1 by omega) _⟩
set_option maxRecDepth 100000 in
set_option maxHeartbeats 4000000 in
theorem rmerge_b (w : World) (x y z : Int) (P0 P Q : Option Addr) (m0 c0 m c n d : Nat) (hm0 : (m0 : Int) ≤ 4096) (_hm : (m : Int) ≤ 4096) (_hn : (n : Int) ≤ 4096) (h : 0 < m0) (h2 : m = 0) :
    Calls Try.prog 47 #[.agg #[.int .i64 x, .slice P0 m0 c0], .agg #[.int .i64 y, .slice P m c], .agg #[.int .i64 z, .slice Q n d]] w (RMergePost w (1, [], [])) := by
  obtain ⟨wa, hwa⟩ : ∃ wa, (((w.alloc (.cells #[.int .i64 x, .slice P0 m0 c0] 31)).alloc (.cells #[.int .i64 y, .slice P m c] 31)).alloc (.cells #[.int .i64 z, .slice Q n d] 31)).alloc (.cells #[.int .i64 0, .slice none 0 0] 31) = wa := ⟨_, rfl⟩
  have hBa : Below w.heap.size w wa := hwa ▸ Below.next (Below.next (Below.alloc2 w _ _) (Below.alloc1 _ _)) (Below.alloc1 _ _)
  have x3 : BoxM wa w.heap.size x (.slice P0 m0 c0) := hwa ▸ (((BoxM.new w x (.slice P0 m0 c0)).next (Below.alloc1 _ _)).next (Below.alloc1 _ _)).next (Below.alloc1 _ _)
  have x4 : BoxM wa (w.heap.size + 1) y (.slice P m c) := by
    have t := ((BoxM.new (w.alloc (.cells #[.int .i64 x, .slice P0 m0 c0] 31)) y (.slice P m c)).next (Below.alloc1 _ (.cells #[.int .i64 z, .slice Q n d] 31))).next (Below.alloc1 _ (.cells #[.int .i64 0, .slice none 0 0] 31))
    rw [World.size_alloc] at t; exact hwa ▸ t
  have x5 : BoxM wa (w.heap.size + 1 + 1) z (.slice Q n d) := by
    have t := (BoxM.new ((w.alloc (.cells #[.int .i64 x, .slice P0 m0 c0] 31)).alloc (.cells #[.int .i64 y, .slice P m c] 31)) z (.slice Q n d)).next (Below.alloc1 _ (.cells #[.int .i64 0, .slice none 0 0] 31))
    rw [World.size_alloc, World.size_alloc] at t; exact hwa ▸ t
  have x6 : BoxM wa (w.heap.size + 1 + 1 + 1) 0 (.slice none 0 0) := by
    have t := BoxM.new (((w.alloc (.cells #[.int .i64 x, .slice P0 m0 c0] 31)).alloc (.cells #[.int .i64 y, .slice P m c] 31)).alloc (.cells #[.int .i64 z, .slice Q n d] 31)) 0 (.slice none 0 0)
    rw [World.size_alloc, World.size_alloc, World.size_alloc] at t; exact hwa ▸ t
  have HWA := Lib.hid hwa
  clear hwa
  have F0 : MQ wa w.heap.size x y z (.slice P0 m0 c0) (.slice P m c) (.slice Q n d) := ⟨x3, x4, x5, x6⟩
  clear x3 x4 x5 x6
  have hu0 : ∀ W, Calls Try.prog 55 #[.agg #[.int .i64 x, .slice P0 m0 c0]] W fun e w' => e = .returned (.bool true) ∧ Below W.heap.size W w' := fun W => by
    have := usable_any x P0 m0 c0 W (by omega)
    rw [show decide (0 < m0) = true from by simp; omega] at this
    exact this
  have HU0 := Lib.hid hu0
  clear hu0
  have hu1 : ∀ W, Calls Try.prog 55 #[.agg #[.int .i64 y, .slice P m c]] W fun e w' => e = .returned (.bool false) ∧ Below W.heap.size W w' := fun W => by
    have := usable_any y P m c W (by omega)
    rw [show decide (0 < m) = false from by simp; omega] at this
    exact this
  have HU1 := Lib.hid hu1
  clear hu1
  clear h2
  obtain ⟨c30, c31, c40, c41, c50, c51, c60, c61, f60, f61⟩ := F0.cells
  go_enter Try.func47, Try.ntmps47
  go_upto_region 1 with (fail)
  rw [HWA.out]
  go_wp2_with (fail)
  go_at_call 55
  refine (HU0.out _).mono ?_
  rintro e w1 ⟨rfl, b1⟩
  have F1 := F0.next b1
  have B1 := Below.next hBa b1
  clear c30 c31 c40 c41 c50 c51 c60 c61 f60 f61
  clear F0 b1
  obtain ⟨c30, c31, c40, c41, c50, c51, c60, c61, f60, f61⟩ := F1.cells
  go_wp2_with (fail)
  go_at_call 55
  refine (HU1.out _).mono ?_
  rintro e w2 ⟨rfl, b2⟩
  have F2 := F1.next b2
  have B2 := Below.next B1 b2
  clear c30 c31 c40 c41 c50 c51 c60 c61 f60 f61
  clear F1 b2
  obtain ⟨c30, c31, c40, c41, c50, c51, c60, c61, f60, f61⟩ := F2.cells
  have g6 := boxM_set F2.x6 0 (.slice none 0 0)
  have g60 := g6.c0
  have g61 := g6.c1
  have l6 := F2.x6.lt
  go_wp2_with (fail)
  refine bodyPost_ret (v := .tuple #[.agg #[.int .i64 0, .slice none 0 0], .slice none 0 0, .int .i64 1]) (by simp [results, Try.results47, go_sem, g60, g61]) rfl ?_
  exact ⟨none, 0, .slice none 0 0, rfl, World.ownsRow_nil _ _ _ _, Nat.le_refl _, World.ownsRow_nil _ _ _ _, (B2.setCell (p := ⟨w.heap.size + 1 + 1 + 1, 0, none⟩) (show w.heap.size ≤ w.heap.size + 1 + 1 + 1 by omega) _).setCell (p := ⟨w.heap.size + 1 + 1 + 1, 1, none⟩) (show w.heap.size ≤ w.heap.size + 1 + 1 + 1 by omega) _⟩
set_option maxRecDepth 100000 in
set_option maxHeartbeats 4000000 in
theorem rmerge_c (w : World) (x y z : Int) (P0 P Q : Option Addr) (m0 c0 m c n d : Nat) (hm0 : (m0 : Int) ≤ 4096) (hm : (m : Int) ≤ 4096) (_hn : (n : Int) ≤ 4096) (h : 0 < m0) (h2 : 0 < m) (h3 : n = 0) :
    Calls Try.prog 47 #[.agg #[.int .i64 x, .slice P0 m0 c0], .agg #[.int .i64 y, .slice P m c], .agg #[.int .i64 z, .slice Q n d]] w (RMergePost w (1, [], [])) := by
  obtain ⟨wa, hwa⟩ : ∃ wa, (((w.alloc (.cells #[.int .i64 x, .slice P0 m0 c0] 31)).alloc (.cells #[.int .i64 y, .slice P m c] 31)).alloc (.cells #[.int .i64 z, .slice Q n d] 31)).alloc (.cells #[.int .i64 0, .slice none 0 0] 31) = wa := ⟨_, rfl⟩
  have hBa : Below w.heap.size w wa := hwa ▸ Below.next (Below.next (Below.alloc2 w _ _) (Below.alloc1 _ _)) (Below.alloc1 _ _)
  have x3 : BoxM wa w.heap.size x (.slice P0 m0 c0) := hwa ▸ (((BoxM.new w x (.slice P0 m0 c0)).next (Below.alloc1 _ _)).next (Below.alloc1 _ _)).next (Below.alloc1 _ _)
  have x4 : BoxM wa (w.heap.size + 1) y (.slice P m c) := by
    have t := ((BoxM.new (w.alloc (.cells #[.int .i64 x, .slice P0 m0 c0] 31)) y (.slice P m c)).next (Below.alloc1 _ (.cells #[.int .i64 z, .slice Q n d] 31))).next (Below.alloc1 _ (.cells #[.int .i64 0, .slice none 0 0] 31))
    rw [World.size_alloc] at t; exact hwa ▸ t
  have x5 : BoxM wa (w.heap.size + 1 + 1) z (.slice Q n d) := by
    have t := (BoxM.new ((w.alloc (.cells #[.int .i64 x, .slice P0 m0 c0] 31)).alloc (.cells #[.int .i64 y, .slice P m c] 31)) z (.slice Q n d)).next (Below.alloc1 _ (.cells #[.int .i64 0, .slice none 0 0] 31))
    rw [World.size_alloc, World.size_alloc] at t; exact hwa ▸ t
  have x6 : BoxM wa (w.heap.size + 1 + 1 + 1) 0 (.slice none 0 0) := by
    have t := BoxM.new (((w.alloc (.cells #[.int .i64 x, .slice P0 m0 c0] 31)).alloc (.cells #[.int .i64 y, .slice P m c] 31)).alloc (.cells #[.int .i64 z, .slice Q n d] 31)) 0 (.slice none 0 0)
    rw [World.size_alloc, World.size_alloc, World.size_alloc] at t; exact hwa ▸ t
  have HWA := Lib.hid hwa
  clear hwa
  have F0 : MQ wa w.heap.size x y z (.slice P0 m0 c0) (.slice P m c) (.slice Q n d) := ⟨x3, x4, x5, x6⟩
  clear x3 x4 x5 x6
  have hu0 : ∀ W, Calls Try.prog 55 #[.agg #[.int .i64 x, .slice P0 m0 c0]] W fun e w' => e = .returned (.bool true) ∧ Below W.heap.size W w' := fun W => by
    have := usable_any x P0 m0 c0 W (by omega)
    rw [show decide (0 < m0) = true from by simp; omega] at this
    exact this
  have HU0 := Lib.hid hu0
  clear hu0
  have hu1 : ∀ W, Calls Try.prog 55 #[.agg #[.int .i64 y, .slice P m c]] W fun e w' => e = .returned (.bool true) ∧ Below W.heap.size W w' := fun W => by
    have := usable_any y P m c W (by omega)
    rw [show decide (0 < m) = true from by simp; omega] at this
    exact this
  have HU1 := Lib.hid hu1
  clear hu1
  have hu2 : ∀ W, Calls Try.prog 55 #[.agg #[.int .i64 z, .slice Q n d]] W fun e w' => e = .returned (.bool false) ∧ Below W.heap.size W w' := fun W => by
    have := usable_any z Q n d W (by omega)
    rw [show decide (0 < n) = false from by simp; omega] at this
    exact this
  have HU2 := Lib.hid hu2
  clear hu2
  clear h3
  obtain ⟨c30, c31, c40, c41, c50, c51, c60, c61, f60, f61⟩ := F0.cells
  go_enter Try.func47, Try.ntmps47
  go_upto_region 1 with (fail)
  rw [HWA.out]
  go_wp2_with (fail)
  go_at_call 55
  refine (HU0.out _).mono ?_
  rintro e w1 ⟨rfl, b1⟩
  have F1 := F0.next b1
  have B1 := Below.next hBa b1
  clear c30 c31 c40 c41 c50 c51 c60 c61 f60 f61
  clear F0 b1
  obtain ⟨c30, c31, c40, c41, c50, c51, c60, c61, f60, f61⟩ := F1.cells
  go_wp2_with (fail)
  go_at_call 55
  refine (HU1.out _).mono ?_
  rintro e w2 ⟨rfl, b2⟩
  have F2 := F1.next b2
  have B2 := Below.next B1 b2
  clear c30 c31 c40 c41 c50 c51 c60 c61 f60 f61
  clear F1 b2
  obtain ⟨c30, c31, c40, c41, c50, c51, c60, c61, f60, f61⟩ := F2.cells
  go_wp2_with (fail)
  go_at_call 55
  refine (HU2.out _).mono ?_
  rintro e w3 ⟨rfl, b3⟩
  have F3 := F2.next b3
  have B3 := Below.next B2 b3
  clear c30 c31 c40 c41 c50 c51 c60 c61 f60 f61
  clear F2 b3
  obtain ⟨c30, c31, c40, c41, c50, c51, c60, c61, f60, f61⟩ := F3.cells
  have g6 := boxM_set F3.x6 0 (.slice none 0 0)
  have g60 := g6.c0
  have g61 := g6.c1
  have l6 := F3.x6.lt
  go_wp2_with (fail)
  refine bodyPost_ret (v := .tuple #[.agg #[.int .i64 0, .slice none 0 0], .slice none 0 0, .int .i64 1]) (by simp [results, Try.results47, go_sem, g60, g61]) rfl ?_
  exact ⟨none, 0, .slice none 0 0, rfl, World.ownsRow_nil _ _ _ _, Nat.le_refl _, World.ownsRow_nil _ _ _ _, (B3.setCell (p := ⟨w.heap.size + 1 + 1 + 1, 0, none⟩) (show w.heap.size ≤ w.heap.size + 1 + 1 + 1 by omega) _).setCell (p := ⟨w.heap.size + 1 + 1 + 1, 1, none⟩) (show w.heap.size ≤ w.heap.size + 1 + 1 + 1 by omega) _⟩
set_option maxRecDepth 100000 in
set_option maxHeartbeats 4000000 in
theorem rmerge_d (w : World) (x y z : Int) (P0 P Q : Option Addr) (m0 c0 m c n d : Nat) (hm0 : (m0 : Int) ≤ 4096) (hm : (m : Int) ≤ 4096) (hn : (n : Int) ≤ 4096) (h : 0 < m0) (h2 : 0 < m) (h3 : 0 < n) (h4 : ¬ x = y) :
    Calls Try.prog 47 #[.agg #[.int .i64 x, .slice P0 m0 c0], .agg #[.int .i64 y, .slice P m c], .agg #[.int .i64 z, .slice Q n d]] w (RMergePost w (2, [], [])) := by
  have t1 : (x != y) = true := by simpa using h4
  obtain ⟨wa, hwa⟩ : ∃ wa, (((w.alloc (.cells #[.int .i64 x, .slice P0 m0 c0] 31)).alloc (.cells #[.int .i64 y, .slice P m c] 31)).alloc (.cells #[.int .i64 z, .slice Q n d] 31)).alloc (.cells #[.int .i64 0, .slice none 0 0] 31) = wa := ⟨_, rfl⟩
  have hBa : Below w.heap.size w wa := hwa ▸ Below.next (Below.next (Below.alloc2 w _ _) (Below.alloc1 _ _)) (Below.alloc1 _ _)
  have x3 : BoxM wa w.heap.size x (.slice P0 m0 c0) := hwa ▸ (((BoxM.new w x (.slice P0 m0 c0)).next (Below.alloc1 _ _)).next (Below.alloc1 _ _)).next (Below.alloc1 _ _)
  have x4 : BoxM wa (w.heap.size + 1) y (.slice P m c) := by
    have t := ((BoxM.new (w.alloc (.cells #[.int .i64 x, .slice P0 m0 c0] 31)) y (.slice P m c)).next (Below.alloc1 _ (.cells #[.int .i64 z, .slice Q n d] 31))).next (Below.alloc1 _ (.cells #[.int .i64 0, .slice none 0 0] 31))
    rw [World.size_alloc] at t; exact hwa ▸ t
  have x5 : BoxM wa (w.heap.size + 1 + 1) z (.slice Q n d) := by
    have t := (BoxM.new ((w.alloc (.cells #[.int .i64 x, .slice P0 m0 c0] 31)).alloc (.cells #[.int .i64 y, .slice P m c] 31)) z (.slice Q n d)).next (Below.alloc1 _ (.cells #[.int .i64 0, .slice none 0 0] 31))
    rw [World.size_alloc, World.size_alloc] at t; exact hwa ▸ t
  have x6 : BoxM wa (w.heap.size + 1 + 1 + 1) 0 (.slice none 0 0) := by
    have t := BoxM.new (((w.alloc (.cells #[.int .i64 x, .slice P0 m0 c0] 31)).alloc (.cells #[.int .i64 y, .slice P m c] 31)).alloc (.cells #[.int .i64 z, .slice Q n d] 31)) 0 (.slice none 0 0)
    rw [World.size_alloc, World.size_alloc, World.size_alloc] at t; exact hwa ▸ t
  have HWA := Lib.hid hwa
  clear hwa
  have F0 : MQ wa w.heap.size x y z (.slice P0 m0 c0) (.slice P m c) (.slice Q n d) := ⟨x3, x4, x5, x6⟩
  clear x3 x4 x5 x6
  have hu0 : ∀ W, Calls Try.prog 55 #[.agg #[.int .i64 x, .slice P0 m0 c0]] W fun e w' => e = .returned (.bool true) ∧ Below W.heap.size W w' := fun W => by
    have := usable_any x P0 m0 c0 W (by omega)
    rw [show decide (0 < m0) = true from by simp; omega] at this
    exact this
  have HU0 := Lib.hid hu0
  clear hu0
  have hu1 : ∀ W, Calls Try.prog 55 #[.agg #[.int .i64 y, .slice P m c]] W fun e w' => e = .returned (.bool true) ∧ Below W.heap.size W w' := fun W => by
    have := usable_any y P m c W (by omega)
    rw [show decide (0 < m) = true from by simp; omega] at this
    exact this
  have HU1 := Lib.hid hu1
  clear hu1
  have hu2 : ∀ W, Calls Try.prog 55 #[.agg #[.int .i64 z, .slice Q n d]] W fun e w' => e = .returned (.bool true) ∧ Below W.heap.size W w' := fun W => by
    have := usable_any z Q n d W (by omega)
    rw [show decide (0 < n) = true from by simp; omega] at this
    exact this
  have HU2 := Lib.hid hu2
  clear hu2
  obtain ⟨c30, c31, c40, c41, c50, c51, c60, c61, f60, f61⟩ := F0.cells
  go_enter Try.func47, Try.ntmps47
  go_upto_region 1 with (fail)
  rw [HWA.out]
  go_wp2_with (fail)
  go_at_call 55
  refine (HU0.out _).mono ?_
  rintro e w1 ⟨rfl, b1⟩
  have F1 := F0.next b1
  have B1 := Below.next hBa b1
  clear c30 c31 c40 c41 c50 c51 c60 c61 f60 f61
  clear F0 b1
  obtain ⟨c30, c31, c40, c41, c50, c51, c60, c61, f60, f61⟩ := F1.cells
  go_wp2_with (fail)
  go_at_call 55
  refine (HU1.out _).mono ?_
  rintro e w2 ⟨rfl, b2⟩
  have F2 := F1.next b2
  have B2 := Below.next B1 b2
  clear c30 c31 c40 c41 c50 c51 c60 c61 f60 f61
  clear F1 b2
  obtain ⟨c30, c31, c40, c41, c50, c51, c60, c61, f60, f61⟩ := F2.cells
  go_wp2_with (fail)
  go_at_call 55
  refine (HU2.out _).mono ?_
  rintro e w3 ⟨rfl, b3⟩
  have F3 := F2.next b3
  have B3 := Below.next B2 b3
  clear c30 c31 c40 c41 c50 c51 c60 c61 f60 f61
  clear F2 b3
  obtain ⟨c30, c31, c40, c41, c50, c51, c60, c61, f60, f61⟩ := F3.cells
  have g6 := boxM_set F3.x6 0 (.slice none 0 0)
  have g60 := g6.c0
  have g61 := g6.c1
  have l6 := F3.x6.lt
  go_wp2_with (fail)
  refine bodyPost_ret (v := .tuple #[.agg #[.int .i64 0, .slice none 0 0], .slice none 0 0, .int .i64 2]) (by simp [results, Try.results47, go_sem, g60, g61]) rfl ?_
  exact ⟨none, 0, .slice none 0 0, rfl, World.ownsRow_nil _ _ _ _, Nat.le_refl _, World.ownsRow_nil _ _ _ _, (B3.setCell (p := ⟨w.heap.size + 1 + 1 + 1, 0, none⟩) (show w.heap.size ≤ w.heap.size + 1 + 1 + 1 by omega) _).setCell (p := ⟨w.heap.size + 1 + 1 + 1, 1, none⟩) (show w.heap.size ≤ w.heap.size + 1 + 1 + 1 by omega) _⟩
set_option maxRecDepth 100000 in
set_option maxHeartbeats 4000000 in
theorem rmerge_e (w : World) (x y z : Int) (P0 P Q : Option Addr) (m0 c0 m c n d : Nat) (hm0 : (m0 : Int) ≤ 4096) (hm : (m : Int) ≤ 4096) (hn : (n : Int) ≤ 4096) (h : 0 < m0) (h2 : 0 < m) (h3 : 0 < n) (h4 : x = y) (h5 : ¬ x = z) :
    Calls Try.prog 47 #[.agg #[.int .i64 x, .slice P0 m0 c0], .agg #[.int .i64 y, .slice P m c], .agg #[.int .i64 z, .slice Q n d]] w (RMergePost w (2, [], [])) := by
  subst h4
  have t1 : (x != x) = false := by simp
  have t2 : (x != z) = true := by simpa using h5
  obtain ⟨wa, hwa⟩ : ∃ wa, (((w.alloc (.cells #[.int .i64 x, .slice P0 m0 c0] 31)).alloc (.cells #[.int .i64 x, .slice P m c] 31)).alloc (.cells #[.int .i64 z, .slice Q n d] 31)).alloc (.cells #[.int .i64 0, .slice none 0 0] 31) = wa := ⟨_, rfl⟩
  have hBa : Below w.heap.size w wa := hwa ▸ Below.next (Below.next (Below.alloc2 w _ _) (Below.alloc1 _ _)) (Below.alloc1 _ _)
  have x3 : BoxM wa w.heap.size x (.slice P0 m0 c0) := hwa ▸ (((BoxM.new w x (.slice P0 m0 c0)).next (Below.alloc1 _ _)).next (Below.alloc1 _ _)).next (Below.alloc1 _ _)
  have x4 : BoxM wa (w.heap.size + 1) x (.slice P m c) := by
    have t := ((BoxM.new (w.alloc (.cells #[.int .i64 x, .slice P0 m0 c0] 31)) x (.slice P m c)).next (Below.alloc1 _ (.cells #[.int .i64 z, .slice Q n d] 31))).next (Below.alloc1 _ (.cells #[.int .i64 0, .slice none 0 0] 31))
    rw [World.size_alloc] at t; exact hwa ▸ t
  have x5 : BoxM wa (w.heap.size + 1 + 1) z (.slice Q n d) := by
    have t := (BoxM.new ((w.alloc (.cells #[.int .i64 x, .slice P0 m0 c0] 31)).alloc (.cells #[.int .i64 x, .slice P m c] 31)) z (.slice Q n d)).next (Below.alloc1 _ (.cells #[.int .i64 0, .slice none 0 0] 31))
    rw [World.size_alloc, World.size_alloc] at t; exact hwa ▸ t
  have x6 : BoxM wa (w.heap.size + 1 + 1 + 1) 0 (.slice none 0 0) := by
    have t := BoxM.new (((w.alloc (.cells #[.int .i64 x, .slice P0 m0 c0] 31)).alloc (.cells #[.int .i64 x, .slice P m c] 31)).alloc (.cells #[.int .i64 z, .slice Q n d] 31)) 0 (.slice none 0 0)
    rw [World.size_alloc, World.size_alloc, World.size_alloc] at t; exact hwa ▸ t
  have HWA := Lib.hid hwa
  clear hwa
  have F0 : MQ wa w.heap.size x x z (.slice P0 m0 c0) (.slice P m c) (.slice Q n d) := ⟨x3, x4, x5, x6⟩
  clear x3 x4 x5 x6
  have hu0 : ∀ W, Calls Try.prog 55 #[.agg #[.int .i64 x, .slice P0 m0 c0]] W fun e w' => e = .returned (.bool true) ∧ Below W.heap.size W w' := fun W => by
    have := usable_any x P0 m0 c0 W (by omega)
    rw [show decide (0 < m0) = true from by simp; omega] at this
    exact this
  have HU0 := Lib.hid hu0
  clear hu0
  have hu1 : ∀ W, Calls Try.prog 55 #[.agg #[.int .i64 x, .slice P m c]] W fun e w' => e = .returned (.bool true) ∧ Below W.heap.size W w' := fun W => by
    have := usable_any x P m c W (by omega)
    rw [show decide (0 < m) = true from by simp; omega] at this
    exact this
  have HU1 := Lib.hid hu1
  clear hu1
  have hu2 : ∀ W, Calls Try.prog 55 #[.agg #[.int .i64 z, .slice Q n d]] W fun e w' => e = .returned (.bool true) ∧ Below W.heap.size W w' := fun W => by
    have := usable_any z Q n d W (by omega)
    rw [show decide (0 < n) = true from by simp; omega] at this
    exact this
  have HU2 := Lib.hid hu2
  clear hu2
  obtain ⟨c30, c31, c40, c41, c50, c51, c60, c61, f60, f61⟩ := F0.cells
  go_enter Try.func47, Try.ntmps47
  go_upto_region 1 with (fail)
  rw [HWA.out]
  go_wp2_with (fail)
  go_at_call 55
  refine (HU0.out _).mono ?_
  rintro e w1 ⟨rfl, b1⟩
  have F1 := F0.next b1
  have B1 := Below.next hBa b1
  clear c30 c31 c40 c41 c50 c51 c60 c61 f60 f61
  clear F0 b1
  obtain ⟨c30, c31, c40, c41, c50, c51, c60, c61, f60, f61⟩ := F1.cells
  go_wp2_with (fail)
  go_at_call 55
  refine (HU1.out _).mono ?_
  rintro e w2 ⟨rfl, b2⟩
  have F2 := F1.next b2
  have B2 := Below.next B1 b2
  clear c30 c31 c40 c41 c50 c51 c60 c61 f60 f61
  clear F1 b2
  obtain ⟨c30, c31, c40, c41, c50, c51, c60, c61, f60, f61⟩ := F2.cells
  go_wp2_with (fail)
  go_at_call 55
  refine (HU2.out _).mono ?_
  rintro e w3 ⟨rfl, b3⟩
  have F3 := F2.next b3
  have B3 := Below.next B2 b3
  clear c30 c31 c40 c41 c50 c51 c60 c61 f60 f61
  clear F2 b3
  obtain ⟨c30, c31, c40, c41, c50, c51, c60, c61, f60, f61⟩ := F3.cells
  have g6 := boxM_set F3.x6 0 (.slice none 0 0)
  have g60 := g6.c0
  have g61 := g6.c1
  have l6 := F3.x6.lt
  go_wp2_with (fail)
  refine bodyPost_ret (v := .tuple #[.agg #[.int .i64 0, .slice none 0 0], .slice none 0 0, .int .i64 2]) (by simp [results, Try.results47, go_sem, g60, g61]) rfl ?_
  exact ⟨none, 0, .slice none 0 0, rfl, World.ownsRow_nil _ _ _ _, Nat.le_refl _, World.ownsRow_nil _ _ _ _, (B3.setCell (p := ⟨w.heap.size + 1 + 1 + 1, 0, none⟩) (show w.heap.size ≤ w.heap.size + 1 + 1 + 1 by omega) _).setCell (p := ⟨w.heap.size + 1 + 1 + 1, 1, none⟩) (show w.heap.size ≤ w.heap.size + 1 + 1 + 1 by omega) _⟩
theorem tfold_ge : ∀ (T : List (Rn × Pr)) (s : List Rn × List Ch), s.1.length ≤ (T.foldl tstep s).1.length ∧ s.2.length ≤ (T.foldl tstep s).2.length := by
  intro T
  induction T with
  | nil => intro s; exact ⟨Nat.le_refl _, Nat.le_refl _⟩
  | cons t T ih =>
    intro s
    have h1 := ih (tstep s t)
    have h2 := mstep_ge t.2 s t.1
    simp only [List.foldl_cons]
    unfold tstep at h1 ⊢
    omega
theorem tfold_snoc (T : List (Rn × Pr)) (t : Rn × Pr) (s : List Rn × List Ch) : (T ++ [t]).foldl tstep s = mstep t.2 (T.foldl tstep s) t.1 := by simp [tstep]
set_option maxRecDepth 100000 in
set_option maxHeartbeats 4000000 in
theorem rmerge_f (w : World) (x : Int) (P0 P Q : Option Addr) (m0 c0 m c n d : Nat) (hm0 : (m0 : Int) ≤ 4096) (hm : (m : Int) ≤ 4096) (hn : (n : Int) ≤ 4096) (O A B : List (Int × Int)) (gO : Good O) (gA : Good A) (gB : Good B) (tO : Tr.total O = x) (tA : Tr.total A = x) (tB : Tr.total B = x)
    (RO : Runs w P0 (lay 0 O)) (RA : Runs w P (lay 0 A)) (RB : Runs w Q (lay 0 B)) (lO : O.length = m0) (lA : A.length = m) (lB : B.length = n) (hc0 : m0 ≤ c0) (hc : m ≤ c) (hd : n ≤ d) :
    Calls Try.prog 47 #[.agg #[.int .i64 x, .slice P0 m0 c0], .agg #[.int .i64 x, .slice P m c], .agg #[.int .i64 x, .slice Q n d]] w (RMergePost w (if 4096 < ((mergeL O (zipL A B)).1.length : Int) then (5, [], []) else (0, segs (mergeL O (zipL A B)).1, (mergeL O (zipL A B)).2))) := by
  have h : 0 < m0 := by rw [← lO]; exact List.length_pos_iff.2 gO.1
  have h2 : 0 < m := by rw [← lA]; exact List.length_pos_iff.2 gA.1
  have h3 : 0 < n := by rw [← lB]; exact List.length_pos_iff.2 gB.1
  have x0 : 0 ≤ x := by rw [← tA]; exact total_nonneg gA.2.1
  have t1 : (x != x) = false := by simp
  have hcnt := mergeL_count (Z2 := []) gO.2.1 gA.2.1 gB.2.1 (tA.trans rfl) (tB.trans rfl) gO.2.2.2.2 gA.2.2.2.2 gB.2.2.2.2 (by rw [List.append_nil])
  have hpc := mergeL_pieces gO.2.1 gA.2.1 gB.2.1 tO tA tB
  have hck := tok gO.2.1 gA.2.1 gB.2.1 tO tA tB (zipL A B) 0 (Int.le_refl _) (zipL_ok gA.2.1 gB.2.1 tA tB)
  have hfl : mergeL O (zipL A B) = (flat O (zipL A B)).foldl tstep ([], []) := mergeL_flat O (zipL A B) ([], [])
  obtain ⟨T, hT⟩ : ∃ T, flat O (zipL A B) = T := ⟨_, rfl⟩
  rw [hT] at hck hfl
  rw [hfl] at hcnt hpc ⊢
  have hlay : lay 0 (segs (T.foldl tstep ([], [])).1) = (T.foldl tstep ([], [])).1 := chain_lay hpc.1
  have htot : Tr.total (segs (T.foldl tstep ([], [])).1) = x := by have := hpc.1.total; omega
  obtain ⟨rr, hrr⟩ : ∃ rr : Int × List (Int × Int) × List Ch, (if 4096 < (((T.foldl tstep ([], [])).1.length : Nat) : Int) then (5, [], []) else (0, segs (T.foldl tstep ([], [])).1, (T.foldl tstep ([], [])).2)) = rr := ⟨_, rfl⟩
  rw [hrr]
  have HRR := Lib.hid hrr
  clear hrr
  have HCN := Lib.hid hcnt
  have HLAY := Lib.hid hlay
  have HTOT := Lib.hid htot
  have HCK := Lib.hid hck
  clear hcnt hpc hck hfl hT hlay htot
  have hnx0 : ∀ at_, 0 ≤ at_ → at_ < x → ∀ W, Below w.heap.size w W → Calls Try.prog 75 #[.agg #[.int .i64 x, .slice P0 m0 c0], .int .i64 at_] W fun e w' => e = .returned (.int .i64 (endL O at_)) ∧ Below W.heap.size W w' := fun at_ h0 h1 W hW => rnext_any W x P0 m0 c0 at_ O gO (RO.below hW) lO hc0 h0 (by omega)
  have hgt0 : ∀ at_, 0 ≤ at_ → at_ < x → ∀ W, Below w.heap.size w W → Calls Try.prog 38 #[.agg #[.int .i64 x, .slice P0 m0 c0], .int .i64 at_] W fun e w' => e = .returned (.tuple #[.int .i64 (atL O at_), .int .i64 0]) ∧ Below W.heap.size W w' := fun at_ h0 h1 W hW => by
    have := rget_any W P0 c0 at_ O (.inr gO) (RO.below hW) (by omega)
    rw [tO, lO, show getR O at_ = (atL O at_, 0) from by unfold getR; rw [if_neg gO.1, if_neg (by omega)]] at this
    exact this
  have HNX0 := Lib.hid hnx0
  have HGT0 := Lib.hid hgt0
  clear hnx0 hgt0
  have hnx1 : ∀ at_, 0 ≤ at_ → at_ < x → ∀ W, Below w.heap.size w W → Calls Try.prog 75 #[.agg #[.int .i64 x, .slice P m c], .int .i64 at_] W fun e w' => e = .returned (.int .i64 (endL A at_)) ∧ Below W.heap.size W w' := fun at_ h0 h1 W hW => rnext_any W x P m c at_ A gA (RA.below hW) lA hc h0 (by omega)
  have hgt1 : ∀ at_, 0 ≤ at_ → at_ < x → ∀ W, Below w.heap.size w W → Calls Try.prog 38 #[.agg #[.int .i64 x, .slice P m c], .int .i64 at_] W fun e w' => e = .returned (.tuple #[.int .i64 (atL A at_), .int .i64 0]) ∧ Below W.heap.size W w' := fun at_ h0 h1 W hW => by
    have := rget_any W P c at_ A (.inr gA) (RA.below hW) (by omega)
    rw [tA, lA, show getR A at_ = (atL A at_, 0) from by unfold getR; rw [if_neg gA.1, if_neg (by omega)]] at this
    exact this
  have HNX1 := Lib.hid hnx1
  have HGT1 := Lib.hid hgt1
  clear hnx1 hgt1
  have hnx2 : ∀ at_, 0 ≤ at_ → at_ < x → ∀ W, Below w.heap.size w W → Calls Try.prog 75 #[.agg #[.int .i64 x, .slice Q n d], .int .i64 at_] W fun e w' => e = .returned (.int .i64 (endL B at_)) ∧ Below W.heap.size W w' := fun at_ h0 h1 W hW => rnext_any W x Q n d at_ B gB (RB.below hW) lB hd h0 (by omega)
  have hgt2 : ∀ at_, 0 ≤ at_ → at_ < x → ∀ W, Below w.heap.size w W → Calls Try.prog 38 #[.agg #[.int .i64 x, .slice Q n d], .int .i64 at_] W fun e w' => e = .returned (.tuple #[.int .i64 (atL B at_), .int .i64 0]) ∧ Below W.heap.size W w' := fun at_ h0 h1 W hW => by
    have := rget_any W Q d at_ B (.inr gB) (RB.below hW) (by omega)
    rw [tB, lB, show getR B at_ = (atL B at_, 0) from by unfold getR; rw [if_neg gB.1, if_neg (by omega)]] at this
    exact this
  have HNX2 := Lib.hid hnx2
  have HGT2 := Lib.hid hgt2
  clear hnx2 hgt2
  have OO := Lib.hid gO.2.1
  have OA := Lib.hid gA.2.1
  have OB := Lib.hid gB.2.1
  clear gO gA gB tO tA tB RO RA RB lO lA lB
  obtain ⟨wa, hwa⟩ : ∃ wa, (((w.alloc (.cells #[.int .i64 x, .slice P0 m0 c0] 31)).alloc (.cells #[.int .i64 x, .slice P m c] 31)).alloc (.cells #[.int .i64 x, .slice Q n d] 31)).alloc (.cells #[.int .i64 0, .slice none 0 0] 31) = wa := ⟨_, rfl⟩
  have hBa : Below w.heap.size w wa := hwa ▸ Below.next (Below.next (Below.alloc2 w _ _) (Below.alloc1 _ _)) (Below.alloc1 _ _)
  have x3 : BoxM wa w.heap.size x (.slice P0 m0 c0) := hwa ▸ (((BoxM.new w x (.slice P0 m0 c0)).next (Below.alloc1 _ _)).next (Below.alloc1 _ _)).next (Below.alloc1 _ _)
  have x4 : BoxM wa (w.heap.size + 1) x (.slice P m c) := by
    have t := ((BoxM.new (w.alloc (.cells #[.int .i64 x, .slice P0 m0 c0] 31)) x (.slice P m c)).next (Below.alloc1 _ (.cells #[.int .i64 x, .slice Q n d] 31))).next (Below.alloc1 _ (.cells #[.int .i64 0, .slice none 0 0] 31))
    rw [World.size_alloc] at t; exact hwa ▸ t
  have x5 : BoxM wa (w.heap.size + 1 + 1) x (.slice Q n d) := by
    have t := (BoxM.new ((w.alloc (.cells #[.int .i64 x, .slice P0 m0 c0] 31)).alloc (.cells #[.int .i64 x, .slice P m c] 31)) x (.slice Q n d)).next (Below.alloc1 _ (.cells #[.int .i64 0, .slice none 0 0] 31))
    rw [World.size_alloc, World.size_alloc] at t; exact hwa ▸ t
  have x6 : BoxM wa (w.heap.size + 1 + 1 + 1) 0 (.slice none 0 0) := by
    have t := BoxM.new (((w.alloc (.cells #[.int .i64 x, .slice P0 m0 c0] 31)).alloc (.cells #[.int .i64 x, .slice P m c] 31)).alloc (.cells #[.int .i64 x, .slice Q n d] 31)) 0 (.slice none 0 0)
    rw [World.size_alloc, World.size_alloc, World.size_alloc] at t; exact hwa ▸ t
  have HWA := Lib.hid hwa
  clear hwa
  have F0 : MQ wa w.heap.size x x x (.slice P0 m0 c0) (.slice P m c) (.slice Q n d) := ⟨x3, x4, x5, x6⟩
  clear x3 x4 x5 x6
  have hu0 : ∀ W, Calls Try.prog 55 #[.agg #[.int .i64 x, .slice P0 m0 c0]] W fun e w' => e = .returned (.bool true) ∧ Below W.heap.size W w' := fun W => by
    have := usable_any x P0 m0 c0 W (by omega)
    rw [show decide (0 < m0) = true from by simp; omega] at this
    exact this
  have HU0 := Lib.hid hu0
  clear hu0
  have hu1 : ∀ W, Calls Try.prog 55 #[.agg #[.int .i64 x, .slice P m c]] W fun e w' => e = .returned (.bool true) ∧ Below W.heap.size W w' := fun W => by
    have := usable_any x P m c W (by omega)
    rw [show decide (0 < m) = true from by simp; omega] at this
    exact this
  have HU1 := Lib.hid hu1
  clear hu1
  have hu2 : ∀ W, Calls Try.prog 55 #[.agg #[.int .i64 x, .slice Q n d]] W fun e w' => e = .returned (.bool true) ∧ Below W.heap.size W w' := fun W => by
    have := usable_any x Q n d W (by omega)
    rw [show decide (0 < n) = true from by simp; omega] at this
    exact this
  have HU2 := Lib.hid hu2
  clear hu2
  obtain ⟨c30, c31, c40, c41, c50, c51, c60, c61, f60, f61⟩ := F0.cells
  go_enter Try.func47, Try.ntmps47
  go_upto_region 1 with (fail)
  rw [HWA.out]
  go_wp2_with (fail)
  go_at_call 55
  refine (HU0.out _).mono ?_
  rintro e w1 ⟨rfl, b1⟩
  have F1 := F0.next b1
  have B1 := Below.next hBa b1
  clear c30 c31 c40 c41 c50 c51 c60 c61 f60 f61
  clear F0 b1
  obtain ⟨c30, c31, c40, c41, c50, c51, c60, c61, f60, f61⟩ := F1.cells
  go_wp2_with (fail)
  go_at_call 55
  refine (HU1.out _).mono ?_
  rintro e w2 ⟨rfl, b2⟩
  have F2 := F1.next b2
  have B2 := Below.next B1 b2
  clear c30 c31 c40 c41 c50 c51 c60 c61 f60 f61
  clear F1 b2
  obtain ⟨c30, c31, c40, c41, c50, c51, c60, c61, f60, f61⟩ := F2.cells
  go_wp2_with (fail)
  go_at_call 55
  refine (HU2.out _).mono ?_
  rintro e w3 ⟨rfl, b3⟩
  have F3 := F2.next b3
  have B3 := Below.next B2 b3
  clear c30 c31 c40 c41 c50 c51 c60 c61 f60 f61
  clear F2 b3
  obtain ⟨c30, c31, c40, c41, c50, c51, c60, c61, f60, f61⟩ := F3.cells
  go_wp2_with (fail)
  have s3 := B3.size
  have q3 : w.heap.size + 1 + 1 + 1 < w3.heap.size := F3.x6.lt
  clear c30 c31 c40 c41 c50 c51 c60 c61 f60 f61
  go_loopw [9, 10, 11] (fun u v a W => ∃ (T1 T2 : List (Rn × Pr)) (at_ : Int), a = .int .i64 at_ ∧ 0 ≤ at_ ∧ at_ ≤ x ∧ Hid (T = T1 ++ T2) ∧ Hid (TOk O A B x at_ T2) ∧ Hid (OwnRuns W w3.heap.size u (T1.foldl tstep ([], [])).1) ∧ Hid (OwnChs W w3.heap.size v (T1.foldl tstep ([], [])).2) ∧ Hid (MQ W w.heap.size x x x (.slice P0 m0 c0) (.slice P m c) (.slice Q n d)) ∧ w3.heap.size ≤ W.heap.size ∧ Below w.heap.size w W) (fun _ _ a _ => (x - intOf a).toNat)
  case atStart => exact ⟨[], T, 0, rfl, Int.le_refl _, x0, Lib.hid rfl, HCK, World.ownsRow_nil _ _ _ _, World.ownsRow_nil _ _ _ _, F3, Nat.le_refl _, B3⟩
  case round =>
    obtain ⟨T1, T2, at_, rfl, a0, a1, hT, hOk, hOR, hOC, hF, hsz, hBw⟩ := hrel
    obtain ⟨I, cI, rfl⟩ := hOR.out.sliced
    obtain ⟨J, cJ, rfl⟩ := hOC.out.sliced
    clear F3 B3
    cases T2 with
    | nil =>
      have e : at_ = x := hOk.out
      subst e
      have eT : T1 = T := by rw [hT.out, List.append_nil]
      subst eT
      clear hT hOk a0 a1
      generalize List.foldl tstep ([], []) T1 = S at *
      obtain ⟨nr, hnr⟩ : ∃ nr, S.1.length = nr := ⟨_, rfl⟩
      have HNR := Lib.hid hnr
      rw [hnr]
      have hcI : nr ≤ cI := by
        obtain ⟨A', c', e1, e2, _⟩ := hOR.out.runs
        simp only [Value.slice.injEq] at e1
        obtain ⟨_, _, rfl⟩ := e1
        omega
      have HCI := Lib.hid hcI
      clear hnr hcI
      obtain ⟨c30, c31, c40, c41, c50, c51, c60, c61, f60, f61⟩ := hF.out.cells
      have hr := HRR.out
      rw [HNR.out] at hr
      by_cases hf : 4096 < (nr : Int)
      · rw [if_pos hf] at hr
        have HR := Lib.hid hr
        have HFN := Lib.hid (full_no at_ P0 m0 c0 I nr cI wr hf)
        clear hf hr
        go_wp2_with (fail)
        go_at_call 77
        refine HFN.out.mono ?_
        rintro e w5 ⟨rfl, b5⟩
        clear c30 c31 c40 c41 c50 c51 c60 c61 f60 f61
        go_upto_region 24 with (fail)
        generalize hw6 : World.alloc w5 _ = w6
        have d6 : Below w5.heap.size w5 w6 := hw6 ▸ Below.alloc1 w5 _
        have F6 := (hF.out.next b5).next d6
        have B6 := Below.next (Below.next hBw b5) d6
        clear hw6
        obtain ⟨c30, c31, c40, c41, c50, c51, c60, c61, f60, f61⟩ := F6.cells
        have g6 := boxM_set F6.x6 0 (.slice none 0 0)
        have g60 := g6.c0
        have g61 := g6.c1
        have l6 := F6.x6.lt
        go_wp2_with (fail)
        refine bodyPost_ret (v := .tuple #[.agg #[.int .i64 0, .slice none 0 0], .slice none 0 0, .int .i64 5]) (by simp [results, Try.results47, go_sem, g60, g61]) rfl ?_
        rw [← HR.out]
        exact ⟨none, 0, .slice none 0 0, rfl, World.ownsRow_nil _ _ _ _, Nat.le_refl _, World.ownsRow_nil _ _ _ _, (B6.setCell (p := ⟨w.heap.size + 1 + 1 + 1, 0, none⟩) (show w.heap.size ≤ w.heap.size + 1 + 1 + 1 by omega) _).setCell (p := ⟨w.heap.size + 1 + 1 + 1, 1, none⟩) (show w.heap.size ≤ w.heap.size + 1 + 1 + 1 by omega) _⟩
      · rw [if_neg hf] at hr
        have HR := Lib.hid hr
        have HFN := Lib.hid (full_yes at_ P0 m0 c0 I nr cI wr hf)
        clear hf hr
        go_wp2_with (fail)
        go_at_call 77
        refine HFN.out.mono ?_
        rintro e w5 ⟨rfl, b5⟩
        clear c30 c31 c40 c41 c50 c51 c60 c61 f60 f61
        go_upto_region 24 with (fail)
        generalize hw6 : World.alloc w5 _ = w6
        have d6 : Below w5.heap.size w5 w6 := hw6 ▸ Below.alloc1 w5 _
        have x20 : BoxM w6 w5.heap.size at_ (.slice I nr cI) := hw6 ▸ BoxM.new w5 _ _
        have F6 := (hF.out.next b5).next d6
        have B6 := Below.next (Below.next hBw b5) d6
        have R6 := Lib.hid ((hOR.out.next b5).next d6)
        have C6 := Lib.hid ((hOC.out.next b5).next d6)
        clear hw6
        obtain ⟨c30, c31, c40, c41, c50, c51, c60, c61, f60, f61⟩ := F6.cells
        have g6 := boxM_set F6.x6 at_ (.slice I nr cI)
        have g60 := g6.c0
        have g61 := g6.c1
        have l6 := F6.x6.lt
        have k20 := x20.c0
        have k21 := x20.c1
        go_wp2_with (fail)
        refine bodyPost_ret (v := .tuple #[.agg #[.int .i64 at_, .slice I nr cI], .slice J S.2.length cJ, .int .i64 0]) (by simp [results, Try.results47, go_sem, g60, g61]) rfl ?_
        rw [← HR.out]
        have e2 : (segs S.1).length = nr := by rw [segs_length, HNR.out]
        have R7 := (R6.out.set (p := ⟨w.heap.size + 1 + 1 + 1, 0, none⟩) q3 (.int .i64 at_)).set (p := ⟨w.heap.size + 1 + 1 + 1, 1, none⟩) q3 (.slice I nr cI)
        have C7 := (C6.out.set (p := ⟨w.heap.size + 1 + 1 + 1, 0, none⟩) q3 (.int .i64 at_)).set (p := ⟨w.heap.size + 1 + 1 + 1, 1, none⟩) q3 (.slice I nr cI)
        rw [HNR.out] at R7
        refine ⟨I, cI, .slice J S.2.length cJ, ?_, ?_, ?_, C7.mono s3, (B6.setCell (p := ⟨w.heap.size + 1 + 1 + 1, 0, none⟩) (show w.heap.size ≤ w.heap.size + 1 + 1 + 1 by omega) _).setCell (p := ⟨w.heap.size + 1 + 1 + 1, 1, none⟩) (show w.heap.size ≤ w.heap.size + 1 + 1 + 1 by omega) _⟩
        · dsimp only; rw [HTOT.out, e2]
        · dsimp only; rw [HLAY.out, e2]; exact R7.mono s3
        · dsimp only; rw [e2]; exact HCI.out
    | cons t T2 =>
      obtain ⟨r, z⟩ := t
      obtain ⟨e1, hlt, h3', h4', h5, h6, h7, h8, hOk2⟩ := hOk.out
      dsimp only at e1 h3' h4' h5 h6 h7 h8 hOk2
      have hn0 := HNX0.out at_ a0 hlt
      have hn1 := HNX1.out at_ a0 hlt
      have hn2 := HNX2.out at_ a0 hlt
      have hg0 := HGT0.out at_ a0 hlt
      have hg1 := HGT1.out at_ a0 hlt
      have hg2 := HGT2.out at_ a0 hlt
      rw [← h6] at hg0
      rw [← h7] at hg1
      rw [← h8] at hg2
      generalize endL O at_ = eO at *
      generalize endL A at_ = eA at *
      generalize endL B at_ = eB at *
      have ll := tfold_ge ((r, z) :: T2) (T1.foldl tstep ([], []))
      rw [← List.foldl_append, ← hT.out] at ll
      have lc := HCN.out
      have l1 : (T1.foldl tstep ([], [])).1.length ≤ 20000 := by omega
      have l2 : (T1.foldl tstep ([], [])).2.length ≤ 20000 := by omega
      have HMS := Lib.hid (mstep_ref z.a z.b r.tag at_ r.hi z r (T1.foldl tstep ([], [])) rfl rfl rfl e1 rfl h3')
      have HSN : Hid ((T1 ++ [(r, z)]).foldl tstep ([], []) = mstep z (T1.foldl tstep ([], [])) r) := tfold_snoc T1 (r, z) ([], [])
      have N0 := Lib.hid hn0
      have N1 := Lib.hid hn1
      have N2 := Lib.hid hn2
      have G0 := Lib.hid hg0
      have G1 := Lib.hid hg1
      have G2 := Lib.hid hg2
      have E5 := Lib.hid h5
      have HK2 := Lib.hid hOk2
      generalize List.foldl tstep ([], []) T1 = S at *
      clear hn0 hn1 hn2 hg0 hg1 hg2 h5 h6 h7 h8 hOk2 hOk e1 ll lc
      have tk1 : True := trivial
      have tk2 : True := trivial
      have F3 := hF.out
      obtain ⟨c30, c31, c40, c41, c50, c51, c60, c61, f60, f61⟩ := F3.cells
      go_upto_region 9 with (fail)
      go_cut [12] from 49 to 110 (fun tv W => tv = .int .i64 r.hi ∧ Below wr.heap.size wr W)
      case first =>
        go_region_held3 (fun W => W.cell? ⟨w.heap.size, 0, none⟩ = some (.int .i64 x) ∧ W.cell? ⟨w.heap.size, 1, none⟩ = some (.slice P0 m0 c0) ∧ W.cell? ⟨w.heap.size + 1, 0, none⟩ = some (.int .i64 x) ∧ W.cell? ⟨w.heap.size + 1, 1, none⟩ = some (.slice P m c) ∧ W.cell? ⟨w.heap.size + 1 + 1, 0, none⟩ = some (.int .i64 x) ∧ W.cell? ⟨w.heap.size + 1 + 1, 1, none⟩ = some (.slice Q n d))
          (first | (exact F3.six) | (exact F4.six) | (exact F5.six) | (exact F6.six))
          ((first
            | (go_at_call 75; have _t := tk1; clear tk1; refine (N0.out _ (by exact hBw.drew)).mono ?_; rintro e w4 ⟨rfl, b4'⟩; have b4 : Below wr.heap.size wr w4 := Below.of_drew b4'; have F4 := F3.next b4; have B4 := Below.next hBw b4)
            | (go_at_call 75; have _t := tk2; clear tk2; refine (N1.out _ B4).mono ?_; rintro e w5 ⟨rfl, b5⟩; have F5 := F4.next b5; have B5 := Below.next B4 b5; have b45 := Below.next b4 b5)
            | (go_at_call 75; refine (N2.out _ B5).mono ?_; rintro e w6 ⟨rfl, b6⟩; have F6 := F5.next b6; have b46 := Below.next b45 b6)))
        all_goals go_wp2_with (fail)
        all_goals
          go_meet
          have e5 := E5.out
          exact ⟨by congr 1; omega, b46⟩
      case rest =>
        obtain ⟨rfl, bC⟩ := hcut
        have FC := F3.next bC
        have sC : w3.heap.size ≤ wc.heap.size := Nat.le_trans hsz bC.size
        have BC := Below.next hBw bC
        have RC := Lib.hid (hOR.out.next bC)
        have CC := Lib.hid (hOC.out.next bC)
        clear F3 hF bC hBw hsz hOR hOC N0 N1 N2 c30 c31 c40 c41 c50 c51 c60 c61 f60 f61
        obtain ⟨c30, c31, c40, c41, c50, c51, c60, c61, f60, f61⟩ := FC.cells
        go_wp2_with (fail)
        go_at_call 38
        refine (G0.out _ BC).mono ?_
        rintro e w4 ⟨rfl, bb⟩
        have F4 := FC.next bb
        have s4 : w3.heap.size ≤ w4.heap.size := Nat.le_trans sC bb.size
        have B4 := Below.next BC bb
        have R4 := Lib.hid (RC.out.next bb)
        have C4 := Lib.hid (CC.out.next bb)
        clear bb FC BC sC RC CC c30 c31 c40 c41 c50 c51 c60 c61 f60 f61
        obtain ⟨c30, c31, c40, c41, c50, c51, c60, c61, f60, f61⟩ := F4.cells
        go_wp2_with (fail)
        go_at_call 38
        refine (G1.out _ B4).mono ?_
        rintro e w5 ⟨rfl, bb⟩
        have F5 := F4.next bb
        have s5 : w3.heap.size ≤ w5.heap.size := Nat.le_trans s4 bb.size
        have B5 := Below.next B4 bb
        have R5 := Lib.hid (R4.out.next bb)
        have C5 := Lib.hid (C4.out.next bb)
        clear bb F4 B4 s4 R4 C4 c30 c31 c40 c41 c50 c51 c60 c61 f60 f61
        obtain ⟨c30, c31, c40, c41, c50, c51, c60, c61, f60, f61⟩ := F5.cells
        go_wp2_with (fail)
        go_at_call 38
        refine (G2.out _ B5).mono ?_
        rintro e w6 ⟨rfl, bb⟩
        have F6 := F5.next bb
        have s6 : w3.heap.size ≤ w6.heap.size := Nat.le_trans s5 bb.size
        have B6 := Below.next B5 bb
        have R6 := Lib.hid (R5.out.next bb)
        have C6 := Lib.hid (C5.out.next bb)
        clear bb F5 B5 s5 R5 C5 c30 c31 c40 c41 c50 c51 c60 c61 f60 f61
        obtain ⟨c30, c31, c40, c41, c50, c51, c60, c61, f60, f61⟩ := F6.cells
        go_upto_block 2 with (fail)
        go_cut [10, 19] from 49 to 110 (fun v t W => ∃ (tg : Int) (C' : List Ch) (J' : Option Addr) (cJ' : Nat), v = .slice J' C'.length cJ' ∧ t = .int .i64 tg ∧ Hid (mstep z S r = (joinRn S.1 ⟨at_, r.hi, tg⟩, C')) ∧ Hid (OwnChs W w3.heap.size (.slice J' C'.length cJ') C') ∧ Hid (OwnRuns W w3.heap.size (.slice I S.1.length cI) S.1) ∧ MQ W w.heap.size x x x (.slice P0 m0 c0) (.slice P m c) (.slice Q n d) ∧ w3.heap.size ≤ W.heap.size ∧ Below w.heap.size w W)
        case first =>
          have CL : True := trivial
          by_cases hab : z.a = z.b
          · have t2 : (z.a == z.b) = true := by simpa using hab
            have HM2 : Hid (mstep z S r = (joinRn S.1 ⟨at_, r.hi, z.a⟩, S.2)) := by show _ = _; rw [HMS.out]; rw [if_pos hab]
            clear CL
            go_wp2_with (fail)
            go_meet
            exact ⟨z.a, S.2, J, cJ, rfl, rfl, HM2, C6, R6, F6, s6, B6⟩
          · have t2 : (z.a == z.b) = false := by simpa using hab
            by_cases hax : z.a = r.tag
            · have t3 : (z.a == r.tag) = true := by simpa using hax
              have HM2 : Hid (mstep z S r = (joinRn S.1 ⟨at_, r.hi, z.b⟩, S.2)) := by show _ = _; rw [HMS.out]; rw [if_neg hab, if_pos hax]
              clear CL
              go_wp2_with (fail)
              go_meet
              exact ⟨z.b, S.2, J, cJ, rfl, rfl, HM2, C6, R6, F6, s6, B6⟩
            · have t3 : (z.a == r.tag) = false := by simpa using hax
              by_cases hbx : z.b = r.tag
              · have t4 : (z.b == r.tag) = true := by simpa using hbx
                have HM2 : Hid (mstep z S r = (joinRn S.1 ⟨at_, r.hi, z.a⟩, S.2)) := by show _ = _; rw [HMS.out]; rw [if_neg hab, if_neg hax, if_pos hbx]
                clear CL
                go_wp2_with (fail)
                go_meet
                exact ⟨z.a, S.2, J, cJ, rfl, rfl, HM2, C6, R6, F6, s6, B6⟩
              · have t4 : (z.b == r.tag) = false := by simpa using hbx
                have HM2 : Hid (mstep z S r = (joinRn S.1 ⟨at_, r.hi, r.tag⟩, noteL S.2 ⟨at_, r.hi, z.a, z.b⟩)) := by show _ = _; rw [HMS.out]; rw [if_neg hab, if_neg hax, if_neg hbx]
                have HLK := Lib.hid (rlink_any w6 w3.heap.size (.slice J S.2.length cJ) S.2 ⟨at_, r.hi, z.a, z.b⟩ C6.out s6 (by omega))
                clear CL
                go_wp2_with (fail)
                go_at_call 76
                refine HLK.out.mono ?_
                rintro e w7 ⟨v', rfl, O7', hg7, -⟩
                have b7 : Below w3.heap.size w6 w7 := ⟨hg7.os, hg7.tape, hg7.output, hg7.size, fun k hk => hg7.block k (by omega) (fun e => by have := C6.out.row_ge k e.symm; omega)⟩
                have F7 := F6.low b7 q3
                have s7 : w3.heap.size ≤ w7.heap.size := Nat.le_trans s6 hg7.size
                have B7 := B6.trans (b7.mono s3)
                have R7 := Lib.hid (R6.out.kept_by fun k e => hg7.block k (R6.out.row_ge k e).2 (fun e' => rows_apart C6.out R6.out e'.symm e))
                have C7 := Lib.hid O7'
                obtain ⟨J', cJ', rfl⟩ := O7'.sliced
                clear O7' b7 hg7 F6 B6 R6 C6 s6
                go_wp2_with (fail)
                go_meet
                exact ⟨r.tag, _, J', cJ', rfl, rfl, HM2, C7, R7, F7, s7, B7⟩
        case rest =>
          obtain ⟨tg, C', J', cJ', rfl, rfl, HM2, C7, R7, F7, s7, B7⟩ := hcut
          clear F6 B6 s6 R6 C6 c30 c31 c40 c41 c50 c51 c60 c61 f60 f61
          have HM3 : Hid ((T1 ++ [(r, z)]).foldl tstep ([], []) = (joinRn S.1 ⟨at_, r.hi, tg⟩, C')) := by show _ = _; rw [HSN.out, HM2.out]
          have HJN := Lib.hid (rjoin_any wc w3.heap.size (.slice I S.1.length cI) S.1 ⟨at_, r.hi, tg⟩ R7.out s7 (by omega))
          clear HM2 HSN HMS
          go_wp2_with (fail)
          go_at_call 72
          refine HJN.out.mono ?_
          rintro e w8 ⟨v8, rfl, O8', hg8, -⟩
          have b8 : Below w3.heap.size wc w8 := ⟨hg8.os, hg8.tape, hg8.output, hg8.size, fun k hk => hg8.block k (by omega) (fun e => by have := (R7.out.row_ge k e.symm).1; omega)⟩
          have F8 := F7.low b8 q3
          have s8 : w3.heap.size ≤ w8.heap.size := Nat.le_trans s7 hg8.size
          have B8 := B7.trans (b8.mono s3)
          have C8 := Lib.hid (C7.out.kept_by fun k e => hg8.block k (C7.out.row e).2.1 (fun e' => rows_apart C7.out R7.out e e'.symm))
          have R8 := Lib.hid O8'
          obtain ⟨I', cI', rfl⟩ := O8'.sliced
          clear O8' b8 hg8
          go_wp2_with (fail)
          go_roundw
          case rel =>
            have hrel' : ∃ (T1' T2' : List (Rn × Pr)) (at' : Int), Value.int IntKind.i64 r.hi = .int .i64 at' ∧ 0 ≤ at' ∧ at' ≤ x ∧ Hid (T = T1' ++ T2') ∧ Hid (TOk O A B x at' T2') ∧ Hid (OwnRuns w8 w3.heap.size (.slice I' (joinRn S.1 ⟨at_, r.hi, tg⟩).length cI') (T1'.foldl tstep ([], [])).1) ∧ Hid (OwnChs w8 w3.heap.size (.slice J' C'.length cJ') (T1'.foldl tstep ([], [])).2) ∧ Hid (MQ w8 w.heap.size x x x (.slice P0 m0 c0) (.slice P m c) (.slice Q n d)) ∧ w3.heap.size ≤ w8.heap.size ∧ Below w.heap.size w w8 :=
              ⟨T1 ++ [(r, z)], T2, r.hi, rfl, by omega, h4', Lib.hid (by rw [hT.out]; simp), HK2, by rw [HM3.out]; exact R8, by rw [HM3.out]; exact C8, F8, s8, B8⟩
            first
              | exact hrel'
              | ((repeat apply Exists.intro); exact ⟨hrel', rfl⟩)
          case measure => simp [intOf]; omega
/-- Merge of the reference, whatever its arguments. -/
theorem rmerge_any (w : World) (P0 P Q : Option Addr) (O A B : List (Int × Int)) (c0 c d : Nat) (gO : O = [] ∨ Good O) (gA : A = [] ∨ Good A) (gB : B = [] ∨ Good B) (RO : Runs w P0 (lay 0 O)) (RA : Runs w P (lay 0 A)) (RB : Runs w Q (lay 0 B)) (hc0 : O.length ≤ c0) (hc : A.length ≤ c) (hd : B.length ≤ d) :
    Calls Try.prog 47 #[.agg #[.int .i64 (Tr.total O), .slice P0 O.length c0], .agg #[.int .i64 (Tr.total A), .slice P A.length c], .agg #[.int .i64 (Tr.total B), .slice Q B.length d]] w (RMergePost w (mergeR O A B)) := by
  have len : ∀ {L : List (Int × Int)}, L = [] ∨ Good L → (L.length : Int) ≤ 4096 := fun {L} h => by
    rcases h with rfl | g
    · simp
    · exact g.2.2.2.2
  have lO := len gO
  have lA := len gA
  have lB := len gB
  unfold mergeR
  by_cases hO : O = []
  · rw [if_pos (.inl hO)]
    exact rmerge_a w _ _ _ P0 P Q _ c0 _ c _ d lO lA lB (by rw [hO]; rfl)
  have pO : 0 < O.length := List.length_pos_iff.2 hO
  by_cases hA : A = []
  · rw [if_pos (.inr (.inl hA))]
    exact rmerge_b w _ _ _ P0 P Q _ c0 _ c _ d lO lA lB pO (by rw [hA]; rfl)
  have pA : 0 < A.length := List.length_pos_iff.2 hA
  by_cases hB : B = []
  · rw [if_pos (.inr (.inr hB))]
    exact rmerge_c w _ _ _ P0 P Q _ c0 _ c _ d lO lA lB pO pA (by rw [hB]; rfl)
  have pB : 0 < B.length := List.length_pos_iff.2 hB
  rw [if_neg (by simp [hO, hA, hB])]
  by_cases h1 : Tr.total A = Tr.total O
  · by_cases h2 : Tr.total B = Tr.total O
    · rw [if_neg (by simp [h1, h2])]
      rw [h1, h2]
      exact rmerge_f w _ P0 P Q _ c0 _ c _ d lO lA lB O A B (gO.resolve_left hO) (gA.resolve_left hA) (gB.resolve_left hB) rfl h1 h2 RO RA RB rfl rfl rfl hc0 hc hd
    · rw [if_pos (.inr h2)]
      exact rmerge_e w _ _ _ P0 P Q _ c0 _ c _ d lO lA lB pO pA pB h1.symm (fun e => h2 e.symm)
  · rw [if_pos (.inl h1)]
    exact rmerge_d w _ _ _ P0 P Q _ c0 _ c _ d lO lA lB pO pA pB (fun e => h1 e.symm)
end Go.Proofs.Ytfmplibjhohpgaa
