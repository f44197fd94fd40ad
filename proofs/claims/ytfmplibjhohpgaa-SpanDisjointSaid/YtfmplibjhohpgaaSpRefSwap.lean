/- The walks over valid, full and Swap of the reference. -/
import Derived.Test.YtfmplibjhohpgaaSpRefJoin
import Derived.Test.YtfmplibjhohpgaaSpFroms
namespace Go.Proofs.Ytfmplibjhohpgaa
open Go.RowKit Go.Shelf
attribute [local go_sem ↓] run_max run_min

theorem valid_yes (s : Int) (A : Option Addr) (n c : Nat) (lo hi : Int) (w : World) (h0 : 0 ≤ lo) (h1 : lo ≤ hi) (h2 : hi ≤ s) : Calls Try.prog 71 #[.agg #[.int .i64 s, .slice A n c], .int .i64 lo, .int .i64 hi] w fun e w' => e = .returned (.bool true) ∧ Below w.heap.size w w' := by
  go_enter Try.func71, Try.ntmps71
  go_wp2_with (fail)
  go_ret
  exact ⟨rfl, Below.alloc1 _ _⟩
set_option maxHeartbeats 400000 in
theorem valid_no (s : Int) (A : Option Addr) (n c : Nat) (lo hi : Int) (w : World) (h : lo < 0 ∨ hi < lo ∨ s < hi) : Calls Try.prog 71 #[.agg #[.int .i64 s, .slice A n c], .int .i64 lo, .int .i64 hi] w fun e w' => e = .returned (.bool false) ∧ Below w.heap.size w w' := by
  by_cases h0 : 0 ≤ lo
  · by_cases h1 : lo ≤ hi
    · have h2 : ¬ hi ≤ s := by omega
      have d : decide (hi ≤ s) = false := by simpa using h2
      go_enter Try.func71, Try.ntmps71
      go_wp2_with (fail)
      go_ret
      exact ⟨rfl, Below.alloc1 _ _⟩
    · have d : decide (lo ≤ hi) = false := by simpa using h1
      go_enter Try.func71, Try.ntmps71
      go_wp2_with (fail)
      go_ret
      exact ⟨rfl, Below.alloc1 _ _⟩
  · have d : decide (0 ≤ lo) = false := by simpa using h0
    go_enter Try.func71, Try.ntmps71
    go_wp2_with (fail)
    go_ret
    exact ⟨rfl, Below.alloc1 _ _⟩
theorem BoxM.below' {n : Nat} {W W' : World} (hB : Below n W W') {b : Nat} (hb : b < n) {x : Int} {v : Value} (h : BoxM W b x v) : BoxM W' b x v := (hB.block b hb).trans h
theorem boxM_set {W : World} {b : Nat} {x : Int} {v : Value} (h : BoxM W b x v) (y : Int) (u : Value) : BoxM ((W.setCell ⟨b, 0, none⟩ (.int .i64 y)).setCell ⟨b, 1, none⟩ u) b y u := by
  unfold BoxM at h ⊢
  simp [World.setCell, Array.getElem?_modify, h]
set_option maxHeartbeats 400000 in
theorem full_no (s : Int) (A : Option Addr) (n c : Nat) (A' : Option Addr) (n' c' : Nat) (w : World) (h : 4096 < (n' : Int)) : Calls Try.prog 77 #[.agg #[.int .i64 s, .slice A n c], .slice A' n' c'] w fun e w' => e = .returned (.tuple #[.agg #[.int .i64 0, .slice none 0 0], .int .i64 5]) ∧ Below w.heap.size w w' := by
  go_enter Try.func77, Try.ntmps77
  go_wp2_with (fail)
  exact bodyPost_ret (v := .tuple #[.agg #[.int .i64 0, .slice none 0 0], .int .i64 5]) (by simp [results, Try.results77, go_sem]) rfl ⟨rfl, Below.alloc2 _ _ _⟩
set_option maxHeartbeats 400000 in
theorem full_yes (s : Int) (A : Option Addr) (n c : Nat) (A' : Option Addr) (n' c' : Nat) (w : World) (h : ¬ 4096 < (n' : Int)) : Calls Try.prog 77 #[.agg #[.int .i64 s, .slice A n c], .slice A' n' c'] w fun e w' => e = .returned (.tuple #[.agg #[.int .i64 s, .slice A' n' c'], .int .i64 0]) ∧ Below w.heap.size w w' := by
  go_enter Try.func77, Try.ntmps77
  go_wp2_with (fail)
  exact bodyPost_ret (v := .tuple #[.agg #[.int .i64 s, .slice A' n' c'], .int .i64 0]) (by simp [results, Try.results77, go_sem]) rfl ⟨rfl, Below.alloc2 _ _ _⟩
/-- A box of a run is kept by Join. -/
theorem join_keep {W w' : World} {B : Nat} {v v' : Value} {l : List Rn} (hb : B ≤ W.heap.size) (hO : OwnRuns W B v l) (hg : W.grownBy w' v.ownBlock) (hv : v'.ownBlock = v.ownBlock ∨ ∃ k, v'.ownBlock = some k ∧ W.heap.size ≤ k) {b : Nat} {p q r : Int} (hx : BoxRun W b p q r) (hne : some b ≠ v.ownBlock) :
    Below B W w' ∧ BoxRun w' b p q r ∧ some b ≠ v'.ownBlock := by
  have hl := hx.lt
  refine ⟨⟨hg.os, hg.tape, hg.output, hg.size, fun k hk => hg.block k (by omega) (fun e => by have := (hO.row_ge k e.symm).1; omega)⟩, (hg.block b hl hne).trans hx, ?_⟩
  rcases hv with e | ⟨k, e, hk⟩
  · rw [e]; exact hne
  · rw [e]; intro h; cases h; omega
/-- What Swap of the reference returns: an error, a number, and the map's runs in memory of its own. -/
def RSwapPost (w : World) (E : Int) (N : List (Int × Int)) (cnt : Int → Prop) (e : Ending) (w' : World) : Prop :=
  ∃ A c k, e = .returned (.tuple #[.agg #[.int .i64 (Tr.total N), .slice A N.length c], .int .i64 k, .int .i64 E]) ∧ cnt k ∧ OwnRuns w' w.heap.size (.slice A N.length c) (lay 0 N) ∧ N.length ≤ c ∧ Below w.heap.size w w'
set_option maxRecDepth 100000 in
set_option maxHeartbeats 4000000 in
theorem rswap_none_false (w : World) (size : Int) (A : Option Addr) (c : Nat) (lo hi from_ to : Int) (cnt : Int → Prop) (CNT0 : cnt 0) :
    Calls Try.prog 65 #[.agg #[.int .i64 size, .slice A 0 c], .int .i64 lo, .int .i64 hi, .int .i64 from_, .int .i64 to, .bool false] w (RSwapPost w 1 [] cnt) := by
  obtain ⟨wa, hwa⟩ : ∃ wa, (w.alloc (.cells #[.int .i64 size, .slice A 0 c] 31)).alloc (.cells #[.int .i64 0, .slice none 0 0] 31) = wa := ⟨_, rfl⟩
  have hBa : Below w.heap.size w wa := hwa ▸ Below.alloc2 w _ _
  have m6 : BoxM wa w.heap.size size (.slice A 0 c) := hwa ▸ (BoxM.new w _ _).next (Below.alloc1 _ _)
  have m12 : BoxM wa (w.heap.size + 1) 0 (.slice none 0 0) := by
    have := BoxM.new (w.alloc (.cells #[.int .i64 size, .slice A 0 c] 31)) 0 (.slice none 0 0)
    rw [World.size_alloc] at this; exact hwa ▸ this
  have HWA := Lib.hid hwa
  clear hwa
  have hus : ∀ W, Calls Try.prog 55 #[.agg #[.int .i64 size, .slice A 0 c]] W fun e w' => e = .returned (.bool false) ∧ Below W.heap.size W w' := fun W => by
    have := usable_any size A 0 c W (by omega)
    rw [show decide (0 < 0) = false from rfl] at this
    exact this
  have HUS := Lib.hid hus
  clear hus
  go_enter Try.func65, Try.ntmps65
  go_upto_region 1 with (fail)
  rw [HWA.out]
  have c60 := m6.c0
  have c61 := m6.c1
  go_wp2_with (fail)
  go_at_call 55
  refine (HUS.out _).mono ?_
  rintro e w1 ⟨rfl, b1⟩
  have hB1 := Below.next hBa b1
  have n6 := m6.next b1
  have n12 := m12.next b1
  clear b1 m6 m12 hBa c60 c61
  have c60 := n6.c0
  have c61 := n6.c1
  have r0 := n12.c0
  have r1 := n12.c1
  have f0 := n12.frozen 0
  have f1 := n12.frozen 1
  go_wp2_with (fail)
  exact bodyPost_ret (v := .tuple #[.agg #[.int .i64 0, .slice none 0 0], .int .i64 0, .int .i64 1]) (by simp [results, Try.results65, go_sem, (boxM_set n12 0 (.slice none 0 0)).c0, (boxM_set n12 0 (.slice none 0 0)).c1]) rfl ⟨none, 0, 0, rfl, CNT0, World.ownsRow_nil _ _ _ _, Nat.le_refl _, (hB1.setCell (p := ⟨w.heap.size + 1, 0, none⟩) (show w.heap.size ≤ w.heap.size + 1 by omega) _).setCell (p := ⟨w.heap.size + 1, 1, none⟩) (show w.heap.size ≤ w.heap.size + 1 by omega) _⟩
set_option maxRecDepth 100000 in
set_option maxHeartbeats 4000000 in
theorem rswap_range_false (w : World) (size : Int) (A : Option Addr) (n c : Nat) (lo hi from_ to : Int) (hn : (n : Int) ≤ 4096) (hz : 0 < n) (h : lo < 0 ∨ hi < lo ∨ size < hi) (cnt : Int → Prop) (CNT0 : cnt 0) :
    Calls Try.prog 65 #[.agg #[.int .i64 size, .slice A n c], .int .i64 lo, .int .i64 hi, .int .i64 from_, .int .i64 to, .bool false] w (RSwapPost w 3 [] cnt) := by
  obtain ⟨wa, hwa⟩ : ∃ wa, (w.alloc (.cells #[.int .i64 size, .slice A n c] 31)).alloc (.cells #[.int .i64 0, .slice none 0 0] 31) = wa := ⟨_, rfl⟩
  have hBa : Below w.heap.size w wa := hwa ▸ Below.alloc2 w _ _
  have m6 : BoxM wa w.heap.size size (.slice A n c) := hwa ▸ (BoxM.new w _ _).next (Below.alloc1 _ _)
  have m12 : BoxM wa (w.heap.size + 1) 0 (.slice none 0 0) := by
    have := BoxM.new (w.alloc (.cells #[.int .i64 size, .slice A n c] 31)) 0 (.slice none 0 0)
    rw [World.size_alloc] at this; exact hwa ▸ this
  have HWA := Lib.hid hwa
  clear hwa
  have hus : ∀ W, Calls Try.prog 55 #[.agg #[.int .i64 size, .slice A n c]] W fun e w' => e = .returned (.bool true) ∧ Below W.heap.size W w' := fun W => by
    have := usable_any size A n c W (by omega)
    rw [show decide (0 < n) = true from by simp; omega] at this
    exact this
  have HUS := Lib.hid hus
  clear hus
  have hva : ∀ W, Calls Try.prog 71 #[.agg #[.int .i64 size, .slice A n c], .int .i64 lo, .int .i64 hi] W fun e w' => e = .returned (.bool false) ∧ Below W.heap.size W w' := fun W => valid_no size A n c lo hi W h
  have HVA := Lib.hid hva
  clear hva
  have H := Lib.hid h
  clear h
  go_enter Try.func65, Try.ntmps65
  go_upto_region 1 with (fail)
  rw [HWA.out]
  have c60 := m6.c0
  have c61 := m6.c1
  go_wp2_with (fail)
  go_at_call 55
  refine (HUS.out _).mono ?_
  rintro e w1 ⟨rfl, b1⟩
  have hB1 := Below.next hBa b1
  have n6 := m6.next b1
  have n12 := m12.next b1
  clear b1 m6 m12 hBa c60 c61
  have c60 := n6.c0
  have c61 := n6.c1
  have r0 := n12.c0
  have r1 := n12.c1
  have f0 := n12.frozen 0
  have f1 := n12.frozen 1
  go_wp2_with (fail)
  go_at_call 71
  refine (HVA.out _).mono ?_
  rintro e w2 ⟨rfl, b2⟩
  have hB2 := Below.next hB1 b2
  have o6 := n6.next b2
  have o12 := n12.next b2
  clear b2 n6 n12 hB1 c60 c61 r0 r1 f0 f1
  have c60 := o6.c0
  have c61 := o6.c1
  have r0 := o12.c0
  have r1 := o12.c1
  have f0 := o12.frozen 0
  have f1 := o12.frozen 1
  go_wp2_with (fail)
  exact bodyPost_ret (v := .tuple #[.agg #[.int .i64 0, .slice none 0 0], .int .i64 0, .int .i64 3]) (by simp [results, Try.results65, go_sem, (boxM_set o12 0 (.slice none 0 0)).c0, (boxM_set o12 0 (.slice none 0 0)).c1]) rfl ⟨none, 0, 0, rfl, CNT0, World.ownsRow_nil _ _ _ _, Nat.le_refl _, (hB2.setCell (p := ⟨w.heap.size + 1, 0, none⟩) (show w.heap.size ≤ w.heap.size + 1 by omega) _).setCell (p := ⟨w.heap.size + 1, 1, none⟩) (show w.heap.size ≤ w.heap.size + 1 by omega) _⟩
set_option maxRecDepth 100000 in
set_option maxHeartbeats 4000000 in
theorem rswap_from_false (w : World) (size : Int) (A : Option Addr) (n c : Nat) (lo hi from_ to : Int) (hn : (n : Int) ≤ 4096) (hz : 0 < n) (h0 : 0 ≤ lo) (h1 : lo ≤ hi) (h2 : hi ≤ size) (hf : from_ < 0 ∨ 16 ≤ from_) (cnt : Int → Prop) (CNT0 : cnt 0) :
    Calls Try.prog 65 #[.agg #[.int .i64 size, .slice A n c], .int .i64 lo, .int .i64 hi, .int .i64 from_, .int .i64 to, .bool false] w (RSwapPost w 2 [] cnt) := by
  obtain ⟨wa, hwa⟩ : ∃ wa, (w.alloc (.cells #[.int .i64 size, .slice A n c] 31)).alloc (.cells #[.int .i64 0, .slice none 0 0] 31) = wa := ⟨_, rfl⟩
  have hBa : Below w.heap.size w wa := hwa ▸ Below.alloc2 w _ _
  have m6 : BoxM wa w.heap.size size (.slice A n c) := hwa ▸ (BoxM.new w _ _).next (Below.alloc1 _ _)
  have m12 : BoxM wa (w.heap.size + 1) 0 (.slice none 0 0) := by
    have := BoxM.new (w.alloc (.cells #[.int .i64 size, .slice A n c] 31)) 0 (.slice none 0 0)
    rw [World.size_alloc] at this; exact hwa ▸ this
  have HWA := Lib.hid hwa
  clear hwa
  have hus : ∀ W, Calls Try.prog 55 #[.agg #[.int .i64 size, .slice A n c]] W fun e w' => e = .returned (.bool true) ∧ Below W.heap.size W w' := fun W => by
    have := usable_any size A n c W (by omega)
    rw [show decide (0 < n) = true from by simp; omega] at this
    exact this
  have HUS := Lib.hid hus
  clear hus
  have hva : ∀ W, Calls Try.prog 71 #[.agg #[.int .i64 size, .slice A n c], .int .i64 lo, .int .i64 hi] W fun e w' => e = .returned (.bool true) ∧ Below W.heap.size W w' := fun W => valid_yes size A n c lo hi W h0 h1 h2
  have HVA := Lib.hid hva
  clear hva
  have HF := Lib.hid hf
  clear hf
  go_enter Try.func65, Try.ntmps65
  go_upto_region 1 with (fail)
  rw [HWA.out]
  have c60 := m6.c0
  have c61 := m6.c1
  go_wp2_with (fail)
  go_at_call 55
  refine (HUS.out _).mono ?_
  rintro e w1 ⟨rfl, b1⟩
  have hB1 := Below.next hBa b1
  have n6 := m6.next b1
  have n12 := m12.next b1
  clear b1 m6 m12 hBa c60 c61
  have c60 := n6.c0
  have c61 := n6.c1
  have r0 := n12.c0
  have r1 := n12.c1
  have f0 := n12.frozen 0
  have f1 := n12.frozen 1
  go_wp2_with (fail)
  go_at_call 71
  refine (HVA.out _).mono ?_
  rintro e w2 ⟨rfl, b2⟩
  have hB2 := Below.next hB1 b2
  have o6 := n6.next b2
  have o12 := n12.next b2
  clear b2 n6 n12 hB1 c60 c61 r0 r1 f0 f1
  have c60 := o6.c0
  have c61 := o6.c1
  have r0 := o12.c0
  have r1 := o12.c1
  have f0 := o12.frozen 0
  have f1 := o12.frozen 1
  go_wp2_with (fail)
  go_at_call 54
  refine (rtag_no from_ _ HF.out).mono ?_
  rintro e w' ⟨rfl, rfl⟩
  go_wp2_with (fail)
  exact bodyPost_ret (v := .tuple #[.agg #[.int .i64 0, .slice none 0 0], .int .i64 0, .int .i64 2]) (by simp [results, Try.results65, go_sem, (boxM_set o12 0 (.slice none 0 0)).c0, (boxM_set o12 0 (.slice none 0 0)).c1]) rfl ⟨none, 0, 0, rfl, CNT0, World.ownsRow_nil _ _ _ _, Nat.le_refl _, (hB2.setCell (p := ⟨w.heap.size + 1, 0, none⟩) (show w.heap.size ≤ w.heap.size + 1 by omega) _).setCell (p := ⟨w.heap.size + 1, 1, none⟩) (show w.heap.size ≤ w.heap.size + 1 by omega) _⟩
set_option maxRecDepth 100000 in
set_option maxHeartbeats 4000000 in
theorem rswap_to_false (w : World) (size : Int) (A : Option Addr) (n c : Nat) (lo hi from_ to : Int) (hn : (n : Int) ≤ 4096) (hz : 0 < n) (h0 : 0 ≤ lo) (h1 : lo ≤ hi) (h2 : hi ≤ size) (hf : 0 ≤ from_ ∧ from_ < 16) (ht : to < 0 ∨ 16 ≤ to) (cnt : Int → Prop) (CNT0 : cnt 0) :
    Calls Try.prog 65 #[.agg #[.int .i64 size, .slice A n c], .int .i64 lo, .int .i64 hi, .int .i64 from_, .int .i64 to, .bool false] w (RSwapPost w 2 [] cnt) := by
  obtain ⟨wa, hwa⟩ : ∃ wa, (w.alloc (.cells #[.int .i64 size, .slice A n c] 31)).alloc (.cells #[.int .i64 0, .slice none 0 0] 31) = wa := ⟨_, rfl⟩
  have hBa : Below w.heap.size w wa := hwa ▸ Below.alloc2 w _ _
  have m6 : BoxM wa w.heap.size size (.slice A n c) := hwa ▸ (BoxM.new w _ _).next (Below.alloc1 _ _)
  have m12 : BoxM wa (w.heap.size + 1) 0 (.slice none 0 0) := by
    have := BoxM.new (w.alloc (.cells #[.int .i64 size, .slice A n c] 31)) 0 (.slice none 0 0)
    rw [World.size_alloc] at this; exact hwa ▸ this
  have HWA := Lib.hid hwa
  clear hwa
  have hus : ∀ W, Calls Try.prog 55 #[.agg #[.int .i64 size, .slice A n c]] W fun e w' => e = .returned (.bool true) ∧ Below W.heap.size W w' := fun W => by
    have := usable_any size A n c W (by omega)
    rw [show decide (0 < n) = true from by simp; omega] at this
    exact this
  have HUS := Lib.hid hus
  clear hus
  have hva : ∀ W, Calls Try.prog 71 #[.agg #[.int .i64 size, .slice A n c], .int .i64 lo, .int .i64 hi] W fun e w' => e = .returned (.bool true) ∧ Below W.heap.size W w' := fun W => valid_yes size A n c lo hi W h0 h1 h2
  have HVA := Lib.hid hva
  clear hva
  have HT := Lib.hid ht
  clear ht
  have HF := Lib.hid hf
  clear hf
  go_enter Try.func65, Try.ntmps65
  go_upto_region 1 with (fail)
  rw [HWA.out]
  have c60 := m6.c0
  have c61 := m6.c1
  go_wp2_with (fail)
  go_at_call 55
  refine (HUS.out _).mono ?_
  rintro e w1 ⟨rfl, b1⟩
  have hB1 := Below.next hBa b1
  have n6 := m6.next b1
  have n12 := m12.next b1
  clear b1 m6 m12 hBa c60 c61
  have c60 := n6.c0
  have c61 := n6.c1
  have r0 := n12.c0
  have r1 := n12.c1
  have f0 := n12.frozen 0
  have f1 := n12.frozen 1
  go_wp2_with (fail)
  go_at_call 71
  refine (HVA.out _).mono ?_
  rintro e w2 ⟨rfl, b2⟩
  have hB2 := Below.next hB1 b2
  have o6 := n6.next b2
  have o12 := n12.next b2
  clear b2 n6 n12 hB1 c60 c61 r0 r1 f0 f1
  have c60 := o6.c0
  have c61 := o6.c1
  have r0 := o12.c0
  have r1 := o12.c1
  have f0 := o12.frozen 0
  have f1 := o12.frozen 1
  go_wp2_with (fail)
  go_at_call 54
  refine (rtag_yes from_ _ HF.out).mono ?_
  rintro e w' ⟨rfl, rfl⟩
  go_wp2_with (fail)
  go_at_call 54
  refine (rtag_no to _ HT.out).mono ?_
  rintro e w' ⟨rfl, rfl⟩
  go_wp2_with (fail)
  exact bodyPost_ret (v := .tuple #[.agg #[.int .i64 0, .slice none 0 0], .int .i64 0, .int .i64 2]) (by simp [results, Try.results65, go_sem, (boxM_set o12 0 (.slice none 0 0)).c0, (boxM_set o12 0 (.slice none 0 0)).c1]) rfl ⟨none, 0, 0, rfl, CNT0, World.ownsRow_nil _ _ _ _, Nat.le_refl _, (hB2.setCell (p := ⟨w.heap.size + 1, 0, none⟩) (show w.heap.size ≤ w.heap.size + 1 by omega) _).setCell (p := ⟨w.heap.size + 1, 1, none⟩) (show w.heap.size ≤ w.heap.size + 1 by omega) _⟩
set_option maxRecDepth 100000 in
set_option maxHeartbeats 4000000 in
theorem rswap_none_true (w : World) (size : Int) (A : Option Addr) (c : Nat) (lo hi from_ to : Int) (cnt : Int → Prop) (CNT0 : cnt 0) :
    Calls Try.prog 65 #[.agg #[.int .i64 size, .slice A 0 c], .int .i64 lo, .int .i64 hi, .int .i64 from_, .int .i64 to, .bool true] w (RSwapPost w 1 [] cnt) := by
  obtain ⟨wa, hwa⟩ : ∃ wa, (w.alloc (.cells #[.int .i64 size, .slice A 0 c] 31)).alloc (.cells #[.int .i64 0, .slice none 0 0] 31) = wa := ⟨_, rfl⟩
  have hBa : Below w.heap.size w wa := hwa ▸ Below.alloc2 w _ _
  have m6 : BoxM wa w.heap.size size (.slice A 0 c) := hwa ▸ (BoxM.new w _ _).next (Below.alloc1 _ _)
  have m12 : BoxM wa (w.heap.size + 1) 0 (.slice none 0 0) := by
    have := BoxM.new (w.alloc (.cells #[.int .i64 size, .slice A 0 c] 31)) 0 (.slice none 0 0)
    rw [World.size_alloc] at this; exact hwa ▸ this
  have HWA := Lib.hid hwa
  clear hwa
  have hus : ∀ W, Calls Try.prog 55 #[.agg #[.int .i64 size, .slice A 0 c]] W fun e w' => e = .returned (.bool false) ∧ Below W.heap.size W w' := fun W => by
    have := usable_any size A 0 c W (by omega)
    rw [show decide (0 < 0) = false from rfl] at this
    exact this
  have HUS := Lib.hid hus
  clear hus
  go_enter Try.func65, Try.ntmps65
  go_upto_region 1 with (fail)
  rw [HWA.out]
  have c60 := m6.c0
  have c61 := m6.c1
  go_wp2_with (fail)
  go_at_call 55
  refine (HUS.out _).mono ?_
  rintro e w1 ⟨rfl, b1⟩
  have hB1 := Below.next hBa b1
  have n6 := m6.next b1
  have n12 := m12.next b1
  clear b1 m6 m12 hBa c60 c61
  have c60 := n6.c0
  have c61 := n6.c1
  have r0 := n12.c0
  have r1 := n12.c1
  have f0 := n12.frozen 0
  have f1 := n12.frozen 1
  go_wp2_with (fail)
  exact bodyPost_ret (v := .tuple #[.agg #[.int .i64 0, .slice none 0 0], .int .i64 0, .int .i64 1]) (by simp [results, Try.results65, go_sem, (boxM_set n12 0 (.slice none 0 0)).c0, (boxM_set n12 0 (.slice none 0 0)).c1]) rfl ⟨none, 0, 0, rfl, CNT0, World.ownsRow_nil _ _ _ _, Nat.le_refl _, (hB1.setCell (p := ⟨w.heap.size + 1, 0, none⟩) (show w.heap.size ≤ w.heap.size + 1 by omega) _).setCell (p := ⟨w.heap.size + 1, 1, none⟩) (show w.heap.size ≤ w.heap.size + 1 by omega) _⟩
set_option maxRecDepth 100000 in
set_option maxHeartbeats 4000000 in
theorem rswap_range_true (w : World) (size : Int) (A : Option Addr) (n c : Nat) (lo hi from_ to : Int) (hn : (n : Int) ≤ 4096) (hz : 0 < n) (h : lo < 0 ∨ hi < lo ∨ size < hi) (cnt : Int → Prop) (CNT0 : cnt 0) :
    Calls Try.prog 65 #[.agg #[.int .i64 size, .slice A n c], .int .i64 lo, .int .i64 hi, .int .i64 from_, .int .i64 to, .bool true] w (RSwapPost w 3 [] cnt) := by
  obtain ⟨wa, hwa⟩ : ∃ wa, (w.alloc (.cells #[.int .i64 size, .slice A n c] 31)).alloc (.cells #[.int .i64 0, .slice none 0 0] 31) = wa := ⟨_, rfl⟩
  have hBa : Below w.heap.size w wa := hwa ▸ Below.alloc2 w _ _
  have m6 : BoxM wa w.heap.size size (.slice A n c) := hwa ▸ (BoxM.new w _ _).next (Below.alloc1 _ _)
  have m12 : BoxM wa (w.heap.size + 1) 0 (.slice none 0 0) := by
    have := BoxM.new (w.alloc (.cells #[.int .i64 size, .slice A n c] 31)) 0 (.slice none 0 0)
    rw [World.size_alloc] at this; exact hwa ▸ this
  have HWA := Lib.hid hwa
  clear hwa
  have hus : ∀ W, Calls Try.prog 55 #[.agg #[.int .i64 size, .slice A n c]] W fun e w' => e = .returned (.bool true) ∧ Below W.heap.size W w' := fun W => by
    have := usable_any size A n c W (by omega)
    rw [show decide (0 < n) = true from by simp; omega] at this
    exact this
  have HUS := Lib.hid hus
  clear hus
  have hva : ∀ W, Calls Try.prog 71 #[.agg #[.int .i64 size, .slice A n c], .int .i64 lo, .int .i64 hi] W fun e w' => e = .returned (.bool false) ∧ Below W.heap.size W w' := fun W => valid_no size A n c lo hi W h
  have HVA := Lib.hid hva
  clear hva
  have H := Lib.hid h
  clear h
  go_enter Try.func65, Try.ntmps65
  go_upto_region 1 with (fail)
  rw [HWA.out]
  have c60 := m6.c0
  have c61 := m6.c1
  go_wp2_with (fail)
  go_at_call 55
  refine (HUS.out _).mono ?_
  rintro e w1 ⟨rfl, b1⟩
  have hB1 := Below.next hBa b1
  have n6 := m6.next b1
  have n12 := m12.next b1
  clear b1 m6 m12 hBa c60 c61
  have c60 := n6.c0
  have c61 := n6.c1
  have r0 := n12.c0
  have r1 := n12.c1
  have f0 := n12.frozen 0
  have f1 := n12.frozen 1
  go_wp2_with (fail)
  go_at_call 71
  refine (HVA.out _).mono ?_
  rintro e w2 ⟨rfl, b2⟩
  have hB2 := Below.next hB1 b2
  have o6 := n6.next b2
  have o12 := n12.next b2
  clear b2 n6 n12 hB1 c60 c61 r0 r1 f0 f1
  have c60 := o6.c0
  have c61 := o6.c1
  have r0 := o12.c0
  have r1 := o12.c1
  have f0 := o12.frozen 0
  have f1 := o12.frozen 1
  go_wp2_with (fail)
  exact bodyPost_ret (v := .tuple #[.agg #[.int .i64 0, .slice none 0 0], .int .i64 0, .int .i64 3]) (by simp [results, Try.results65, go_sem, (boxM_set o12 0 (.slice none 0 0)).c0, (boxM_set o12 0 (.slice none 0 0)).c1]) rfl ⟨none, 0, 0, rfl, CNT0, World.ownsRow_nil _ _ _ _, Nat.le_refl _, (hB2.setCell (p := ⟨w.heap.size + 1, 0, none⟩) (show w.heap.size ≤ w.heap.size + 1 by omega) _).setCell (p := ⟨w.heap.size + 1, 1, none⟩) (show w.heap.size ≤ w.heap.size + 1 by omega) _⟩
set_option maxRecDepth 100000 in
set_option maxHeartbeats 4000000 in
theorem rswap_to_true (w : World) (size : Int) (A : Option Addr) (n c : Nat) (lo hi from_ to : Int) (hn : (n : Int) ≤ 4096) (hz : 0 < n) (h0 : 0 ≤ lo) (h1 : lo ≤ hi) (h2 : hi ≤ size) (ht : to < 0 ∨ 16 ≤ to) (cnt : Int → Prop) (CNT0 : cnt 0) :
    Calls Try.prog 65 #[.agg #[.int .i64 size, .slice A n c], .int .i64 lo, .int .i64 hi, .int .i64 from_, .int .i64 to, .bool true] w (RSwapPost w 2 [] cnt) := by
  obtain ⟨wa, hwa⟩ : ∃ wa, (w.alloc (.cells #[.int .i64 size, .slice A n c] 31)).alloc (.cells #[.int .i64 0, .slice none 0 0] 31) = wa := ⟨_, rfl⟩
  have hBa : Below w.heap.size w wa := hwa ▸ Below.alloc2 w _ _
  have m6 : BoxM wa w.heap.size size (.slice A n c) := hwa ▸ (BoxM.new w _ _).next (Below.alloc1 _ _)
  have m12 : BoxM wa (w.heap.size + 1) 0 (.slice none 0 0) := by
    have := BoxM.new (w.alloc (.cells #[.int .i64 size, .slice A n c] 31)) 0 (.slice none 0 0)
    rw [World.size_alloc] at this; exact hwa ▸ this
  have HWA := Lib.hid hwa
  clear hwa
  have hus : ∀ W, Calls Try.prog 55 #[.agg #[.int .i64 size, .slice A n c]] W fun e w' => e = .returned (.bool true) ∧ Below W.heap.size W w' := fun W => by
    have := usable_any size A n c W (by omega)
    rw [show decide (0 < n) = true from by simp; omega] at this
    exact this
  have HUS := Lib.hid hus
  clear hus
  have hva : ∀ W, Calls Try.prog 71 #[.agg #[.int .i64 size, .slice A n c], .int .i64 lo, .int .i64 hi] W fun e w' => e = .returned (.bool true) ∧ Below W.heap.size W w' := fun W => valid_yes size A n c lo hi W h0 h1 h2
  have HVA := Lib.hid hva
  clear hva
  have HT := Lib.hid ht
  clear ht
  go_enter Try.func65, Try.ntmps65
  go_upto_region 1 with (fail)
  rw [HWA.out]
  have c60 := m6.c0
  have c61 := m6.c1
  go_wp2_with (fail)
  go_at_call 55
  refine (HUS.out _).mono ?_
  rintro e w1 ⟨rfl, b1⟩
  have hB1 := Below.next hBa b1
  have n6 := m6.next b1
  have n12 := m12.next b1
  clear b1 m6 m12 hBa c60 c61
  have c60 := n6.c0
  have c61 := n6.c1
  have r0 := n12.c0
  have r1 := n12.c1
  have f0 := n12.frozen 0
  have f1 := n12.frozen 1
  go_wp2_with (fail)
  go_at_call 71
  refine (HVA.out _).mono ?_
  rintro e w2 ⟨rfl, b2⟩
  have hB2 := Below.next hB1 b2
  have o6 := n6.next b2
  have o12 := n12.next b2
  clear b2 n6 n12 hB1 c60 c61 r0 r1 f0 f1
  have c60 := o6.c0
  have c61 := o6.c1
  have r0 := o12.c0
  have r1 := o12.c1
  have f0 := o12.frozen 0
  have f1 := o12.frozen 1
  go_wp2_with (fail)
  go_at_call 54
  refine (rtag_no to _ HT.out).mono ?_
  rintro e w' ⟨rfl, rfl⟩
  go_wp2_with (fail)
  exact bodyPost_ret (v := .tuple #[.agg #[.int .i64 0, .slice none 0 0], .int .i64 0, .int .i64 2]) (by simp [results, Try.results65, go_sem, (boxM_set o12 0 (.slice none 0 0)).c0, (boxM_set o12 0 (.slice none 0 0)).c1]) rfl ⟨none, 0, 0, rfl, CNT0, World.ownsRow_nil _ _ _ _, Nat.le_refl _, (hB2.setCell (p := ⟨w.heap.size + 1, 0, none⟩) (show w.heap.size ≤ w.heap.size + 1 by omega) _).setCell (p := ⟨w.heap.size + 1, 1, none⟩) (show w.heap.size ≤ w.heap.size + 1 by omega) _⟩
end Go.Proofs.Ytfmplibjhohpgaa
