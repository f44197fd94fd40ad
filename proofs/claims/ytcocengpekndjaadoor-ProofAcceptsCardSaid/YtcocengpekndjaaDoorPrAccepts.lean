/- The walk over ProofAccepts. -/
import Derived.Test.YtcocengpekndjaaDoorPrRAcc
import Derived.Test.YtcocengpekndjaaDoorPrAwake
import Derived.Test.YtcocengpekndjaaDoorPrSums
namespace Go.Proofs.YtcocengpekndjaaDoor
open Go.RowKit
set_option maxRecDepth 100000 in
set_option maxHeartbeats 4000000 in
theorem proofAccepts_any (root : Bs) (at_ : Int) (X : Rn) (index count size : Int) (path : List Bs) (A : Option Addr) (c : Nat) (w : World) (hc : path.length ≤ c) (hr : root.length = 32) (hs : Hs w A path) (hk : Kon w) (hsz : size < 9223372036854775808) :
    Calls Tryd.prog 4 #[hashV root, .int .i64 at_, claim1V X index count size A path.length c] w fun e w' => e = .returned (.bool true) ∧ Below w.heap.size w w' := by
  obtain ⟨k, hpk⟩ : ∃ k, path.length = k := ⟨_, rfl⟩
  rw [hpk] at hc ⊢
  obtain ⟨w0, hW0⟩ : ∃ w0, World.alloc (w.alloc (.cells (cellsB root).toArray 30)) (.cells #[.int .i64 X.lo, .int .i64 X.hi, .int .i64 X.tag, .int .i64 index, .int .i64 count, .int .i64 size, .slice A k c] 37) = w0 := ⟨_, rfl⟩
  have B0 : Below w.heap.size w w0 := hW0 ▸ Below.on (Below.new1 _ _) (Below.new1 _ _)
  have y3 : BoxH w0 w.heap.size root := hW0 ▸ (BoxH.new w root).next (Below.new1 _ _)
  have x5 : w0.heap[w.heap.size + 1]? = some (.cells #[.int .i64 X.lo, .int .i64 X.hi, .int .i64 X.tag, .int .i64 index, .int .i64 count, .int .i64 size, .slice A k c] 37 (0, 0)) := by
    have := heap_alloc_new (w.alloc (.cells (cellsB root).toArray 30)) (.cells #[.int .i64 X.lo, .int .i64 X.hi, .int .i64 X.tag, .int .i64 index, .int .i64 count, .int .i64 size, .slice A k c] 37)
    rw [World.size_alloc] at this; exact hW0 ▸ this
  have c0 : w0.cell? ⟨w.heap.size + 1, 0, none⟩ = some (.int .i64 X.lo) := (cell_of_row w0 _ 0 _ _ _ x5).trans rfl
  have c1 : w0.cell? ⟨w.heap.size + 1, 1, none⟩ = some (.int .i64 X.hi) := (cell_of_row w0 _ 1 _ _ _ x5).trans rfl
  have c2 : w0.cell? ⟨w.heap.size + 1, 2, none⟩ = some (.int .i64 X.tag) := (cell_of_row w0 _ 2 _ _ _ x5).trans rfl
  have c3 : w0.cell? ⟨w.heap.size + 1, 3, none⟩ = some (.int .i64 index) := (cell_of_row w0 _ 3 _ _ _ x5).trans rfl
  have c4 : w0.cell? ⟨w.heap.size + 1, 4, none⟩ = some (.int .i64 count) := (cell_of_row w0 _ 4 _ _ _ x5).trans rfl
  have c5 : w0.cell? ⟨w.heap.size + 1, 5, none⟩ = some (.int .i64 size) := (cell_of_row w0 _ 5 _ _ _ x5).trans rfl
  have c6 : w0.cell? ⟨w.heap.size + 1, 6, none⟩ = some (.slice A k c) := (cell_of_row w0 _ 6 _ _ _ x5).trans rfl
  have hk0 := hk.next B0
  have hs0 := hs.next B0
  have HO := Lib.hid hW0
  by_cases m1 : 30 < k
  · have m2 : (30 : Int) < k := by omega
    have HA := Lib.hid (awake_any w0 hk0)
    clear hW0 hpk hs hk x5 c0 c1 c2 c3 c4 c5 y3
    go_enter Tryd.func4, Tryd.ntmps4
    go_upto_region 1 with (fail)
    change Code.wp _ _ _ _ (World.alloc (w.alloc (.cells (cellsB root).toArray 30)) (.cells #[.int .i64 X.lo, .int .i64 X.hi, .int .i64 X.tag, .int .i64 index, .int .i64 count, .int .i64 size, .slice A k c] 37))
    rw [HO.out]
    clear HO
    go_wp2_with (go_at_call 17; refine HA.out.mono ?_; rintro e w7 ⟨rfl, b7⟩)
    go_ret
    exact ⟨rfl, Below.on B0 b7⟩
  · have m2 : ¬ (30 : Int) < k := by omega
    have HP := Lib.hid (fun W (h : Hs W A path) (kon : Kon W) => accept1_any root at_ X index count size path A k c W hsz h hpk hc (by omega) kon hr)
    have HV := Lib.hid (fun W (h : Hs W A path) => racc_any root at_ X index count size path A k c W hr h hpk hc (by omega))
    obtain ⟨x, hx⟩ : ∃ x, accept1M root at_ X index count size path = x := ⟨_, rfl⟩
    rw [hx] at HP HV
    obtain ⟨t, b⟩ := x
    simp only at HP HV
    have HA := Lib.hid (fun W (kon : Kon W) => awake_any W kon)
    have HR := Lib.hid hr
    clear hW0 hpk hs hk hx m1 x5 hr
    go_enter Tryd.func4, Tryd.ntmps4
    go_upto_region 1 with (fail)
    change Code.wp _ _ _ _ (World.alloc (w.alloc (.cells (cellsB root).toArray 30)) (.cells #[.int .i64 X.lo, .int .i64 X.hi, .int .i64 X.tag, .int .i64 index, .int .i64 count, .int .i64 size, .slice A k c] 37))
    rw [HO.out]
    clear HO
    go_upto_region 4 with (first
      | (go_at_call 18; refine (constants_any _).mono ?_; rintro e w1 ⟨rfl, b1⟩)
      | (refine wpList_newW rfl (.tmp 7) (.tmp 17) rfl rfl rfl ?_))
    have x7 := withW_box w1
    have b2 := withW_below w1
    obtain ⟨w2, hW⟩ : ∃ w2, withW w1 = w2 := ⟨_, rfl⟩
    change Code.wp _ _ _ _ (withW w1)
    rw [hW] at x7 b2 ⊢
    have B2 := Below.on b1 b2
    generalize w1.heap.size = g1 at *
    have z3 : BoxH w2 w.heap.size root := BoxA.next y3 B2
    have hk2 := hk0.next B2
    have hs2 := hs0.next B2
    have BB := Below.on B0 B2
    replace c0 := cell_kept B2 c0
    replace c1 := cell_kept B2 c1
    replace c2 := cell_kept B2 c2
    replace c3 := cell_kept B2 c3
    replace c4 := cell_kept B2 c4
    replace c5 := cell_kept B2 c5
    replace c6 := cell_kept B2 c6
    clear hW b1 b2 y3 hs0 hk0 B0 B2
    go_upto_region 5 with (first
      | (refine wpList_loadH rfl (.tmp 3) rfl w.heap.size root rfl z3 HR.out ?_)
      | (go_at_call 21; refine (HP.out _ hs2 hk2).mono ?_; rintro e w3 ⟨rfl, b3⟩))
    have z3' : BoxH w3 w.heap.size root := BoxA.next z3 b3
    have x7' : BoxW w3 g1 := BoxA.next x7 b3
    have hk3 := hk2.next b3
    have hs3 := hs2.next b3
    have B3 := Below.on BB b3
    replace c0 := cell_kept b3 c0
    replace c1 := cell_kept b3 c1
    replace c2 := cell_kept b3 c2
    replace c3 := cell_kept b3 c3
    replace c4 := cell_kept b3 c4
    replace c5 := cell_kept b3 c5
    replace c6 := cell_kept b3 c6
    clear z3 x7 hk2 hs2 BB b3
    go_upto_region 6 with (first
      | (refine wpList_load_at rfl 27 (.tmp 7) rfl wordsV (BoxW.load x7') ?_)
      | (refine wpList_loadH rfl (.tmp 3) rfl w.heap.size root rfl z3' HR.out ?_)
      | (go_at_call 22; refine (HV.out _ hs3).mono ?_; rintro e w4 ⟨rfl, b4⟩))
    have hk4 := hk3.next b4
    have B4 := Below.on B3 b4
    have hxx : (b == b) = true := beq_self_eq_true b
    have htt : (t == t) = true := beq_self_eq_true t
    clear c0 c1 c2 c3 c4 c5 c6 hs3 x7' z3'
    cases b
    all_goals
      go_wp2_with (go_at_call 17; refine (HA.out _ hk4).mono ?_; rintro e w7 ⟨rfl, b7⟩)
      go_ret
      exact ⟨rfl, Below.on B4 b7⟩
end Go.Proofs.YtcocengpekndjaaDoor
