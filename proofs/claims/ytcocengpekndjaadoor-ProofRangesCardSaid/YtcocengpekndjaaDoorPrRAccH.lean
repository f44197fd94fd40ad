/- The walk over AcceptRange of the reference: what the head refuses. -/
import Derived.Test.YtcocengpekndjaaDoorPrRLeaves
import Derived.Test.YtcocengpekndjaaDoorPrAcc
import Derived.Test.YtcocengpekndjaaDoorPrFold
namespace Go.Proofs.YtcocengpekndjaaDoor
open Go.RowKit
set_option maxRecDepth 100000 in
set_option maxHeartbeats 4000000 in
theorem rracc_head (root : Bs) (lo hi : Int) (A : Option Addr) (n c : Nat) (first count size : Int) (PA : Option Addr) (pn pc : Nat) (w : World) (hh : ¬ Head lo hi n first count size) (hci : -9223372036854775808 ≤ count ∧ count < 9223372036854775808) (hn : n ≤ 1000000) :
    Calls Tryd.prog 24 #[wordsV, hashV root, .int .i64 lo, .int .i64 hi, claimV A n c first count size PA pn pc] w fun e w' => e = .returned (.bool false) ∧ Below w.heap.size w w' := by
  have key : ¬ 0 ≤ lo ∨ (0 ≤ lo ∧ ¬ lo < hi) ∨ (0 ≤ lo ∧ lo < hi ∧ ¬ hi ≤ size) ∨ (0 ≤ lo ∧ lo < hi ∧ hi ≤ size ∧ ¬ size ≤ 1099511627776) ∨ ((0 ≤ lo ∧ lo < hi ∧ hi ≤ size ∧ size ≤ 1099511627776) ∧ ((n = 0) ∨ (n ≠ 0 ∧ first < 0) ∨ (n ≠ 0 ∧ ¬ first < 0 ∧ 4096 < count) ∨ (n ≠ 0 ∧ ¬ first < 0 ∧ ¬ 4096 < count ∧ count < n) ∨ (n ≠ 0 ∧ ¬ first < 0 ∧ ¬ 4096 < count ∧ ¬ count < n ∧ count - n < first))) := by
    unfold Head at hh; omega
  have hw : IntKind.i64.wrap (count - (n : Int)) = count - n ∨ count < n := by
    by_cases h : count < n
    · exact .inr h
    · exact .inl (IntWalk.i64_in _ (by omega))
  clear hh hci
  obtain ⟨w0, hW0⟩ : ∃ w0, World.alloc (World.alloc (w.alloc (.cells (ints .u32 wordsL) 27)) (.cells (cellsB root).toArray 30)) (.cells #[.slice A n c, .int .i64 first, .int .i64 count, .int .i64 size, .slice PA pn pc] 43) = w0 := ⟨_, rfl⟩
  have B0 : Below w.heap.size w w0 := hW0 ▸ Below.on (Below.on (Below.new1 _ _) (Below.new1 _ _)) (Below.new1 _ _)
  have y5 : BoxW w0 w.heap.size := hW0 ▸ ((BoxW.new w).next (Below.new1 _ _)).next (Below.new1 _ _)
  have y6 : BoxH w0 (w.heap.size + 1) root := by
    have := (BoxH.new (w.alloc (.cells (ints .u32 wordsL) 27)) root).next (Below.new1 _ (.cells #[.slice A n c, .int .i64 first, .int .i64 count, .int .i64 size, .slice PA pn pc] 43))
    rw [World.size_alloc] at this; exact hW0 ▸ this
  have x9 : BoxC w0 (w.heap.size + 1 + 1) A n c first count size PA pn pc := by
    have := BoxC.new ((w.alloc (.cells (ints .u32 wordsL) 27)).alloc (.cells (cellsB root).toArray 30)) A n c first count size PA pn pc
    rw [World.size_alloc, World.size_alloc] at this; exact hW0 ▸ this
  have c0 := x9.c0
  have c1 := x9.c1
  have c2 := x9.c2
  have c3 := x9.c3
  have c4 := x9.c4
  have HO := Lib.hid hW0
  clear hW0 x9 y5 y6
  rcases key with h | ⟨h, h1⟩ | ⟨h, h1, h2⟩ | ⟨h, h1, h2, h3⟩ | ⟨⟨h, h1, h2, h3⟩, h4 | ⟨h4, h5⟩ | ⟨h4, h5, h6⟩ | ⟨h4, h5, h6, h7⟩ | ⟨h4, h5, h6, h7, h8⟩⟩
  · clear hw
    go_enter Tryd.func24, Tryd.ntmps24
    go_upto_region 1 with (fail)
    change Code.wp _ _ _ _ (World.alloc (World.alloc (w.alloc (.cells (ints .u32 wordsL) 27)) (.cells (cellsB root).toArray 30)) (.cells #[.slice A n c, .int .i64 first, .int .i64 count, .int .i64 size, .slice PA pn pc] 43))
    rw [HO.out]
    clear HO
    go_upto_region 2 with (fail)
    try simp only [List.append_eq, List.cons_append, List.nil_append]
    go_wp2_with (fail)
    go_ret
    exact ⟨rfl, B0⟩
  · clear hw
    go_enter Tryd.func24, Tryd.ntmps24
    go_upto_region 1 with (fail)
    change Code.wp _ _ _ _ (World.alloc (World.alloc (w.alloc (.cells (ints .u32 wordsL) 27)) (.cells (cellsB root).toArray 30)) (.cells #[.slice A n c, .int .i64 first, .int .i64 count, .int .i64 size, .slice PA pn pc] 43))
    rw [HO.out]
    clear HO
    go_upto_region 2 with (fail)
    try simp only [List.append_eq, List.cons_append, List.nil_append]
    go_wp2_with (fail)
    go_ret
    exact ⟨rfl, B0⟩
  · clear hw
    go_enter Tryd.func24, Tryd.ntmps24
    go_upto_region 1 with (fail)
    change Code.wp _ _ _ _ (World.alloc (World.alloc (w.alloc (.cells (ints .u32 wordsL) 27)) (.cells (cellsB root).toArray 30)) (.cells #[.slice A n c, .int .i64 first, .int .i64 count, .int .i64 size, .slice PA pn pc] 43))
    rw [HO.out]
    clear HO
    go_upto_region 2 with (fail)
    try simp only [List.append_eq, List.cons_append, List.nil_append]
    go_wp2_with (fail)
    go_ret
    exact ⟨rfl, B0⟩
  · clear hw
    go_enter Tryd.func24, Tryd.ntmps24
    go_upto_region 1 with (fail)
    change Code.wp _ _ _ _ (World.alloc (World.alloc (w.alloc (.cells (ints .u32 wordsL) 27)) (.cells (cellsB root).toArray 30)) (.cells #[.slice A n c, .int .i64 first, .int .i64 count, .int .i64 size, .slice PA pn pc] 43))
    rw [HO.out]
    clear HO
    go_upto_region 2 with (fail)
    try simp only [List.append_eq, List.cons_append, List.nil_append]
    go_wp2_with (fail)
    go_ret
    exact ⟨rfl, B0⟩
  · have n0 : ((n : Int) == 0) = true := by simp; omega
    clear h4
    clear hw
    go_enter Tryd.func24, Tryd.ntmps24
    go_upto_region 1 with (fail)
    change Code.wp _ _ _ _ (World.alloc (World.alloc (w.alloc (.cells (ints .u32 wordsL) 27)) (.cells (cellsB root).toArray 30)) (.cells #[.slice A n c, .int .i64 first, .int .i64 count, .int .i64 size, .slice PA pn pc] 43))
    rw [HO.out]
    clear HO
    go_upto_region 2 with (fail)
    try simp only [List.append_eq, List.cons_append, List.nil_append]
    go_wp2_with (fail)
    go_ret
    exact ⟨rfl, B0⟩
  · have n0 : ((n : Int) == 0) = false := by simp; omega
    clear hw
    go_enter Tryd.func24, Tryd.ntmps24
    go_upto_region 1 with (fail)
    change Code.wp _ _ _ _ (World.alloc (World.alloc (w.alloc (.cells (ints .u32 wordsL) 27)) (.cells (cellsB root).toArray 30)) (.cells #[.slice A n c, .int .i64 first, .int .i64 count, .int .i64 size, .slice PA pn pc] 43))
    rw [HO.out]
    clear HO
    go_upto_region 2 with (fail)
    try simp only [List.append_eq, List.cons_append, List.nil_append]
    go_wp2_with (fail)
    go_ret
    exact ⟨rfl, B0⟩
  · have n0 : ((n : Int) == 0) = false := by simp; omega
    clear hw
    go_enter Tryd.func24, Tryd.ntmps24
    go_upto_region 1 with (fail)
    change Code.wp _ _ _ _ (World.alloc (World.alloc (w.alloc (.cells (ints .u32 wordsL) 27)) (.cells (cellsB root).toArray 30)) (.cells #[.slice A n c, .int .i64 first, .int .i64 count, .int .i64 size, .slice PA pn pc] 43))
    rw [HO.out]
    clear HO
    go_upto_region 2 with (fail)
    try simp only [List.append_eq, List.cons_append, List.nil_append]
    go_wp2_with (fail)
    go_ret
    exact ⟨rfl, B0⟩
  · have n0 : ((n : Int) == 0) = false := by simp; omega
    clear hw
    go_enter Tryd.func24, Tryd.ntmps24
    go_upto_region 1 with (fail)
    change Code.wp _ _ _ _ (World.alloc (World.alloc (w.alloc (.cells (ints .u32 wordsL) 27)) (.cells (cellsB root).toArray 30)) (.cells #[.slice A n c, .int .i64 first, .int .i64 count, .int .i64 size, .slice PA pn pc] 43))
    rw [HO.out]
    clear HO
    go_upto_region 2 with (fail)
    try simp only [List.append_eq, List.cons_append, List.nil_append]
    go_wp2_with (fail)
    go_ret
    exact ⟨rfl, B0⟩
  · have n0 : ((n : Int) == 0) = false := by simp; omega
    replace hw := hw.resolve_right h7
    go_enter Tryd.func24, Tryd.ntmps24
    go_upto_region 1 with (fail)
    change Code.wp _ _ _ _ (World.alloc (World.alloc (w.alloc (.cells (ints .u32 wordsL) 27)) (.cells (cellsB root).toArray 30)) (.cells #[.slice A n c, .int .i64 first, .int .i64 count, .int .i64 size, .slice PA pn pc] 43))
    rw [HO.out]
    clear HO
    go_upto_region 2 with (fail)
    try simp only [List.append_eq, List.cons_append, List.nil_append]
    go_wp2_with (fail)
    go_ret
    exact ⟨rfl, B0⟩
end Go.Proofs.YtcocengpekndjaaDoor
