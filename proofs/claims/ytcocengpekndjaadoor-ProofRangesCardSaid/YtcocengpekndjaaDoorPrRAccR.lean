/- The walk over AcceptRange of the reference: runs that do not fit. -/
import Derived.Test.YtcocengpekndjaaDoorPrRAccH
namespace Go.Proofs.YtcocengpekndjaaDoor
open Go.RowKit
set_option maxRecDepth 100000 in
set_option maxHeartbeats 4000000 in
theorem rracc_bad (root : Bs) (lo hi : Int) (R : List Rn) (a : Addr) (n c : Nat) (f N : Nat) (size : Int) (PA : Option Addr) (pn pc : Nat) (w : World) (hn : R.length = n) (hh : Head lo hi n f N size) (hR : Runs w (some a) R) (hnc : ¬ Chain R R.length) :
    Calls Tryd.prog 24 #[wordsV, hashV root, .int .i64 lo, .int .i64 hi, claimV (some a) n c f N size PA pn pc] w fun e w' => e = .returned (.bool false) ∧ Below w.heap.size w w' := by
  obtain ⟨h0, h1, h2, h3, h4, h5, h6, h7, h8⟩ := hh
  have HN := Lib.hid hn
  have HNC := Lib.hid hnc
  clear hnc
  have n0 : ((n : Int) == 0) = false := by simp; omega
  have n1 : 0 < (n : Int) := by omega
  have n5 : n ≤ 5000 := by omega
  have j1 : ¬ (f : Int) < 0 := by omega
  have j2 : ¬ (4096 : Int) < N := by omega
  have j3 : ¬ (N : Int) < n := by omega
  have j4 : ¬ (N : Int) - n < f := by omega
  have hw : IntKind.i64.wrap ((N : Int) - (n : Int)) = N - n := IntWalk.i64_in _ (by omega)
  clear hn h4 h5 h6 h7 h8
  obtain ⟨w0, hW0⟩ : ∃ w0, World.alloc (World.alloc (w.alloc (.cells (ints .u32 wordsL) 27)) (.cells (cellsB root).toArray 30)) (.cells #[.slice (some a) n c, .int .i64 f, .int .i64 N, .int .i64 size, .slice PA pn pc] 43) = w0 := ⟨_, rfl⟩
  have B0 : Below w.heap.size w w0 := hW0 ▸ Below.on (Below.on (Below.new1 _ _) (Below.new1 _ _)) (Below.new1 _ _)
  have y5 : BoxW w0 w.heap.size := hW0 ▸ ((BoxW.new w).next (Below.new1 _ _)).next (Below.new1 _ _)
  have y6 : BoxH w0 (w.heap.size + 1) root := by
    have := (BoxH.new (w.alloc (.cells (ints .u32 wordsL) 27)) root).next (Below.new1 _ (.cells #[.slice (some a) n c, .int .i64 f, .int .i64 N, .int .i64 size, .slice PA pn pc] 43))
    rw [World.size_alloc] at this; exact hW0 ▸ this
  have x9 : BoxC w0 (w.heap.size + 1 + 1) (some a) n c f N size PA pn pc := by
    have := BoxC.new ((w.alloc (.cells (ints .u32 wordsL) 27)).alloc (.cells (cellsB root).toArray 30)) (some a) n c f N size PA pn pc
    rw [World.size_alloc, World.size_alloc] at this; exact hW0 ▸ this
  have c0 := x9.c0
  have c1 := x9.c1
  have c2 := x9.c2
  have c3 := x9.c3
  have c4 := x9.c4
  have HO := Lib.hid hW0
  clear hW0
  go_enter Tryd.func24, Tryd.ntmps24
  go_upto_region 1 with (fail)
  change Code.wp _ _ _ _ (World.alloc (World.alloc (w.alloc (.cells (ints .u32 wordsL) 27)) (.cells (cellsB root).toArray 30)) (.cells #[.slice (some a) n c, .int .i64 f, .int .i64 N, .int .i64 size, .slice PA pn pc] 43))
  rw [HO.out]
  clear HO
  go_upto_region 2 with (fail)
  try simp only [List.append_eq, List.cons_append, List.nil_append]
  go_wp2_with (fail)
  clear hw j1 j2 j3 j4 c0 c1 c2 c3 c4 n0 h2 h3
  clear y5 y6
  go_loopw [12, 13] (fun i _ W => ∃ k : Nat, k ≤ n ∧ i = .int .i64 k ∧ Chain R k ∧ Below w.heap.size w W ∧ BoxC W (w.heap.size + 1 + 1) (some a) n c f N size PA pn pc) (fun i _ _ => n - (intOf i).toNat)
  case atStart => exact ⟨0, Nat.zero_le _, rfl, fun _ _ h => absurd h (Nat.not_lt_zero _), B0, x9⟩
  case round =>
    obtain ⟨k, hkn, rfl, hC, hBw, y9⟩ := hrel
    clear x9 B0 w0
    by_cases hlt : k < n
    · have hkL : k < R.length := by have := HN.out; omega
      obtain ⟨hab, g0, g1, g2⟩ := (hR.below hBw).at_ hkL
      have k0 : (0 : Int) ≤ (k : Int) := by omega
      have k1 : (k : Int) < (n : Int) := by omega
      have hnx : Hid (OkR (prevR R k) R[k] → Chain R (k + 1)) := Lib.hid fun ho => hC.succ hkL ho
      have hyp : Hid (∀ Y, prevR R k = some Y → 0 < k ∧ RunAt wr (a.add ((k - 1) * 3)) Y) := Lib.hid fun Y hY => by
        unfold prevR at hY
        split at hY
        · cases hY
        · have hk1 : k - 1 < R.length := by omega
          rw [List.getElem?_eq_getElem hk1] at hY
          cases hY
          exact ⟨by omega, ((hR.below hBw).at_ hk1).2⟩
      have hnp : Hid (prevR R k = none → k = 0) := Lib.hid fun hY => by
        unfold prevR at hY
        split at hY
        · assumption
        · rw [List.getElem?_eq_getElem (by omega)] at hY; cases hY
      generalize hpv : prevR R k = pv at *
      generalize R[k] = X at *
      have HC := Lib.hid hC
      clear hC
      have d0 := y9.c0
      clear hpv
      go_upto_region 8 with (fail)
      try simp only [List.append_eq, List.cons_append, List.nil_append]
      obtain ⟨W1, hW1⟩ : ∃ W1, World.alloc wr (Obj.cells #[.int .i64 X.lo, .int .i64 X.hi, .int .i64 X.tag] 34) = W1 := ⟨_, rfl⟩
      have b1 : Below wr.heap.size wr W1 := hW1 ▸ Below.new1 _ _
      have z13 : BoxRun W1 wr.heap.size X.lo X.hi X.tag := hW1 ▸ BoxRun.new wr _ _ _
      change Code.wp _ _ _ _ (World.alloc wr (Obj.cells #[.int .i64 X.lo, .int .i64 X.hi, .int .i64 X.tag] 34))
      rw [hW1]
      clear hW1 g0 g1 g2 d0
      have z9 := y9.next b1
      have zB := Below.on hBw b1
      have e0 := z13.c0
      have e1 := z13.c1
      have e2 := z13.c2
      have d0 := z9.c0
      by_cases c2 : X.tag < 0
      · have t2 : decide (X.tag < 0) = true := by simpa using c2
        go_quiet (fail)
        go_wp2_with (fail)
        go_ret
        exact ⟨rfl, Below.on zB (Below.drawn W1 _ _)⟩
      have t2 : decide (X.tag < 0) = false := by simpa using c2
      by_cases c3 : 16 ≤ X.tag
      · have t3 : decide (16 ≤ X.tag) = true := by simpa using c3
        go_quiet (fail)
        go_wp2_with (fail)
        go_ret
        exact ⟨rfl, Below.on zB (Below.drawn W1 _ _)⟩
      have t3 : decide (16 ≤ X.tag) = false := by simpa using c3
      by_cases c1 : X.hi ≤ X.lo
      · have t1 : decide (X.hi ≤ X.lo) = true := by simpa using c1
        go_quiet (fail)
        go_wp2_with (fail)
        go_ret
        exact ⟨rfl, Below.on zB (Below.drawn W1 _ _)⟩
      have t1 : decide (X.hi ≤ X.lo) = false := by simpa using c1
      cases hpv : pv with
      | none =>
        obtain rfl := hnp.out hpv
        go_quiet (fail)
        go_wp2_with (fail)
        exact ⟨⟨0 + 1, by omega, by go_num, hnx.out ⟨by omega, by omega, by omega, fun y hy => by rw [hpv] at hy; cases hy⟩, Below.on zB (Below.drawn W1 _ _), z9.next (Below.drawn W1 _ _)⟩, by simp [intOf]; omega⟩
      | some Y =>
        obtain ⟨hk0, q0, q1, q2⟩ := hyp.out Y hpv
        replace q0 := cell_kept b1 q0
        replace q1 := cell_kept b1 q1
        replace q2 := cell_kept b1 q2
        have HPV := Lib.hid hpv
        have kp : decide (0 < (k : Int)) = true := by simp; omega
        have kp' : 0 < (k : Int) := by omega
        have mk : IntKind.i64.wrap ((k : Int) - 1) = ((k - 1 : Nat) : Int) := by rw [IntWalk.i64_in _ (by omega)]; omega
        have mk0 : 0 ≤ ((k - 1 : Nat) : Int) := by omega
        have mk1 : ((k - 1 : Nat) : Int) < n := by omega
        clear hpv
        obtain ⟨j, hj⟩ : ∃ j, k - 1 = j := ⟨_, rfl⟩
        rw [hj] at mk mk0 mk1 q0 q1 q2
        clear hj
        by_cases c4 : X.lo = Y.hi
        · have t4 : (X.lo != Y.hi) = false := by simpa using c4
          have C4 := Lib.hid c4
          clear c4
          by_cases c5 : X.tag = Y.tag
          · have t5 : (X.tag == Y.tag) = true := by simpa using c5
            clear c5
            go_quiet (fail)
            go_wp2_with (fail)
            go_ret
            exact ⟨rfl, Below.on zB (Below.drawn W1 _ _)⟩
          · have t5 : (X.tag == Y.tag) = false := by simpa using c5
            have C5 := Lib.hid c5
            clear c5
            go_quiet (fail)
            go_wp2_with (fail)
            exact ⟨⟨k + 1, by omega, by go_num, hnx.out ⟨by omega, by omega, by omega, fun y hy => by rw [HPV.out] at hy; cases hy; exact ⟨C4.out, C5.out⟩⟩, Below.on zB (Below.drawn W1 _ _), z9.next (Below.drawn W1 _ _)⟩, by simp [intOf]; omega⟩
        · have t4 : (X.lo != Y.hi) = true := by simpa using c4
          clear c4
          go_quiet (fail)
          go_wp2_with (fail)
          go_ret
          exact ⟨rfl, Below.on zB (Below.drawn W1 _ _)⟩
    · obtain rfl : k = n := by omega
      exact absurd (by rw [HN.out]; exact hC) HNC.out
end Go.Proofs.YtcocengpekndjaaDoor
