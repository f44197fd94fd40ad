/- The walk over block of the reference. -/
import Derived.Test.YtcocengpekndjaaDoorPrEight
namespace Go.Proofs.YtcocengpekndjaaDoor
open Go.RowKit
set_option maxRecDepth 100000 in
set_option maxHeartbeats 4000000 in
theorem rblock_any (x : List Int) (s : Bs) (w : World) (hx : St x) (hs : s.length = 64) : Calls Tryd.prog 60 #[wordsV, .agg (ints .u32 x), .string ⟨s.toArray⟩] w fun e w' => e = .returned (.agg (ints .u32 (compM x s))) ∧ Below w.heap.size w w' := by
  have hC : compM x s = addP x (roundsM kM (schedM s 48) x 64) 8 := by
    rw [addP_all hx.1 (roundsM_st _ _ hx 64).1, addM_comm]; rfl
  rw [hC]
  have hXl := schedM_length s 48
  have hXw := schedM_wd s 48
  obtain ⟨X, hX⟩ : ∃ X, schedM s 48 = X := ⟨_, rfl⟩
  rw [hX] at hXl hXw ⊢
  have HX := Lib.hid hX
  have hst := roundsM_st kM X hx 64
  obtain ⟨Y, hY⟩ : ∃ Y, roundsM kM X x 64 = Y := ⟨_, rfl⟩
  rw [hY] at hst ⊢
  have HY := Lib.hid hY
  have HST := Lib.hid hst
  have HXL := Lib.hid hXl
  have HXS := Lib.hid hx
  clear hC hst hY hX hXw hXl
  have sz : (Tryd.prog.info? 24).map (·.size) = some (ints .u32 x).size := by rw [ints_size, hx.1]; kernel_rfl
  go_enter Tryd.func60, Tryd.ntmps60
  go_wp2_with (fail)
  obtain ⟨w0, hW0⟩ : ∃ w0, World.alloc (World.alloc (World.alloc (World.alloc w (.cells (ints .u32 wordsL) 27)) (.cells (ints .u32 x) 24)) (.cells (ints .u32 (List.replicate 8 0)) 24)) (.cells (ints .u32 (List.replicate 64 0)) 25) = w0 := ⟨_, rfl⟩
  have B0 : Below w.heap.size w w0 := hW0 ▸ Below.on (Below.on (Below.on (Below.new1 _ _) (Below.new1 _ _)) (Below.new1 _ _)) (Below.new1 _ _)
  have x3 : BoxW w0 w.heap.size := hW0 ▸ (((BoxW.new w).next (Below.new1 _ _)).next (Below.new1 _ _)).next (Below.new1 _ _)
  have x4 : BoxA w0 (w.heap.size + 1) 24 .u32 x := by
    have := ((BoxA.new (w.alloc (.cells (ints .u32 wordsL) 27)) 24 .u32 x _ rfl).next (Below.new1 _ (.cells (ints .u32 (List.replicate 8 0)) 24))).next (Below.new1 _ (.cells (ints .u32 (List.replicate 64 0)) 25))
    rw [World.size_alloc] at this; exact hW0 ▸ this
  have x6 : BoxA w0 (w.heap.size + 1 + 1) 24 .u32 (List.replicate 8 0) := by
    have := (BoxA.new ((w.alloc (.cells (ints .u32 wordsL) 27)).alloc (.cells (ints .u32 x) 24)) 24 .u32 (List.replicate 8 0) _ rfl).next (Below.new1 _ (.cells (ints .u32 (List.replicate 64 0)) 25))
    rw [World.size_alloc, World.size_alloc] at this; exact hW0 ▸ this
  have x7 : BoxA w0 (w.heap.size + 1 + 1 + 1) 25 .u32 (List.replicate 64 0) := by
    have := BoxA.new (((w.alloc (.cells (ints .u32 wordsL) 27)).alloc (.cells (ints .u32 x) 24)).alloc (.cells (ints .u32 (List.replicate 8 0)) 24)) 25 .u32 (List.replicate 64 0) _ rfl
    rw [World.size_alloc, World.size_alloc, World.size_alloc] at this; exact hW0 ▸ this
  change Code.wp _ _ _ _ (World.alloc (World.alloc (World.alloc (World.alloc w (.cells (ints .u32 wordsL) 27)) (.cells (ints .u32 x) 24)) (.cells (ints .u32 (List.replicate 8 0)) 24)) (.cells (ints .u32 (List.replicate 64 0)) 25))
  rw [hW0]
  clear hW0
  obtain ⟨g4, hg4⟩ : ∃ g, g = w.heap.size + 1 := ⟨_, rfl⟩
  obtain ⟨g6, hg6⟩ : ∃ g, g = w.heap.size + 1 + 1 := ⟨_, rfl⟩
  obtain ⟨g7, hg7⟩ : ∃ g, g = w.heap.size + 1 + 1 + 1 := ⟨_, rfl⟩
  rw [← hg7] at x7 ⊢
  rw [← hg6] at x6 ⊢
  rw [← hg4] at x4 ⊢
  have n34 : w.heap.size < g4 := by omega
  have n46 : g4 < g6 := by omega
  have n67 : g6 < g7 := by omega
  have e37 : w.heap.size ≠ g7 := by omega
  have e47 : g4 ≠ g7 := by omega
  have e67 : g6 ≠ g7 := by omega
  have e7 : w.heap.size ≤ g7 := by omega
  clear hg4 hg6 hg7
  go_loopw [8] (fun i W => ∃ k : Nat, k ≤ 16 ∧ i = .int .i64 k ∧ BoxW W w.heap.size ∧ BoxA W g4 24 .u32 x ∧ BoxA W g6 24 .u32 (List.replicate 8 0) ∧ BoxA W g7 25 .u32 (fillM s k) ∧ Below w.heap.size w W) (fun i _ => 16 - (intOf i).toNat)
  case atStart => exact ⟨0, by decide, rfl, x3, x4, x6, x7, B0⟩
  case round =>
    clear x3 x4 x6 x7 B0
    obtain ⟨k, hk, rfl, x3, x4, x6, x7, B0⟩ := hrel
    by_cases hlt : k < 16
    · have k1 : (k : Int) < 16 := by omega
      have q0 : ∀ W, (Instr.index 9 (.string ⟨s.toArray⟩) (.int .i64 (4 * (k : Int)))).run Tryd.prog W = .ok (.int .u8 (byt s (4 * k))) W := fun W => bs_index s W _ (by kernel_rfl) _ _ _ (by omega) (by omega)
      have q1 : ∀ W, (Instr.index 9 (.string ⟨s.toArray⟩) (.int .i64 (4 * (k : Int) + 1))).run Tryd.prog W = .ok (.int .u8 (byt s (4 * k + 1))) W := fun W => bs_index s W _ (by kernel_rfl) _ _ _ (by omega) (by omega)
      have q2 : ∀ W, (Instr.index 9 (.string ⟨s.toArray⟩) (.int .i64 (4 * (k : Int) + 2))).run Tryd.prog W = .ok (.int .u8 (byt s (4 * k + 2))) W := fun W => bs_index s W _ (by kernel_rfl) _ _ _ (by omega) (by omega)
      have q3 : ∀ W, (Instr.index 9 (.string ⟨s.toArray⟩) (.int .i64 (4 * (k : Int) + 3))).run Tryd.prog W = .ok (.int .u8 (byt s (4 * k + 3))) W := fun W => bs_index s W _ (by kernel_rfl) _ _ _ (by omega) (by omega)
      obtain ⟨y0, z0⟩ := wd_byt s (4 * k)
      obtain ⟨y1, z1⟩ := wd_byt s (4 * k + 1)
      obtain ⟨y2, z2⟩ := wd_byt s (4 * k + 2)
      obtain ⟨y3, z3⟩ := wd_byt s (4 * k + 3)
      have hl := fillM_length s k
      have m0 : IntKind.i64.wrap (4 * (k : Int)) = 4 * k := IntWalk.i64_in _ (by omega)
      have m1 : IntKind.i64.wrap (4 * (k : Int) + 1) = 4 * k + 1 := IntWalk.i64_in _ (by omega)
      have m2 : IntKind.i64.wrap (4 * (k : Int) + 2) = 4 * k + 2 := IntWalk.i64_in _ (by omega)
      have m3 : IntKind.i64.wrap (4 * (k : Int) + 3) = 4 * k + 3 := IntWalk.i64_in _ (by omega)
      have n0 : IntKind.u32.wrap (byt s (4 * k)) = byt s (4 * k) := by rw [IntKind.wrap_u32']; omega
      have n1 : IntKind.u32.wrap (byt s (4 * k + 1)) = byt s (4 * k + 1) := by rw [IntKind.wrap_u32']; omega
      have n2 : IntKind.u32.wrap (byt s (4 * k + 2)) = byt s (4 * k + 2) := by rw [IntKind.wrap_u32']; omega
      have n3' : IntKind.u32.wrap (byt s (4 * k + 3)) = byt s (4 * k + 3) := by rw [IntKind.wrap_u32']; omega
      have p0 : 0 ≤ (k : Int) := by omega
      have p1 : (k : Int) < 64 := by omega
      have HL := Lib.hid hl
      clear hl
      go_upto_region 5 with (fail)
      go_still_tail 31, (by kernel_rfl)
      clear q0 q1 q2 q3 y0 y1 y2 y3 z0 z1 z2 z3 m0 m1 m2 m3 n0 n1 n2 n3' p0 p1
      have Dd : Below wr.heap.size wr wr.drew := Below.drawn wr 1 _
      replace x3 := BoxA.next x3 Dd
      replace x4 := x4.next Dd
      replace x6 := x6.next Dd
      replace x7 := x7.next Dd
      replace B0 := Below.on B0 Dd
      clear Dd
      change wpList _ _ _ _ _ wr.drew
      generalize wr.drew = wd at *
      have ck := x7.cell (i := k) (by rw [HL.out]; omega)
      have cf := x7.frozen k
      have bl := x7.lt
      go_wp2_with (fail)
      refine ⟨?_, by simp [intOf]; omega⟩
      exact ⟨k + 1, by omega, by go_num, BoxA.far x3 e37 _ _ _, x4.far e47 _ _ _, x6.far e67 _ _ _, x7.set k _, B0.setCell (p := ⟨g7, k, none⟩) e7 _⟩
    · obtain rfl : k = 16 := by omega
      have x7' : BoxA wr g7 25 .u32 (schedM s 0) := x7
      clear x7
      go_wp2_with (fail)
      go_loopw [9, 10, 11] (fun i _ _ W => ∃ k j : Nat, k ≤ 48 ∧ j = 16 + k ∧ i = .int .i64 j ∧ BoxW W w.heap.size ∧ BoxA W g4 24 .u32 x ∧ BoxA W g6 24 .u32 (List.replicate 8 0) ∧ BoxA W g7 25 .u32 (schedM s k) ∧ Below w.heap.size w W) (fun i _ _ _ => 64 - (intOf i).toNat)
      case atStart => exact ⟨0, 16, by decide, rfl, rfl, x3, x4, x6, x7', B0⟩
      case round =>
        clear x3 x4 x6 x7' B0
        obtain ⟨k, j, hk, hj, rfl, x3, x4, x6, x7, B0⟩ := hrel
        have hl := schedM_length s k
        have hw := schedM_wd s k
        by_cases hlt : k < 48
        · have j1 : (j : Int) < 64 := by omega
          have j0 : 16 ≤ (j : Int) := by omega
          obtain ⟨j2, h2⟩ : ∃ i, i = j - 2 := ⟨_, rfl⟩
          obtain ⟨j7, h7⟩ : ∃ i, i = j - 7 := ⟨_, rfl⟩
          obtain ⟨j15, h15⟩ : ∃ i, i = j - 15 := ⟨_, rfl⟩
          obtain ⟨j16, h16⟩ : ∃ i, i = j - 16 := ⟨_, rfl⟩
          have a2 : (j2 : Int) < 64 := by omega
          have a7 : (j7 : Int) < 64 := by omega
          have a15 : (j15 : Int) < 64 := by omega
          have a16 : (j16 : Int) < 64 := by omega
          have n2 : 0 ≤ (j2 : Int) := by omega
          have n7 : 0 ≤ (j7 : Int) := by omega
          have n15 : 0 ≤ (j15 : Int) := by omega
          have n16 : 0 ≤ (j16 : Int) := by omega
          have nj : 0 ≤ (j : Int) := by omega
          have m2 : IntKind.i64.wrap ((j : Int) - 2) = j2 := by rw [IntWalk.i64_in _ (by omega)]; omega
          have m7 : IntKind.i64.wrap ((j : Int) - 7) = j7 := by rw [IntWalk.i64_in _ (by omega)]; omega
          have m15 : IntKind.i64.wrap ((j : Int) - 15) = j15 := by rw [IntWalk.i64_in _ (by omega)]; omega
          have m16 : IntKind.i64.wrap ((j : Int) - 16) = j16 := by rw [IntWalk.i64_in _ (by omega)]; omega
          have d2 := x7.cell (i := j2) (by omega)
          have d7 := x7.cell (i := j7) (by omega)
          have d15 := x7.cell (i := j15) (by omega)
          have d16 := x7.cell (i := j16) (by omega)
          have w2 := hw _ (List.getElem_mem (show j2 < (schedM s k).length by omega))
          have w15 := hw _ (List.getElem_mem (show j15 < (schedM s k).length by omega))
          have hst : nextW (schedM s k) j = w32 (w32 (w32 ((schedM s k)[j16] + sg0 (schedM s k)[j15]) + (schedM s k)[j7]) + sg1 (schedM s k)[j2]) := by
            subst h2 h7 h15 h16
            simp only [nextW, List.getD_eq_getElem?_getD]
            rw [List.getElem?_eq_getElem (by omega), List.getElem?_eq_getElem (by omega), List.getElem?_eq_getElem (by omega), List.getElem?_eq_getElem (by omega)]
            rfl
          generalize (schedM s k)[j2] = x2 at *
          generalize (schedM s k)[j7] = z7 at *
          generalize (schedM s k)[j15] = x15 at *
          generalize (schedM s k)[j16] = x16 at *
          have HSS := Lib.hid hst
          have HL := Lib.hid hl
          have HJ := Lib.hid hj
          obtain ⟨v2, u2⟩ := w2
          obtain ⟨v15, u15⟩ := w15
          clear hw hst hl h2 h7 h15 h16 hj
          go_upto_region 9 with (fail)
          go_quiet (fail)
          go_upto_region 10 with (fail)
          have Dd : Below wr.heap.size wr (wr.drewN nq) := Below.drawn wr nq _
          replace x3 := BoxA.next x3 Dd
          replace x4 := x4.next Dd
          replace x6 := x6.next Dd
          replace x7 := x7.next Dd
          replace B0 := Below.on B0 Dd
          replace d7 := cell_kept Dd d7
          replace d16 := cell_kept Dd d16
          clear d2 d15 Dd m2 m15 a2 a15
          generalize wr.drewN nq = wq at *
          go_still_tail 29, (by kernel_rfl)
          still_call (rturn_7 x15 _ v15 u15)
          repeat still_step
          still_call (rturn_18 x15 _ v15 u15)
          repeat still_step
          still_call (rturn_17 x2 _ v2 u2)
          repeat still_step
          still_call (rturn_19 x2 _ v2 u2)
          repeat still_step
          refine wpStill_nil ?_
          have Dd : Below wq.heap.size wq wq.drew := Below.drawn wq 1 _
          replace x3 := BoxA.next x3 Dd
          replace x4 := x4.next Dd
          replace x6 := x6.next Dd
          replace x7 := x7.next Dd
          replace B0 := Below.on B0 Dd
          clear d7 d16 Dd
          change wpList _ _ _ _ _ wq.drew
          generalize wq.drew = wd at *
          have ck := x7.cell (i := j) (by rw [HL.out]; omega)
          have cf := x7.frozen j
          have bl := x7.lt
          have key : BoxA (wd.setCell ⟨g7, j, none⟩ (.int .u32 ((x16 + sg0 x15 + z7 + sg1 x2) % 4294967296))) g7 25 .u32 (schedM s (k + 1)) := by
            rw [← w32_four, ← HSS.out]
            have := x7.set j (nextW (schedM s k) j)
            rw [show schedM s (k + 1) = (schedM s k).set j (nextW (schedM s k) j) from by rw [HJ.out]; rfl]
            exact this
          have KEY := Lib.hid key
          clear HSS key
          go_wp2_with (fail)
          refine ⟨?_, by simp [intOf]; omega⟩
          repeat (first | exact ⟨⟨k + 1, j + 1, by omega, by have := HJ.out; omega, by go_num, BoxA.far x3 e37 _ _ _, x4.far e47 _ _ _, x6.far e67 _ _ _, KEY.out, B0.setCell (p := ⟨g7, j, none⟩) e7 _⟩, rfl⟩ | apply Exists.intro)
        · obtain rfl : k = 48 := by omega
          subst hj
          rw [HX.out] at x7 hl
          clear hw hlt
          have HXS2 := Lib.hid hx
          go_upto_region 12 with (first
            | (refine wpList_load_row rfl 24 (.tmp 4) rfl g4 rfl 24 (ints .u32 x) (0, 0) (.array 8 23) x4 (by kernel_rfl) rfl sz ?_)
            | (refine wpList_store_row rfl 24 (.tmp 12) (.tmp 93) rfl wr.heap.size (ints .u32 x) rfl rfl 24 (ints .u32 (List.replicate 8 0)) (heap_alloc_new _ _) sz (by rw [ints_size, ints_size, HXS2.out.1]; rfl) (ints_one _ _) ?_))
          obtain ⟨w3, hW⟩ : ∃ w3, World.setRow (World.alloc wr (.cells (ints .u32 (List.replicate 8 0)) 24)) wr.heap.size (ints .u32 x) = w3 := ⟨_, rfl⟩
          have b3 : Below wr.heap.size wr w3 := hW ▸ below_setRow (Below.new1 wr _) (Nat.le_refl _) _
          have v12 : BoxA w3 wr.heap.size 24 .u32 x := hW ▸ (BoxA.new wr _ _ (List.replicate 8 0) _ rfl).setRow
          have v3 := BoxA.next x3 b3
          have v4 := x4.next b3
          have v6 := x6.next b3
          have v7 := x7.next b3
          have Bv := Below.on B0 b3
          have n712 := x7.lt
          change Code.wp _ _ _ _ (World.setRow (World.alloc wr (.cells (ints .u32 (List.replicate 8 0)) 24)) wr.heap.size (ints .u32 x))
          rw [hW]
          obtain ⟨g12, hg12⟩ : ∃ g, wr.heap.size = g := ⟨_, rfl⟩
          rw [hg12] at v12 n712 ⊢
          have e3g : w.heap.size ≠ g12 := by omega
          have e4g : g4 ≠ g12 := by omega
          have e6g : g6 ≠ g12 := by omega
          have e7g : g7 ≠ g12 := by omega
          have eg : w.heap.size ≤ g12 := by omega
          clear hW b3 x3 x4 x6 x7 B0 hg12
          go_wp2_with (fail)
          go_loopw [13, 14, 15] (fun i _ _ W => ∃ k : Nat, k ≤ 64 ∧ i = .int .i64 k ∧ BoxW W w.heap.size ∧ BoxA W g4 24 .u32 x ∧ BoxA W g6 24 .u32 (List.replicate 8 0) ∧ BoxA W g7 25 .u32 X ∧ BoxA W g12 24 .u32 (roundsM kM X x k) ∧ Below w.heap.size w W) (fun i _ _ _ => 64 - (intOf i).toNat)
          case atStart => exact ⟨0, by decide, rfl, v3, v4, v6, v7, v12, Bv⟩
          case round =>
            clear v3 v4 v6 v7 v12 Bv
            obtain ⟨k, hk64, rfl, v3, v4, v6, v7, v12, Bv⟩ := hrel
            by_cases hlt : k < 64
            · have k1 : (k : Int) < 64 := by omega
              have k0 : 0 ≤ (k : Int) := by omega
              obtain ⟨xa, xb, xc, xd, xe, xf, xg, xh, hst, wa, wb, wc, wd', we, wf, wg, wh⟩ := list8 (roundsM_st kM X hx k)
              rw [hst] at v12
              obtain ⟨wk, hwk⟩ : ∃ y, X.getD k 0 = y := ⟨_, rfl⟩
              obtain ⟨kk, hkk⟩ : ∃ y, kM.getD k 0 = y := ⟨_, rfl⟩
              have HSR : Hid (roundsM kM X x (k + 1) = [w32 (t1M kk wk xe xf xg xh + t2M xa xb xc), xa, xb, xc, w32 (xd + t1M kk wk xe xf xg xh), xe, xf, xg]) := by
                show _ = _
                rw [roundsM, hst, hwk, hkk]; rfl
              have c0 := v12.cell (i := 0) (by simp)
              have c1 := v12.cell (i := 1) (by simp)
              have c2 := v12.cell (i := 2) (by simp)
              have c3 := v12.cell (i := 3) (by simp)
              have c4 := v12.cell (i := 4) (by simp)
              have c5 := v12.cell (i := 5) (by simp)
              have c6 := v12.cell (i := 6) (by simp)
              have c7 := v12.cell (i := 7) (by simp)
              have ck := v7.cellD (i := k) (by rw [HXL.out]; exact hlt)
              have cc := BoxA.cellD v3 (i := 8 + k) (by rw [wordsL_length]; omega)
              rw [words_k hlt, hkk] at cc
              rw [hwk] at ck
              simp only [List.getElem_cons_zero, List.getElem_cons_succ] at c0 c1 c2 c3 c4 c5 c6 c7
              clear hst hwk hkk hx
              go_upto_region 15 with (fail)
              go_quiet ((first | (go_at_call_of 91 (Value.int IntKind.i64 6); exact Calls.quiet_of_same (rturn_6 _ _ we.1 we.2)) | (go_at_call_of 91 (Value.int IntKind.i64 11); exact Calls.quiet_of_same (rturn_11 _ _ we.1 we.2)) | (go_at_call_of 91 (Value.int IntKind.i64 25); exact Calls.quiet_of_same (rturn_25 _ _ we.1 we.2))))
              go_upto_region 16 with (fail)
              have sgn : IntKind.u32.signed = false := rfl
              simp only [sgn, Bool.false_eq_true, if_false]
              clear sgn
              generalize hT1 : ((xh + bits .xor .u32 (bits .xor .u32 (rotr 6 xe) (rotr 11 xe)) (rotr 25 xe) + bits .xor .u32 (bits .and .u32 xe xf) (bits .and .u32 (bits .xor .u32 IntKind.u32.max xe) xg) + kk) % 4294967296 + wk) % 4294967296 = T1
              have Dd : Below wr.heap.size wr (wr.drewN nq) := Below.drawn wr nq _
              replace v3 := BoxA.next v3 Dd
              replace v4 := v4.next Dd
              replace v6 := v6.next Dd
              replace v7 := v7.next Dd
              replace v12 := v12.next Dd
              replace c0 := cell_kept Dd c0
              replace c1 := cell_kept Dd c1
              replace c2 := cell_kept Dd c2
              replace c3 := cell_kept Dd c3
              replace c4 := cell_kept Dd c4
              replace c5 := cell_kept Dd c5
              replace c6 := cell_kept Dd c6
              replace c7 := cell_kept Dd c7
              replace Bv := Below.on Bv Dd
              clear Dd
              generalize wr.drewN nq = wb0 at *
              go_quiet ((first | (go_at_call_of 91 (Value.int IntKind.i64 2); exact Calls.quiet_of_same (rturn_2 _ _ wa.1 wa.2)) | (go_at_call_of 91 (Value.int IntKind.i64 13); exact Calls.quiet_of_same (rturn_13 _ _ wa.1 wa.2)) | (go_at_call_of 91 (Value.int IntKind.i64 22); exact Calls.quiet_of_same (rturn_22 _ _ wa.1 wa.2))))
              go_upto_region 17 with (fail)
              generalize hT2 : (bits .xor .u32 (bits .xor .u32 (rotr 2 xa) (rotr 13 xa)) (rotr 22 xa) + bits .xor .u32 (bits .xor .u32 (bits .and .u32 xa xb) (bits .and .u32 xa xc)) (bits .and .u32 xb xc)) % 4294967296 = T2
              replace hT1 : t1M kk wk xe xf xg xh = T1 := by rw [← hT1, Int.emod_add_emod]; rfl
              replace hT2 : t2M xa xb xc = T2 := hT2
              have HS2 := Lib.hid HSR.out
              rw [hT1, hT2, w32_eq, w32_eq] at HS2
              clear HSR hT1 hT2
              have Dd : Below wb0.heap.size wb0 (wb0.drewN nq) := Below.drawn wb0 nq _
              replace v3 := BoxA.next v3 Dd
              replace v4 := v4.next Dd
              replace v6 := v6.next Dd
              replace v7 := v7.next Dd
              replace v12 := v12.next Dd
              replace c0 := cell_kept Dd c0
              replace c1 := cell_kept Dd c1
              replace c2 := cell_kept Dd c2
              replace c3 := cell_kept Dd c3
              replace c4 := cell_kept Dd c4
              replace c5 := cell_kept Dd c5
              replace c6 := cell_kept Dd c6
              replace c7 := cell_kept Dd c7
              replace Bv := Below.on Bv Dd
              clear Dd
              generalize wb0.drewN nq = wc0 at *
              have szb : (Tryd.prog.info? 24).map (·.size) = some 8 := by kernel_rfl
              clear ck cc
              have f0 := v12.frozen 0
              have f1 := v12.frozen 1
              have f2 := v12.frozen 2
              have f3 := v12.frozen 3
              have f4 := v12.frozen 4
              have f5 := v12.frozen 5
              have f6 := v12.frozen 6
              have f7 := v12.frozen 7
              go_wp2_with (fail)
              generalize hW8 : (World.setCell (World.setCell (World.setCell (World.setCell (World.setCell (World.setCell (World.setCell (World.setCell wc0 ⟨g12, 0, none⟩ _) ⟨g12, 1, none⟩ _) ⟨g12, 2, none⟩ _) ⟨g12, 3, none⟩ _) ⟨g12, 4, none⟩ _) ⟨g12, 5, none⟩ _) ⟨g12, 6, none⟩ _) ⟨g12, 7, none⟩ _) = W8
              obtain ⟨e6, e5, e4⟩ := set8 hW8 v12
              replace v12 := e6 rfl
              replace v3 := e5 _ _ _ _ e3g v3
              replace v4 := e5 _ _ _ _ e4g v4
              replace v6 := e5 _ _ _ _ e6g v6
              replace v7 := e5 _ _ _ _ e7g v7
              replace Bv := e4 _ _ eg Bv
              rw [← HS2.out] at v12
              clear hW8 e6 e5 e4
              exact ⟨⟨k + 1, by omega, by go_num, v3, v4, v6, v7, v12, Bv⟩, by simp [intOf]; omega⟩
            · obtain rfl : k = 64 := by omega
              rw [HY.out] at v12
              clear v7 hlt
              go_wp2_with (fail)
              go_loopw [16] (fun i W => ∃ k : Nat, k ≤ 8 ∧ i = .int .i64 k ∧ BoxA W g4 24 .u32 (addP x Y k) ∧ BoxA W g12 24 .u32 Y ∧ BoxA W g6 24 .u32 (List.replicate 8 0) ∧ Below w.heap.size w W) (fun i _ => 8 - (intOf i).toNat)
              case atStart => exact ⟨0, by decide, rfl, v4, v12, v6, Bv⟩
              case round =>
                clear v3 v4 v6 v12 Bv
                obtain ⟨k, hk8, rfl, v4, v12, v6, Bv⟩ := hrel
                by_cases hlt : k < 8
                · have k1 : (k : Int) < 8 := by omega
                  have k0 : 0 ≤ (k : Int) := by omega
                  have hl : (addP x Y k).length = 8 := by rw [addP_length]; exact HXS2.out.1
                  have e6 := v4.cell (i := k) (by omega)
                  have e2 := v12.cell (i := k) (by rw [HST.out.1]; omega)
                  have ff := v4.frozen k
                  have gY : (addP x Y k)[k] = x.getD k 0 := by
                    rw [List.getD_eq_getElem?_getD, ← addP_get x Y k k (Nat.le_refl _), List.getElem?_eq_getElem (by omega)]; rfl
                  have gx : Y[k]'(by rw [HST.out.1]; omega) = Y.getD k 0 := by
                    rw [List.getD_eq_getElem?_getD, List.getElem?_eq_getElem (by rw [HST.out.1]; omega)]; rfl
                  rw [gY] at e6
                  rw [gx] at e2
                  clear hl gY gx
                  generalize hq : x.getD k 0 = y1 at *
                  generalize hp : Y.getD k 0 = y2 at *
                  have HQ := Lib.hid hq
                  have HP := Lib.hid hp
                  clear hq hp
                  go_upto_region 21 with (fail)
                  go_still_tail 8, (by kernel_rfl)
                  have Dd : Below wr.heap.size wr wr.drew := Below.drawn wr 1 _
                  replace v4 := v4.next Dd
                  replace v12 := v12.next Dd
                  replace v6 := v6.next Dd
                  replace Bv := Below.on Bv Dd
                  change wpList _ _ _ _ _ wr.drew
                  generalize wr.drew = wd at *
                  have ff := v4.frozen k
                  have cc := v4.cell (i := k) (by rw [addP_length]; have := HXS2.out.1; omega)
                  have key := v4.set k (w32 (y1 + y2))
                  rw [← HQ.out, ← HP.out, show (addP x Y k).set k (w32 (x.getD k 0 + Y.getD k 0)) = addP x Y (k + 1) from rfl, w32_eq, HQ.out, HP.out] at key
                  have KEY := Lib.hid key
                  clear key
                  go_wp2_with (fail)
                  refine ⟨?_, by simp [intOf]; omega⟩
                  have e412 : g12 ≠ g4 := Ne.symm e4g
                  have e64 : g6 ≠ g4 := by omega
                  have e4w : w.heap.size ≤ g4 := by omega
                  repeat (first | exact ⟨⟨k + 1, by omega, by go_num, KEY.out, v12.far e412 _ _ _, v6.far e64 _ _ _, Bv.setCell (p := ⟨g4, k, none⟩) e4w _⟩, rfl⟩ | apply Exists.intro)
                · obtain rfl : k = 8 := by omega
                  have hl : (addP x Y 8).length = 8 := by rw [addP_length]; exact HXS2.out.1
                  obtain ⟨Z, hZ⟩ : ∃ Z, addP x Y 8 = Z := ⟨_, rfl⟩
                  rw [hZ] at v4 hl
                  have szZ : (Tryd.prog.info? 24).map (·.size) = some (ints .u32 Z).size := by rw [ints_size, hl]; kernel_rfl
                  have sxZ : (ints .u32 (List.replicate 8 0)).size = (ints .u32 Z).size := by rw [ints_size, ints_size, hl]; rfl
                  have HZ := Lib.hid hZ
                  have e6w : w.heap.size ≤ g6 := by omega
                  clear hZ hl
                  go_wp2_with (first
                    | (refine wpList_load_row rfl 24 (.tmp 4) rfl g4 rfl 24 (ints .u32 Z) (0, 0) (.array 8 23) v4 (by kernel_rfl) rfl szZ ?_)
                    | (refine wpList_store_row rfl 24 (.tmp 6) (.tmp 195) rfl g6 (ints .u32 Z) rfl rfl 24 _ v6 szZ sxZ (ints_one _ _) ?_))
                  exact bodyPost_ret (v := .agg (ints .u32 Z)) (results_cell_row (p := 6) (ty := 24) rfl _ _ g6 24 (ints .u32 Z) (0, 0) (.array 8 23) rfl v6.setRow (by kernel_rfl) rfl szZ) rfl ⟨by rw [HZ.out], below_setRow Bv e6w _⟩
end Go.Proofs.YtcocengpekndjaaDoor
