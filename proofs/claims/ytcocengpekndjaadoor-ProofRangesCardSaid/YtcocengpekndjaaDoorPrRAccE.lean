/- The walk over AcceptRange of the reference: ends that do not fit. -/
import Derived.Test.YtcocengpekndjaaDoorPrRAccH
import Derived.Test.YtcocengpekndjaaDoorPrRAcc
namespace Go.Proofs.YtcocengpekndjaaDoor
open Go.RowKit
set_option maxRecDepth 100000 in
set_option maxHeartbeats 4000000 in
theorem rracc_ends (root : Bs) (lo hi : Int) (R : List Rn) (a : Addr) (n c : Nat) (f N : Nat) (size : Int) (PA : Option Addr) (pn pc : Nat) (w : World) (hn : R.length = n) (hh : Head lo hi n f N size) (hR : Runs w (some a) R) (hC : Chain R R.length) (hE : ∀ (h : R ≠ []), ¬ Ends lo hi (R.head h) (R.getLast h) n f N size) :
    Calls Tryd.prog 24 #[wordsV, hashV root, .int .i64 lo, .int .i64 hi, claimV (some a) n c f N size PA pn pc] w fun e w' => e = .returned (.bool false) ∧ Below w.heap.size w w' := by
  obtain ⟨h0, h1, h2, h3, h4, h5, h6, h7, h8⟩ := hh
  have HN := Lib.hid hn
  have HC := Lib.hid hC
  have HE := Lib.hid hE
  clear hC hE
  have n0 : ((n : Int) == 0) = false := by simp; omega
  have n1 : 0 < (n : Int) := by omega
  have n5 : n ≤ 5000 := by omega
  have n6 : f ≤ 5000 := by omega
  have j1 : ¬ (f : Int) < 0 := by omega
  have j2 : ¬ (4096 : Int) < N := by omega
  have j3 : ¬ (N : Int) < n := by omega
  have j4 : ¬ (N : Int) - n < f := by omega
  have hw : IntKind.i64.wrap ((N : Int) - (n : Int)) = N - n := IntWalk.i64_in _ (by omega)
  clear hn h4 h5 h6 h7 h8
  obtain ⟨w0, hW0⟩ : ∃ w0, World.alloc (World.alloc (w.alloc (.cells (ints .u32 wordsL) 27)) (.cells (cellsB root).toArray 30)) (.cells #[.slice (some a) n c, .int .i64 f, .int .i64 N, .int .i64 size, .slice PA pn pc] 43) = w0 := ⟨_, rfl⟩
  have B0 : Below w.heap.size w w0 := hW0 ▸ Below.on (Below.on (Below.new1 _ _) (Below.new1 _ _)) (Below.new1 _ _)
  have y5 : BoxW w0 w.heap.size := hW0 ▸ ((BoxW.new w).next (Below.new1 _ _)).next (Below.new1 _ _)
  have y6 : BoxH w0 (w.heap.size + 1) root := by
    have := (BoxH.new (w.alloc (.cells (ints .u32 wordsL) 27)) root).next (Below.new1 _ (.cells #[.slice (some a) n c, .int .i64 f, .int .i64 N, .int .i64 size, .slice PA pn pc] 43))
    rw [World.size_alloc] at this; exact hW0 ▸ this
  have x9 : BoxC w0 (w.heap.size + 1 + 1) (some a) n c f N size PA pn pc := by
    have := BoxC.new ((w.alloc (.cells (ints .u32 wordsL) 27)).alloc (.cells (cellsB root).toArray 30)) (some a) n c f N size PA pn pc
    rw [World.size_alloc, World.size_alloc] at this; exact hW0 ▸ this
  have c0 := x9.c0
  have c1 := x9.c1
  have c2 := x9.c2
  have c3 := x9.c3
  have c4 := x9.c4
  have HO := Lib.hid hW0
  clear hW0
  go_enter Tryd.func24, Tryd.ntmps24
  go_upto_region 1 with (fail)
  change Code.wp _ _ _ _ (World.alloc (World.alloc (w.alloc (.cells (ints .u32 wordsL) 27)) (.cells (cellsB root).toArray 30)) (.cells #[.slice (some a) n c, .int .i64 f, .int .i64 N, .int .i64 size, .slice PA pn pc] 43))
  rw [HO.out]
  clear HO
  go_upto_region 2 with (fail)
  try simp only [List.append_eq, List.cons_append, List.nil_append]
  go_wp2_with (fail)
  clear hw j1 j2 j3 j4 c0 c1 c2 c3 c4 n0 h2 h3
  go_loopw [12, 13] (fun i _ W => ∃ k : Nat, k ≤ n ∧ i = .int .i64 k ∧ Below w.heap.size w W ∧ BoxC W (w.heap.size + 1 + 1) (some a) n c f N size PA pn pc ∧ BoxW W w.heap.size ∧ BoxH W (w.heap.size + 1) root) (fun i _ _ => n - (intOf i).toNat)
  case atStart => exact ⟨0, Nat.zero_le _, rfl, B0, x9, y5, y6⟩
  case round =>
    obtain ⟨k, hkn, rfl, hBw, y9, v5, v6⟩ := hrel
    clear x9 B0 w0 y5 y6
    by_cases hlt : k < n
    · have hkL : k < R.length := by have := HN.out; omega
      obtain ⟨hab, g0, g1, g2⟩ := (hR.below hBw).at_ hkL
      have k0 : (0 : Int) ≤ (k : Int) := by omega
      have k1 : (k : Int) < (n : Int) := by omega
      obtain ⟨o1, o2, o3, o4⟩ := HC.out k hkL hkL
      have hyp : Hid (∀ Y, prevR R k = some Y → 0 < k ∧ RunAt wr (a.add ((k - 1) * 3)) Y) := Lib.hid fun Y hY => by
        unfold prevR at hY
        split at hY
        · cases hY
        · have hk1 : k - 1 < R.length := by omega
          rw [List.getElem?_eq_getElem hk1] at hY
          cases hY
          exact ⟨by omega, ((hR.below hBw).at_ hk1).2⟩
      have hnp : Hid (prevR R k = none → k = 0) := Lib.hid fun hY => by
        unfold prevR at hY
        split at hY
        · assumption
        · rw [List.getElem?_eq_getElem (by omega)] at hY; cases hY
      generalize hpv : prevR R k = pv at *
      generalize R[k] = X at *
      have O4 := Lib.hid o4
      clear o4
      have d0 := y9.c0
      clear hpv
      go_upto_region 8 with (fail)
      try simp only [List.append_eq, List.cons_append, List.nil_append]
      obtain ⟨W1, hW1⟩ : ∃ W1, World.alloc wr (Obj.cells #[.int .i64 X.lo, .int .i64 X.hi, .int .i64 X.tag] 34) = W1 := ⟨_, rfl⟩
      have b1 : Below wr.heap.size wr W1 := hW1 ▸ Below.new1 _ _
      have z13 : BoxRun W1 wr.heap.size X.lo X.hi X.tag := hW1 ▸ BoxRun.new wr _ _ _
      change Code.wp _ _ _ _ (World.alloc wr (Obj.cells #[.int .i64 X.lo, .int .i64 X.hi, .int .i64 X.tag] 34))
      rw [hW1]
      clear hW1 g0 g1 g2 d0
      have z9 := y9.next b1
      have z5 : BoxW W1 w.heap.size := BoxA.next v5 b1
      have z6 : BoxH W1 (w.heap.size + 1) root := BoxA.next v6 b1
      have zB := Below.on hBw b1
      have e0 := z13.c0
      have e1 := z13.c1
      have e2 := z13.c2
      have d0 := z9.c0
      have t2 : decide (X.tag < 0) = false := by simp; omega
      have t3 : decide (16 ≤ X.tag) = false := by simp; omega
      have t1 : decide (X.hi ≤ X.lo) = false := by simp; omega
      cases hpv : pv with
      | none =>
        obtain rfl := hnp.out hpv
        go_quiet (fail)
        go_wp2_with (fail)
        exact ⟨⟨0 + 1, by omega, by go_num, Below.on zB (Below.drawn W1 _ _), z9.next (Below.drawn W1 _ _), BoxA.next z5 (Below.drawn W1 _ _), BoxA.next z6 (Below.drawn W1 _ _)⟩, by simp [intOf]; omega⟩
      | some Y =>
        obtain ⟨hk0, q0, q1, q2⟩ := hyp.out Y hpv
        replace q0 := cell_kept b1 q0
        replace q1 := cell_kept b1 q1
        replace q2 := cell_kept b1 q2
        obtain ⟨c4, c5⟩ := O4.out Y hpv
        have HPV := Lib.hid hpv
        have kp : decide (0 < (k : Int)) = true := by simp; omega
        have kp' : 0 < (k : Int) := by omega
        have mk : IntKind.i64.wrap ((k : Int) - 1) = ((k - 1 : Nat) : Int) := by rw [IntWalk.i64_in _ (by omega)]; omega
        have mk0 : 0 ≤ ((k - 1 : Nat) : Int) := by omega
        have mk1 : ((k - 1 : Nat) : Int) < n := by omega
        clear hpv
        obtain ⟨j, hj⟩ : ∃ j, k - 1 = j := ⟨_, rfl⟩
        rw [hj] at mk mk0 mk1 q0 q1 q2
        clear hj
        have t4 : (X.lo != Y.hi) = false := by simpa using c4
        have t5 : (X.tag == Y.tag) = false := by simpa using c5
        clear c4 c5
        go_quiet (fail)
        go_wp2_with (fail)
        exact ⟨⟨k + 1, by omega, by go_num, Below.on zB (Below.drawn W1 _ _), z9.next (Below.drawn W1 _ _), BoxA.next z5 (Below.drawn W1 _ _), BoxA.next z6 (Below.drawn W1 _ _)⟩, by simp [intOf]; omega⟩
    · obtain rfl : k = n := by omega
      have hL0 : 0 < R.length := by have := HN.out; omega
      have hne : R ≠ [] := by rintro rfl; simp at hL0
      have hF : R[0] = R.head hne := by rw [List.head_eq_getElem]
      have hZ : R[k - 1]'(by have := HN.out; omega) = R.getLast hne := by rw [List.getLast_eq_getElem]; simp [HN.out]
      obtain ⟨hab, f0, f1, f2⟩ := (hR.below hBw).at_ hL0
      obtain ⟨_, l0, l1, l2⟩ := (hR.below hBw).at_ (show k - 1 < R.length by have := HN.out; omega)
      have HRq := Lib.hid (hR.below hBw)
      rw [hF] at f0 f1 f2
      rw [hZ] at l0 l1 l2
      have hE := HE.out hne
      rw [show a.add (0 * 3) = a from by simp [Addr.add]] at f0 f1 f2
      generalize R.head hne = F at *
      generalize R.getLast hne = Z at *
      have mk : IntKind.i64.wrap ((k : Int) - 1) = ((k - 1 : Nat) : Int) := by rw [IntWalk.i64_in _ (by omega)]; omega
      have mk0 : 0 ≤ ((k - 1 : Nat) : Int) := by omega
      have mk1 : ((k - 1 : Nat) : Int) < k := by omega
      obtain ⟨j, hj⟩ : ∃ j, k - 1 = j := ⟨_, rfl⟩
      rw [hj] at mk mk0 mk1 l0 l1 l2
      have d0 := y9.c0
      clear hj hF hZ
      go_upto_region 10 with (fail)
      have MK := Lib.hid mk
      go_cut [14, 15] from 123 to 132 (fun u v W => ∃ i j, u = .pointer (some ⟨i, 0, none⟩) ∧ v = .pointer (some ⟨j, 0, none⟩) ∧ BoxRun W i F.lo F.hi F.tag ∧ BoxRun W j Z.lo Z.hi Z.tag ∧ Below wr.heap.size wr W)
      case first =>
        have kp : 0 < k := by omega
        have jk : j < k := by omega
        have KS : Hid (∀ W, Below wr.heap.size wr W → W.cell? ⟨w.heap.size + 1 + 1, 0, none⟩ = some (.slice (some a) k c) ∧ W.cell? a = some (.int .i64 F.lo) ∧ W.cell? ⟨a.block, a.off + 1, none⟩ = some (.int .i64 F.hi) ∧ W.cell? ⟨a.block, a.off + 2, none⟩ = some (.int .i64 F.tag) ∧
            W.cell? (a.add (j * 3)) = some (.int .i64 Z.lo) ∧ W.cell? ⟨(a.add (j * 3)).block, (a.add (j * 3)).off + 1, none⟩ = some (.int .i64 Z.hi) ∧ W.cell? ⟨(a.add (j * 3)).block, (a.add (j * 3)).off + 2, none⟩ = some (.int .i64 Z.tag)) :=
          Lib.hid fun W h => ⟨cell_kept h d0, cell_kept h f0, cell_kept h f1, cell_kept h f2, cell_kept h l0, cell_kept h l1, cell_kept h l2⟩
        go_region_held3 (fun W => W.cell? ⟨w.heap.size + 1 + 1, 0, none⟩ = some (.slice (some a) k c) ∧ W.cell? a = some (.int .i64 F.lo) ∧ W.cell? ⟨a.block, a.off + 1, none⟩ = some (.int .i64 F.hi) ∧ W.cell? ⟨a.block, a.off + 2, none⟩ = some (.int .i64 F.tag) ∧
            W.cell? (a.add (j * 3)) = some (.int .i64 Z.lo) ∧ W.cell? ⟨(a.add (j * 3)).block, (a.add (j * 3)).off + 1, none⟩ = some (.int .i64 Z.hi) ∧ W.cell? ⟨(a.add (j * 3)).block, (a.add (j * 3)).off + 2, none⟩ = some (.int .i64 Z.tag))
          ((refine KS.out _ ?_; repeat' (first | with_reducible exact Below.refl _ _ | refine Below.drew ?_ | refine below_alloc' ?_ _ | refine below_set' ?_ (by first | exact Nat.le_refl _ | exact Nat.le_succ _) _))) (fail)
        all_goals
          go_wp2_with (fail)
          go_meet
          first
            | exact ⟨_, _, rfl, rfl, (two_runs wr F.lo F.hi F.tag Z.lo Z.hi Z.tag).1, (two_runs wr F.lo F.hi F.tag Z.lo Z.hi Z.tag).2.1, (two_runs wr F.lo F.hi F.tag Z.lo Z.hi Z.tag).2.2⟩
            | exact ⟨_, _, rfl, rfl, (two_runs wr Z.lo Z.hi Z.tag F.lo F.hi F.tag).2.1, (two_runs wr Z.lo Z.hi Z.tag F.lo F.hi F.tag).1, (two_runs wr Z.lo Z.hi Z.tag F.lo F.hi F.tag).2.2⟩
      case rest =>
        obtain ⟨i, j', rfl, rfl, zF, zZ, bc⟩ := hcut
        clear mk mk0 mk1 l0 l1 l2 f0 f1 f2 d0
        have zB := Below.on hBw bc
        have z9 := y9.next bc
        have z5 := BoxA.next v5 bc
        have z6 := BoxA.next v6 bc
        have HRr := Lib.hid (HRq.out.below bc)
        have g0 := z9.c0
        have g1 := z9.c1
        have g2 := z9.c2
        have g3 := z9.c3
        have g4 := z9.c4
        have p0 := zF.c0
        have p1 := zF.c1
        have q0 := zZ.c0
        have q1 := zZ.c1
        clear zF zZ y9 hBw hab v5 v6 HRq MK hR
        have m0 : IntKind.i64.wrap ((f : Int) + (k : Int)) = f + k := IntWalk.i64_in _ (by omega)
        have key : F.lo < 0 ∨ (¬ F.lo < 0 ∧ lo < F.lo) ∨ (¬ F.lo < 0 ∧ ¬ lo < F.lo ∧ F.hi ≤ lo) ∨ (¬ F.lo < 0 ∧ ¬ lo < F.lo ∧ ¬ F.hi ≤ lo ∧ size < Z.hi) ∨ (¬ F.lo < 0 ∧ ¬ lo < F.lo ∧ ¬ F.hi ≤ lo ∧ ¬ size < Z.hi ∧ Z.hi < hi) ∨ (¬ F.lo < 0 ∧ ¬ lo < F.lo ∧ ¬ F.hi ≤ lo ∧ ¬ size < Z.hi ∧ ¬ Z.hi < hi ∧ hi ≤ Z.lo) ∨
            ((¬ F.lo < 0 ∧ ¬ lo < F.lo ∧ ¬ F.hi ≤ lo ∧ ¬ size < Z.hi ∧ ¬ Z.hi < hi ∧ ¬ hi ≤ Z.lo) ∧ (¬ (F.lo = 0 ↔ (f : Int) = 0) ∨ ((F.lo = 0 ↔ (f : Int) = 0) ∧ ¬ (Z.hi = size ↔ (f : Int) + k = N)))) := by
          unfold Ends at hE; omega
        clear hE
        rcases key with r0 | ⟨r0, r1⟩ | ⟨r0, r1, r2⟩ | ⟨r0, r1, r2, r3⟩ | ⟨r0, r1, r2, r3, r4⟩ | ⟨r0, r1, r2, r3, r4, r5⟩ | ⟨⟨r0, r1, r2, r3, r4, r5⟩, r6 | ⟨r6, r7⟩⟩
        · go_wp2_with (fail)
          go_ret
          exact ⟨rfl, zB⟩
        · go_wp2_with (fail)
          go_ret
          exact ⟨rfl, zB⟩
        · go_wp2_with (fail)
          go_ret
          exact ⟨rfl, zB⟩
        · go_wp2_with (fail)
          go_ret
          exact ⟨rfl, zB⟩
        · go_wp2_with (fail)
          go_ret
          exact ⟨rfl, zB⟩
        · go_wp2_with (fail)
          go_ret
          exact ⟨rfl, zB⟩
        · obtain ⟨b1, hb1⟩ : ∃ b, (F.lo == 0) = b := ⟨_, rfl⟩
          have hb2 : ((f : Int) == 0) = !b1 := by rw [← hb1]; exact not_iff_bne r6
          have hbb : (b1 != !b1) = true := by cases b1 <;> rfl
          clear r6
          go_wp2_with (fail)
          go_ret
          exact ⟨rfl, zB⟩
        · obtain ⟨b1, hb1⟩ : ∃ b, (F.lo == 0) = b := ⟨_, rfl⟩
          have hb2 : ((f : Int) == 0) = b1 := by rw [← hb1]; exact iff_beq r6
          have hbb : (b1 != b1) = false := by cases b1 <;> rfl
          obtain ⟨b3, hb3⟩ : ∃ b, (Z.hi == size) = b := ⟨_, rfl⟩
          have hb4 : ((f : Int) + (k : Int) == N) = !b3 := by rw [← hb3]; exact not_iff_bne r7
          have hbb' : (b3 != !b3) = true := by cases b3 <;> rfl
          clear r6 r7
          go_wp2_with (fail)
          go_ret
          exact ⟨rfl, zB⟩
end Go.Proofs.YtcocengpekndjaaDoor
