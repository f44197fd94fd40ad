/- The walk over AcceptRange of the reference: what it takes. -/
import Derived.Test.YtcocengpekndjaaDoorPrRAccH
import Derived.Test.YtcocengpekndjaaDoorPrRAcc
namespace Go.Proofs.YtcocengpekndjaaDoor
open Go.RowKit
set_option maxRecDepth 100000 in
set_option maxHeartbeats 4000000 in
theorem rracc_both (root : Bs) (lo hi : Int) (R : List Rn) (ad : Addr) (n c : Nat) (f N : Nat) (size : Int) (PA : Option Addr) (pn pc : Nat) (w : World) (hn : R.length = n) (hh : Head lo hi n f N size) (hR : Runs w (some ad) R) (hC : Chain R R.length) (hE : ∀ (h : R ≠ []), Ends lo hi (R.head h) (R.getLast h) n f N size) (path : List Bs) (hr : root.length = 32) (hs : Hs w PA path) (hpn : path.length = pn) (hpc : pn ≤ pc) (hp5 : pn ≤ 5000) (x1 : Bs) (u : Nat) (ok : Bool) (hF : foldR N f (R.map textM) path = (x1, u, ok)) (B : Bool) (hB : (ok && u == pn && root == sealM size N x1) = B) :
    Calls Tryd.prog 24 #[wordsV, hashV root, .int .i64 lo, .int .i64 hi, claimV (some ad) n c f N size PA pn pc] w fun e w' => e = .returned (.bool B) ∧ Below w.heap.size w w' := by
  obtain ⟨h0, h1, h2, h3, h4, h5, h6, h7, h8⟩ := hh
  have HN := Lib.hid hn
  have hSd : Sound lo hi R f N size := ⟨by rw [hn]; exact ⟨h0, h1, h2, h3, h4, h5, h6, h7, h8⟩, hC, fun h => by rw [hn]; exact hE h⟩
  have hfit := hSd.fit
  have r32 := foldR_32 N N f (R.map textM) path (Nat.le_refl _) hs.1
  have hlm : (R.map textM).length = n := by rw [List.length_map, hn]
  have htl : ∀ s ∈ R.map textM, s.length ≤ 90000 := fun s hs => by
    obtain ⟨x, _, rfl⟩ := List.mem_map.1 hs
    rw [textM_length]; decide
  have hfo := fun A1 c1 W (hc1 : n ≤ c1) (hS : Strs W A1 (R.map textM)) (hs : Hs W PA path) => rfold_any N f (R.map textM) path A1 PA n c1 pn pc W (by omega) (by omega) (by omega) (by omega) hlm hc1 (by omega) hpn hpc hp5 htl hS hs
  rw [hF] at hfo r32
  obtain ⟨la, lu⟩ := r32
  simp only at la lu
  have HFO := Lib.hid hfo
  have HLE := Lib.hid (fun W (h : Runs W (some ad) R) => rleaves_any R (some ad) n c W hn h hfit (by omega))
  have HMP := Lib.hid (fun W => rmap_any size N x1 W (by omega) (by omega) (by omega) (by omega) la)
  have sl : (sealM size N x1).length = 32 := sha_length _
  generalize sealM size N x1 = y at *
  obtain ⟨b4, hb4⟩ : ∃ b, (root == y) = b := ⟨_, rfl⟩
  rw [hb4] at hB
  have HEQ := Lib.hid (fun W => eq_hash hr sl b4 hb4 W)
  have HLM := Lib.hid hlm
  have HPS := Lib.hid hs
  have HR := Lib.hid hr
  have HLA := Lib.hid la
  have HBV := Lib.hid hB
  have HC := Lib.hid hC
  have HE := Lib.hid hE
  clear hC hE hSd hfit hlm htl hfo hs hr hpn hpc hp5 sl hb4 hF la hB
  have n0 : ((n : Int) == 0) = false := by simp; omega
  have n1 : 0 < (n : Int) := by omega
  have n5 : n ≤ 5000 := by omega
  have n6 : f ≤ 5000 := by omega
  have j1 : ¬ (f : Int) < 0 := by omega
  have j2 : ¬ (4096 : Int) < N := by omega
  have j3 : ¬ (N : Int) < n := by omega
  have j4 : ¬ (N : Int) - n < f := by omega
  have hw : IntKind.i64.wrap ((N : Int) - (n : Int)) = N - n := IntWalk.i64_in _ (by omega)
  clear hn h4 h5 h6 h7 h8
  obtain ⟨w0, hW0⟩ : ∃ w0, World.alloc (World.alloc (w.alloc (.cells (ints .u32 wordsL) 27)) (.cells (cellsB root).toArray 30)) (.cells #[.slice (some ad) n c, .int .i64 f, .int .i64 N, .int .i64 size, .slice PA pn pc] 43) = w0 := ⟨_, rfl⟩
  have B0 : Below w.heap.size w w0 := hW0 ▸ Below.on (Below.on (Below.new1 _ _) (Below.new1 _ _)) (Below.new1 _ _)
  have y5 : BoxW w0 w.heap.size := hW0 ▸ ((BoxW.new w).next (Below.new1 _ _)).next (Below.new1 _ _)
  have y6 : BoxH w0 (w.heap.size + 1) root := by
    have := (BoxH.new (w.alloc (.cells (ints .u32 wordsL) 27)) root).next (Below.new1 _ (.cells #[.slice (some ad) n c, .int .i64 f, .int .i64 N, .int .i64 size, .slice PA pn pc] 43))
    rw [World.size_alloc] at this; exact hW0 ▸ this
  have x9 : BoxC w0 (w.heap.size + 1 + 1) (some ad) n c f N size PA pn pc := by
    have := BoxC.new ((w.alloc (.cells (ints .u32 wordsL) 27)).alloc (.cells (cellsB root).toArray 30)) (some ad) n c f N size PA pn pc
    rw [World.size_alloc, World.size_alloc] at this; exact hW0 ▸ this
  have c0 := x9.c0
  have c1 := x9.c1
  have c2 := x9.c2
  have c3 := x9.c3
  have c4 := x9.c4
  have HO := Lib.hid hW0
  clear hW0
  go_enter Tryd.func24, Tryd.ntmps24
  go_upto_region 1 with (fail)
  change Code.wp _ _ _ _ (World.alloc (World.alloc (w.alloc (.cells (ints .u32 wordsL) 27)) (.cells (cellsB root).toArray 30)) (.cells #[.slice (some ad) n c, .int .i64 f, .int .i64 N, .int .i64 size, .slice PA pn pc] 43))
  rw [HO.out]
  clear HO
  go_upto_region 2 with (fail)
  try simp only [List.append_eq, List.cons_append, List.nil_append]
  go_wp2_with (fail)
  clear hw j1 j2 j3 j4 c0 c1 c2 c3 c4 n0 h2 h3
  go_loopw [12, 13] (fun i _ W => ∃ k : Nat, k ≤ n ∧ i = .int .i64 k ∧ Below w.heap.size w W ∧ BoxC W (w.heap.size + 1 + 1) (some ad) n c f N size PA pn pc ∧ BoxW W w.heap.size ∧ BoxH W (w.heap.size + 1) root) (fun i _ _ => n - (intOf i).toNat)
  case atStart => exact ⟨0, Nat.zero_le _, rfl, B0, x9, y5, y6⟩
  case round =>
    obtain ⟨k, hkn, rfl, hBw, y9, v5, v6⟩ := hrel
    clear x9 B0 w0 y5 y6
    by_cases hlt : k < n
    · have hkL : k < R.length := by have := HN.out; omega
      obtain ⟨hab, g0, g1, g2⟩ := (hR.below hBw).at_ hkL
      have k0 : (0 : Int) ≤ (k : Int) := by omega
      have k1 : (k : Int) < (n : Int) := by omega
      obtain ⟨o1, o2, o3, o4⟩ := HC.out k hkL hkL
      have hyp : Hid (∀ Y, prevR R k = some Y → 0 < k ∧ RunAt wr (ad.add ((k - 1) * 3)) Y) := Lib.hid fun Y hY => by
        unfold prevR at hY
        split at hY
        · cases hY
        · have hk1 : k - 1 < R.length := by omega
          rw [List.getElem?_eq_getElem hk1] at hY
          cases hY
          exact ⟨by omega, ((hR.below hBw).at_ hk1).2⟩
      have hnp : Hid (prevR R k = none → k = 0) := Lib.hid fun hY => by
        unfold prevR at hY
        split at hY
        · assumption
        · rw [List.getElem?_eq_getElem (by omega)] at hY; cases hY
      generalize hpv : prevR R k = pv at *
      generalize R[k] = X at *
      have O4 := Lib.hid o4
      clear o4
      have d0 := y9.c0
      clear hpv
      go_upto_region 8 with (fail)
      try simp only [List.append_eq, List.cons_append, List.nil_append]
      obtain ⟨W1, hW1⟩ : ∃ W1, World.alloc wr (Obj.cells #[.int .i64 X.lo, .int .i64 X.hi, .int .i64 X.tag] 34) = W1 := ⟨_, rfl⟩
      have b1 : Below wr.heap.size wr W1 := hW1 ▸ Below.new1 _ _
      have z13 : BoxRun W1 wr.heap.size X.lo X.hi X.tag := hW1 ▸ BoxRun.new wr _ _ _
      change Code.wp _ _ _ _ (World.alloc wr (Obj.cells #[.int .i64 X.lo, .int .i64 X.hi, .int .i64 X.tag] 34))
      rw [hW1]
      clear hW1 g0 g1 g2 d0
      have z9 := y9.next b1
      have z5 : BoxW W1 w.heap.size := BoxA.next v5 b1
      have z6 : BoxH W1 (w.heap.size + 1) root := BoxA.next v6 b1
      have zB := Below.on hBw b1
      have e0 := z13.c0
      have e1 := z13.c1
      have e2 := z13.c2
      have d0 := z9.c0
      have t2 : decide (X.tag < 0) = false := by simp; omega
      have t3 : decide (16 ≤ X.tag) = false := by simp; omega
      have t1 : decide (X.hi ≤ X.lo) = false := by simp; omega
      cases hpv : pv with
      | none =>
        obtain rfl := hnp.out hpv
        go_quiet (fail)
        go_wp2_with (fail)
        exact ⟨⟨0 + 1, by omega, by go_num, Below.on zB (Below.drawn W1 _ _), z9.next (Below.drawn W1 _ _), BoxA.next z5 (Below.drawn W1 _ _), BoxA.next z6 (Below.drawn W1 _ _)⟩, by simp [intOf]; omega⟩
      | some Y =>
        obtain ⟨hk0, q0, q1, q2⟩ := hyp.out Y hpv
        replace q0 := cell_kept b1 q0
        replace q1 := cell_kept b1 q1
        replace q2 := cell_kept b1 q2
        obtain ⟨c4, c5⟩ := O4.out Y hpv
        have HPV := Lib.hid hpv
        have kp : decide (0 < (k : Int)) = true := by simp; omega
        have kp' : 0 < (k : Int) := by omega
        have mk : IntKind.i64.wrap ((k : Int) - 1) = ((k - 1 : Nat) : Int) := by rw [IntWalk.i64_in _ (by omega)]; omega
        have mk0 : 0 ≤ ((k - 1 : Nat) : Int) := by omega
        have mk1 : ((k - 1 : Nat) : Int) < n := by omega
        clear hpv
        obtain ⟨j, hj⟩ : ∃ j, k - 1 = j := ⟨_, rfl⟩
        rw [hj] at mk mk0 mk1 q0 q1 q2
        clear hj
        have t4 : (X.lo != Y.hi) = false := by simpa using c4
        have t5 : (X.tag == Y.tag) = false := by simpa using c5
        clear c4 c5
        go_quiet (fail)
        go_wp2_with (fail)
        exact ⟨⟨k + 1, by omega, by go_num, Below.on zB (Below.drawn W1 _ _), z9.next (Below.drawn W1 _ _), BoxA.next z5 (Below.drawn W1 _ _), BoxA.next z6 (Below.drawn W1 _ _)⟩, by simp [intOf]; omega⟩
    · obtain rfl : k = n := by omega
      have hL0 : 0 < R.length := by have := HN.out; omega
      have hne : R ≠ [] := by rintro rfl; simp at hL0
      have hF : R[0] = R.head hne := by rw [List.head_eq_getElem]
      have hZ : R[k - 1]'(by have := HN.out; omega) = R.getLast hne := by rw [List.getLast_eq_getElem]; simp [HN.out]
      obtain ⟨hab, f0, f1, f2⟩ := (hR.below hBw).at_ hL0
      obtain ⟨_, l0, l1, l2⟩ := (hR.below hBw).at_ (show k - 1 < R.length by have := HN.out; omega)
      have HRq := Lib.hid (hR.below hBw)
      rw [hF] at f0 f1 f2
      rw [hZ] at l0 l1 l2
      have hE := HE.out hne
      rw [show ad.add (0 * 3) = ad from by simp [Addr.add]] at f0 f1 f2
      generalize R.head hne = F at *
      generalize R.getLast hne = Z at *
      have mk : IntKind.i64.wrap ((k : Int) - 1) = ((k - 1 : Nat) : Int) := by rw [IntWalk.i64_in _ (by omega)]; omega
      have mk0 : 0 ≤ ((k - 1 : Nat) : Int) := by omega
      have mk1 : ((k - 1 : Nat) : Int) < k := by omega
      obtain ⟨j, hj⟩ : ∃ j, k - 1 = j := ⟨_, rfl⟩
      rw [hj] at mk mk0 mk1 l0 l1 l2
      have d0 := y9.c0
      clear hj hF hZ
      go_upto_region 10 with (fail)
      have MK := Lib.hid mk
      go_cut [14, 15] from 123 to 132 (fun u v W => ∃ i j, u = .pointer (some ⟨i, 0, none⟩) ∧ v = .pointer (some ⟨j, 0, none⟩) ∧ BoxRun W i F.lo F.hi F.tag ∧ BoxRun W j Z.lo Z.hi Z.tag ∧ Below wr.heap.size wr W)
      case first =>
        have kp : 0 < k := by omega
        have jk : j < k := by omega
        have KS : Hid (∀ W, Below wr.heap.size wr W → W.cell? ⟨w.heap.size + 1 + 1, 0, none⟩ = some (.slice (some ad) k c) ∧ W.cell? ad = some (.int .i64 F.lo) ∧ W.cell? ⟨ad.block, ad.off + 1, none⟩ = some (.int .i64 F.hi) ∧ W.cell? ⟨ad.block, ad.off + 2, none⟩ = some (.int .i64 F.tag) ∧
            W.cell? (ad.add (j * 3)) = some (.int .i64 Z.lo) ∧ W.cell? ⟨(ad.add (j * 3)).block, (ad.add (j * 3)).off + 1, none⟩ = some (.int .i64 Z.hi) ∧ W.cell? ⟨(ad.add (j * 3)).block, (ad.add (j * 3)).off + 2, none⟩ = some (.int .i64 Z.tag)) :=
          Lib.hid fun W h => ⟨cell_kept h d0, cell_kept h f0, cell_kept h f1, cell_kept h f2, cell_kept h l0, cell_kept h l1, cell_kept h l2⟩
        go_region_held3 (fun W => W.cell? ⟨w.heap.size + 1 + 1, 0, none⟩ = some (.slice (some ad) k c) ∧ W.cell? ad = some (.int .i64 F.lo) ∧ W.cell? ⟨ad.block, ad.off + 1, none⟩ = some (.int .i64 F.hi) ∧ W.cell? ⟨ad.block, ad.off + 2, none⟩ = some (.int .i64 F.tag) ∧
            W.cell? (ad.add (j * 3)) = some (.int .i64 Z.lo) ∧ W.cell? ⟨(ad.add (j * 3)).block, (ad.add (j * 3)).off + 1, none⟩ = some (.int .i64 Z.hi) ∧ W.cell? ⟨(ad.add (j * 3)).block, (ad.add (j * 3)).off + 2, none⟩ = some (.int .i64 Z.tag))
          ((refine KS.out _ ?_; repeat' (first | with_reducible exact Below.refl _ _ | refine Below.drew ?_ | refine below_alloc' ?_ _ | refine below_set' ?_ (by first | exact Nat.le_refl _ | exact Nat.le_succ _) _))) (fail)
        all_goals
          go_wp2_with (fail)
          go_meet
          first
            | exact ⟨_, _, rfl, rfl, (two_runs wr F.lo F.hi F.tag Z.lo Z.hi Z.tag).1, (two_runs wr F.lo F.hi F.tag Z.lo Z.hi Z.tag).2.1, (two_runs wr F.lo F.hi F.tag Z.lo Z.hi Z.tag).2.2⟩
            | exact ⟨_, _, rfl, rfl, (two_runs wr Z.lo Z.hi Z.tag F.lo F.hi F.tag).2.1, (two_runs wr Z.lo Z.hi Z.tag F.lo F.hi F.tag).1, (two_runs wr Z.lo Z.hi Z.tag F.lo F.hi F.tag).2.2⟩
      case rest =>
        obtain ⟨i, j', rfl, rfl, zF, zZ, bc⟩ := hcut
        clear mk mk0 mk1 l0 l1 l2 f0 f1 f2 d0
        have zB := Below.on hBw bc
        have z9 := y9.next bc
        have z5 := BoxA.next v5 bc
        have z6 := BoxA.next v6 bc
        have HRr := Lib.hid (HRq.out.below bc)
        have g0 := z9.c0
        have g1 := z9.c1
        have g2 := z9.c2
        have g3 := z9.c3
        have g4 := z9.c4
        have p0 := zF.c0
        have p1 := zF.c1
        have q0 := zZ.c0
        have q1 := zZ.c1
        clear zF zZ y9 hBw hab v5 v6 HRq MK hR
        have m0 : IntKind.i64.wrap ((f : Int) + (k : Int)) = f + k := IntWalk.i64_in _ (by omega)
        unfold Ends at hE
        obtain ⟨⟨e1, e2, e3, e4, e5, e6⟩, r6, r7⟩ := hE
        have r0 : ¬ F.lo < 0 := by omega
        have r1 : ¬ lo < F.lo := by omega
        have r2 : ¬ F.hi ≤ lo := by omega
        have r3 : ¬ size < Z.hi := by omega
        have r4 : ¬ Z.hi < hi := by omega
        have r5 : ¬ hi ≤ Z.lo := by omega
        obtain ⟨b1, hb1⟩ : ∃ b, (F.lo == 0) = b := ⟨_, rfl⟩
        have hb2 : ((f : Int) == 0) = b1 := by rw [← hb1]; exact iff_beq r6
        have hbb : (b1 != b1) = false := by cases b1 <;> rfl
        obtain ⟨b3, hb3⟩ : ∃ b, (Z.hi == size) = b := ⟨_, rfl⟩
        have hb4 : ((f : Int) + (k : Int) == N) = b3 := by rw [← hb3]; exact iff_beq r7
        have hbb' : (b3 != b3) = false := by cases b3 <;> rfl
        clear r6 r7 e1 e2 e3 e4 e5 e6
        have hsq := HPS.out.next zB
        go_upto_region 13 with (fail)
        clear hb1 hb2 hb3 hb4 hbb hbb' r0 r1 r2 r3 r4 r5 p0 p1 q0 q1 m0
        refine wp_name fun a0 ha0 => ?_
        have e5 : a0.eval (.tmp 5) = .pointer (some ⟨w.heap.size, 0, none⟩) := by rw [ha0]; rfl
        have e9 : a0.eval (.tmp 9) = .pointer (some ⟨(w.heap.size + 1 + 1), 0, none⟩) := by rw [ha0]; rfl
        have hz : a0.tmps.size = 225 := by rw [ha0]; rfl
        have HA0 := Lib.hid ha0
        clear ha0
        have SG : ∀ (d d' : Nat → Prop) (W W' : World), (fun (_ : Nat → Prop) (W : World) => Below wc.heap.size wc W) d W → (∀ j, d j → d' j) → Below W.heap.size W W' → (fun (_ : Nat → Prop) (W : World) => Below wc.heap.size wc W) d' W' := fun _ _ _ _ h _ b => Below.next h b
        refine wp_region_steps (Inv [192, 193, 194, 195, 196, 197, 198, 199, 200, 201, 202, 191, 203, 204, 205, 16, 17, 18] a0 (fun (_ : Nat → Prop) (W : World) => Below wc.heap.size wc W) [(⟨some 0, 192, none, fun v _ => v = wordsV⟩ : Cl), ⟨some 1, 193, none, fun v _ => v = .pointer (some ⟨w.heap.size + 1 + 1, 2, none⟩)⟩, ⟨some 2, 194, none, fun v _ => v = .int .i64 (N : Int)⟩, ⟨some 3, 195, none, fun v _ => v = .pointer (some ⟨w.heap.size + 1 + 1, 1, none⟩)⟩, ⟨some 4, 196, none, fun v _ => v = .int .i64 (f : Int)⟩, ⟨some 5, 197, none, fun v _ => v = .pointer (some ⟨w.heap.size + 1 + 1, 0, none⟩)⟩, ⟨some 6, 198, none, fun v _ => v = .slice (some ad) k c⟩, ⟨some 7, 199, some 16, fun v W => ∃ A1 c1, v = .slice A1 k c1 ∧ k ≤ c1 ∧ Strs W A1 (R.map textM)⟩, ⟨some 8, 200, none, fun v _ => v = .pointer (some ⟨w.heap.size + 1 + 1, 4, none⟩)⟩, ⟨some 9, 201, none, fun v _ => v = .slice PA pn pc⟩, ⟨some 10, 202, none, fun v _ => v = foldV (x1, u, ok)⟩, ⟨some 11, 191, none, fun v _ => v = foldV (x1, u, ok)⟩, ⟨some 12, 203, none, fun v _ => v = hashV x1⟩, ⟨some 13, 204, none, fun v _ => v = .int .i64 (u : Int)⟩, ⟨some 14, 205, none, fun v _ => v = .bool ok⟩, ⟨some 15, 16, some 16, fun v W => ∃ g, v = .pointer (some ⟨g, 0, none⟩) ∧ wc.heap.size ≤ g ∧ ∃ m, BoxA W g 30 .u8 m ∧ m.length = 32⟩, ⟨some 16, 16, none, fun v W => ∃ g, v = .pointer (some ⟨g, 0, none⟩) ∧ wc.heap.size ≤ g ∧ BoxH W g x1⟩, ⟨some 17, 17, none, fun v _ => v = .int .i64 (u : Int)⟩, ⟨some 18, 18, none, fun v _ => v = .bool ok⟩]) (by kernel_rfl) (by kernel_rfl) (Inv.start (Below.refl _ _).drew ⟨nofun, nofun, nofun, nofun, nofun, nofun, nofun, nofun, nofun, nofun, nofun, nofun, nofun, nofun, nofun, nofun, nofun, nofun, nofun, trivial⟩) ?_ ?_
        · have St : ∀ xc ∈ [(⟨some 0, 192, none, fun v _ => v = wordsV⟩ : Cl), ⟨some 1, 193, none, fun v _ => v = .pointer (some ⟨w.heap.size + 1 + 1, 2, none⟩)⟩, ⟨some 2, 194, none, fun v _ => v = .int .i64 (N : Int)⟩, ⟨some 3, 195, none, fun v _ => v = .pointer (some ⟨w.heap.size + 1 + 1, 1, none⟩)⟩, ⟨some 4, 196, none, fun v _ => v = .int .i64 (f : Int)⟩, ⟨some 5, 197, none, fun v _ => v = .pointer (some ⟨w.heap.size + 1 + 1, 0, none⟩)⟩, ⟨some 6, 198, none, fun v _ => v = .slice (some ad) k c⟩, ⟨some 7, 199, some 16, fun v W => ∃ A1 c1, v = .slice A1 k c1 ∧ k ≤ c1 ∧ Strs W A1 (R.map textM)⟩, ⟨some 8, 200, none, fun v _ => v = .pointer (some ⟨w.heap.size + 1 + 1, 4, none⟩)⟩, ⟨some 9, 201, none, fun v _ => v = .slice PA pn pc⟩, ⟨some 10, 202, none, fun v _ => v = foldV (x1, u, ok)⟩, ⟨some 11, 191, none, fun v _ => v = foldV (x1, u, ok)⟩, ⟨some 12, 203, none, fun v _ => v = hashV x1⟩, ⟨some 13, 204, none, fun v _ => v = .int .i64 (u : Int)⟩, ⟨some 14, 205, none, fun v _ => v = .bool ok⟩, ⟨some 15, 16, some 16, fun v W => ∃ g, v = .pointer (some ⟨g, 0, none⟩) ∧ wc.heap.size ≤ g ∧ ∃ m, BoxA W g 30 .u8 m ∧ m.length = 32⟩, ⟨some 16, 16, none, fun v W => ∃ g, v = .pointer (some ⟨g, 0, none⟩) ∧ wc.heap.size ≤ g ∧ BoxH W g x1⟩, ⟨some 17, 17, none, fun v _ => v = .int .i64 (u : Int)⟩, ⟨some 18, 18, none, fun v _ => v = .bool ok⟩], Lasts xc := AllC.mem ⟨lastsV0 _ _ _ _, lastsV0 _ _ _ _, lastsV0 _ _ _ _, lastsV0 _ _ _ _, lastsV0 _ _ _ _, lastsV0 _ _ _ _, lastsV0 _ _ _ _, (fun _ _ _ h b => by obtain ⟨A1, c1, e, h1, h2⟩ := h; exact ⟨A1, c1, e, h1, h2.next b⟩), lastsV0 _ _ _ _, lastsV0 _ _ _ _, lastsV0 _ _ _ _, lastsV0 _ _ _ _, lastsV0 _ _ _ _, lastsV0 _ _ _ _, lastsV0 _ _ _ _, (fun _ _ _ h b => by obtain ⟨g, e, h1, m, h2, h3⟩ := h; exact ⟨g, e, h1, m, h2.next b, h3⟩), (fun _ _ _ h b => by obtain ⟨g, e, h1, h2⟩ := h; exact ⟨g, e, h1, BoxA.next h2 b⟩), lastsV0 _ _ _ _, lastsV0 _ _ _ _, trivial⟩
          clear HA0
          refine ⟨?_, ?_, ?_, ?_, ?_, ?_, ?_, ?_, ?_, ?_, ?_, ?_, ?_, ?_, ?_, ?_, ?_, ?_, ?_, trivial⟩
          · refine stepB rfl rfl (by decide) (by rw [hz]; decide) rfl rfl (by kernel_rfl) St SG fun d a W hF hG hH hn hcl hw => ?_
            have q5 := (hF.same 5 (by decide)).trans e5
            refine ⟨wordsV, W, ?_, Below.refl _ _, ?_⟩
            · exact exec_load rfl (by rw [q5]; exact BoxW.load (BoxA.next z5 hG))
            · rfl
          · refine stepB rfl rfl (by decide) (by rw [hz]; decide) rfl rfl (by kernel_rfl) St SG fun d a W hF hG hH hn hcl hw => ?_
            have q9 := (hF.same 9 (by decide)).trans e9
            refine ⟨.pointer (some ⟨w.heap.size + 1 + 1, 2, none⟩), W, ?_, Below.refl _ _, ?_⟩
            · clear hF hG hH hn hcl hw
              generalize a.eval = ρ at *
              go_simp
            · rfl
          · refine stepB rfl rfl (by decide) (by rw [hz]; decide) rfl rfl (by kernel_rfl) St SG fun d a W hF hG hH hn hcl hw => ?_
            have q193 : a.eval (.tmp 193) = .pointer (some ⟨w.heap.size + 1 + 1, 2, none⟩) := hH.at_ (i := 1) rfl (hw 1 rfl) id
            have qc_ := cell_kept hG g2
            clear g0 g1 g2 g3 g4
            refine ⟨.int .i64 (N : Int), W, ?_, Below.refl _ _, ?_⟩
            · clear hF hG hH hn hcl hw
              generalize a.eval = ρ at *
              go_simp
            · rfl
          · refine stepB rfl rfl (by decide) (by rw [hz]; decide) rfl rfl (by kernel_rfl) St SG fun d a W hF hG hH hn hcl hw => ?_
            have q9 := (hF.same 9 (by decide)).trans e9
            refine ⟨.pointer (some ⟨w.heap.size + 1 + 1, 1, none⟩), W, ?_, Below.refl _ _, ?_⟩
            · clear hF hG hH hn hcl hw
              generalize a.eval = ρ at *
              go_simp
            · rfl
          · refine stepB rfl rfl (by decide) (by rw [hz]; decide) rfl rfl (by kernel_rfl) St SG fun d a W hF hG hH hn hcl hw => ?_
            have q195 : a.eval (.tmp 195) = .pointer (some ⟨w.heap.size + 1 + 1, 1, none⟩) := hH.at_ (i := 3) rfl (hw 3 rfl) id
            have qc_ := cell_kept hG g1
            clear g0 g1 g2 g3 g4
            refine ⟨.int .i64 (f : Int), W, ?_, Below.refl _ _, ?_⟩
            · clear hF hG hH hn hcl hw
              generalize a.eval = ρ at *
              go_simp
            · rfl
          · refine stepB rfl rfl (by decide) (by rw [hz]; decide) rfl rfl (by kernel_rfl) St SG fun d a W hF hG hH hn hcl hw => ?_
            have q9 := (hF.same 9 (by decide)).trans e9
            refine ⟨.pointer (some ⟨w.heap.size + 1 + 1, 0, none⟩), W, ?_, Below.refl _ _, ?_⟩
            · clear hF hG hH hn hcl hw
              generalize a.eval = ρ at *
              go_simp
            · rfl
          · refine stepB rfl rfl (by decide) (by rw [hz]; decide) rfl rfl (by kernel_rfl) St SG fun d a W hF hG hH hn hcl hw => ?_
            have q197 : a.eval (.tmp 197) = .pointer (some ⟨w.heap.size + 1 + 1, 0, none⟩) := hH.at_ (i := 5) rfl (hw 5 rfl) id
            have qc_ := cell_kept hG g0
            clear g0 g1 g2 g3 g4
            refine ⟨.slice (some ad) k c, W, ?_, Below.refl _ _, ?_⟩
            · clear hF hG hH hn hcl hw
              generalize a.eval = ρ at *
              go_simp
            · rfl
          · refine stepC rfl rfl (by decide) (by rw [hz]; decide) rfl rfl (by kernel_rfl) St SG fun d a W hF hG hH hn hcl hw => ?_
            have q198 : a.eval (.tmp 198) = .slice (some ad) k c := hH.at_ (i := 6) rfl (hw 6 rfl) id
            have qf : a.eval (.func 49) = .func (.func 49) #[] #[] := rfl
            refine ⟨49, #[.slice (some ad) k c], ?_, ?_⟩
            · clear hF hG hH hn hcl hw
              generalize a.eval = ρ at *
              go_simp
            · refine (HLE.out W (HRr.out.below hG)).mono ?_; rintro e W' ⟨v, rfl, hO, b⟩; obtain ⟨A1, c1, rfl, h1, h2⟩ := hO.toStrs; rw [HLM.out] at h1; exact ⟨_, rfl, b, A1, c1, by rw [HLM.out], h1, h2⟩
          · refine stepB rfl rfl (by decide) (by rw [hz]; decide) rfl rfl (by kernel_rfl) St SG fun d a W hF hG hH hn hcl hw => ?_
            have q9 := (hF.same 9 (by decide)).trans e9
            refine ⟨.pointer (some ⟨w.heap.size + 1 + 1, 4, none⟩), W, ?_, Below.refl _ _, ?_⟩
            · clear hF hG hH hn hcl hw
              generalize a.eval = ρ at *
              go_simp
            · rfl
          · refine stepB rfl rfl (by decide) (by rw [hz]; decide) rfl rfl (by kernel_rfl) St SG fun d a W hF hG hH hn hcl hw => ?_
            have q200 : a.eval (.tmp 200) = .pointer (some ⟨w.heap.size + 1 + 1, 4, none⟩) := hH.at_ (i := 8) rfl (hw 8 rfl) id
            have qc_ := cell_kept hG g4
            clear g0 g1 g2 g3 g4
            refine ⟨.slice PA pn pc, W, ?_, Below.refl _ _, ?_⟩
            · clear hF hG hH hn hcl hw
              generalize a.eval = ρ at *
              go_simp
            · rfl
          · refine stepC rfl rfl (by decide) (by rw [hz]; decide) rfl rfl (by kernel_rfl) St SG fun d a W hF hG hH hn hcl hw => ?_
            have q192 : a.eval (.tmp 192) = wordsV := hH.at_ (i := 0) rfl (hw 0 rfl) id
            have q194 : a.eval (.tmp 194) = .int .i64 (N : Int) := hH.at_ (i := 2) rfl (hw 2 rfl) id
            have q196 : a.eval (.tmp 196) = .int .i64 (f : Int) := hH.at_ (i := 4) rfl (hw 4 rfl) id
            have q199 : ∃ A1 c1, a.eval (.tmp 199) = .slice A1 k c1 ∧ k ≤ c1 ∧ Strs W A1 (R.map textM) := hH.at_ (i := 7) rfl (hw 7 rfl) (fun h => hn (hcl 11 _ 10 rfl rfl (hcl 12 _ 11 rfl rfl (hcl 16 _ 12 rfl rfl h))))
            have q201 : a.eval (.tmp 201) = .slice PA pn pc := hH.at_ (i := 9) rfl (hw 9 rfl) id
            have qf : a.eval (.func 42) = .func (.func 42) #[] #[] := rfl
            obtain ⟨A1, c1, q199, hc1, hS1⟩ := q199
            refine ⟨42, #[wordsV, .int .i64 (N : Int), .int .i64 (f : Int), .slice A1 k c1, .slice PA pn pc], ?_, ?_⟩
            · clear hF hG hH hn hcl hw
              generalize a.eval = ρ at *
              go_simp
            · refine (HFO.out A1 c1 W hc1 hS1 (hsq.next hG)).mono ?_; rintro e W' ⟨rfl, b⟩; exact ⟨_, rfl, b, rfl⟩
          · refine stepB rfl rfl (by decide) (by rw [hz]; decide) rfl rfl (by kernel_rfl) St SG fun d a W hF hG hH hn hcl hw => ?_
            have q202 : a.eval (.tmp 202) = foldV (x1, u, ok) := hH.at_ (i := 10) rfl (hw 10 rfl) id
            refine ⟨foldV (x1, u, ok), W, ?_, Below.refl _ _, ?_⟩
            · clear hF hG hH hn hcl hw
              generalize a.eval = ρ at *
              go_simp
            · rfl
          · refine stepB rfl rfl (by decide) (by rw [hz]; decide) rfl rfl (by kernel_rfl) St SG fun d a W hF hG hH hn hcl hw => ?_
            have q191 : a.eval (.tmp 191) = foldV (x1, u, ok) := hH.at_ (i := 11) rfl (hw 11 rfl) id
            refine ⟨hashV x1, W, ?_, Below.refl _ _, ?_⟩
            · clear hF hG hH hn hcl hw
              generalize a.eval = ρ at *
              go_simp
            · rfl
          · refine stepB rfl rfl (by decide) (by rw [hz]; decide) rfl rfl (by kernel_rfl) St SG fun d a W hF hG hH hn hcl hw => ?_
            have q191 : a.eval (.tmp 191) = foldV (x1, u, ok) := hH.at_ (i := 11) rfl (hw 11 rfl) id
            refine ⟨.int .i64 (u : Int), W, ?_, Below.refl _ _, ?_⟩
            · clear hF hG hH hn hcl hw
              generalize a.eval = ρ at *
              go_simp
            · rfl
          · refine stepB rfl rfl (by decide) (by rw [hz]; decide) rfl rfl (by kernel_rfl) St SG fun d a W hF hG hH hn hcl hw => ?_
            have q191 : a.eval (.tmp 191) = foldV (x1, u, ok) := hH.at_ (i := 11) rfl (hw 11 rfl) id
            refine ⟨.bool ok, W, ?_, Below.refl _ _, ?_⟩
            · clear hF hG hH hn hcl hw
              generalize a.eval = ρ at *
              go_simp
            · rfl
          · refine stepB rfl rfl (by decide) (by rw [hz]; decide) rfl rfl (by kernel_rfl) St SG fun d a W hF hG hH hn hcl hw => ?_
            refine ⟨.pointer (some ⟨W.heap.size, 0, none⟩), W.alloc (.cells (ints .u8 (List.replicate 32 0)) 30), ?_, Below.new1 W _, ?_⟩
            · (clear hF hG hH hn hcl hw; generalize a.eval = ρ at *; go_simp; rfl)
            · exact ⟨_, rfl, hG.size, _, BoxA.new W _ _ _ _ rfl, by simp⟩
          · refine stepN 16 (.tmp 203) rfl rfl rfl rfl rfl x1 HLA.out (wc.heap.size) (fun g W hg h => ⟨g, rfl, hg, h⟩) (AllC.mem ⟨.inr (.inr fun _ _ _ _ h => h), .inr (.inr fun _ _ _ _ h => h), .inr (.inr fun _ _ _ _ h => h), .inr (.inr fun _ _ _ _ h => h), .inr (.inr fun _ _ _ _ h => h), .inr (.inr fun _ _ _ _ h => h), .inr (.inr fun _ _ _ _ h => h), .inr (.inl rfl), .inr (.inr fun _ _ _ _ h => h), .inr (.inr fun _ _ _ _ h => h), .inr (.inr fun _ _ _ _ h => h), .inr (.inr fun _ _ _ _ h => h), .inr (.inr fun _ _ _ _ h => h), .inr (.inr fun _ _ _ _ h => h), .inr (.inr fun _ _ _ _ h => h), .inr (.inl rfl), .inl rfl, .inr (.inr fun _ _ _ _ h => h), .inr (.inr fun _ _ _ _ h => h), trivial⟩) (fun d d' W g hg h _ => below_setRow h hg _) fun d a W hF hG hH hn hcl hw => ?_
            have qy : a.eval (.tmp 203) = hashV x1 := hH.at_ (i := 12) rfl (hw 12 rfl) id
            exact ⟨qy, hH.at_ (i := 15) rfl (hw 15 rfl) hn⟩
          · refine stepB rfl rfl (by decide) (by rw [hz]; decide) rfl rfl (by kernel_rfl) St SG fun d a W hF hG hH hn hcl hw => ?_
            have q204 : a.eval (.tmp 204) = .int .i64 (u : Int) := hH.at_ (i := 13) rfl (hw 13 rfl) id
            refine ⟨.int .i64 (u : Int), W, ?_, Below.refl _ _, ?_⟩
            · clear hF hG hH hn hcl hw
              generalize a.eval = ρ at *
              go_simp
            · rfl
          · refine stepB rfl rfl (by decide) (by rw [hz]; decide) rfl rfl (by kernel_rfl) St SG fun d a W hF hG hH hn hcl hw => ?_
            have q205 : a.eval (.tmp 205) = .bool ok := hH.at_ (i := 14) rfl (hw 14 rfl) id
            refine ⟨.bool ok, W, ?_, Below.refl _ _, ?_⟩
            · clear hF hG hH hn hcl hw
              generalize a.eval = ρ at *
              go_simp
            · rfl
        · intro d a W ⟨hF, hB, hH⟩ hall
          have k17 : a.eval (.tmp 17) = .int .i64 (u : Int) := hH.at_ (i := 17) rfl (hall 17 (by decide)) id
          have k18 : a.eval (.tmp 18) = .bool ok := hH.at_ (i := 18) rfl (hall 18 (by decide)) id
          have s16 : ∃ g, a.eval (.tmp 16) = .pointer (some ⟨g, 0, none⟩) ∧ wc.heap.size ≤ g ∧ BoxH W g x1 := hH.at_ (i := 16) rfl (hall 16 (by decide)) id
          clear hH hall
          rw [hF.shape (by rw [hz]; decide)]
          clear hF
          simp only [List.foldl]
          generalize a.eval (.tmp 192) = z192 at *
          generalize a.eval (.tmp 193) = z193 at *
          generalize a.eval (.tmp 194) = z194 at *
          generalize a.eval (.tmp 195) = z195 at *
          generalize a.eval (.tmp 196) = z196 at *
          generalize a.eval (.tmp 197) = z197 at *
          generalize a.eval (.tmp 198) = z198 at *
          generalize a.eval (.tmp 199) = z199 at *
          generalize a.eval (.tmp 200) = z200 at *
          generalize a.eval (.tmp 201) = z201 at *
          generalize a.eval (.tmp 202) = z202 at *
          generalize a.eval (.tmp 191) = z191 at *
          generalize a.eval (.tmp 203) = z203 at *
          generalize a.eval (.tmp 204) = z204 at *
          generalize a.eval (.tmp 205) = z205 at *
          generalize a.eval (.tmp 16) = z16 at *
          generalize a.eval (.tmp 17) = z17 at *
          generalize a.eval (.tmp 18) = z18 at *
          subst k17
          subst k18
          rw [HA0.out]
          simp only [Act.put, List.setIfInBounds_toArray, List.set_cons_zero, List.set_cons_succ]
          clear hz HA0 SG e5 e9
          clear a a0
          obtain ⟨g, rfl, hg, y16⟩ := s16
          have B2 := Below.on zB hB
          replace g2 := cell_kept hB g2
          replace g3 := cell_kept hB g3
          replace g4 := cell_kept hB g4
          have y5 : BoxW W w.heap.size := BoxA.next z5 hB
          have y6 : BoxH W (w.heap.size + 1) root := BoxA.next z6 hB
          have HB := HBV.out
          have HEW := HEQ.out
          clear hB g0 g1 hsq HFO HLE zB z5 z6 HBV HEQ z9 HRr
          generalize W = w5 at *
          have hcc : ok = false ∨ (ok = true ∧ ¬ u = pn) ∨ (ok = true ∧ u = pn ∧ b4 = false) ∨ (ok = true ∧ u = pn ∧ b4 = true) := by
            cases ok <;> cases b4 <;> simp <;> omega
          rcases hcc with rfl | ⟨rfl, hu⟩ | ⟨rfl, rfl, rfl⟩ | ⟨rfl, rfl, rfl⟩
          · obtain rfl : B = false := by rw [← HB]; simp
            clear HB
            go_upto_region 14 with (fail)
            refine wp_name fun a0 ha0 => ?_
            have e5 : a0.eval (.tmp 5) = .pointer (some ⟨w.heap.size, 0, none⟩) := by rw [ha0]; rfl
            have e6 : a0.eval (.tmp 6) = .pointer (some ⟨(w.heap.size + 1), 0, none⟩) := by rw [ha0]; rfl
            have e9 : a0.eval (.tmp 9) = .pointer (some ⟨(w.heap.size + 1 + 1), 0, none⟩) := by rw [ha0]; rfl
            have e16 : a0.eval (.tmp 16) = .pointer (some ⟨g, 0, none⟩) := by rw [ha0]; rfl
            have e17 : a0.eval (.tmp 17) = .int .i64 (u : Int) := by rw [ha0]; rfl
            have e18 : a0.eval (.tmp 18) = .bool false := by rw [ha0]; rfl
            have hz : a0.tmps.size = 225 := by rw [ha0]; rfl
            have HA0 := Lib.hid ha0
            clear ha0
            have SG : ∀ (d d' : Nat → Prop) (W W' : World), (fun (_ : Nat → Prop) (W : World) => Below w5.heap.size w5 W) d W → (∀ j, d j → d' j) → Below W.heap.size W W' → (fun (_ : Nat → Prop) (W : World) => Below w5.heap.size w5 W) d' W' := fun _ _ _ _ h _ b => Below.next h b
            refine wp_region_guards (Inv [206, 207, 208, 209, 210, 211, 212, 213, 214, 215, 216, 217, 218, 219, 220, 221, 222, 223, 224, 10] a0 (fun (_ : Nat → Prop) (W : World) => Below w5.heap.size w5 W) [(⟨some 0, 206, none, fun v _ => v = .bool false⟩ : Cl), ⟨some 1, 207, none, fun v _ => v = .bool false⟩, ⟨some 2, 208, none, fun v _ => v = undef⟩, ⟨some 3, 209, none, fun v _ => v = undef⟩, ⟨some 4, 210, none, fun v _ => v = undef⟩, ⟨some 5, 211, none, fun v _ => v = undef⟩, ⟨some 6, 212, none, fun v _ => v = undef⟩, ⟨some 7, 213, none, fun v _ => v = .bool false⟩, ⟨some 8, 214, none, fun v _ => v = .bool false⟩, ⟨some 9, 215, none, fun v _ => v = undef⟩, ⟨some 10, 216, none, fun v _ => v = undef⟩, ⟨some 11, 217, none, fun v _ => v = undef⟩, ⟨some 12, 218, none, fun v _ => v = undef⟩, ⟨some 13, 219, none, fun v _ => v = undef⟩, ⟨some 14, 220, none, fun v _ => v = undef⟩, ⟨some 15, 221, none, fun v _ => v = undef⟩, ⟨some 16, 222, none, fun v _ => v = undef⟩, ⟨some 17, 223, none, fun v _ => v = undef⟩, ⟨some 18, 224, none, fun v _ => v = .bool false⟩, ⟨some 19, 10, none, fun v _ => v = .bool false⟩]) (by kernel_rfl) (by kernel_rfl) (Inv.start (Below.refl _ _).drew ⟨nofun, nofun, nofun, nofun, nofun, nofun, nofun, nofun, nofun, nofun, nofun, nofun, nofun, nofun, nofun, nofun, nofun, nofun, nofun, nofun, trivial⟩) ?_ ?_
            · have St : ∀ xc ∈ [(⟨some 0, 206, none, fun v _ => v = .bool false⟩ : Cl), ⟨some 1, 207, none, fun v _ => v = .bool false⟩, ⟨some 2, 208, none, fun v _ => v = undef⟩, ⟨some 3, 209, none, fun v _ => v = undef⟩, ⟨some 4, 210, none, fun v _ => v = undef⟩, ⟨some 5, 211, none, fun v _ => v = undef⟩, ⟨some 6, 212, none, fun v _ => v = undef⟩, ⟨some 7, 213, none, fun v _ => v = .bool false⟩, ⟨some 8, 214, none, fun v _ => v = .bool false⟩, ⟨some 9, 215, none, fun v _ => v = undef⟩, ⟨some 10, 216, none, fun v _ => v = undef⟩, ⟨some 11, 217, none, fun v _ => v = undef⟩, ⟨some 12, 218, none, fun v _ => v = undef⟩, ⟨some 13, 219, none, fun v _ => v = undef⟩, ⟨some 14, 220, none, fun v _ => v = undef⟩, ⟨some 15, 221, none, fun v _ => v = undef⟩, ⟨some 16, 222, none, fun v _ => v = undef⟩, ⟨some 17, 223, none, fun v _ => v = undef⟩, ⟨some 18, 224, none, fun v _ => v = .bool false⟩, ⟨some 19, 10, none, fun v _ => v = .bool false⟩], Lasts xc := AllC.mem ⟨lastsV0 _ _ _ _, lastsV0 _ _ _ _, lastsV0 _ _ _ _, lastsV0 _ _ _ _, lastsV0 _ _ _ _, lastsV0 _ _ _ _, lastsV0 _ _ _ _, lastsV0 _ _ _ _, lastsV0 _ _ _ _, lastsV0 _ _ _ _, lastsV0 _ _ _ _, lastsV0 _ _ _ _, lastsV0 _ _ _ _, lastsV0 _ _ _ _, lastsV0 _ _ _ _, lastsV0 _ _ _ _, lastsV0 _ _ _ _, lastsV0 _ _ _ _, lastsV0 _ _ _ _, lastsV0 _ _ _ _, trivial⟩
              clear HA0
              refine ⟨?_, ?_, ?_, ?_, ?_, ?_, ?_, ?_, ?_, ?_, ?_, ?_, ?_, ?_, ?_, ?_, ?_, ?_, ?_, ?_, trivial⟩
              · refine StepG.of ?_
                refine stepB rfl rfl (by decide) (by rw [hz]; decide) rfl rfl (by kernel_rfl) St SG fun d a W hF hG hH hn hcl hw => ?_
                have q18 := (hF.same 18 (by decide)).trans e18
                refine ⟨.bool false, W, ?_, Below.refl _ _, ?_⟩
                · clear hF hG hH hn hcl hw
                  generalize a.eval = ρ at *
                  go_simp
                · rfl
              · refine StepG.of ?_
                refine stepB rfl rfl (by decide) (by rw [hz]; decide) rfl rfl (by kernel_rfl) St SG fun d a W hF hG hH hn hcl hw => ?_
                have q206 : a.eval (.tmp 206) = .bool false := hH.at_ (i := 0) rfl (hw 0 rfl) id
                refine ⟨.bool false, W, ?_, Below.refl _ _, ?_⟩
                · clear hF hG hH hn hcl hw
                  generalize a.eval = ρ at *
                  go_simp
                · rfl
              · exact step_off rfl rfl (by decide) (by rw [hz]; decide) rfl rfl (by kernel_rfl) (fun _ => rfl) SG (fun d a W hI hw => yielded_of rfl (hI.2.2.at_ (i := 1) rfl (hw 1 rfl) id))
              · exact step_off rfl rfl (by decide) (by rw [hz]; decide) rfl rfl (by kernel_rfl) (fun _ => rfl) SG (fun d a W hI hw => yielded_of rfl (hI.2.2.at_ (i := 1) rfl (hw 1 rfl) id))
              · exact step_off rfl rfl (by decide) (by rw [hz]; decide) rfl rfl (by kernel_rfl) (fun _ => rfl) SG (fun d a W hI hw => yielded_of rfl (hI.2.2.at_ (i := 1) rfl (hw 1 rfl) id))
              · exact step_off rfl rfl (by decide) (by rw [hz]; decide) rfl rfl (by kernel_rfl) (fun _ => rfl) SG (fun d a W hI hw => yielded_of rfl (hI.2.2.at_ (i := 1) rfl (hw 1 rfl) id))
              · exact step_off rfl rfl (by decide) (by rw [hz]; decide) rfl rfl (by kernel_rfl) (fun _ => rfl) SG (fun d a W hI hw => yielded_of rfl (hI.2.2.at_ (i := 1) rfl (hw 1 rfl) id))
              · refine StepG.of ?_
                refine stepB rfl rfl (by decide) (by rw [hz]; decide) rfl rfl (by kernel_rfl) St SG fun d a W hF hG hH hn hcl hw => ?_
                have q207 : a.eval (.tmp 207) = .bool false := hH.at_ (i := 1) rfl (hw 1 rfl) id
                have q212 : a.eval (.tmp 212) = undef := hH.at_ (i := 6) rfl (hw 6 rfl) id
                have qk1 : a.eval (.const (.bool false)) = .bool false := rfl
                refine ⟨.bool false, W, ?_, Below.refl _ _, ?_⟩
                · clear hF hG hH hn hcl hw
                  generalize a.eval = ρ at *
                  go_simp
                · rfl
              · refine StepG.of ?_
                refine stepB rfl rfl (by decide) (by rw [hz]; decide) rfl rfl (by kernel_rfl) St SG fun d a W hF hG hH hn hcl hw => ?_
                have q213 : a.eval (.tmp 213) = .bool false := hH.at_ (i := 7) rfl (hw 7 rfl) id
                refine ⟨.bool false, W, ?_, Below.refl _ _, ?_⟩
                · clear hF hG hH hn hcl hw
                  generalize a.eval = ρ at *
                  go_simp
                · rfl
              · exact step_off rfl rfl (by decide) (by rw [hz]; decide) rfl rfl (by kernel_rfl) (fun _ => rfl) SG (fun d a W hI hw => yielded_of rfl (hI.2.2.at_ (i := 8) rfl (hw 8 rfl) id))
              · exact step_off rfl rfl (by decide) (by rw [hz]; decide) rfl rfl (by kernel_rfl) (fun _ => rfl) SG (fun d a W hI hw => yielded_of rfl (hI.2.2.at_ (i := 8) rfl (hw 8 rfl) id))
              · exact step_off rfl rfl (by decide) (by rw [hz]; decide) rfl rfl (by kernel_rfl) (fun _ => rfl) SG (fun d a W hI hw => yielded_of rfl (hI.2.2.at_ (i := 8) rfl (hw 8 rfl) id))
              · exact step_off rfl rfl (by decide) (by rw [hz]; decide) rfl rfl (by kernel_rfl) (fun _ => rfl) SG (fun d a W hI hw => yielded_of rfl (hI.2.2.at_ (i := 8) rfl (hw 8 rfl) id))
              · exact step_off rfl rfl (by decide) (by rw [hz]; decide) rfl rfl (by kernel_rfl) (fun _ => rfl) SG (fun d a W hI hw => yielded_of rfl (hI.2.2.at_ (i := 8) rfl (hw 8 rfl) id))
              · exact step_off rfl rfl (by decide) (by rw [hz]; decide) rfl rfl (by kernel_rfl) (fun _ => rfl) SG (fun d a W hI hw => yielded_of rfl (hI.2.2.at_ (i := 8) rfl (hw 8 rfl) id))
              · exact step_off rfl rfl (by decide) (by rw [hz]; decide) rfl rfl (by kernel_rfl) (fun _ => rfl) SG (fun d a W hI hw => yielded_of rfl (hI.2.2.at_ (i := 8) rfl (hw 8 rfl) id))
              · exact step_off rfl rfl (by decide) (by rw [hz]; decide) rfl rfl (by kernel_rfl) (fun _ => rfl) SG (fun d a W hI hw => yielded_of rfl (hI.2.2.at_ (i := 8) rfl (hw 8 rfl) id))
              · exact step_off rfl rfl (by decide) (by rw [hz]; decide) rfl rfl (by kernel_rfl) (fun _ => rfl) SG (fun d a W hI hw => yielded_of rfl (hI.2.2.at_ (i := 8) rfl (hw 8 rfl) id))
              · refine StepG.of ?_
                refine stepB rfl rfl (by decide) (by rw [hz]; decide) rfl rfl (by kernel_rfl) St SG fun d a W hF hG hH hn hcl hw => ?_
                have q214 : a.eval (.tmp 214) = .bool false := hH.at_ (i := 8) rfl (hw 8 rfl) id
                have q223 : a.eval (.tmp 223) = undef := hH.at_ (i := 17) rfl (hw 17 rfl) id
                have qk1 : a.eval (.const (.bool false)) = .bool false := rfl
                refine ⟨.bool false, W, ?_, Below.refl _ _, ?_⟩
                · clear hF hG hH hn hcl hw
                  generalize a.eval = ρ at *
                  go_simp
                · rfl
              · refine StepG.of ?_
                refine stepB rfl rfl (by decide) (by rw [hz]; decide) rfl rfl (by kernel_rfl) St SG fun d a W hF hG hH hn hcl hw => ?_
                have q224 : a.eval (.tmp 224) = .bool false := hH.at_ (i := 18) rfl (hw 18 rfl) id
                refine ⟨.bool false, W, ?_, Below.refl _ _, ?_⟩
                · clear hF hG hH hn hcl hw
                  generalize a.eval = ρ at *
                  go_simp
                · rfl
            · intro d a W ⟨hF, hB, hH⟩ hall
              have k10 : a.eval (.tmp 10) = .bool false := hH.at_ (i := 19) rfl (hall 19 (by decide)) id
              clear hH hall
              rw [hF.shape (by rw [hz]; decide)]
              clear hF
              simp only [List.foldl]
              generalize a.eval (.tmp 206) = z206 at *
              generalize a.eval (.tmp 207) = z207 at *
              generalize a.eval (.tmp 208) = z208 at *
              generalize a.eval (.tmp 209) = z209 at *
              generalize a.eval (.tmp 210) = z210 at *
              generalize a.eval (.tmp 211) = z211 at *
              generalize a.eval (.tmp 212) = z212 at *
              generalize a.eval (.tmp 213) = z213 at *
              generalize a.eval (.tmp 214) = z214 at *
              generalize a.eval (.tmp 215) = z215 at *
              generalize a.eval (.tmp 216) = z216 at *
              generalize a.eval (.tmp 217) = z217 at *
              generalize a.eval (.tmp 218) = z218 at *
              generalize a.eval (.tmp 219) = z219 at *
              generalize a.eval (.tmp 220) = z220 at *
              generalize a.eval (.tmp 221) = z221 at *
              generalize a.eval (.tmp 222) = z222 at *
              generalize a.eval (.tmp 223) = z223 at *
              generalize a.eval (.tmp 224) = z224 at *
              generalize a.eval (.tmp 10) = z10 at *
              subst k10
              rw [HA0.out]
              simp only [Act.put, List.setIfInBounds_toArray, List.set_cons_zero, List.set_cons_succ]
              clear hz HA0 SG e5 e6 e9 e16 e17 e18
              clear a a0
              go_wp2_with (fail)
              go_ret
              exact ⟨rfl, Below.on B2 hB⟩
          · obtain rfl : B = false := by rw [← HB]; simp [hu]
            clear HB
            go_upto_region 14 with (fail)
            refine wp_name fun a0 ha0 => ?_
            have e5 : a0.eval (.tmp 5) = .pointer (some ⟨w.heap.size, 0, none⟩) := by rw [ha0]; rfl
            have e6 : a0.eval (.tmp 6) = .pointer (some ⟨(w.heap.size + 1), 0, none⟩) := by rw [ha0]; rfl
            have e9 : a0.eval (.tmp 9) = .pointer (some ⟨(w.heap.size + 1 + 1), 0, none⟩) := by rw [ha0]; rfl
            have e16 : a0.eval (.tmp 16) = .pointer (some ⟨g, 0, none⟩) := by rw [ha0]; rfl
            have e17 : a0.eval (.tmp 17) = .int .i64 (u : Int) := by rw [ha0]; rfl
            have e18 : a0.eval (.tmp 18) = .bool true := by rw [ha0]; rfl
            have hz : a0.tmps.size = 225 := by rw [ha0]; rfl
            have HA0 := Lib.hid ha0
            clear ha0
            have SG : ∀ (d d' : Nat → Prop) (W W' : World), (fun (_ : Nat → Prop) (W : World) => Below w5.heap.size w5 W) d W → (∀ j, d j → d' j) → Below W.heap.size W W' → (fun (_ : Nat → Prop) (W : World) => Below w5.heap.size w5 W) d' W' := fun _ _ _ _ h _ b => Below.next h b
            refine wp_region_guards (Inv [206, 207, 208, 209, 210, 211, 212, 213, 214, 215, 216, 217, 218, 219, 220, 221, 222, 223, 224, 10] a0 (fun (_ : Nat → Prop) (W : World) => Below w5.heap.size w5 W) [(⟨some 0, 206, none, fun v _ => v = .bool true⟩ : Cl), ⟨some 1, 207, none, fun v _ => v = .bool true⟩, ⟨some 2, 208, none, fun v _ => v = .int .i64 (u : Int)⟩, ⟨some 3, 209, none, fun v _ => v = .pointer (some ⟨w.heap.size + 1 + 1, 4, none⟩)⟩, ⟨some 4, 210, none, fun v _ => v = .slice PA pn pc⟩, ⟨some 5, 211, none, fun v _ => v = .int .i64 (pn : Int)⟩, ⟨some 6, 212, none, fun v _ => v = .bool false⟩, ⟨some 7, 213, none, fun v _ => v = .bool false⟩, ⟨some 8, 214, none, fun v _ => v = .bool false⟩, ⟨some 9, 215, none, fun v _ => v = undef⟩, ⟨some 10, 216, none, fun v _ => v = undef⟩, ⟨some 11, 217, none, fun v _ => v = undef⟩, ⟨some 12, 218, none, fun v _ => v = undef⟩, ⟨some 13, 219, none, fun v _ => v = undef⟩, ⟨some 14, 220, none, fun v _ => v = undef⟩, ⟨some 15, 221, none, fun v _ => v = undef⟩, ⟨some 16, 222, none, fun v _ => v = undef⟩, ⟨some 17, 223, none, fun v _ => v = undef⟩, ⟨some 18, 224, none, fun v _ => v = .bool false⟩, ⟨some 19, 10, none, fun v _ => v = .bool false⟩]) (by kernel_rfl) (by kernel_rfl) (Inv.start (Below.refl _ _).drew ⟨nofun, nofun, nofun, nofun, nofun, nofun, nofun, nofun, nofun, nofun, nofun, nofun, nofun, nofun, nofun, nofun, nofun, nofun, nofun, nofun, trivial⟩) ?_ ?_
            · have St : ∀ xc ∈ [(⟨some 0, 206, none, fun v _ => v = .bool true⟩ : Cl), ⟨some 1, 207, none, fun v _ => v = .bool true⟩, ⟨some 2, 208, none, fun v _ => v = .int .i64 (u : Int)⟩, ⟨some 3, 209, none, fun v _ => v = .pointer (some ⟨w.heap.size + 1 + 1, 4, none⟩)⟩, ⟨some 4, 210, none, fun v _ => v = .slice PA pn pc⟩, ⟨some 5, 211, none, fun v _ => v = .int .i64 (pn : Int)⟩, ⟨some 6, 212, none, fun v _ => v = .bool false⟩, ⟨some 7, 213, none, fun v _ => v = .bool false⟩, ⟨some 8, 214, none, fun v _ => v = .bool false⟩, ⟨some 9, 215, none, fun v _ => v = undef⟩, ⟨some 10, 216, none, fun v _ => v = undef⟩, ⟨some 11, 217, none, fun v _ => v = undef⟩, ⟨some 12, 218, none, fun v _ => v = undef⟩, ⟨some 13, 219, none, fun v _ => v = undef⟩, ⟨some 14, 220, none, fun v _ => v = undef⟩, ⟨some 15, 221, none, fun v _ => v = undef⟩, ⟨some 16, 222, none, fun v _ => v = undef⟩, ⟨some 17, 223, none, fun v _ => v = undef⟩, ⟨some 18, 224, none, fun v _ => v = .bool false⟩, ⟨some 19, 10, none, fun v _ => v = .bool false⟩], Lasts xc := AllC.mem ⟨lastsV0 _ _ _ _, lastsV0 _ _ _ _, lastsV0 _ _ _ _, lastsV0 _ _ _ _, lastsV0 _ _ _ _, lastsV0 _ _ _ _, lastsV0 _ _ _ _, lastsV0 _ _ _ _, lastsV0 _ _ _ _, lastsV0 _ _ _ _, lastsV0 _ _ _ _, lastsV0 _ _ _ _, lastsV0 _ _ _ _, lastsV0 _ _ _ _, lastsV0 _ _ _ _, lastsV0 _ _ _ _, lastsV0 _ _ _ _, lastsV0 _ _ _ _, lastsV0 _ _ _ _, lastsV0 _ _ _ _, trivial⟩
              clear HA0
              refine ⟨?_, ?_, ?_, ?_, ?_, ?_, ?_, ?_, ?_, ?_, ?_, ?_, ?_, ?_, ?_, ?_, ?_, ?_, ?_, ?_, trivial⟩
              · refine StepG.of ?_
                refine stepB rfl rfl (by decide) (by rw [hz]; decide) rfl rfl (by kernel_rfl) St SG fun d a W hF hG hH hn hcl hw => ?_
                have q18 := (hF.same 18 (by decide)).trans e18
                refine ⟨.bool true, W, ?_, Below.refl _ _, ?_⟩
                · clear hF hG hH hn hcl hw
                  generalize a.eval = ρ at *
                  go_simp
                · rfl
              · refine StepG.of ?_
                refine stepB rfl rfl (by decide) (by rw [hz]; decide) rfl rfl (by kernel_rfl) St SG fun d a W hF hG hH hn hcl hw => ?_
                have q206 : a.eval (.tmp 206) = .bool true := hH.at_ (i := 0) rfl (hw 0 rfl) id
                refine ⟨.bool true, W, ?_, Below.refl _ _, ?_⟩
                · clear hF hG hH hn hcl hw
                  generalize a.eval = ρ at *
                  go_simp
                · rfl
              · refine StepG.on rfl (fun d a W hI hw => yielded_of rfl (hI.2.2.at_ (i := 1) rfl (hw 1 rfl) id)) ?_
                refine stepB rfl rfl (by decide) (by rw [hz]; decide) rfl rfl (by kernel_rfl) St SG fun d a W hF hG hH hn hcl hw => ?_
                have q17 := (hF.same 17 (by decide)).trans e17
                refine ⟨.int .i64 (u : Int), W, ?_, Below.refl _ _, ?_⟩
                · clear hF hG hH hn hcl hw
                  generalize a.eval = ρ at *
                  go_simp
                · rfl
              · refine StepG.on rfl (fun d a W hI hw => yielded_of rfl (hI.2.2.at_ (i := 1) rfl (hw 1 rfl) id)) ?_
                refine stepB rfl rfl (by decide) (by rw [hz]; decide) rfl rfl (by kernel_rfl) St SG fun d a W hF hG hH hn hcl hw => ?_
                have q9 := (hF.same 9 (by decide)).trans e9
                refine ⟨.pointer (some ⟨w.heap.size + 1 + 1, 4, none⟩), W, ?_, Below.refl _ _, ?_⟩
                · clear hF hG hH hn hcl hw
                  generalize a.eval = ρ at *
                  go_simp
                · rfl
              · refine StepG.on rfl (fun d a W hI hw => yielded_of rfl (hI.2.2.at_ (i := 1) rfl (hw 1 rfl) id)) ?_
                refine stepB rfl rfl (by decide) (by rw [hz]; decide) rfl rfl (by kernel_rfl) St SG fun d a W hF hG hH hn hcl hw => ?_
                have q209 : a.eval (.tmp 209) = .pointer (some ⟨w.heap.size + 1 + 1, 4, none⟩) := hH.at_ (i := 3) rfl (hw 3 rfl) id
                have qc_ := cell_kept hG g4
                clear g2 g3 g4
                refine ⟨.slice PA pn pc, W, ?_, Below.refl _ _, ?_⟩
                · clear hF hG hH hn hcl hw
                  generalize a.eval = ρ at *
                  go_simp
                · rfl
              · refine StepG.on rfl (fun d a W hI hw => yielded_of rfl (hI.2.2.at_ (i := 1) rfl (hw 1 rfl) id)) ?_
                refine stepB rfl rfl (by decide) (by rw [hz]; decide) rfl rfl (by kernel_rfl) St SG fun d a W hF hG hH hn hcl hw => ?_
                have q210 : a.eval (.tmp 210) = .slice PA pn pc := hH.at_ (i := 4) rfl (hw 4 rfl) id
                refine ⟨.int .i64 (pn : Int), W, ?_, Below.refl _ _, ?_⟩
                · clear hF hG hH hn hcl hw
                  generalize a.eval = ρ at *
                  go_simp
                · rfl
              · refine StepG.on rfl (fun d a W hI hw => yielded_of rfl (hI.2.2.at_ (i := 1) rfl (hw 1 rfl) id)) ?_
                refine stepB rfl rfl (by decide) (by rw [hz]; decide) rfl rfl (by kernel_rfl) St SG fun d a W hF hG hH hn hcl hw => ?_
                have q208 : a.eval (.tmp 208) = .int .i64 (u : Int) := hH.at_ (i := 2) rfl (hw 2 rfl) id
                have q211 : a.eval (.tmp 211) = .int .i64 (pn : Int) := hH.at_ (i := 5) rfl (hw 5 rfl) id
                have e : ((u : Int) == pn) = false := by simp; omega
                refine ⟨.bool false, W, ?_, Below.refl _ _, ?_⟩
                · clear hF hG hH hn hcl hw
                  generalize a.eval = ρ at *
                  go_simp
                · rfl
              · refine StepG.of ?_
                refine stepB rfl rfl (by decide) (by rw [hz]; decide) rfl rfl (by kernel_rfl) St SG fun d a W hF hG hH hn hcl hw => ?_
                have q207 : a.eval (.tmp 207) = .bool true := hH.at_ (i := 1) rfl (hw 1 rfl) id
                have q212 : a.eval (.tmp 212) = .bool false := hH.at_ (i := 6) rfl (hw 6 rfl) id
                have qk1 : a.eval (.const (.bool false)) = .bool false := rfl
                refine ⟨.bool false, W, ?_, Below.refl _ _, ?_⟩
                · clear hF hG hH hn hcl hw
                  generalize a.eval = ρ at *
                  go_simp
                · rfl
              · refine StepG.of ?_
                refine stepB rfl rfl (by decide) (by rw [hz]; decide) rfl rfl (by kernel_rfl) St SG fun d a W hF hG hH hn hcl hw => ?_
                have q213 : a.eval (.tmp 213) = .bool false := hH.at_ (i := 7) rfl (hw 7 rfl) id
                refine ⟨.bool false, W, ?_, Below.refl _ _, ?_⟩
                · clear hF hG hH hn hcl hw
                  generalize a.eval = ρ at *
                  go_simp
                · rfl
              · exact step_off rfl rfl (by decide) (by rw [hz]; decide) rfl rfl (by kernel_rfl) (fun _ => rfl) SG (fun d a W hI hw => yielded_of rfl (hI.2.2.at_ (i := 8) rfl (hw 8 rfl) id))
              · exact step_off rfl rfl (by decide) (by rw [hz]; decide) rfl rfl (by kernel_rfl) (fun _ => rfl) SG (fun d a W hI hw => yielded_of rfl (hI.2.2.at_ (i := 8) rfl (hw 8 rfl) id))
              · exact step_off rfl rfl (by decide) (by rw [hz]; decide) rfl rfl (by kernel_rfl) (fun _ => rfl) SG (fun d a W hI hw => yielded_of rfl (hI.2.2.at_ (i := 8) rfl (hw 8 rfl) id))
              · exact step_off rfl rfl (by decide) (by rw [hz]; decide) rfl rfl (by kernel_rfl) (fun _ => rfl) SG (fun d a W hI hw => yielded_of rfl (hI.2.2.at_ (i := 8) rfl (hw 8 rfl) id))
              · exact step_off rfl rfl (by decide) (by rw [hz]; decide) rfl rfl (by kernel_rfl) (fun _ => rfl) SG (fun d a W hI hw => yielded_of rfl (hI.2.2.at_ (i := 8) rfl (hw 8 rfl) id))
              · exact step_off rfl rfl (by decide) (by rw [hz]; decide) rfl rfl (by kernel_rfl) (fun _ => rfl) SG (fun d a W hI hw => yielded_of rfl (hI.2.2.at_ (i := 8) rfl (hw 8 rfl) id))
              · exact step_off rfl rfl (by decide) (by rw [hz]; decide) rfl rfl (by kernel_rfl) (fun _ => rfl) SG (fun d a W hI hw => yielded_of rfl (hI.2.2.at_ (i := 8) rfl (hw 8 rfl) id))
              · exact step_off rfl rfl (by decide) (by rw [hz]; decide) rfl rfl (by kernel_rfl) (fun _ => rfl) SG (fun d a W hI hw => yielded_of rfl (hI.2.2.at_ (i := 8) rfl (hw 8 rfl) id))
              · exact step_off rfl rfl (by decide) (by rw [hz]; decide) rfl rfl (by kernel_rfl) (fun _ => rfl) SG (fun d a W hI hw => yielded_of rfl (hI.2.2.at_ (i := 8) rfl (hw 8 rfl) id))
              · refine StepG.of ?_
                refine stepB rfl rfl (by decide) (by rw [hz]; decide) rfl rfl (by kernel_rfl) St SG fun d a W hF hG hH hn hcl hw => ?_
                have q214 : a.eval (.tmp 214) = .bool false := hH.at_ (i := 8) rfl (hw 8 rfl) id
                have q223 : a.eval (.tmp 223) = undef := hH.at_ (i := 17) rfl (hw 17 rfl) id
                have qk1 : a.eval (.const (.bool false)) = .bool false := rfl
                refine ⟨.bool false, W, ?_, Below.refl _ _, ?_⟩
                · clear hF hG hH hn hcl hw
                  generalize a.eval = ρ at *
                  go_simp
                · rfl
              · refine StepG.of ?_
                refine stepB rfl rfl (by decide) (by rw [hz]; decide) rfl rfl (by kernel_rfl) St SG fun d a W hF hG hH hn hcl hw => ?_
                have q224 : a.eval (.tmp 224) = .bool false := hH.at_ (i := 18) rfl (hw 18 rfl) id
                refine ⟨.bool false, W, ?_, Below.refl _ _, ?_⟩
                · clear hF hG hH hn hcl hw
                  generalize a.eval = ρ at *
                  go_simp
                · rfl
            · intro d a W ⟨hF, hB, hH⟩ hall
              have k10 : a.eval (.tmp 10) = .bool false := hH.at_ (i := 19) rfl (hall 19 (by decide)) id
              clear hH hall
              rw [hF.shape (by rw [hz]; decide)]
              clear hF
              simp only [List.foldl]
              generalize a.eval (.tmp 206) = z206 at *
              generalize a.eval (.tmp 207) = z207 at *
              generalize a.eval (.tmp 208) = z208 at *
              generalize a.eval (.tmp 209) = z209 at *
              generalize a.eval (.tmp 210) = z210 at *
              generalize a.eval (.tmp 211) = z211 at *
              generalize a.eval (.tmp 212) = z212 at *
              generalize a.eval (.tmp 213) = z213 at *
              generalize a.eval (.tmp 214) = z214 at *
              generalize a.eval (.tmp 215) = z215 at *
              generalize a.eval (.tmp 216) = z216 at *
              generalize a.eval (.tmp 217) = z217 at *
              generalize a.eval (.tmp 218) = z218 at *
              generalize a.eval (.tmp 219) = z219 at *
              generalize a.eval (.tmp 220) = z220 at *
              generalize a.eval (.tmp 221) = z221 at *
              generalize a.eval (.tmp 222) = z222 at *
              generalize a.eval (.tmp 223) = z223 at *
              generalize a.eval (.tmp 224) = z224 at *
              generalize a.eval (.tmp 10) = z10 at *
              subst k10
              rw [HA0.out]
              simp only [Act.put, List.setIfInBounds_toArray, List.set_cons_zero, List.set_cons_succ]
              clear hz HA0 SG e5 e6 e9 e16 e17 e18
              clear a a0
              go_wp2_with (fail)
              go_ret
              exact ⟨rfl, Below.on B2 hB⟩
          · obtain rfl : B = false := by rw [← HB]; simp
            clear HB
            go_upto_region 14 with (fail)
            refine wp_name fun a0 ha0 => ?_
            have e5 : a0.eval (.tmp 5) = .pointer (some ⟨w.heap.size, 0, none⟩) := by rw [ha0]; rfl
            have e6 : a0.eval (.tmp 6) = .pointer (some ⟨(w.heap.size + 1), 0, none⟩) := by rw [ha0]; rfl
            have e9 : a0.eval (.tmp 9) = .pointer (some ⟨(w.heap.size + 1 + 1), 0, none⟩) := by rw [ha0]; rfl
            have e16 : a0.eval (.tmp 16) = .pointer (some ⟨g, 0, none⟩) := by rw [ha0]; rfl
            have e17 : a0.eval (.tmp 17) = .int .i64 (u : Int) := by rw [ha0]; rfl
            have e18 : a0.eval (.tmp 18) = .bool true := by rw [ha0]; rfl
            have hz : a0.tmps.size = 225 := by rw [ha0]; rfl
            have HA0 := Lib.hid ha0
            clear ha0
            have SG : ∀ (d d' : Nat → Prop) (W W' : World), (fun (_ : Nat → Prop) (W : World) => Below w5.heap.size w5 W) d W → (∀ j, d j → d' j) → Below W.heap.size W W' → (fun (_ : Nat → Prop) (W : World) => Below w5.heap.size w5 W) d' W' := fun _ _ _ _ h _ b => Below.next h b
            refine wp_region_guards (Inv [206, 207, 208, 209, 210, 211, 212, 213, 214, 215, 216, 217, 218, 219, 220, 221, 222, 223, 224, 10] a0 (fun (_ : Nat → Prop) (W : World) => Below w5.heap.size w5 W) [(⟨some 0, 206, none, fun v _ => v = .bool true⟩ : Cl), ⟨some 1, 207, none, fun v _ => v = .bool true⟩, ⟨some 2, 208, none, fun v _ => v = .int .i64 (u : Int)⟩, ⟨some 3, 209, none, fun v _ => v = .pointer (some ⟨w.heap.size + 1 + 1, 4, none⟩)⟩, ⟨some 4, 210, none, fun v _ => v = .slice PA u pc⟩, ⟨some 5, 211, none, fun v _ => v = .int .i64 (u : Int)⟩, ⟨some 6, 212, none, fun v _ => v = .bool true⟩, ⟨some 7, 213, none, fun v _ => v = .bool true⟩, ⟨some 8, 214, none, fun v _ => v = .bool true⟩, ⟨some 9, 215, none, fun v _ => v = hashV root⟩, ⟨some 10, 216, none, fun v _ => v = wordsV⟩, ⟨some 11, 217, none, fun v _ => v = .pointer (some ⟨w.heap.size + 1 + 1, 3, none⟩)⟩, ⟨some 12, 218, none, fun v _ => v = .int .i64 size⟩, ⟨some 13, 219, none, fun v _ => v = .pointer (some ⟨w.heap.size + 1 + 1, 2, none⟩)⟩, ⟨some 14, 220, none, fun v _ => v = .int .i64 (N : Int)⟩, ⟨some 15, 221, none, fun v _ => v = hashV x1⟩, ⟨some 16, 222, none, fun v _ => v = hashV y⟩, ⟨some 17, 223, none, fun v _ => v = .bool false⟩, ⟨some 18, 224, none, fun v _ => v = .bool false⟩, ⟨some 19, 10, none, fun v _ => v = .bool false⟩]) (by kernel_rfl) (by kernel_rfl) (Inv.start (Below.refl _ _).drew ⟨nofun, nofun, nofun, nofun, nofun, nofun, nofun, nofun, nofun, nofun, nofun, nofun, nofun, nofun, nofun, nofun, nofun, nofun, nofun, nofun, trivial⟩) ?_ ?_
            · have St : ∀ xc ∈ [(⟨some 0, 206, none, fun v _ => v = .bool true⟩ : Cl), ⟨some 1, 207, none, fun v _ => v = .bool true⟩, ⟨some 2, 208, none, fun v _ => v = .int .i64 (u : Int)⟩, ⟨some 3, 209, none, fun v _ => v = .pointer (some ⟨w.heap.size + 1 + 1, 4, none⟩)⟩, ⟨some 4, 210, none, fun v _ => v = .slice PA u pc⟩, ⟨some 5, 211, none, fun v _ => v = .int .i64 (u : Int)⟩, ⟨some 6, 212, none, fun v _ => v = .bool true⟩, ⟨some 7, 213, none, fun v _ => v = .bool true⟩, ⟨some 8, 214, none, fun v _ => v = .bool true⟩, ⟨some 9, 215, none, fun v _ => v = hashV root⟩, ⟨some 10, 216, none, fun v _ => v = wordsV⟩, ⟨some 11, 217, none, fun v _ => v = .pointer (some ⟨w.heap.size + 1 + 1, 3, none⟩)⟩, ⟨some 12, 218, none, fun v _ => v = .int .i64 size⟩, ⟨some 13, 219, none, fun v _ => v = .pointer (some ⟨w.heap.size + 1 + 1, 2, none⟩)⟩, ⟨some 14, 220, none, fun v _ => v = .int .i64 (N : Int)⟩, ⟨some 15, 221, none, fun v _ => v = hashV x1⟩, ⟨some 16, 222, none, fun v _ => v = hashV y⟩, ⟨some 17, 223, none, fun v _ => v = .bool false⟩, ⟨some 18, 224, none, fun v _ => v = .bool false⟩, ⟨some 19, 10, none, fun v _ => v = .bool false⟩], Lasts xc := AllC.mem ⟨lastsV0 _ _ _ _, lastsV0 _ _ _ _, lastsV0 _ _ _ _, lastsV0 _ _ _ _, lastsV0 _ _ _ _, lastsV0 _ _ _ _, lastsV0 _ _ _ _, lastsV0 _ _ _ _, lastsV0 _ _ _ _, lastsV0 _ _ _ _, lastsV0 _ _ _ _, lastsV0 _ _ _ _, lastsV0 _ _ _ _, lastsV0 _ _ _ _, lastsV0 _ _ _ _, lastsV0 _ _ _ _, lastsV0 _ _ _ _, lastsV0 _ _ _ _, lastsV0 _ _ _ _, lastsV0 _ _ _ _, trivial⟩
              clear HA0
              refine ⟨?_, ?_, ?_, ?_, ?_, ?_, ?_, ?_, ?_, ?_, ?_, ?_, ?_, ?_, ?_, ?_, ?_, ?_, ?_, ?_, trivial⟩
              · refine StepG.of ?_
                refine stepB rfl rfl (by decide) (by rw [hz]; decide) rfl rfl (by kernel_rfl) St SG fun d a W hF hG hH hn hcl hw => ?_
                have q18 := (hF.same 18 (by decide)).trans e18
                refine ⟨.bool true, W, ?_, Below.refl _ _, ?_⟩
                · clear hF hG hH hn hcl hw
                  generalize a.eval = ρ at *
                  go_simp
                · rfl
              · refine StepG.of ?_
                refine stepB rfl rfl (by decide) (by rw [hz]; decide) rfl rfl (by kernel_rfl) St SG fun d a W hF hG hH hn hcl hw => ?_
                have q206 : a.eval (.tmp 206) = .bool true := hH.at_ (i := 0) rfl (hw 0 rfl) id
                refine ⟨.bool true, W, ?_, Below.refl _ _, ?_⟩
                · clear hF hG hH hn hcl hw
                  generalize a.eval = ρ at *
                  go_simp
                · rfl
              · refine StepG.on rfl (fun d a W hI hw => yielded_of rfl (hI.2.2.at_ (i := 1) rfl (hw 1 rfl) id)) ?_
                refine stepB rfl rfl (by decide) (by rw [hz]; decide) rfl rfl (by kernel_rfl) St SG fun d a W hF hG hH hn hcl hw => ?_
                have q17 := (hF.same 17 (by decide)).trans e17
                refine ⟨.int .i64 (u : Int), W, ?_, Below.refl _ _, ?_⟩
                · clear hF hG hH hn hcl hw
                  generalize a.eval = ρ at *
                  go_simp
                · rfl
              · refine StepG.on rfl (fun d a W hI hw => yielded_of rfl (hI.2.2.at_ (i := 1) rfl (hw 1 rfl) id)) ?_
                refine stepB rfl rfl (by decide) (by rw [hz]; decide) rfl rfl (by kernel_rfl) St SG fun d a W hF hG hH hn hcl hw => ?_
                have q9 := (hF.same 9 (by decide)).trans e9
                refine ⟨.pointer (some ⟨w.heap.size + 1 + 1, 4, none⟩), W, ?_, Below.refl _ _, ?_⟩
                · clear hF hG hH hn hcl hw
                  generalize a.eval = ρ at *
                  go_simp
                · rfl
              · refine StepG.on rfl (fun d a W hI hw => yielded_of rfl (hI.2.2.at_ (i := 1) rfl (hw 1 rfl) id)) ?_
                refine stepB rfl rfl (by decide) (by rw [hz]; decide) rfl rfl (by kernel_rfl) St SG fun d a W hF hG hH hn hcl hw => ?_
                have q209 : a.eval (.tmp 209) = .pointer (some ⟨w.heap.size + 1 + 1, 4, none⟩) := hH.at_ (i := 3) rfl (hw 3 rfl) id
                have qc_ := cell_kept hG g4
                clear g2 g3 g4
                refine ⟨.slice PA u pc, W, ?_, Below.refl _ _, ?_⟩
                · clear hF hG hH hn hcl hw
                  generalize a.eval = ρ at *
                  go_simp
                · rfl
              · refine StepG.on rfl (fun d a W hI hw => yielded_of rfl (hI.2.2.at_ (i := 1) rfl (hw 1 rfl) id)) ?_
                refine stepB rfl rfl (by decide) (by rw [hz]; decide) rfl rfl (by kernel_rfl) St SG fun d a W hF hG hH hn hcl hw => ?_
                have q210 : a.eval (.tmp 210) = .slice PA u pc := hH.at_ (i := 4) rfl (hw 4 rfl) id
                refine ⟨.int .i64 (u : Int), W, ?_, Below.refl _ _, ?_⟩
                · clear hF hG hH hn hcl hw
                  generalize a.eval = ρ at *
                  go_simp
                · rfl
              · refine StepG.on rfl (fun d a W hI hw => yielded_of rfl (hI.2.2.at_ (i := 1) rfl (hw 1 rfl) id)) ?_
                refine stepB rfl rfl (by decide) (by rw [hz]; decide) rfl rfl (by kernel_rfl) St SG fun d a W hF hG hH hn hcl hw => ?_
                have q208 : a.eval (.tmp 208) = .int .i64 (u : Int) := hH.at_ (i := 2) rfl (hw 2 rfl) id
                have q211 : a.eval (.tmp 211) = .int .i64 (u : Int) := hH.at_ (i := 5) rfl (hw 5 rfl) id
                refine ⟨.bool true, W, ?_, Below.refl _ _, ?_⟩
                · clear hF hG hH hn hcl hw
                  generalize a.eval = ρ at *
                  go_simp
                · rfl
              · refine StepG.of ?_
                refine stepB rfl rfl (by decide) (by rw [hz]; decide) rfl rfl (by kernel_rfl) St SG fun d a W hF hG hH hn hcl hw => ?_
                have q207 : a.eval (.tmp 207) = .bool true := hH.at_ (i := 1) rfl (hw 1 rfl) id
                have q212 : a.eval (.tmp 212) = .bool true := hH.at_ (i := 6) rfl (hw 6 rfl) id
                have qk1 : a.eval (.const (.bool false)) = .bool false := rfl
                refine ⟨.bool true, W, ?_, Below.refl _ _, ?_⟩
                · clear hF hG hH hn hcl hw
                  generalize a.eval = ρ at *
                  go_simp
                · rfl
              · refine StepG.of ?_
                refine stepB rfl rfl (by decide) (by rw [hz]; decide) rfl rfl (by kernel_rfl) St SG fun d a W hF hG hH hn hcl hw => ?_
                have q213 : a.eval (.tmp 213) = .bool true := hH.at_ (i := 7) rfl (hw 7 rfl) id
                refine ⟨.bool true, W, ?_, Below.refl _ _, ?_⟩
                · clear hF hG hH hn hcl hw
                  generalize a.eval = ρ at *
                  go_simp
                · rfl
              · refine StepG.on rfl (fun d a W hI hw => yielded_of rfl (hI.2.2.at_ (i := 8) rfl (hw 8 rfl) id)) ?_
                refine stepB rfl rfl (by decide) (by rw [hz]; decide) rfl rfl (by kernel_rfl) St SG fun d a W hF hG hH hn hcl hw => ?_
                have q6 := (hF.same 6 (by decide)).trans e6
                refine ⟨hashV root, W, ?_, Below.refl _ _, ?_⟩
                · exact exec_load rfl (by rw [q6]; exact BoxH.load_ (BoxA.next y6 hG) HR.out)
                · rfl
              · refine StepG.on rfl (fun d a W hI hw => yielded_of rfl (hI.2.2.at_ (i := 8) rfl (hw 8 rfl) id)) ?_
                refine stepB rfl rfl (by decide) (by rw [hz]; decide) rfl rfl (by kernel_rfl) St SG fun d a W hF hG hH hn hcl hw => ?_
                have q5 := (hF.same 5 (by decide)).trans e5
                refine ⟨wordsV, W, ?_, Below.refl _ _, ?_⟩
                · exact exec_load rfl (by rw [q5]; exact BoxW.load (BoxA.next y5 hG))
                · rfl
              · refine StepG.on rfl (fun d a W hI hw => yielded_of rfl (hI.2.2.at_ (i := 8) rfl (hw 8 rfl) id)) ?_
                refine stepB rfl rfl (by decide) (by rw [hz]; decide) rfl rfl (by kernel_rfl) St SG fun d a W hF hG hH hn hcl hw => ?_
                have q9 := (hF.same 9 (by decide)).trans e9
                refine ⟨.pointer (some ⟨w.heap.size + 1 + 1, 3, none⟩), W, ?_, Below.refl _ _, ?_⟩
                · clear hF hG hH hn hcl hw
                  generalize a.eval = ρ at *
                  go_simp
                · rfl
              · refine StepG.on rfl (fun d a W hI hw => yielded_of rfl (hI.2.2.at_ (i := 8) rfl (hw 8 rfl) id)) ?_
                refine stepB rfl rfl (by decide) (by rw [hz]; decide) rfl rfl (by kernel_rfl) St SG fun d a W hF hG hH hn hcl hw => ?_
                have q217 : a.eval (.tmp 217) = .pointer (some ⟨w.heap.size + 1 + 1, 3, none⟩) := hH.at_ (i := 11) rfl (hw 11 rfl) id
                have qc_ := cell_kept hG g3
                clear g2 g3 g4
                refine ⟨.int .i64 size, W, ?_, Below.refl _ _, ?_⟩
                · clear hF hG hH hn hcl hw
                  generalize a.eval = ρ at *
                  go_simp
                · rfl
              · refine StepG.on rfl (fun d a W hI hw => yielded_of rfl (hI.2.2.at_ (i := 8) rfl (hw 8 rfl) id)) ?_
                refine stepB rfl rfl (by decide) (by rw [hz]; decide) rfl rfl (by kernel_rfl) St SG fun d a W hF hG hH hn hcl hw => ?_
                have q9 := (hF.same 9 (by decide)).trans e9
                refine ⟨.pointer (some ⟨w.heap.size + 1 + 1, 2, none⟩), W, ?_, Below.refl _ _, ?_⟩
                · clear hF hG hH hn hcl hw
                  generalize a.eval = ρ at *
                  go_simp
                · rfl
              · refine StepG.on rfl (fun d a W hI hw => yielded_of rfl (hI.2.2.at_ (i := 8) rfl (hw 8 rfl) id)) ?_
                refine stepB rfl rfl (by decide) (by rw [hz]; decide) rfl rfl (by kernel_rfl) St SG fun d a W hF hG hH hn hcl hw => ?_
                have q219 : a.eval (.tmp 219) = .pointer (some ⟨w.heap.size + 1 + 1, 2, none⟩) := hH.at_ (i := 13) rfl (hw 13 rfl) id
                have qc_ := cell_kept hG g2
                clear g2 g3 g4
                refine ⟨.int .i64 (N : Int), W, ?_, Below.refl _ _, ?_⟩
                · clear hF hG hH hn hcl hw
                  generalize a.eval = ρ at *
                  go_simp
                · rfl
              · refine StepG.on rfl (fun d a W hI hw => yielded_of rfl (hI.2.2.at_ (i := 8) rfl (hw 8 rfl) id)) ?_
                refine stepB rfl rfl (by decide) (by rw [hz]; decide) rfl rfl (by kernel_rfl) St SG fun d a W hF hG hH hn hcl hw => ?_
                have q16 := (hF.same 16 (by decide)).trans e16
                refine ⟨hashV x1, W, ?_, Below.refl _ _, ?_⟩
                · exact exec_load rfl (by rw [q16]; exact BoxH.load_ (BoxA.next y16 hG) HLA.out)
                · rfl
              · refine StepG.on rfl (fun d a W hI hw => yielded_of rfl (hI.2.2.at_ (i := 8) rfl (hw 8 rfl) id)) ?_
                refine stepC rfl rfl (by decide) (by rw [hz]; decide) rfl rfl (by kernel_rfl) St SG fun d a W hF hG hH hn hcl hw => ?_
                have q216 : a.eval (.tmp 216) = wordsV := hH.at_ (i := 10) rfl (hw 10 rfl) id
                have q218 : a.eval (.tmp 218) = .int .i64 size := hH.at_ (i := 12) rfl (hw 12 rfl) id
                have q220 : a.eval (.tmp 220) = .int .i64 (N : Int) := hH.at_ (i := 14) rfl (hw 14 rfl) id
                have q221 : a.eval (.tmp 221) = hashV x1 := hH.at_ (i := 15) rfl (hw 15 rfl) id
                have qf : a.eval (.func 61) = .func (.func 61) #[] #[] := rfl
                refine ⟨61, #[wordsV, .int .i64 size, .int .i64 (N : Int), hashV x1], ?_, ?_⟩
                · clear hF hG hH hn hcl hw
                  generalize a.eval = ρ at *
                  go_simp
                · refine (HMP.out W).mono ?_; rintro e W' ⟨rfl, b⟩; exact ⟨_, rfl, b, rfl⟩
              · refine StepG.on rfl (fun d a W hI hw => yielded_of rfl (hI.2.2.at_ (i := 8) rfl (hw 8 rfl) id)) ?_
                refine stepB rfl rfl (by decide) (by rw [hz]; decide) rfl rfl (by kernel_rfl) St SG fun d a W hF hG hH hn hcl hw => ?_
                have q215 : a.eval (.tmp 215) = hashV root := hH.at_ (i := 9) rfl (hw 9 rfl) id
                have q222 : a.eval (.tmp 222) = hashV y := hH.at_ (i := 16) rfl (hw 16 rfl) id
                have r := HEW W
                refine ⟨.bool false, W, ?_, Below.refl _ _, ?_⟩
                · clear hF hG hH hn hcl hw
                  generalize a.eval = ρ at *
                  go_simp
                · rfl
              · refine StepG.of ?_
                refine stepB rfl rfl (by decide) (by rw [hz]; decide) rfl rfl (by kernel_rfl) St SG fun d a W hF hG hH hn hcl hw => ?_
                have q214 : a.eval (.tmp 214) = .bool true := hH.at_ (i := 8) rfl (hw 8 rfl) id
                have q223 : a.eval (.tmp 223) = .bool false := hH.at_ (i := 17) rfl (hw 17 rfl) id
                have qk1 : a.eval (.const (.bool false)) = .bool false := rfl
                refine ⟨.bool false, W, ?_, Below.refl _ _, ?_⟩
                · clear hF hG hH hn hcl hw
                  generalize a.eval = ρ at *
                  go_simp
                · rfl
              · refine StepG.of ?_
                refine stepB rfl rfl (by decide) (by rw [hz]; decide) rfl rfl (by kernel_rfl) St SG fun d a W hF hG hH hn hcl hw => ?_
                have q224 : a.eval (.tmp 224) = .bool false := hH.at_ (i := 18) rfl (hw 18 rfl) id
                refine ⟨.bool false, W, ?_, Below.refl _ _, ?_⟩
                · clear hF hG hH hn hcl hw
                  generalize a.eval = ρ at *
                  go_simp
                · rfl
            · intro d a W ⟨hF, hB, hH⟩ hall
              have k10 : a.eval (.tmp 10) = .bool false := hH.at_ (i := 19) rfl (hall 19 (by decide)) id
              clear hH hall
              rw [hF.shape (by rw [hz]; decide)]
              clear hF
              simp only [List.foldl]
              generalize a.eval (.tmp 206) = z206 at *
              generalize a.eval (.tmp 207) = z207 at *
              generalize a.eval (.tmp 208) = z208 at *
              generalize a.eval (.tmp 209) = z209 at *
              generalize a.eval (.tmp 210) = z210 at *
              generalize a.eval (.tmp 211) = z211 at *
              generalize a.eval (.tmp 212) = z212 at *
              generalize a.eval (.tmp 213) = z213 at *
              generalize a.eval (.tmp 214) = z214 at *
              generalize a.eval (.tmp 215) = z215 at *
              generalize a.eval (.tmp 216) = z216 at *
              generalize a.eval (.tmp 217) = z217 at *
              generalize a.eval (.tmp 218) = z218 at *
              generalize a.eval (.tmp 219) = z219 at *
              generalize a.eval (.tmp 220) = z220 at *
              generalize a.eval (.tmp 221) = z221 at *
              generalize a.eval (.tmp 222) = z222 at *
              generalize a.eval (.tmp 223) = z223 at *
              generalize a.eval (.tmp 224) = z224 at *
              generalize a.eval (.tmp 10) = z10 at *
              subst k10
              rw [HA0.out]
              simp only [Act.put, List.setIfInBounds_toArray, List.set_cons_zero, List.set_cons_succ]
              clear hz HA0 SG e5 e6 e9 e16 e17 e18
              clear a a0
              go_wp2_with (fail)
              go_ret
              exact ⟨rfl, Below.on B2 hB⟩
          · obtain rfl : B = true := by rw [← HB]; simp
            clear HB
            go_upto_region 14 with (fail)
            refine wp_name fun a0 ha0 => ?_
            have e5 : a0.eval (.tmp 5) = .pointer (some ⟨w.heap.size, 0, none⟩) := by rw [ha0]; rfl
            have e6 : a0.eval (.tmp 6) = .pointer (some ⟨(w.heap.size + 1), 0, none⟩) := by rw [ha0]; rfl
            have e9 : a0.eval (.tmp 9) = .pointer (some ⟨(w.heap.size + 1 + 1), 0, none⟩) := by rw [ha0]; rfl
            have e16 : a0.eval (.tmp 16) = .pointer (some ⟨g, 0, none⟩) := by rw [ha0]; rfl
            have e17 : a0.eval (.tmp 17) = .int .i64 (u : Int) := by rw [ha0]; rfl
            have e18 : a0.eval (.tmp 18) = .bool true := by rw [ha0]; rfl
            have hz : a0.tmps.size = 225 := by rw [ha0]; rfl
            have HA0 := Lib.hid ha0
            clear ha0
            have SG : ∀ (d d' : Nat → Prop) (W W' : World), (fun (_ : Nat → Prop) (W : World) => Below w5.heap.size w5 W) d W → (∀ j, d j → d' j) → Below W.heap.size W W' → (fun (_ : Nat → Prop) (W : World) => Below w5.heap.size w5 W) d' W' := fun _ _ _ _ h _ b => Below.next h b
            refine wp_region_guards (Inv [206, 207, 208, 209, 210, 211, 212, 213, 214, 215, 216, 217, 218, 219, 220, 221, 222, 223, 224, 10] a0 (fun (_ : Nat → Prop) (W : World) => Below w5.heap.size w5 W) [(⟨some 0, 206, none, fun v _ => v = .bool true⟩ : Cl), ⟨some 1, 207, none, fun v _ => v = .bool true⟩, ⟨some 2, 208, none, fun v _ => v = .int .i64 (u : Int)⟩, ⟨some 3, 209, none, fun v _ => v = .pointer (some ⟨w.heap.size + 1 + 1, 4, none⟩)⟩, ⟨some 4, 210, none, fun v _ => v = .slice PA u pc⟩, ⟨some 5, 211, none, fun v _ => v = .int .i64 (u : Int)⟩, ⟨some 6, 212, none, fun v _ => v = .bool true⟩, ⟨some 7, 213, none, fun v _ => v = .bool true⟩, ⟨some 8, 214, none, fun v _ => v = .bool true⟩, ⟨some 9, 215, none, fun v _ => v = hashV root⟩, ⟨some 10, 216, none, fun v _ => v = wordsV⟩, ⟨some 11, 217, none, fun v _ => v = .pointer (some ⟨w.heap.size + 1 + 1, 3, none⟩)⟩, ⟨some 12, 218, none, fun v _ => v = .int .i64 size⟩, ⟨some 13, 219, none, fun v _ => v = .pointer (some ⟨w.heap.size + 1 + 1, 2, none⟩)⟩, ⟨some 14, 220, none, fun v _ => v = .int .i64 (N : Int)⟩, ⟨some 15, 221, none, fun v _ => v = hashV x1⟩, ⟨some 16, 222, none, fun v _ => v = hashV y⟩, ⟨some 17, 223, none, fun v _ => v = .bool true⟩, ⟨some 18, 224, none, fun v _ => v = .bool true⟩, ⟨some 19, 10, none, fun v _ => v = .bool true⟩]) (by kernel_rfl) (by kernel_rfl) (Inv.start (Below.refl _ _).drew ⟨nofun, nofun, nofun, nofun, nofun, nofun, nofun, nofun, nofun, nofun, nofun, nofun, nofun, nofun, nofun, nofun, nofun, nofun, nofun, nofun, trivial⟩) ?_ ?_
            · have St : ∀ xc ∈ [(⟨some 0, 206, none, fun v _ => v = .bool true⟩ : Cl), ⟨some 1, 207, none, fun v _ => v = .bool true⟩, ⟨some 2, 208, none, fun v _ => v = .int .i64 (u : Int)⟩, ⟨some 3, 209, none, fun v _ => v = .pointer (some ⟨w.heap.size + 1 + 1, 4, none⟩)⟩, ⟨some 4, 210, none, fun v _ => v = .slice PA u pc⟩, ⟨some 5, 211, none, fun v _ => v = .int .i64 (u : Int)⟩, ⟨some 6, 212, none, fun v _ => v = .bool true⟩, ⟨some 7, 213, none, fun v _ => v = .bool true⟩, ⟨some 8, 214, none, fun v _ => v = .bool true⟩, ⟨some 9, 215, none, fun v _ => v = hashV root⟩, ⟨some 10, 216, none, fun v _ => v = wordsV⟩, ⟨some 11, 217, none, fun v _ => v = .pointer (some ⟨w.heap.size + 1 + 1, 3, none⟩)⟩, ⟨some 12, 218, none, fun v _ => v = .int .i64 size⟩, ⟨some 13, 219, none, fun v _ => v = .pointer (some ⟨w.heap.size + 1 + 1, 2, none⟩)⟩, ⟨some 14, 220, none, fun v _ => v = .int .i64 (N : Int)⟩, ⟨some 15, 221, none, fun v _ => v = hashV x1⟩, ⟨some 16, 222, none, fun v _ => v = hashV y⟩, ⟨some 17, 223, none, fun v _ => v = .bool true⟩, ⟨some 18, 224, none, fun v _ => v = .bool true⟩, ⟨some 19, 10, none, fun v _ => v = .bool true⟩], Lasts xc := AllC.mem ⟨lastsV0 _ _ _ _, lastsV0 _ _ _ _, lastsV0 _ _ _ _, lastsV0 _ _ _ _, lastsV0 _ _ _ _, lastsV0 _ _ _ _, lastsV0 _ _ _ _, lastsV0 _ _ _ _, lastsV0 _ _ _ _, lastsV0 _ _ _ _, lastsV0 _ _ _ _, lastsV0 _ _ _ _, lastsV0 _ _ _ _, lastsV0 _ _ _ _, lastsV0 _ _ _ _, lastsV0 _ _ _ _, lastsV0 _ _ _ _, lastsV0 _ _ _ _, lastsV0 _ _ _ _, lastsV0 _ _ _ _, trivial⟩
              clear HA0
              refine ⟨?_, ?_, ?_, ?_, ?_, ?_, ?_, ?_, ?_, ?_, ?_, ?_, ?_, ?_, ?_, ?_, ?_, ?_, ?_, ?_, trivial⟩
              · refine StepG.of ?_
                refine stepB rfl rfl (by decide) (by rw [hz]; decide) rfl rfl (by kernel_rfl) St SG fun d a W hF hG hH hn hcl hw => ?_
                have q18 := (hF.same 18 (by decide)).trans e18
                refine ⟨.bool true, W, ?_, Below.refl _ _, ?_⟩
                · clear hF hG hH hn hcl hw
                  generalize a.eval = ρ at *
                  go_simp
                · rfl
              · refine StepG.of ?_
                refine stepB rfl rfl (by decide) (by rw [hz]; decide) rfl rfl (by kernel_rfl) St SG fun d a W hF hG hH hn hcl hw => ?_
                have q206 : a.eval (.tmp 206) = .bool true := hH.at_ (i := 0) rfl (hw 0 rfl) id
                refine ⟨.bool true, W, ?_, Below.refl _ _, ?_⟩
                · clear hF hG hH hn hcl hw
                  generalize a.eval = ρ at *
                  go_simp
                · rfl
              · refine StepG.on rfl (fun d a W hI hw => yielded_of rfl (hI.2.2.at_ (i := 1) rfl (hw 1 rfl) id)) ?_
                refine stepB rfl rfl (by decide) (by rw [hz]; decide) rfl rfl (by kernel_rfl) St SG fun d a W hF hG hH hn hcl hw => ?_
                have q17 := (hF.same 17 (by decide)).trans e17
                refine ⟨.int .i64 (u : Int), W, ?_, Below.refl _ _, ?_⟩
                · clear hF hG hH hn hcl hw
                  generalize a.eval = ρ at *
                  go_simp
                · rfl
              · refine StepG.on rfl (fun d a W hI hw => yielded_of rfl (hI.2.2.at_ (i := 1) rfl (hw 1 rfl) id)) ?_
                refine stepB rfl rfl (by decide) (by rw [hz]; decide) rfl rfl (by kernel_rfl) St SG fun d a W hF hG hH hn hcl hw => ?_
                have q9 := (hF.same 9 (by decide)).trans e9
                refine ⟨.pointer (some ⟨w.heap.size + 1 + 1, 4, none⟩), W, ?_, Below.refl _ _, ?_⟩
                · clear hF hG hH hn hcl hw
                  generalize a.eval = ρ at *
                  go_simp
                · rfl
              · refine StepG.on rfl (fun d a W hI hw => yielded_of rfl (hI.2.2.at_ (i := 1) rfl (hw 1 rfl) id)) ?_
                refine stepB rfl rfl (by decide) (by rw [hz]; decide) rfl rfl (by kernel_rfl) St SG fun d a W hF hG hH hn hcl hw => ?_
                have q209 : a.eval (.tmp 209) = .pointer (some ⟨w.heap.size + 1 + 1, 4, none⟩) := hH.at_ (i := 3) rfl (hw 3 rfl) id
                have qc_ := cell_kept hG g4
                clear g2 g3 g4
                refine ⟨.slice PA u pc, W, ?_, Below.refl _ _, ?_⟩
                · clear hF hG hH hn hcl hw
                  generalize a.eval = ρ at *
                  go_simp
                · rfl
              · refine StepG.on rfl (fun d a W hI hw => yielded_of rfl (hI.2.2.at_ (i := 1) rfl (hw 1 rfl) id)) ?_
                refine stepB rfl rfl (by decide) (by rw [hz]; decide) rfl rfl (by kernel_rfl) St SG fun d a W hF hG hH hn hcl hw => ?_
                have q210 : a.eval (.tmp 210) = .slice PA u pc := hH.at_ (i := 4) rfl (hw 4 rfl) id
                refine ⟨.int .i64 (u : Int), W, ?_, Below.refl _ _, ?_⟩
                · clear hF hG hH hn hcl hw
                  generalize a.eval = ρ at *
                  go_simp
                · rfl
              · refine StepG.on rfl (fun d a W hI hw => yielded_of rfl (hI.2.2.at_ (i := 1) rfl (hw 1 rfl) id)) ?_
                refine stepB rfl rfl (by decide) (by rw [hz]; decide) rfl rfl (by kernel_rfl) St SG fun d a W hF hG hH hn hcl hw => ?_
                have q208 : a.eval (.tmp 208) = .int .i64 (u : Int) := hH.at_ (i := 2) rfl (hw 2 rfl) id
                have q211 : a.eval (.tmp 211) = .int .i64 (u : Int) := hH.at_ (i := 5) rfl (hw 5 rfl) id
                refine ⟨.bool true, W, ?_, Below.refl _ _, ?_⟩
                · clear hF hG hH hn hcl hw
                  generalize a.eval = ρ at *
                  go_simp
                · rfl
              · refine StepG.of ?_
                refine stepB rfl rfl (by decide) (by rw [hz]; decide) rfl rfl (by kernel_rfl) St SG fun d a W hF hG hH hn hcl hw => ?_
                have q207 : a.eval (.tmp 207) = .bool true := hH.at_ (i := 1) rfl (hw 1 rfl) id
                have q212 : a.eval (.tmp 212) = .bool true := hH.at_ (i := 6) rfl (hw 6 rfl) id
                have qk1 : a.eval (.const (.bool false)) = .bool false := rfl
                refine ⟨.bool true, W, ?_, Below.refl _ _, ?_⟩
                · clear hF hG hH hn hcl hw
                  generalize a.eval = ρ at *
                  go_simp
                · rfl
              · refine StepG.of ?_
                refine stepB rfl rfl (by decide) (by rw [hz]; decide) rfl rfl (by kernel_rfl) St SG fun d a W hF hG hH hn hcl hw => ?_
                have q213 : a.eval (.tmp 213) = .bool true := hH.at_ (i := 7) rfl (hw 7 rfl) id
                refine ⟨.bool true, W, ?_, Below.refl _ _, ?_⟩
                · clear hF hG hH hn hcl hw
                  generalize a.eval = ρ at *
                  go_simp
                · rfl
              · refine StepG.on rfl (fun d a W hI hw => yielded_of rfl (hI.2.2.at_ (i := 8) rfl (hw 8 rfl) id)) ?_
                refine stepB rfl rfl (by decide) (by rw [hz]; decide) rfl rfl (by kernel_rfl) St SG fun d a W hF hG hH hn hcl hw => ?_
                have q6 := (hF.same 6 (by decide)).trans e6
                refine ⟨hashV root, W, ?_, Below.refl _ _, ?_⟩
                · exact exec_load rfl (by rw [q6]; exact BoxH.load_ (BoxA.next y6 hG) HR.out)
                · rfl
              · refine StepG.on rfl (fun d a W hI hw => yielded_of rfl (hI.2.2.at_ (i := 8) rfl (hw 8 rfl) id)) ?_
                refine stepB rfl rfl (by decide) (by rw [hz]; decide) rfl rfl (by kernel_rfl) St SG fun d a W hF hG hH hn hcl hw => ?_
                have q5 := (hF.same 5 (by decide)).trans e5
                refine ⟨wordsV, W, ?_, Below.refl _ _, ?_⟩
                · exact exec_load rfl (by rw [q5]; exact BoxW.load (BoxA.next y5 hG))
                · rfl
              · refine StepG.on rfl (fun d a W hI hw => yielded_of rfl (hI.2.2.at_ (i := 8) rfl (hw 8 rfl) id)) ?_
                refine stepB rfl rfl (by decide) (by rw [hz]; decide) rfl rfl (by kernel_rfl) St SG fun d a W hF hG hH hn hcl hw => ?_
                have q9 := (hF.same 9 (by decide)).trans e9
                refine ⟨.pointer (some ⟨w.heap.size + 1 + 1, 3, none⟩), W, ?_, Below.refl _ _, ?_⟩
                · clear hF hG hH hn hcl hw
                  generalize a.eval = ρ at *
                  go_simp
                · rfl
              · refine StepG.on rfl (fun d a W hI hw => yielded_of rfl (hI.2.2.at_ (i := 8) rfl (hw 8 rfl) id)) ?_
                refine stepB rfl rfl (by decide) (by rw [hz]; decide) rfl rfl (by kernel_rfl) St SG fun d a W hF hG hH hn hcl hw => ?_
                have q217 : a.eval (.tmp 217) = .pointer (some ⟨w.heap.size + 1 + 1, 3, none⟩) := hH.at_ (i := 11) rfl (hw 11 rfl) id
                have qc_ := cell_kept hG g3
                clear g2 g3 g4
                refine ⟨.int .i64 size, W, ?_, Below.refl _ _, ?_⟩
                · clear hF hG hH hn hcl hw
                  generalize a.eval = ρ at *
                  go_simp
                · rfl
              · refine StepG.on rfl (fun d a W hI hw => yielded_of rfl (hI.2.2.at_ (i := 8) rfl (hw 8 rfl) id)) ?_
                refine stepB rfl rfl (by decide) (by rw [hz]; decide) rfl rfl (by kernel_rfl) St SG fun d a W hF hG hH hn hcl hw => ?_
                have q9 := (hF.same 9 (by decide)).trans e9
                refine ⟨.pointer (some ⟨w.heap.size + 1 + 1, 2, none⟩), W, ?_, Below.refl _ _, ?_⟩
                · clear hF hG hH hn hcl hw
                  generalize a.eval = ρ at *
                  go_simp
                · rfl
              · refine StepG.on rfl (fun d a W hI hw => yielded_of rfl (hI.2.2.at_ (i := 8) rfl (hw 8 rfl) id)) ?_
                refine stepB rfl rfl (by decide) (by rw [hz]; decide) rfl rfl (by kernel_rfl) St SG fun d a W hF hG hH hn hcl hw => ?_
                have q219 : a.eval (.tmp 219) = .pointer (some ⟨w.heap.size + 1 + 1, 2, none⟩) := hH.at_ (i := 13) rfl (hw 13 rfl) id
                have qc_ := cell_kept hG g2
                clear g2 g3 g4
                refine ⟨.int .i64 (N : Int), W, ?_, Below.refl _ _, ?_⟩
                · clear hF hG hH hn hcl hw
                  generalize a.eval = ρ at *
                  go_simp
                · rfl
              · refine StepG.on rfl (fun d a W hI hw => yielded_of rfl (hI.2.2.at_ (i := 8) rfl (hw 8 rfl) id)) ?_
                refine stepB rfl rfl (by decide) (by rw [hz]; decide) rfl rfl (by kernel_rfl) St SG fun d a W hF hG hH hn hcl hw => ?_
                have q16 := (hF.same 16 (by decide)).trans e16
                refine ⟨hashV x1, W, ?_, Below.refl _ _, ?_⟩
                · exact exec_load rfl (by rw [q16]; exact BoxH.load_ (BoxA.next y16 hG) HLA.out)
                · rfl
              · refine StepG.on rfl (fun d a W hI hw => yielded_of rfl (hI.2.2.at_ (i := 8) rfl (hw 8 rfl) id)) ?_
                refine stepC rfl rfl (by decide) (by rw [hz]; decide) rfl rfl (by kernel_rfl) St SG fun d a W hF hG hH hn hcl hw => ?_
                have q216 : a.eval (.tmp 216) = wordsV := hH.at_ (i := 10) rfl (hw 10 rfl) id
                have q218 : a.eval (.tmp 218) = .int .i64 size := hH.at_ (i := 12) rfl (hw 12 rfl) id
                have q220 : a.eval (.tmp 220) = .int .i64 (N : Int) := hH.at_ (i := 14) rfl (hw 14 rfl) id
                have q221 : a.eval (.tmp 221) = hashV x1 := hH.at_ (i := 15) rfl (hw 15 rfl) id
                have qf : a.eval (.func 61) = .func (.func 61) #[] #[] := rfl
                refine ⟨61, #[wordsV, .int .i64 size, .int .i64 (N : Int), hashV x1], ?_, ?_⟩
                · clear hF hG hH hn hcl hw
                  generalize a.eval = ρ at *
                  go_simp
                · refine (HMP.out W).mono ?_; rintro e W' ⟨rfl, b⟩; exact ⟨_, rfl, b, rfl⟩
              · refine StepG.on rfl (fun d a W hI hw => yielded_of rfl (hI.2.2.at_ (i := 8) rfl (hw 8 rfl) id)) ?_
                refine stepB rfl rfl (by decide) (by rw [hz]; decide) rfl rfl (by kernel_rfl) St SG fun d a W hF hG hH hn hcl hw => ?_
                have q215 : a.eval (.tmp 215) = hashV root := hH.at_ (i := 9) rfl (hw 9 rfl) id
                have q222 : a.eval (.tmp 222) = hashV y := hH.at_ (i := 16) rfl (hw 16 rfl) id
                have r := HEW W
                refine ⟨.bool true, W, ?_, Below.refl _ _, ?_⟩
                · clear hF hG hH hn hcl hw
                  generalize a.eval = ρ at *
                  go_simp
                · rfl
              · refine StepG.of ?_
                refine stepB rfl rfl (by decide) (by rw [hz]; decide) rfl rfl (by kernel_rfl) St SG fun d a W hF hG hH hn hcl hw => ?_
                have q214 : a.eval (.tmp 214) = .bool true := hH.at_ (i := 8) rfl (hw 8 rfl) id
                have q223 : a.eval (.tmp 223) = .bool true := hH.at_ (i := 17) rfl (hw 17 rfl) id
                have qk1 : a.eval (.const (.bool false)) = .bool false := rfl
                refine ⟨.bool true, W, ?_, Below.refl _ _, ?_⟩
                · clear hF hG hH hn hcl hw
                  generalize a.eval = ρ at *
                  go_simp
                · rfl
              · refine StepG.of ?_
                refine stepB rfl rfl (by decide) (by rw [hz]; decide) rfl rfl (by kernel_rfl) St SG fun d a W hF hG hH hn hcl hw => ?_
                have q224 : a.eval (.tmp 224) = .bool true := hH.at_ (i := 18) rfl (hw 18 rfl) id
                refine ⟨.bool true, W, ?_, Below.refl _ _, ?_⟩
                · clear hF hG hH hn hcl hw
                  generalize a.eval = ρ at *
                  go_simp
                · rfl
            · intro d a W ⟨hF, hB, hH⟩ hall
              have k10 : a.eval (.tmp 10) = .bool true := hH.at_ (i := 19) rfl (hall 19 (by decide)) id
              clear hH hall
              rw [hF.shape (by rw [hz]; decide)]
              clear hF
              simp only [List.foldl]
              generalize a.eval (.tmp 206) = z206 at *
              generalize a.eval (.tmp 207) = z207 at *
              generalize a.eval (.tmp 208) = z208 at *
              generalize a.eval (.tmp 209) = z209 at *
              generalize a.eval (.tmp 210) = z210 at *
              generalize a.eval (.tmp 211) = z211 at *
              generalize a.eval (.tmp 212) = z212 at *
              generalize a.eval (.tmp 213) = z213 at *
              generalize a.eval (.tmp 214) = z214 at *
              generalize a.eval (.tmp 215) = z215 at *
              generalize a.eval (.tmp 216) = z216 at *
              generalize a.eval (.tmp 217) = z217 at *
              generalize a.eval (.tmp 218) = z218 at *
              generalize a.eval (.tmp 219) = z219 at *
              generalize a.eval (.tmp 220) = z220 at *
              generalize a.eval (.tmp 221) = z221 at *
              generalize a.eval (.tmp 222) = z222 at *
              generalize a.eval (.tmp 223) = z223 at *
              generalize a.eval (.tmp 224) = z224 at *
              generalize a.eval (.tmp 10) = z10 at *
              subst k10
              rw [HA0.out]
              simp only [Act.put, List.setIfInBounds_toArray, List.set_cons_zero, List.set_cons_succ]
              clear hz HA0 SG e5 e6 e9 e16 e17 e18
              clear a a0
              go_wp2_with (fail)
              go_ret
              exact ⟨rfl, Below.on B2 hB⟩
end Go.Proofs.YtcocengpekndjaaDoor
