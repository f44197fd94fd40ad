/- The walk over ProofTrue. -/
import Derived.Test.YtcocengpekndjaaDoorPrRegT
namespace Go.Proofs.YtcocengpekndjaaDoor
open Go.RowKit
set_option maxRecDepth 100000 in
set_option maxHeartbeats 4000000 in
theorem true_none (X : Rn) (index count size : Int) (A PA : Option Addr) (at_ : Int) (n c pn pc : Nat) (w : World) (hk : Kon w) (hn : n = 0 ∨ 60 < n) : Calls Tryd.prog 11 #[.slice A n c, .int .i64 at_, claim1V X index count size PA pn pc] w fun e w' => e = .returned (.bool true) ∧ Below w.heap.size w w' := by
  obtain ⟨w0, hW0⟩ : ∃ w0, w.alloc (.cells (cellsS X index count size PA pn pc) 37) = w0 := ⟨_, rfl⟩
  have B0 : Below w.heap.size w w0 := hW0 ▸ Below.new1 _ _
  have x5 : BoxS w0 w.heap.size X index count size PA pn pc := hW0 ▸ BoxS.new w X index count size PA pn pc
  have hk0 := hk.next B0
  have HO := Lib.hid hW0
  have HMD := Lib.hid (made_no A n c w0 hn)
  have HA := Lib.hid (fun W kon => awake_any W kon)
  have hx : n = 0 ∨ (((n : Int) == 0) = false ∧ (60 : Int) < n) := by
    rcases hn with h | h
    · exact .inl h
    · exact .inr ⟨by simp; omega, by omega⟩
  clear hn hk hW0 x5
  rcases hx with rfl | ⟨j1, j2⟩
  all_goals
    go_enter Tryd.func11, Tryd.ntmps11
    go_upto_region 1 with (fail)
    change Code.wp _ _ _ _ (w.alloc (.cells (cellsS X index count size PA pn pc) 37))
    rw [HO.out]
    clear HO
    go_upto_region 2 with (go_at_call 38; refine HMD.out.mono ?_; rintro e w1 ⟨rfl, b1⟩)
    obtain ⟨w2, hW2⟩ : ∃ w2, (w1.alloc (.cells #[.pointer none] 47)).alloc (.cells #[.int .i64 0, .slice none 0 0] 69) = w2 := ⟨_, rfl⟩
    have b2 : Below w1.heap.size w1 w2 := hW2 ▸ Below.on (Below.new1 _ _) (Below.new1 _ _)
    change Code.wp _ _ _ _ ((w1.alloc (.cells #[.pointer none] 47)).alloc (.cells #[.int .i64 0, .slice none 0 0] 69))
    rw [hW2]
    have B2 := Below.on b1 b2
    have hk2 := hk0.next B2
    clear hW2
    go_wp2_with (go_at_call 17; refine (HA.out _ hk2).mono ?_; rintro e w7 ⟨rfl, b7⟩)
    go_ret
    exact ⟨rfl, Below.on (Below.on B0 B2) b7⟩
set_option maxRecDepth 100000 in
set_option maxHeartbeats 4000000 in
theorem true_long (ts : List UInt8) (X : Rn) (index count size : Int) (A PA : Option Addr) (at_ : Int) (n c pn pc : Nat) (w : World) (hn : ts.length = n) (h1 : 1 ≤ n) (h60 : n ≤ 60) (hT : Tags w A ts) (hk : Kon w) (h30 : 30 < pn) : Calls Tryd.prog 11 #[.slice A n c, .int .i64 at_, claim1V X index count size PA pn pc] w fun e w' => e = .returned (.bool true) ∧ Below w.heap.size w w' := by
  obtain ⟨w0, hW0⟩ : ∃ w0, w.alloc (.cells (cellsS X index count size PA pn pc) 37) = w0 := ⟨_, rfl⟩
  have B0 : Below w.heap.size w w0 := hW0 ▸ Below.new1 _ _
  have x5 : BoxS w0 w.heap.size X index count size PA pn pc := hW0 ▸ BoxS.new w X index count size PA pn pc
  have hk0 := hk.next B0
  have HO := Lib.hid hW0
  have hmd := fun W (h : Tags W A ts) => made_yes ts A n c W hn h1 h60 h
  unfold MadePost at hmd
  rw [hn] at hmd
  obtain ⟨m, hm⟩ : ∃ m, (ofR ts).length = m := ⟨_, rfl⟩
  rw [hm] at hmd
  generalize ofR ts = R at *
  generalize ofL ts = L at *
  have HMD := Lib.hid hmd
  have HA := Lib.hid (fun W kon => awake_any W kon)
  have j1 : ((n : Int) == 0) = false := by simp; omega
  have j2 : ¬ (60 : Int) < n := by omega
  have j3 : (30 : Int) < pn := by omega
  clear hmd hn hm hk hW0 h1 h60 h30
  go_enter Tryd.func11, Tryd.ntmps11
  go_upto_region 1 with (fail)
  change Code.wp _ _ _ _ (w.alloc (.cells (cellsS X index count size PA pn pc) 37))
  rw [HO.out]
  clear HO
  go_upto_region 2 with (go_at_call 38; refine (HMD.out _ (hT.next B0)).mono ?_; rintro e w1 ⟨p, A1, c1, rfl, hp1, hO1, b1⟩)
  obtain ⟨w2, hW2⟩ : ∃ w2, (w1.alloc (.cells #[.pointer p] 47)).alloc (.cells #[.int .i64 (n : Int), .slice A1 m c1] 69) = w2 := ⟨_, rfl⟩
  have b2 : Below w1.heap.size w1 w2 := hW2 ▸ Below.on (Below.new1 _ _) (Below.new1 _ _)
  have x7 : Boxed w2 w1.heap.size 47 (.pointer p) := hW2 ▸ (Boxed.new w1 _ _).alloc _
  have x8 : BoxM w2 (w1.heap.size + 1) n (.slice A1 m c1) := by
    have := BoxM.new (w1.alloc (.cells #[.pointer p] 47)) n (.slice A1 m c1)
    rw [World.size_alloc] at this; exact hW2 ▸ this
  have hp2 := hp1.below b2
  have hR2 : Runs w2 A1 R := by
    obtain ⟨A', c', e, _, h⟩ := (hO1.next b2).runs
    cases e; exact h
  change Code.wp _ _ _ _ ((w1.alloc (.cells #[.pointer p] 47)).alloc (.cells #[.int .i64 (n : Int), .slice A1 m c1] 69))
  rw [hW2]
  have B2 := Below.on b1 b2
  have z5 := x5.next B2
  have hk2 := hk0.next B2
  have c7 := x7.cell
  have c80 := x8.c0
  have c56 := z5.c6
  clear hW2 hT x5 x7 x8 hp1 hp2 hO1 hR2 z5 c7
  go_wp2_with (go_at_call 17; refine (HA.out _ hk2).mono ?_; rintro e w7 ⟨rfl, b7⟩)
  go_ret
  exact ⟨rfl, Below.on (Below.on B0 B2) b7⟩
set_option maxRecDepth 100000 in
set_option maxHeartbeats 4000000 in
theorem true_no (ts : List UInt8) (X : Rn) (index count size : Int) (path : List Bs) (A PA : Option Addr) (q : Nat) (n c pn pc : Nat) (w : World) (hn : ts.length = n) (_hc : n ≤ c) (h1 : 1 ≤ n) (h60 : n ≤ 60) (hT : Tags w A ts) (hs : Hs w PA path) (hpn : path.length = pn) (hpc : pn ≤ pc) (h30 : pn ≤ 30) (hk : Kon w) (hsz : size < 9223372036854775808) (hq : q < n) (hac : accept1M (rootO ts) (q : Int) X index count size path = (0, false)) : Calls Tryd.prog 11 #[.slice A n c, .int .i64 (q : Int), claim1V X index count size PA pn pc] w fun e w' => e = .returned (.bool true) ∧ Below w.heap.size w w' := by
  obtain ⟨w0, hW0⟩ : ∃ w0, w.alloc (.cells (cellsS X index count size PA pn pc) 37) = w0 := ⟨_, rfl⟩
  have B0 : Below w.heap.size w w0 := hW0 ▸ Below.new1 _ _
  have x5 : BoxS w0 w.heap.size X index count size PA pn pc := hW0 ▸ BoxS.new w X index count size PA pn pc
  have hk0 := hk.next B0
  have HO := Lib.hid hW0
  have hs0 := hs.next B0
  have hroot : (rootO ts).length = 32 := rootO_length ts
  have hmd := fun W (h : Tags W A ts) => made_yes ts A n c W hn h1 h60 h
  unfold MadePost at hmd
  rw [hn] at hmd
  have g := ofL_good (ts := ts) (by omega) (by omega)
  have ol := ofL_lay ts
  have ot := ofL_total ts
  have hmr := fun W p (h : Rep W p (ofL ts)) (kon : Kon W) => mapRoot_any W p (ofL ts) h kon
  rw [mapRoot_of (by omega) (by omega)] at hmr
  have hacc := fun W (h : Hs W PA path) (kon : Kon W) => accept1_any (rootO ts) (q : Int) X index count size path PA pn pc W hsz h hpn hpc (by omega) kon hroot
  rw [hac] at hacc
  obtain ⟨X0, hX0, hX0t, hfl, hto, hcut⟩ := of_run (ts := ts) (q := q) (by omega) (by omega) (by omega)
  have hown := true_own (ts := ts) (q := q) (by omega) (by omega) (by omega) hX0
  have hcell := fun W a (h : Tags W (some a) ts) => h.cell (i := q) (by omega)
  obtain ⟨tb, htbe⟩ : ∃ z, ts[q]'(show q < ts.length by omega) = z := ⟨_, rfl⟩
  rw [htbe] at hown hcell
  rw [hn] at hown
  have hst := fun W p (h : Rep W p (ofL ts)) (kon : Kon W) => state_yes W p (ofL ts) q h g (by omega) (by rw [ot]; omega) kon X0 (by rw [ol]; exact hX0)
  unfold StatePost at hst
  rw [ol, ot, hn] at hst
  have hvl : (visitM sha ((ofR ts).map lvM) (fromM q (ofR ts)) (toM q ((q : Int) + 1) (ofR ts))).length ≤ 1000000 := by
    have := visitM_length (ofR ts).length ((ofR ts).map lvM) (fromM q (ofR ts)) (toM q ((q : Int) + 1) (ofR ts)) (by rw [List.length_map]; exact Nat.le_refl _)
    have := (ofR_spec ts).2.2.2.2.1
    rw [List.length_map] at *
    omega
  have tr : (0 : Int) ≤ (tb.toNat : Int) ∧ (tb.toNat : Int) ≤ 255 := by have := tb.toNat_lt; omega
  have tg : tagO tb = (tb.toNat : Int) % 16 := by unfold tagO; omega
  have hac0 := fun W PA' pn' pc' (h : Hs W PA' (visitM sha ((ofR ts).map lvM) (fromM q (ofR ts)) (toM q ((q : Int) + 1) (ofR ts)))) (hpn' : (visitM sha ((ofR ts).map lvM) (fromM q (ofR ts)) (toM q ((q : Int) + 1) (ofR ts))).length = pn') (hpc' : pn' ≤ pc') (kon : Kon W) => accept1_any (rootO ts) q X0 (fromM q (ofR ts)) (ofR ts).length n _ PA' pn' pc' W (by omega) h hpn' hpc' (by omega) kon hroot
  rw [hown] at hac0
  generalize visitM sha ((ofR ts).map lvM) (fromM q (ofR ts)) (toM q ((q : Int) + 1) (ofR ts)) = V at *
  generalize ((fromM q (ofR ts) : Nat) : Int) = f at *
  rw [tg] at hac0 
  generalize (tb.toNat : Int) = tq at *
  obtain ⟨t0, t1⟩ := tr
  clear g ol ot htbe hX0 hX0t hfl hto hcut hown tg
  generalize rootO ts = root at *
  generalize ofL ts = L at *
  obtain ⟨m, hm⟩ : ∃ m, (ofR ts).length = m := ⟨_, rfl⟩
  rw [hm] at hmd hst hac0
  generalize ofR ts = R at *
  have HMD := Lib.hid hmd
  have HMR := Lib.hid hmr
  have HAC := Lib.hid hacc
  have HA := Lib.hid (fun W kon => awake_any W kon)
  have HROOT := Lib.hid hroot
  have HST := Lib.hid hst
  have HAO := Lib.hid hac0
  have HCELL := Lib.hid hcell
  have k0 : (0 : Int) ≤ (q : Int) := by omega
  have k1 : (q : Int) < (n : Int) := by omega
  have hAs : ∃ a, A = some a := by
    rcases hT with e | ⟨a, e, _⟩
    · rw [e] at hn; simp at hn; omega
    · exact ⟨a, e⟩
  obtain ⟨ad, rfl⟩ := hAs
  have j1 : ((n : Int) == 0) = false := by simp; omega
  have j2 : ¬ (60 : Int) < n := by omega
  have j3 : ¬ (30 : Int) < pn := by omega
  clear hmd hmr hacc hac hroot hn hm hk hW0 h1 h60 h30 hs hpn hst hvl hac0 hcell
  go_enter Tryd.func11, Tryd.ntmps11
  go_upto_region 1 with (fail)
  change Code.wp _ _ _ _ (w.alloc (.cells (cellsS X index count size PA pn pc) 37))
  rw [HO.out]
  clear HO
  go_upto_region 2 with (go_at_call 38; refine (HMD.out _ (hT.next B0)).mono ?_; rintro e w1 ⟨p, A1, c1, rfl, hp1, hO1, b1⟩)
  obtain ⟨w2, hW2⟩ : ∃ w2, (w1.alloc (.cells #[.pointer p] 47)).alloc (.cells #[.int .i64 (n : Int), .slice A1 m c1] 69) = w2 := ⟨_, rfl⟩
  have b2 : Below w1.heap.size w1 w2 := hW2 ▸ Below.on (Below.new1 _ _) (Below.new1 _ _)
  have x7 : Boxed w2 w1.heap.size 47 (.pointer p) := hW2 ▸ (Boxed.new w1 _ _).alloc _
  have x8 : BoxM w2 (w1.heap.size + 1) n (.slice A1 m c1) := by
    have := BoxM.new (w1.alloc (.cells #[.pointer p] 47)) n (.slice A1 m c1)
    rw [World.size_alloc] at this; exact hW2 ▸ this
  have hp2 := hp1.below b2
  have hR2 : Runs w2 A1 R := by
    obtain ⟨A', c', e, _, h⟩ := (hO1.next b2).runs
    cases e; exact h
  change Code.wp _ _ _ _ ((w1.alloc (.cells #[.pointer p] 47)).alloc (.cells #[.int .i64 (n : Int), .slice A1 m c1] 69))
  rw [hW2]
  have B2 := Below.on b1 b2
  have z5 := x5.next B2
  have hk2 := hk0.next B2
  have c7 := x7.cell
  have c80 := x8.c0
  have hs2 := hs0.next B2
  have hT2 := (hT.next B0).next B2
  have c56 := z5.c6
  have BB := Below.on B0 B2
  generalize w1.heap.size = g7 at *
  clear hW2 hT x5 x7 hp1 hO1 b1 b2 B0 B2 hs0 hk0
  go_upto_region 7 with (first
    | (go_at_call 25; refine (HMR.out _ p hp2 hk2).mono ?_; rintro e w3 ⟨rfl, b3⟩)
    | ((with_reducible refine wpList_storeH ?_ (.tmp 10) (.tmp 54) ?_ w3.heap.size root ?_ ?_ (BoxA.new w3 30 .u8 (List.replicate 32 0) _ rfl) (by simp) HROOT.out ?_); rfl; rfl; rfl; rfl))
  obtain ⟨w4, hW4⟩ : ∃ w4, World.setRow (World.alloc w3 (.cells (ints .u8 (List.replicate 32 0)) 30)) w3.heap.size (ints .u8 (nums root)) = w4 := ⟨_, rfl⟩
  have y10 : BoxH w4 w3.heap.size root := hW4 ▸ (BoxA.new w3 30 .u8 (List.replicate 32 0) _ rfl).setRow (l' := nums root)
  have b4 : Below w3.heap.size w3 w4 := hW4 ▸ below_setRow (Below.new1 w3 _) (Nat.le_refl _) _
  change Code.wp _ _ _ _ (World.setRow (World.alloc w3 (.cells (ints .u8 (List.replicate 32 0)) 30)) w3.heap.size (ints .u8 (nums root)))
  rw [hW4]
  have B4 := Below.on b3 b4
  have BB4 := Below.on BB B4
  have hp4 := hp2.below B4
  have hk4 := hk2.next B4
  have hs4 := hs2.next B4
  have hT4 := hT2.next B4
  have hR4 := hR2.below B4
  have v5 := z5.next B4
  have v8 := x8.next B4
  replace c7 := cell_kept B4 c7
  replace c80 := v8.c0
  generalize w3.heap.size = g10 at *
  clear hW4 b3 b4 hp2 hk2 hs2 hT2 hR2 z5 x8 c56 B4 BB HMR HMD
  go_upto_region 9 with (go_at_call 26; refine (HST.out _ p hp4 hk4).mono ?_; rintro e w5 ⟨PA', pn', pc', rfl, hO5, b5⟩)
  obtain ⟨w6, hW6⟩ : ∃ w6, World.alloc w5 (.cells (cellsS X0 f m n PA' pn' pc') 37) = w6 := ⟨_, rfl⟩
  have y12 : BoxS w6 w5.heap.size X0 f m n PA' pn' pc' := hW6 ▸ BoxS.new w5 X0 f m n PA' pn' pc'
  have b6 : Below w5.heap.size w5 w6 := hW6 ▸ Below.new1 _ _
  change Code.wp _ _ _ _ (World.alloc w5 (.cells (cellsS X0 f m n PA' pn' pc') 37))
  rw [hW6]
  have hO6 := hO5.next b6
  have B6 := Below.on b5 b6
  have z10 : BoxH w6 g10 root := BoxA.next y10 B6
  have hk6 := hk4.next B6
  obtain ⟨PAx, pcx, ex, hpx, hsx⟩ := hO6.toHs
  simp only [Value.slice.injEq] at ex
  obtain ⟨ex1, ex2, ex3⟩ := ex
  rw [← ex1] at hsx
  rw [← ex2, ← ex3] at hpx
  have HX2 := Lib.hid ex2.symm
  clear ex1 ex2 ex3
  generalize w5.heap.size = g12 at *
  go_upto_region 10 with (first
    | ((with_reducible refine wpList_load_if (o := ⟨some 73, _, _, _, _, _⟩) ?_ 30 (.tmp 10) ?_ (hashV root) ?_ ?_); rfl; rfl; exact (BoxH.load_ z10 HROOT.out))
    | ((with_reducible refine wpList_load_if (o := ⟨some 75, _, _, _, _, _⟩) ?_ 37 (.tmp 12) ?_ (claim1V X0 f m n PA' pn' pc') ?_ ?_); rfl; rfl; exact y12.load_)
    | (go_at_call 21; refine (HAO.out _ _ _ _ hsx HX2.out hpx hk6).mono ?_; rintro e w7 ⟨rfl, b7⟩))
  have B7 := Below.on B6 b7
  have BB7 := Below.on BB4 B7
  have hk7 := hk4.next B7
  have hs7 := hs4.next B7
  have hT7 := hT4.next B7
  have hR7 := hR4.below B7
  have u5 := v5.next B7
  have u8 := v8.next B7
  have u10 : BoxH w7 g10 root := BoxA.next y10 B7
  replace c80 := u8.c0
  have ct0 := HCELL.out w7 ad hT7
  have ct1 : w7.cell? (ad.add (q * 1)) = some (.int .u8 tq) := by rw [Nat.mul_one]; exact ct0
  clear hW6 b5 b6 b7 hO5 hO6 hsx hpx HX2 y12 z10 hk6 HAO HST hp4 hk4 hs4 hT4 hR4 v5 v8 y10 B6 B7 BB4 c7
  go_upto_region 13 with (first
    | ((with_reducible refine wpList_load_if (o := ⟨some 96, _, _, _, _, _⟩) ?_ 30 (.tmp 10) ?_ (hashV root) ?_ ?_); rfl; rfl; exact (BoxH.load_ u10 HROOT.out))
    | ((with_reducible refine wpList_load_if (o := ⟨some 98, _, _, _, _, _⟩) ?_ 37 (.tmp 5) ?_ (claim1V X index count size PA pn pc) ?_ ?_); rfl; rfl; exact u5.load_)
    | (go_at_call 21; refine (HAC.out _ hs7 hk7).mono ?_; rintro e w8 ⟨rfl, b8⟩))
  have hk8 := hk7.next b8
  replace c80 := cell_kept b8 c80
  replace ct0 := cell_kept b8 ct0
  replace ct1 := cell_kept b8 ct1
  clear hk7 hs7 hR7 u5 u8 u10
  go_wp2_with (go_at_call 17; refine (HA.out _ hk8).mono ?_; rintro e w9 ⟨rfl, b9⟩)
  go_ret
  exact ⟨rfl, Below.on (Below.on BB7 b8) b9⟩
set_option maxRecDepth 100000 in
set_option maxHeartbeats 4000000 in
theorem true_yes (ts : List UInt8) (X : Rn) (index count size : Int) (path : List Bs) (A PA : Option Addr) (q : Nat) (n c pn pc : Nat) (w : World) (hn : ts.length = n) (_hc : n ≤ c) (h1 : 1 ≤ n) (h60 : n ≤ 60) (hT : Tags w A ts) (hs : Hs w PA path) (hpn : path.length = pn) (hpc : pn ≤ pc) (h30 : pn ≤ 30) (hk : Kon w) (hsz : size < 9223372036854775808) (hq : q < n) (hac : accept1M (rootO ts) (q : Int) X index count size path = (tagO (ts[q]'(by omega)), true)) : Calls Tryd.prog 11 #[.slice A n c, .int .i64 (q : Int), claim1V X index count size PA pn pc] w fun e w' => e = .returned (.bool true) ∧ Below w.heap.size w w' := by
  obtain ⟨w0, hW0⟩ : ∃ w0, w.alloc (.cells (cellsS X index count size PA pn pc) 37) = w0 := ⟨_, rfl⟩
  have B0 : Below w.heap.size w w0 := hW0 ▸ Below.new1 _ _
  have x5 : BoxS w0 w.heap.size X index count size PA pn pc := hW0 ▸ BoxS.new w X index count size PA pn pc
  have hk0 := hk.next B0
  have HO := Lib.hid hW0
  have hs0 := hs.next B0
  have hroot : (rootO ts).length = 32 := rootO_length ts
  have hmd := fun W (h : Tags W A ts) => made_yes ts A n c W hn h1 h60 h
  unfold MadePost at hmd
  rw [hn] at hmd
  have g := ofL_good (ts := ts) (by omega) (by omega)
  have ol := ofL_lay ts
  have ot := ofL_total ts
  have hmr := fun W p (h : Rep W p (ofL ts)) (kon : Kon W) => mapRoot_any W p (ofL ts) h kon
  rw [mapRoot_of (by omega) (by omega)] at hmr
  have hacc := fun W (h : Hs W PA path) (kon : Kon W) => accept1_any (rootO ts) (q : Int) X index count size path PA pn pc W hsz h hpn hpc (by omega) kon hroot
  rw [hac] at hacc
  obtain ⟨X0, hX0, hX0t, hfl, hto, hcut⟩ := of_run (ts := ts) (q := q) (by omega) (by omega) (by omega)
  have hown := true_own (ts := ts) (q := q) (by omega) (by omega) (by omega) hX0
  have hcell := fun W a (h : Tags W (some a) ts) => h.cell (i := q) (by omega)
  obtain ⟨tb, htbe⟩ : ∃ z, ts[q]'(show q < ts.length by omega) = z := ⟨_, rfl⟩
  rw [htbe] at hown hcell hacc
  rw [hn] at hown
  have hst := fun W p (h : Rep W p (ofL ts)) (kon : Kon W) => state_yes W p (ofL ts) q h g (by omega) (by rw [ot]; omega) kon X0 (by rw [ol]; exact hX0)
  unfold StatePost at hst
  rw [ol, ot, hn] at hst
  have hvl : (visitM sha ((ofR ts).map lvM) (fromM q (ofR ts)) (toM q ((q : Int) + 1) (ofR ts))).length ≤ 1000000 := by
    have := visitM_length (ofR ts).length ((ofR ts).map lvM) (fromM q (ofR ts)) (toM q ((q : Int) + 1) (ofR ts)) (by rw [List.length_map]; exact Nat.le_refl _)
    have := (ofR_spec ts).2.2.2.2.1
    rw [List.length_map] at *
    omega
  have tr : (0 : Int) ≤ (tb.toNat : Int) ∧ (tb.toNat : Int) ≤ 255 := by have := tb.toNat_lt; omega
  have tg : tagO tb = (tb.toNat : Int) % 16 := by unfold tagO; omega
  have hac0 := fun W PA' pn' pc' (h : Hs W PA' (visitM sha ((ofR ts).map lvM) (fromM q (ofR ts)) (toM q ((q : Int) + 1) (ofR ts)))) (hpn' : (visitM sha ((ofR ts).map lvM) (fromM q (ofR ts)) (toM q ((q : Int) + 1) (ofR ts))).length = pn') (hpc' : pn' ≤ pc') (kon : Kon W) => accept1_any (rootO ts) q X0 (fromM q (ofR ts)) (ofR ts).length n _ PA' pn' pc' W (by omega) h hpn' hpc' (by omega) kon hroot
  rw [hown] at hac0
  generalize visitM sha ((ofR ts).map lvM) (fromM q (ofR ts)) (toM q ((q : Int) + 1) (ofR ts)) = V at *
  generalize ((fromM q (ofR ts) : Nat) : Int) = f at *
  rw [tg] at hac0 hacc
  generalize (tb.toNat : Int) = tq at *
  obtain ⟨t0, t1⟩ := tr
  clear g ol ot htbe hX0 hX0t hfl hto hcut hown tg
  generalize rootO ts = root at *
  generalize ofL ts = L at *
  obtain ⟨m, hm⟩ : ∃ m, (ofR ts).length = m := ⟨_, rfl⟩
  rw [hm] at hmd hst hac0
  generalize ofR ts = R at *
  have HMD := Lib.hid hmd
  have HMR := Lib.hid hmr
  have HAC := Lib.hid hacc
  have HA := Lib.hid (fun W kon => awake_any W kon)
  have HROOT := Lib.hid hroot
  have HST := Lib.hid hst
  have HAO := Lib.hid hac0
  have HCELL := Lib.hid hcell
  have k0 : (0 : Int) ≤ (q : Int) := by omega
  have k1 : (q : Int) < (n : Int) := by omega
  have hAs : ∃ a, A = some a := by
    rcases hT with e | ⟨a, e, _⟩
    · rw [e] at hn; simp at hn; omega
    · exact ⟨a, e⟩
  obtain ⟨ad, rfl⟩ := hAs
  have j1 : ((n : Int) == 0) = false := by simp; omega
  have j2 : ¬ (60 : Int) < n := by omega
  have j3 : ¬ (30 : Int) < pn := by omega
  clear hmd hmr hacc hac hroot hn hm hk hW0 h1 h60 h30 hs hpn hst hvl hac0 hcell
  go_enter Tryd.func11, Tryd.ntmps11
  go_upto_region 1 with (fail)
  change Code.wp _ _ _ _ (w.alloc (.cells (cellsS X index count size PA pn pc) 37))
  rw [HO.out]
  clear HO
  go_upto_region 2 with (go_at_call 38; refine (HMD.out _ (hT.next B0)).mono ?_; rintro e w1 ⟨p, A1, c1, rfl, hp1, hO1, b1⟩)
  obtain ⟨w2, hW2⟩ : ∃ w2, (w1.alloc (.cells #[.pointer p] 47)).alloc (.cells #[.int .i64 (n : Int), .slice A1 m c1] 69) = w2 := ⟨_, rfl⟩
  have b2 : Below w1.heap.size w1 w2 := hW2 ▸ Below.on (Below.new1 _ _) (Below.new1 _ _)
  have x7 : Boxed w2 w1.heap.size 47 (.pointer p) := hW2 ▸ (Boxed.new w1 _ _).alloc _
  have x8 : BoxM w2 (w1.heap.size + 1) n (.slice A1 m c1) := by
    have := BoxM.new (w1.alloc (.cells #[.pointer p] 47)) n (.slice A1 m c1)
    rw [World.size_alloc] at this; exact hW2 ▸ this
  have hp2 := hp1.below b2
  have hR2 : Runs w2 A1 R := by
    obtain ⟨A', c', e, _, h⟩ := (hO1.next b2).runs
    cases e; exact h
  change Code.wp _ _ _ _ ((w1.alloc (.cells #[.pointer p] 47)).alloc (.cells #[.int .i64 (n : Int), .slice A1 m c1] 69))
  rw [hW2]
  have B2 := Below.on b1 b2
  have z5 := x5.next B2
  have hk2 := hk0.next B2
  have c7 := x7.cell
  have c80 := x8.c0
  have hs2 := hs0.next B2
  have hT2 := (hT.next B0).next B2
  have c56 := z5.c6
  have BB := Below.on B0 B2
  generalize w1.heap.size = g7 at *
  clear hW2 hT x5 x7 hp1 hO1 b1 b2 B0 B2 hs0 hk0
  go_upto_region 7 with (first
    | (go_at_call 25; refine (HMR.out _ p hp2 hk2).mono ?_; rintro e w3 ⟨rfl, b3⟩)
    | ((with_reducible refine wpList_storeH ?_ (.tmp 10) (.tmp 54) ?_ w3.heap.size root ?_ ?_ (BoxA.new w3 30 .u8 (List.replicate 32 0) _ rfl) (by simp) HROOT.out ?_); rfl; rfl; rfl; rfl))
  obtain ⟨w4, hW4⟩ : ∃ w4, World.setRow (World.alloc w3 (.cells (ints .u8 (List.replicate 32 0)) 30)) w3.heap.size (ints .u8 (nums root)) = w4 := ⟨_, rfl⟩
  have y10 : BoxH w4 w3.heap.size root := hW4 ▸ (BoxA.new w3 30 .u8 (List.replicate 32 0) _ rfl).setRow (l' := nums root)
  have b4 : Below w3.heap.size w3 w4 := hW4 ▸ below_setRow (Below.new1 w3 _) (Nat.le_refl _) _
  change Code.wp _ _ _ _ (World.setRow (World.alloc w3 (.cells (ints .u8 (List.replicate 32 0)) 30)) w3.heap.size (ints .u8 (nums root)))
  rw [hW4]
  have B4 := Below.on b3 b4
  have BB4 := Below.on BB B4
  have hp4 := hp2.below B4
  have hk4 := hk2.next B4
  have hs4 := hs2.next B4
  have hT4 := hT2.next B4
  have hR4 := hR2.below B4
  have v5 := z5.next B4
  have v8 := x8.next B4
  replace c7 := cell_kept B4 c7
  replace c80 := v8.c0
  generalize w3.heap.size = g10 at *
  clear hW4 b3 b4 hp2 hk2 hs2 hT2 hR2 z5 x8 c56 B4 BB HMR HMD
  go_upto_region 9 with (go_at_call 26; refine (HST.out _ p hp4 hk4).mono ?_; rintro e w5 ⟨PA', pn', pc', rfl, hO5, b5⟩)
  obtain ⟨w6, hW6⟩ : ∃ w6, World.alloc w5 (.cells (cellsS X0 f m n PA' pn' pc') 37) = w6 := ⟨_, rfl⟩
  have y12 : BoxS w6 w5.heap.size X0 f m n PA' pn' pc' := hW6 ▸ BoxS.new w5 X0 f m n PA' pn' pc'
  have b6 : Below w5.heap.size w5 w6 := hW6 ▸ Below.new1 _ _
  change Code.wp _ _ _ _ (World.alloc w5 (.cells (cellsS X0 f m n PA' pn' pc') 37))
  rw [hW6]
  have hO6 := hO5.next b6
  have B6 := Below.on b5 b6
  have z10 : BoxH w6 g10 root := BoxA.next y10 B6
  have hk6 := hk4.next B6
  obtain ⟨PAx, pcx, ex, hpx, hsx⟩ := hO6.toHs
  simp only [Value.slice.injEq] at ex
  obtain ⟨ex1, ex2, ex3⟩ := ex
  rw [← ex1] at hsx
  rw [← ex2, ← ex3] at hpx
  have HX2 := Lib.hid ex2.symm
  clear ex1 ex2 ex3
  generalize w5.heap.size = g12 at *
  go_upto_region 10 with (first
    | ((with_reducible refine wpList_load_if (o := ⟨some 73, _, _, _, _, _⟩) ?_ 30 (.tmp 10) ?_ (hashV root) ?_ ?_); rfl; rfl; exact (BoxH.load_ z10 HROOT.out))
    | ((with_reducible refine wpList_load_if (o := ⟨some 75, _, _, _, _, _⟩) ?_ 37 (.tmp 12) ?_ (claim1V X0 f m n PA' pn' pc') ?_ ?_); rfl; rfl; exact y12.load_)
    | (go_at_call 21; refine (HAO.out _ _ _ _ hsx HX2.out hpx hk6).mono ?_; rintro e w7 ⟨rfl, b7⟩))
  have B7 := Below.on B6 b7
  have BB7 := Below.on BB4 B7
  have hk7 := hk4.next B7
  have hs7 := hs4.next B7
  have hT7 := hT4.next B7
  have hR7 := hR4.below B7
  have u5 := v5.next B7
  have u8 := v8.next B7
  have u10 : BoxH w7 g10 root := BoxA.next y10 B7
  replace c80 := u8.c0
  have ct0 := HCELL.out w7 ad hT7
  have ct1 : w7.cell? (ad.add (q * 1)) = some (.int .u8 tq) := by rw [Nat.mul_one]; exact ct0
  clear hW6 b5 b6 b7 hO5 hO6 hsx hpx HX2 y12 z10 hk6 HAO HST hp4 hk4 hs4 hT4 hR4 v5 v8 y10 B6 B7 BB4 c7
  go_upto_region 13 with (first
    | ((with_reducible refine wpList_load_if (o := ⟨some 96, _, _, _, _, _⟩) ?_ 30 (.tmp 10) ?_ (hashV root) ?_ ?_); rfl; rfl; exact (BoxH.load_ u10 HROOT.out))
    | ((with_reducible refine wpList_load_if (o := ⟨some 98, _, _, _, _, _⟩) ?_ 37 (.tmp 5) ?_ (claim1V X index count size PA pn pc) ?_ ?_); rfl; rfl; exact u5.load_)
    | (go_at_call 21; refine (HAC.out _ hs7 hk7).mono ?_; rintro e w8 ⟨rfl, b8⟩))
  have hk8 := hk7.next b8
  replace c80 := cell_kept b8 c80
  replace ct0 := cell_kept b8 ct0
  replace ct1 := cell_kept b8 ct1
  clear hk7 hs7 hR7 u5 u8 u10
  go_wp2_with (go_at_call 17; refine (HA.out _ hk8).mono ?_; rintro e w9 ⟨rfl, b9⟩)
  go_ret
  exact ⟨rfl, Below.on (Below.on BB7 b8) b9⟩
set_option maxRecDepth 100000 in
set_option maxHeartbeats 4000000 in
theorem true_clash (ts : List UInt8) (X : Rn) (index  size : Int) (path : List Bs) (A PA : Option Addr) (q : Nat) (cn : Nat) (n c pn pc : Nat) (w : World) (hn : ts.length = n) (_hc : n ≤ c) (h1 : 1 ≤ n) (h60 : n ≤ 60) (hT : Tags w A ts) (hs : Hs w PA path) (hpn : path.length = pn) (hpc : pn ≤ pc) (h30 : pn ≤ 30) (hk : Kon w) (hsz : size < 9223372036854775808) (hq : q < n) (t : Int) (hac : accept1M (rootO ts) (q : Int) X index cn size path = (t, true)) (htt : t ≠ tagO (ts[q]'(by omega))) (h : Bs) (hh : h.length = 32) (hi0 : 0 ≤ index) (hic : index < cn) (hcn : cn ≤ 4096) (hsz0 : 0 ≤ size) (hfit : Fit X) (hfo : foldR cn index [textM X] path = (h, path.length, true)) (hcl : ClashL sha (mapT ts.length (ofR ts) ++ foldT sha cn index [textM X] path ++ [sealT size cn h])) : Calls Tryd.prog 11 #[.slice A n c, .int .i64 (q : Int), claim1V X index (cn : Int) size PA pn pc] w fun e w' => e = .returned (.bool true) ∧ Below w.heap.size w w' := by
  obtain ⟨w0, hW0⟩ : ∃ w0, w.alloc (.cells (cellsS X index (cn : Int) size PA pn pc) 37) = w0 := ⟨_, rfl⟩
  have B0 : Below w.heap.size w w0 := hW0 ▸ Below.new1 _ _
  have x5 : BoxS w0 w.heap.size X index (cn : Int) size PA pn pc := hW0 ▸ BoxS.new w X index (cn : Int) size PA pn pc
  have hk0 := hk.next B0
  have HO := Lib.hid hW0
  have hs0 := hs.next B0
  have hroot : (rootO ts).length = 32 := rootO_length ts
  have hmd := fun W (h : Tags W A ts) => made_yes ts A n c W hn h1 h60 h
  unfold MadePost at hmd
  rw [hn] at hmd
  have g := ofL_good (ts := ts) (by omega) (by omega)
  have ol := ofL_lay ts
  have ot := ofL_total ts
  have hmr := fun W p (h : Rep W p (ofL ts)) (kon : Kon W) => mapRoot_any W p (ofL ts) h kon
  rw [mapRoot_of (by omega) (by omega)] at hmr
  have hacc := fun W (h : Hs W PA path) (kon : Kon W) => accept1_any (rootO ts) (q : Int) X index (cn : Int) size path PA pn pc W hsz h hpn hpc (by omega) kon hroot
  rw [hac] at hacc
  obtain ⟨X0, hX0, hX0t, hfl, hto, hcut⟩ := of_run (ts := ts) (q := q) (by omega) (by omega) (by omega)
  have hown := true_own (ts := ts) (q := q) (by omega) (by omega) (by omega) hX0
  have hcell := fun W a (h : Tags W (some a) ts) => h.cell (i := q) (by omega)
  obtain ⟨tb, htbe⟩ : ∃ z, ts[q]'(show q < ts.length by omega) = z := ⟨_, rfl⟩
  rw [htbe] at hown hcell htt
  rw [hn] at hown
  have hst := fun W p (h : Rep W p (ofL ts)) (kon : Kon W) => state_yes W p (ofL ts) q h g (by omega) (by rw [ot]; omega) kon X0 (by rw [ol]; exact hX0)
  unfold StatePost at hst
  rw [ol, ot, hn] at hst
  have hvl : (visitM sha ((ofR ts).map lvM) (fromM q (ofR ts)) (toM q ((q : Int) + 1) (ofR ts))).length ≤ 1000000 := by
    have := visitM_length (ofR ts).length ((ofR ts).map lvM) (fromM q (ofR ts)) (toM q ((q : Int) + 1) (ofR ts)) (by rw [List.length_map]; exact Nat.le_refl _)
    have := (ofR_spec ts).2.2.2.2.1
    rw [List.length_map] at *
    omega
  have tr : (0 : Int) ≤ (tb.toNat : Int) ∧ (tb.toNat : Int) ≤ 255 := by have := tb.toNat_lt; omega
  have tg : tagO tb = (tb.toNat : Int) % 16 := by unfold tagO; omega
  have hac0 := fun W PA' pn' pc' (h : Hs W PA' (visitM sha ((ofR ts).map lvM) (fromM q (ofR ts)) (toM q ((q : Int) + 1) (ofR ts)))) (hpn' : (visitM sha ((ofR ts).map lvM) (fromM q (ofR ts)) (toM q ((q : Int) + 1) (ofR ts))).length = pn') (hpc' : pn' ≤ pc') (kon : Kon W) => accept1_any (rootO ts) q X0 (fromM q (ofR ts)) (ofR ts).length n _ PA' pn' pc' W (by omega) h hpn' hpc' (by omega) kon hroot
  rw [hown] at hac0
  generalize visitM sha ((ofR ts).map lvM) (fromM q (ofR ts)) (toM q ((q : Int) + 1) (ofR ts)) = V at *
  generalize ((fromM q (ofR ts) : Nat) : Int) = f at *
  rw [tg] at hac0 htt
  generalize (tb.toNat : Int) = tq at *
  obtain ⟨t0, t1⟩ := tr
  have txl : (textM X).length ≤ 90000 := by rw [textM_length]; omega
  have hlf := fun W => rleaf_any X W hfit.1 hfit.2.1 hfit.2.2.1 hfit.2.2.2.1 hfit.2.2.2.2.1 hfit.2.2.2.2.2
  have hmt := fun W A1 c1 (h : Runs W A1 (ofR ts)) => rmaptexts_any n (ofR ts) A1 _ c1 W rfl (by omega) (by omega) (by have := (ofR_spec ts).2.2.2.2.1; omega) h (ofR_fit (by omega) (by omega))
  have hfd := fun A9 c9 W (hc9 : 1 ≤ c9) (h : Strs W A9 [textM X]) (hp : Hs W PA path) => rfold_any cn index [textM X] path A9 PA 1 c9 pn pc W (by omega) (by omega) (by omega) (by omega) rfl hc9 (by omega) hpn hpc (by omega) (by simpa using txl) h hp
  rw [hfo, foldV3, hpn] at hfd
  have hft := fun A9 c9 W (hc9 : 1 ≤ c9) (h : Strs W A9 [textM X]) (hp : Hs W PA path) => rftexts_any cn index [textM X] path A9 PA 1 c9 pn pc W (by omega) (by omega) (by omega) (by omega) rfl hc9 (by omega) hpn hpc (by omega) (by simpa using txl) h hp
  have hmx := fun W => rmaptext_any size cn h W hsz0 hsz (by omega) (by omega) hh
  have lm := mapT_len (ts := ts) (by omega)
  have sm := mapT_short (ts := ts) (by omega)
  have lf := foldT_len cn cn index [textM X] path (Nat.le_refl _)
  have sf := foldT_short cn cn index [textM X] path (Nat.le_refl _) (by simpa using txl) hs.1
  have szt := sealT_short size cn hh
  rw [hn] at hcl lm sm
  generalize mapT n (ofR ts) = MT at *
  generalize foldT sha cn index [textM X] path = FT at *
  generalize sealT size cn h = zt at *
  generalize textM X = tx at *
  have LM : MT.length ≤ 100000 := by omega
  have LF : FT.length ≤ 100000 := by omega
  have LMF : (MT ++ FT).length ≤ 100000 := by rw [List.length_append]; omega
  have hcc := fun A9 c9 W (h : Strs W A9 (MT ++ FT ++ [zt])) => rclash_any (MT ++ FT ++ [zt]) A9 _ c9 W rfl (by simp only [List.length_append, List.length_cons, List.length_nil]; omega) (fun s hs => (List.mem_append.1 hs).elim (fun hs => (List.mem_append.1 hs).elim (sm s) (sf s)) (fun hs => by rw [List.mem_singleton.1 hs]; exact szt)) h
  rw [clashB_yes hcl] at hcc
  have HLF := Lib.hid hlf
  have HFD := Lib.hid hfd
  have HFT := Lib.hid hft
  have HMX := Lib.hid hmx
  have HCC := Lib.hid hcc
  have HH := Lib.hid hh
  have i1 : ¬ index < 0 := by omega
  have i2 : ¬ (cn : Int) ≤ index := by omega
  have i3 : ¬ (4096 : Int) < cn := by omega
  clear g ol ot htbe hX0 hX0t hfl hto hcut hown tg
  generalize rootO ts = root at *
  generalize ofL ts = L at *
  obtain ⟨m, hm⟩ : ∃ m, (ofR ts).length = m := ⟨_, rfl⟩
  rw [hm] at hmd hst hac0
  generalize ofR ts = R at *
  have HMD := Lib.hid hmd
  have HMR := Lib.hid hmr
  have HAC := Lib.hid hacc
  have HA := Lib.hid (fun W kon => awake_any W kon)
  have HROOT := Lib.hid hroot
  have HST := Lib.hid hst
  have HAO := Lib.hid hac0
  have HCELL := Lib.hid hcell
  have k0 : (0 : Int) ≤ (q : Int) := by omega
  have k1 : (q : Int) < (n : Int) := by omega
  have hAs : ∃ a, A = some a := by
    rcases hT with e | ⟨a, e, _⟩
    · rw [e] at hn; simp at hn; omega
    · exact ⟨a, e⟩
  obtain ⟨ad, rfl⟩ := hAs
  rw [hm] at hmt
  have HMT := Lib.hid hmt
  have j1 : ((n : Int) == 0) = false := by simp; omega
  have j2 : ¬ (60 : Int) < n := by omega
  have j3 : ¬ (30 : Int) < pn := by omega
  have htb : (t == tq % 16) = false := by simpa using htt
  clear hmd hmr hacc hac hroot hn hm hk hW0 h1 h60 h30 hs hpn hst hvl hac0 hcell htt hlf hmt hfd hft hmx lm sm lf sf szt hcc hcl hfo hfit hi0 hic hcn hsz0 txl hh
  go_enter Tryd.func11, Tryd.ntmps11
  go_upto_region 1 with (fail)
  change Code.wp _ _ _ _ (w.alloc (.cells (cellsS X index (cn : Int) size PA pn pc) 37))
  rw [HO.out]
  clear HO
  go_upto_region 2 with (go_at_call 38; refine (HMD.out _ (hT.next B0)).mono ?_; rintro e w1 ⟨p, A1, c1, rfl, hp1, hO1, b1⟩)
  obtain ⟨w2, hW2⟩ : ∃ w2, (w1.alloc (.cells #[.pointer p] 47)).alloc (.cells #[.int .i64 (n : Int), .slice A1 m c1] 69) = w2 := ⟨_, rfl⟩
  have b2 : Below w1.heap.size w1 w2 := hW2 ▸ Below.on (Below.new1 _ _) (Below.new1 _ _)
  have x7 : Boxed w2 w1.heap.size 47 (.pointer p) := hW2 ▸ (Boxed.new w1 _ _).alloc _
  have x8 : BoxM w2 (w1.heap.size + 1) n (.slice A1 m c1) := by
    have := BoxM.new (w1.alloc (.cells #[.pointer p] 47)) n (.slice A1 m c1)
    rw [World.size_alloc] at this; exact hW2 ▸ this
  have hp2 := hp1.below b2
  have hR2 : Runs w2 A1 R := by
    obtain ⟨A', c', e, _, h⟩ := (hO1.next b2).runs
    cases e; exact h
  change Code.wp _ _ _ _ ((w1.alloc (.cells #[.pointer p] 47)).alloc (.cells #[.int .i64 (n : Int), .slice A1 m c1] 69))
  rw [hW2]
  have B2 := Below.on b1 b2
  have z5 := x5.next B2
  have hk2 := hk0.next B2
  have c7 := x7.cell
  have c80 := x8.c0
  have hs2 := hs0.next B2
  have hT2 := (hT.next B0).next B2
  have c56 := z5.c6
  have BB := Below.on B0 B2
  generalize w1.heap.size = g7 at *
  clear hW2 hT x5 x7 hp1 hO1 b1 b2 B0 B2 hs0 hk0
  go_upto_region 7 with (first
    | (go_at_call 25; refine (HMR.out _ p hp2 hk2).mono ?_; rintro e w3 ⟨rfl, b3⟩)
    | ((with_reducible refine wpList_storeH ?_ (.tmp 10) (.tmp 54) ?_ w3.heap.size root ?_ ?_ (BoxA.new w3 30 .u8 (List.replicate 32 0) _ rfl) (by simp) HROOT.out ?_); rfl; rfl; rfl; rfl))
  obtain ⟨w4, hW4⟩ : ∃ w4, World.setRow (World.alloc w3 (.cells (ints .u8 (List.replicate 32 0)) 30)) w3.heap.size (ints .u8 (nums root)) = w4 := ⟨_, rfl⟩
  have y10 : BoxH w4 w3.heap.size root := hW4 ▸ (BoxA.new w3 30 .u8 (List.replicate 32 0) _ rfl).setRow (l' := nums root)
  have b4 : Below w3.heap.size w3 w4 := hW4 ▸ below_setRow (Below.new1 w3 _) (Nat.le_refl _) _
  change Code.wp _ _ _ _ (World.setRow (World.alloc w3 (.cells (ints .u8 (List.replicate 32 0)) 30)) w3.heap.size (ints .u8 (nums root)))
  rw [hW4]
  have B4 := Below.on b3 b4
  have BB4 := Below.on BB B4
  have hp4 := hp2.below B4
  have hk4 := hk2.next B4
  have hs4 := hs2.next B4
  have hT4 := hT2.next B4
  have hR4 := hR2.below B4
  have v5 := z5.next B4
  have v8 := x8.next B4
  replace c7 := cell_kept B4 c7
  replace c80 := v8.c0
  generalize w3.heap.size = g10 at *
  clear hW4 b3 b4 hp2 hk2 hs2 hT2 hR2 z5 x8 c56 B4 BB HMR HMD
  go_upto_region 9 with (go_at_call 26; refine (HST.out _ p hp4 hk4).mono ?_; rintro e w5 ⟨PA', pn', pc', rfl, hO5, b5⟩)
  obtain ⟨w6, hW6⟩ : ∃ w6, World.alloc w5 (.cells (cellsS X0 f m n PA' pn' pc') 37) = w6 := ⟨_, rfl⟩
  have y12 : BoxS w6 w5.heap.size X0 f m n PA' pn' pc' := hW6 ▸ BoxS.new w5 X0 f m n PA' pn' pc'
  have b6 : Below w5.heap.size w5 w6 := hW6 ▸ Below.new1 _ _
  change Code.wp _ _ _ _ (World.alloc w5 (.cells (cellsS X0 f m n PA' pn' pc') 37))
  rw [hW6]
  have hO6 := hO5.next b6
  have B6 := Below.on b5 b6
  have z10 : BoxH w6 g10 root := BoxA.next y10 B6
  have hk6 := hk4.next B6
  obtain ⟨PAx, pcx, ex, hpx, hsx⟩ := hO6.toHs
  simp only [Value.slice.injEq] at ex
  obtain ⟨ex1, ex2, ex3⟩ := ex
  rw [← ex1] at hsx
  rw [← ex2, ← ex3] at hpx
  have HX2 := Lib.hid ex2.symm
  clear ex1 ex2 ex3
  generalize w5.heap.size = g12 at *
  go_upto_region 10 with (first
    | ((with_reducible refine wpList_load_if (o := ⟨some 73, _, _, _, _, _⟩) ?_ 30 (.tmp 10) ?_ (hashV root) ?_ ?_); rfl; rfl; exact (BoxH.load_ z10 HROOT.out))
    | ((with_reducible refine wpList_load_if (o := ⟨some 75, _, _, _, _, _⟩) ?_ 37 (.tmp 12) ?_ (claim1V X0 f m n PA' pn' pc') ?_ ?_); rfl; rfl; exact y12.load_)
    | (go_at_call 21; refine (HAO.out _ _ _ _ hsx HX2.out hpx hk6).mono ?_; rintro e w7 ⟨rfl, b7⟩))
  have B7 := Below.on B6 b7
  have BB7 := Below.on BB4 B7
  have hk7 := hk4.next B7
  have hs7 := hs4.next B7
  have hT7 := hT4.next B7
  have hR7 := hR4.below B7
  have u5 := v5.next B7
  have u8 := v8.next B7
  have u10 : BoxH w7 g10 root := BoxA.next y10 B7
  replace c80 := u8.c0
  have ct0 := HCELL.out w7 ad hT7
  have ct1 : w7.cell? (ad.add (q * 1)) = some (.int .u8 tq) := by rw [Nat.mul_one]; exact ct0
  clear hW6 b5 b6 b7 hO5 hO6 hsx hpx HX2 y12 z10 hk6 HAO HST hp4 hk4 hs4 hT4 hR4 v5 v8 y10 B6 B7 BB4 c7
  go_upto_region 13 with (first
    | ((with_reducible refine wpList_load_if (o := ⟨some 96, _, _, _, _, _⟩) ?_ 30 (.tmp 10) ?_ (hashV root) ?_ ?_); rfl; rfl; exact (BoxH.load_ u10 HROOT.out))
    | ((with_reducible refine wpList_load_if (o := ⟨some 98, _, _, _, _, _⟩) ?_ 37 (.tmp 5) ?_ (claim1V X index (cn : Int) size PA pn pc) ?_ ?_); rfl; rfl; exact u5.load_)
    | (go_at_call 21; refine (HAC.out _ hs7 hk7).mono ?_; rintro e w8 ⟨rfl, b8⟩))
  have hk8 := hk7.next b8
  replace c80 := cell_kept b8 c80
  replace ct0 := cell_kept b8 ct0
  replace ct1 := cell_kept b8 ct1
  have q5 := u5.next b8
  have q8 := u8.next b8
  have d53 := q5.c3
  have d54 := q5.c4
  go_upto_region 19 with (fail)
  go_upto_region 20 with (first
    | (go_at_call 18; refine (constants_any _).mono ?_; rintro e w10 ⟨rfl, b10⟩)
    | (refine wpList_newW rfl (.tmp 18) (.tmp 143) rfl rfl rfl ?_))
  have yA0 := withW_box w10
  have bw := withW_below w10
  obtain ⟨wA, hW⟩ : ∃ wA, withW w10 = wA := ⟨_, rfl⟩
  change Code.wp _ _ _ _ (withW w10)
  rw [hW] at yA0 bw ⊢
  have b11 := Below.on b8 (Below.on b10 bw)
  have b12 := Below.on b10 bw
  have hkA := hk7.next b11
  have hsA := hs7.next b11
  have hR1A := hR7.below b11
  have z5 := u5.next b11
  have z8 := u8.next b11
  have BB := Below.on BB7 b11
  have yA : BoxW wA w10.heap.size := yA0
  generalize w10.heap.size = g18 at *
  generalize g7 + 1 = g8 at *
  obtain ⟨g5, hg5⟩ : ∃ k, w.heap.size = k := ⟨_, rfl⟩
  have HG5 := Lib.hid hg5
  rw [hg5] at z5 ⊢
  clear hg5 yA0 bw hW b8 b10 b11 b12 hk7 hs7 hR7 u5 u8 u10 q5 q8 d53 d54 BB7 hk8 HAC c80 ct0 ct1
  have C50 := Lib.hid z5.c0
  have C51 := Lib.hid z5.c1
  have C52 := Lib.hid z5.c2
  have C53 := Lib.hid z5.c3
  have C54 := Lib.hid z5.c4
  have C55 := Lib.hid z5.c5
  have C56 := Lib.hid z5.c6
  have C80 := Lib.hid z8.c0
  have C81 := Lib.hid z8.c1
  refine wp_name fun a0 ha0 => ?_
  have e5 : a0.eval (.tmp 5) = .pointer (some ⟨g5, 0, none⟩) := by rw [ha0]; rfl
  have e8 : a0.eval (.tmp 8) = .pointer (some ⟨g8, 0, none⟩) := by rw [ha0]; rfl
  have e18 : a0.eval (.tmp 18) = .pointer (some ⟨g18, 0, none⟩) := by rw [ha0]; rfl
  have hz : a0.tmps.size = 194 := by rw [ha0]; rfl
  have HA0 := Lib.hid ha0
  clear ha0
  have SG : ∀ (d d' : Nat → Prop) (W W' : World), (fun (_ : Nat → Prop) (W : World) => Below wA.heap.size wA W) d W → (∀ j, d j → d' j) → Below W.heap.size W W' → (fun (_ : Nat → Prop) (W : World) => Below wA.heap.size wA W) d' W' := fun _ _ _ _ h _ b => Below.next h b
  refine wp_region_steps (Inv [145, 146, 147, 148, 149, 150, 151, 152, 153, 154, 155, 156, 144, 157, 158, 159, 19, 20, 21] a0 (fun (_ : Nat → Prop) (W : World) => Below wA.heap.size wA W) [(⟨some 0, 145, none, fun v _ => v = wordsV⟩ : Cl), ⟨some 1, 146, none, fun v _ => v = .pointer (some ⟨g5, 4, none⟩)⟩, ⟨some 2, 147, none, fun v _ => v = .int .i64 (cn : Int)⟩, ⟨some 3, 148, none, fun v _ => v = .pointer (some ⟨g5, 3, none⟩)⟩, ⟨some 4, 149, none, fun v _ => v = .int .i64 index⟩, ⟨some 5, 150, none, fun v _ => v = .pointer (some ⟨g5, 0, none⟩)⟩, ⟨some 6, 151, none, fun v _ => v = encR X⟩, ⟨some 7, 152, none, fun v _ => v = .string ⟨tx.toArray⟩⟩, ⟨some 8, 153, some 11, fun v W => OwnStrs W wA.heap.size v [tx]⟩, ⟨some 9, 154, none, fun v _ => v = .pointer (some ⟨g5, 6, none⟩)⟩, ⟨some 10, 155, none, fun v _ => v = .slice PA pn pc⟩, ⟨some 11, 156, none, fun v _ => v = .tuple #[hashV h, .int .i64 (pn : Int), .bool true]⟩, ⟨some 12, 144, none, fun v _ => v = .tuple #[hashV h, .int .i64 (pn : Int), .bool true]⟩, ⟨some 13, 157, none, fun v _ => v = hashV h⟩, ⟨some 14, 158, none, fun v _ => v = .int .i64 (pn : Int)⟩, ⟨some 15, 159, none, fun v _ => v = .bool true⟩, ⟨some 16, 19, some 17, fun v W => ∃ g, v = .pointer (some ⟨g, 0, none⟩) ∧ wA.heap.size ≤ g ∧ ∃ m, BoxA W g 30 .u8 m ∧ m.length = 32⟩, ⟨some 17, 19, none, fun v W => ∃ g, v = .pointer (some ⟨g, 0, none⟩) ∧ wA.heap.size ≤ g ∧ BoxH W g h⟩, ⟨some 18, 20, none, fun v _ => v = .int .i64 (pn : Int)⟩, ⟨some 19, 21, none, fun v _ => v = .bool true⟩]) (by kernel_rfl) (by kernel_rfl) (Inv.start (Below.refl _ _).drew ⟨nofun, nofun, nofun, nofun, nofun, nofun, nofun, nofun, nofun, nofun, nofun, nofun, nofun, nofun, nofun, nofun, nofun, nofun, nofun, nofun, trivial⟩) ?_ ?_
  · have St : ∀ xc ∈ [(⟨some 0, 145, none, fun v _ => v = wordsV⟩ : Cl), ⟨some 1, 146, none, fun v _ => v = .pointer (some ⟨g5, 4, none⟩)⟩, ⟨some 2, 147, none, fun v _ => v = .int .i64 (cn : Int)⟩, ⟨some 3, 148, none, fun v _ => v = .pointer (some ⟨g5, 3, none⟩)⟩, ⟨some 4, 149, none, fun v _ => v = .int .i64 index⟩, ⟨some 5, 150, none, fun v _ => v = .pointer (some ⟨g5, 0, none⟩)⟩, ⟨some 6, 151, none, fun v _ => v = encR X⟩, ⟨some 7, 152, none, fun v _ => v = .string ⟨tx.toArray⟩⟩, ⟨some 8, 153, some 11, fun v W => OwnStrs W wA.heap.size v [tx]⟩, ⟨some 9, 154, none, fun v _ => v = .pointer (some ⟨g5, 6, none⟩)⟩, ⟨some 10, 155, none, fun v _ => v = .slice PA pn pc⟩, ⟨some 11, 156, none, fun v _ => v = .tuple #[hashV h, .int .i64 (pn : Int), .bool true]⟩, ⟨some 12, 144, none, fun v _ => v = .tuple #[hashV h, .int .i64 (pn : Int), .bool true]⟩, ⟨some 13, 157, none, fun v _ => v = hashV h⟩, ⟨some 14, 158, none, fun v _ => v = .int .i64 (pn : Int)⟩, ⟨some 15, 159, none, fun v _ => v = .bool true⟩, ⟨some 16, 19, some 17, fun v W => ∃ g, v = .pointer (some ⟨g, 0, none⟩) ∧ wA.heap.size ≤ g ∧ ∃ m, BoxA W g 30 .u8 m ∧ m.length = 32⟩, ⟨some 17, 19, none, fun v W => ∃ g, v = .pointer (some ⟨g, 0, none⟩) ∧ wA.heap.size ≤ g ∧ BoxH W g h⟩, ⟨some 18, 20, none, fun v _ => v = .int .i64 (pn : Int)⟩, ⟨some 19, 21, none, fun v _ => v = .bool true⟩], Lasts xc := AllC.mem ⟨lastsV0 _ _ _ _, lastsV0 _ _ _ _, lastsV0 _ _ _ _, lastsV0 _ _ _ _, lastsV0 _ _ _ _, lastsV0 _ _ _ _, lastsV0 _ _ _ _, lastsV0 _ _ _ _, (fun _ _ _ h b => h.next b), lastsV0 _ _ _ _, lastsV0 _ _ _ _, lastsV0 _ _ _ _, lastsV0 _ _ _ _, lastsV0 _ _ _ _, lastsV0 _ _ _ _, lastsV0 _ _ _ _, (fun _ _ _ h b => by obtain ⟨g, e, h1, m, h2, h3⟩ := h; exact ⟨g, e, h1, m, h2.next b, h3⟩), (fun _ _ _ h b => by obtain ⟨g, e, h1, h2⟩ := h; exact ⟨g, e, h1, BoxA.next h2 b⟩), lastsV0 _ _ _ _, lastsV0 _ _ _ _, trivial⟩
    clear HA0
    refine ⟨?_, ?_, ?_, ?_, ?_, ?_, ?_, ?_, ?_, ?_, ?_, ?_, ?_, ?_, ?_, ?_, ?_, ?_, ?_, ?_, trivial⟩
    · refine stepB rfl rfl (by decide) (by rw [hz]; decide) rfl rfl (by kernel_rfl) St SG fun d a W hF hG hH hn hcl hw => ?_
      have q18 := (hF.same 18 (by decide)).trans e18
      refine ⟨wordsV, W, ?_, Below.refl _ _, ?_⟩
      · exact exec_load rfl (by rw [q18]; exact BoxW.load (BoxA.next yA hG))
      · rfl
    · refine stepB rfl rfl (by decide) (by rw [hz]; decide) rfl rfl (by kernel_rfl) St SG fun d a W hF hG hH hn hcl hw => ?_
      have q5 := (hF.same 5 (by decide)).trans e5
      refine ⟨.pointer (some ⟨g5, 4, none⟩), W, ?_, Below.refl _ _, ?_⟩
      · clear hF hG hH hn hcl hw
        generalize a.eval = ρ at *
        go_simp
      · rfl
    · refine stepB rfl rfl (by decide) (by rw [hz]; decide) rfl rfl (by kernel_rfl) St SG fun d a W hF hG hH hn hcl hw => ?_
      have q146 : a.eval (.tmp 146) = .pointer (some ⟨g5, 4, none⟩) := hH.at_ (i := 1) rfl (hw 1 rfl) id
      have cc0 := cell_kept hG C54.out
      refine ⟨.int .i64 (cn : Int), W, ?_, Below.refl _ _, ?_⟩
      · clear hF hG hH hn hcl hw
        generalize a.eval = ρ at *
        go_simp
      · rfl
    · refine stepB rfl rfl (by decide) (by rw [hz]; decide) rfl rfl (by kernel_rfl) St SG fun d a W hF hG hH hn hcl hw => ?_
      have q5 := (hF.same 5 (by decide)).trans e5
      refine ⟨.pointer (some ⟨g5, 3, none⟩), W, ?_, Below.refl _ _, ?_⟩
      · clear hF hG hH hn hcl hw
        generalize a.eval = ρ at *
        go_simp
      · rfl
    · refine stepB rfl rfl (by decide) (by rw [hz]; decide) rfl rfl (by kernel_rfl) St SG fun d a W hF hG hH hn hcl hw => ?_
      have q148 : a.eval (.tmp 148) = .pointer (some ⟨g5, 3, none⟩) := hH.at_ (i := 3) rfl (hw 3 rfl) id
      have cc0 := cell_kept hG C53.out
      refine ⟨.int .i64 index, W, ?_, Below.refl _ _, ?_⟩
      · clear hF hG hH hn hcl hw
        generalize a.eval = ρ at *
        go_simp
      · rfl
    · refine stepB rfl rfl (by decide) (by rw [hz]; decide) rfl rfl (by kernel_rfl) St SG fun d a W hF hG hH hn hcl hw => ?_
      have q5 := (hF.same 5 (by decide)).trans e5
      refine ⟨.pointer (some ⟨g5, 0, none⟩), W, ?_, Below.refl _ _, ?_⟩
      · clear hF hG hH hn hcl hw
        generalize a.eval = ρ at *
        go_simp
      · rfl
    · refine stepB rfl rfl (by decide) (by rw [hz]; decide) rfl rfl (by kernel_rfl) St SG fun d a W hF hG hH hn hcl hw => ?_
      have q150 : a.eval (.tmp 150) = .pointer (some ⟨g5, 0, none⟩) := hH.at_ (i := 5) rfl (hw 5 rfl) id
      have cc0 := cell_kept hG C50.out
      have cc1 := cell_kept hG C51.out
      have cc2 := cell_kept hG C52.out
      refine ⟨encR X, W, ?_, Below.refl _ _, ?_⟩
      · (clear hF hG hH hn hcl hw; generalize a.eval = ρ at *; go_simp; rfl)
      · rfl
    · refine stepC rfl rfl (by decide) (by rw [hz]; decide) rfl rfl (by kernel_rfl) St SG fun d a W hF hG hH hn hcl hw => ?_
      have q151 : a.eval (.tmp 151) = encR X := hH.at_ (i := 6) rfl (hw 6 rfl) id
      have qf : a.eval (.func 43) = .func (.func 43) #[] #[] := rfl
      refine ⟨43, #[encR X], ?_, ?_⟩
      · clear hF hG hH hn hcl hw
        generalize a.eval = ρ at *
        go_simp
      · refine (HLF.out W).mono ?_; rintro e W' ⟨rfl, b⟩; exact ⟨_, rfl, b, rfl⟩
    · refine stepB rfl rfl (by decide) (by rw [hz]; decide) rfl rfl (by kernel_rfl) St SG fun d a W hF hG hH hn hcl hw => ?_
      have q152 : a.eval (.tmp 152) = .string ⟨tx.toArray⟩ := hH.at_ (i := 7) rfl (hw 7 rfl) id
      refine ⟨.slice (some ⟨W.heap.size, 0, none⟩) 1 1, W.alloc (.cells #[.string ⟨tx.toArray⟩] 9), ?_, Below.new1 W _, ?_⟩
      · clear hF hG hH hn hcl hw
        generalize a.eval = ρ at *
        go_simp
      · exact OwnStrs.one W _ _ hG.size
    · refine stepB rfl rfl (by decide) (by rw [hz]; decide) rfl rfl (by kernel_rfl) St SG fun d a W hF hG hH hn hcl hw => ?_
      have q5 := (hF.same 5 (by decide)).trans e5
      refine ⟨.pointer (some ⟨g5, 6, none⟩), W, ?_, Below.refl _ _, ?_⟩
      · clear hF hG hH hn hcl hw
        generalize a.eval = ρ at *
        go_simp
      · rfl
    · refine stepB rfl rfl (by decide) (by rw [hz]; decide) rfl rfl (by kernel_rfl) St SG fun d a W hF hG hH hn hcl hw => ?_
      have q154 : a.eval (.tmp 154) = .pointer (some ⟨g5, 6, none⟩) := hH.at_ (i := 9) rfl (hw 9 rfl) id
      have cc0 := cell_kept hG C56.out
      refine ⟨.slice PA pn pc, W, ?_, Below.refl _ _, ?_⟩
      · clear hF hG hH hn hcl hw
        generalize a.eval = ρ at *
        go_simp
      · rfl
    · refine stepC rfl rfl (by decide) (by rw [hz]; decide) rfl rfl (by kernel_rfl) St SG fun d a W hF hG hH hn hcl hw => ?_
      have q145 : a.eval (.tmp 145) = wordsV := hH.at_ (i := 0) rfl (hw 0 rfl) id
      have q147 : a.eval (.tmp 147) = .int .i64 (cn : Int) := hH.at_ (i := 2) rfl (hw 2 rfl) id
      have q149 : a.eval (.tmp 149) = .int .i64 index := hH.at_ (i := 4) rfl (hw 4 rfl) id
      have q153 : OwnStrs W wA.heap.size (a.eval (.tmp 153)) [tx] := hH.at_ (i := 8) rfl (hw 8 rfl) hn
      have q155 : a.eval (.tmp 155) = .slice PA pn pc := hH.at_ (i := 10) rfl (hw 10 rfl) id
      have qf : a.eval (.func 42) = .func (.func 42) #[] #[] := rfl
      obtain ⟨A9, c9, q153, hc9, hS9⟩ := q153.toStrs
      simp only [List.length_cons, List.length_nil, Nat.zero_add] at q153 hc9
      refine ⟨42, #[wordsV, .int .i64 (cn : Int), .int .i64 index, .slice A9 1 c9, .slice PA pn pc], ?_, ?_⟩
      · clear hF hG hH hn hcl hw
        generalize a.eval = ρ at *
        go_simp
      · refine (HFD.out A9 c9 W hc9 hS9 (hsA.next hG)).mono ?_; rintro e W' ⟨rfl, b⟩; exact ⟨_, rfl, b, rfl⟩
    · refine stepB rfl rfl (by decide) (by rw [hz]; decide) rfl rfl (by kernel_rfl) St SG fun d a W hF hG hH hn hcl hw => ?_
      have q156 : a.eval (.tmp 156) = .tuple #[hashV h, .int .i64 (pn : Int), .bool true] := hH.at_ (i := 11) rfl (hw 11 rfl) id
      refine ⟨.tuple #[hashV h, .int .i64 (pn : Int), .bool true], W, ?_, Below.refl _ _, ?_⟩
      · clear hF hG hH hn hcl hw
        generalize a.eval = ρ at *
        go_simp
      · rfl
    · refine stepB rfl rfl (by decide) (by rw [hz]; decide) rfl rfl (by kernel_rfl) St SG fun d a W hF hG hH hn hcl hw => ?_
      have q144 : a.eval (.tmp 144) = .tuple #[hashV h, .int .i64 (pn : Int), .bool true] := hH.at_ (i := 12) rfl (hw 12 rfl) id
      refine ⟨hashV h, W, ?_, Below.refl _ _, ?_⟩
      · clear hF hG hH hn hcl hw
        generalize a.eval = ρ at *
        go_simp
      · rfl
    · refine stepB rfl rfl (by decide) (by rw [hz]; decide) rfl rfl (by kernel_rfl) St SG fun d a W hF hG hH hn hcl hw => ?_
      have q144 : a.eval (.tmp 144) = .tuple #[hashV h, .int .i64 (pn : Int), .bool true] := hH.at_ (i := 12) rfl (hw 12 rfl) id
      refine ⟨.int .i64 (pn : Int), W, ?_, Below.refl _ _, ?_⟩
      · clear hF hG hH hn hcl hw
        generalize a.eval = ρ at *
        go_simp
      · rfl
    · refine stepB rfl rfl (by decide) (by rw [hz]; decide) rfl rfl (by kernel_rfl) St SG fun d a W hF hG hH hn hcl hw => ?_
      have q144 : a.eval (.tmp 144) = .tuple #[hashV h, .int .i64 (pn : Int), .bool true] := hH.at_ (i := 12) rfl (hw 12 rfl) id
      refine ⟨.bool true, W, ?_, Below.refl _ _, ?_⟩
      · clear hF hG hH hn hcl hw
        generalize a.eval = ρ at *
        go_simp
      · rfl
    · refine stepB rfl rfl (by decide) (by rw [hz]; decide) rfl rfl (by kernel_rfl) St SG fun d a W hF hG hH hn hcl hw => ?_
      refine ⟨.pointer (some ⟨W.heap.size, 0, none⟩), W.alloc (.cells (ints .u8 (List.replicate 32 0)) 30), ?_, Below.new1 W _, ?_⟩
      · (clear hF hG hH hn hcl hw; generalize a.eval = ρ at *; go_simp; rfl)
      · exact ⟨_, rfl, hG.size, _, BoxA.new W _ _ _ _ rfl, by simp⟩
    · refine stepRow 19 (.tmp 157) 30 rfl rfl rfl rfl rfl wA.heap.size (AllC.mem ⟨.inr (.inr (.inl fun _ _ _ _ _ _ _ h => h)), .inr (.inr (.inl fun _ _ _ _ _ _ _ h => h)), .inr (.inr (.inl fun _ _ _ _ _ _ _ h => h)), .inr (.inr (.inl fun _ _ _ _ _ _ _ h => h)), .inr (.inr (.inl fun _ _ _ _ _ _ _ h => h)), .inr (.inr (.inl fun _ _ _ _ _ _ _ h => h)), .inr (.inr (.inl fun _ _ _ _ _ _ _ h => h)), .inr (.inr (.inl fun _ _ _ _ _ _ _ h => h)), .inr (.inr (.inr fun d hcl hw => hcl 12 _ 11 rfl rfl (hcl 13 _ 12 rfl rfl (hw 13 rfl)))), .inr (.inr (.inl fun _ _ _ _ _ _ _ h => h)), .inr (.inr (.inl fun _ _ _ _ _ _ _ h => h)), .inr (.inr (.inl fun _ _ _ _ _ _ _ h => h)), .inr (.inr (.inl fun _ _ _ _ _ _ _ h => h)), .inr (.inr (.inl fun _ _ _ _ _ _ _ h => h)), .inr (.inr (.inl fun _ _ _ _ _ _ _ h => h)), .inr (.inr (.inl fun _ _ _ _ _ _ _ h => h)), .inr (.inl rfl), .inl rfl, .inr (.inr (.inl fun _ _ _ _ _ _ _ h => h)), .inr (.inr (.inl fun _ _ _ _ _ _ _ h => h)), trivial⟩) (fun _ _ _ _ _ hg h _ => below_setRow h hg _) fun d a W hF hG hH hn hcl hw => ?_
      have q19 : ∃ g, a.eval (.tmp 19) = .pointer (some ⟨g, 0, none⟩) ∧ wA.heap.size ≤ g ∧ ∃ m, BoxA W g 30 .u8 m ∧ m.length = 32 := hH.at_ (i := 16) rfl (hw 16 rfl) hn
      have q157 : a.eval (.tmp 157) = hashV h := hH.at_ (i := 13) rfl (hw 13 rfl) id
      obtain ⟨g, q19, hg, mm, hx, hml⟩ := q19
      exact ⟨g, ints .u8 (nums h), ints .u8 mm, q19, hg, by rw [q157, hashV_eq], hx, by rw [ints_size, nums_length, HH.out]; exact szHash, by rw [ints_size, ints_size, nums_length, hml, HH.out], ints_one _ _, g, rfl, hg, BoxA.setRow hx⟩
    · refine stepB rfl rfl (by decide) (by rw [hz]; decide) rfl rfl (by kernel_rfl) St SG fun d a W hF hG hH hn hcl hw => ?_
      have q158 : a.eval (.tmp 158) = .int .i64 (pn : Int) := hH.at_ (i := 14) rfl (hw 14 rfl) id
      refine ⟨.int .i64 (pn : Int), W, ?_, Below.refl _ _, ?_⟩
      · clear hF hG hH hn hcl hw
        generalize a.eval = ρ at *
        go_simp
      · rfl
    · refine stepB rfl rfl (by decide) (by rw [hz]; decide) rfl rfl (by kernel_rfl) St SG fun d a W hF hG hH hn hcl hw => ?_
      have q159 : a.eval (.tmp 159) = .bool true := hH.at_ (i := 15) rfl (hw 15 rfl) id
      refine ⟨.bool true, W, ?_, Below.refl _ _, ?_⟩
      · clear hF hG hH hn hcl hw
        generalize a.eval = ρ at *
        go_simp
      · rfl
  · intro d a W ⟨hF, hB, hH⟩ hall
    have k20 : a.eval (.tmp 20) = .int .i64 (pn : Int) := hH.at_ (i := 18) rfl (hall 18 (by decide)) id
    have k21 : a.eval (.tmp 21) = .bool true := hH.at_ (i := 19) rfl (hall 19 (by decide)) id
    have s17 : ∃ g, a.eval (.tmp 19) = .pointer (some ⟨g, 0, none⟩) ∧ wA.heap.size ≤ g ∧ BoxH W g h := hH.at_ (i := 17) rfl (hall 17 (by decide)) id
    clear hH hall
    rw [hF.shape (by rw [hz]; decide)]
    clear hF
    simp only [List.foldl]
    generalize a.eval (.tmp 145) = z145 at *
    generalize a.eval (.tmp 146) = z146 at *
    generalize a.eval (.tmp 147) = z147 at *
    generalize a.eval (.tmp 148) = z148 at *
    generalize a.eval (.tmp 149) = z149 at *
    generalize a.eval (.tmp 150) = z150 at *
    generalize a.eval (.tmp 151) = z151 at *
    generalize a.eval (.tmp 152) = z152 at *
    generalize a.eval (.tmp 153) = z153 at *
    generalize a.eval (.tmp 154) = z154 at *
    generalize a.eval (.tmp 155) = z155 at *
    generalize a.eval (.tmp 156) = z156 at *
    generalize a.eval (.tmp 144) = z144 at *
    generalize a.eval (.tmp 157) = z157 at *
    generalize a.eval (.tmp 158) = z158 at *
    generalize a.eval (.tmp 159) = z159 at *
    generalize a.eval (.tmp 19) = z19 at *
    generalize a.eval (.tmp 20) = z20 at *
    generalize a.eval (.tmp 21) = z21 at *
    subst k20
    subst k21
    rw [HA0.out]
    simp only [Act.put, List.setIfInBounds_toArray, List.set_cons_zero, List.set_cons_succ]
    clear hz HA0 SG e5 e8 e18
    clear a a0
    obtain ⟨g19, rfl, hg19, y19⟩ := s17
    have BB1 := Below.on BB hB
    have yB : BoxW W g18 := BoxA.next yA hB
    have v5 := z5.next hB
    have v8 := z8.next hB
    have hkB := hkA.next hB
    have hsB := hsA.next hB
    have hR1B := hR1A.below hB
    clear C50 C51 C52 C53 C54 C55 C56 C80 C81
    have C50 := Lib.hid v5.c0
    have C51 := Lib.hid v5.c1
    have C52 := Lib.hid v5.c2
    have C53 := Lib.hid v5.c3
    have C54 := Lib.hid v5.c4
    have C55 := Lib.hid v5.c5
    have C56 := Lib.hid v5.c6
    have C80 := Lib.hid v8.c0
    have C81 := Lib.hid v8.c1
    have l5 := v5.lt
    have l8 := v8.lt
    have l18 := BoxA.lt yB
    have l19 := BoxA.lt y19
    clear hB hg19 yA hkA hsA hR1A z5 z8 BB HFD
    generalize W = wB at *
    go_upto_region 21 with (fail)
    refine wp_name fun a0 ha0 => ?_
    have e5 : a0.eval (.tmp 5) = .pointer (some ⟨g5, 0, none⟩) := by rw [ha0]; rfl
    have e8 : a0.eval (.tmp 8) = .pointer (some ⟨g8, 0, none⟩) := by rw [ha0]; rfl
    have e18 : a0.eval (.tmp 18) = .pointer (some ⟨g18, 0, none⟩) := by rw [ha0]; rfl
    have hz : a0.tmps.size = 194 := by rw [ha0]; rfl
    have HA0 := Lib.hid ha0
    clear ha0
    have SG : ∀ (d d' : Nat → Prop) (W W' : World), (fun (_ : Nat → Prop) (W : World) => Below wB.heap.size wB W) d W → (∀ j, d j → d' j) → Below W.heap.size W W' → (fun (_ : Nat → Prop) (W : World) => Below wB.heap.size wB W) d' W' := fun _ _ _ _ h _ b => Below.next h b
    refine wp_region_lastly2 18 _ _ (Inv [160, 161, 162, 163, 164, 165, 166, 167, 168, 169, 170, 171, 172, 173, 174, 175, 176, 177] a0 (fun (_ : Nat → Prop) (W : World) => Below wB.heap.size wB W) [(⟨some 0, 160, none, fun v _ => v = wordsV⟩ : Cl), ⟨some 1, 161, none, fun v _ => v = .pointer (some ⟨g8, 0, none⟩)⟩, ⟨some 2, 162, none, fun v _ => v = .int .i64 (n : Int)⟩, ⟨some 3, 163, none, fun v _ => v = .pointer (some ⟨g8, 1, none⟩)⟩, ⟨some 4, 164, none, fun v _ => v = .slice A1 m c1⟩, ⟨some 5, 165, none, fun v W => OwnStrs W wB.heap.size v MT⟩, ⟨some 6, 166, none, fun v _ => v = wordsV⟩, ⟨some 7, 167, none, fun v _ => v = .pointer (some ⟨g5, 4, none⟩)⟩, ⟨some 8, 168, none, fun v _ => v = .int .i64 (cn : Int)⟩, ⟨some 9, 169, none, fun v _ => v = .pointer (some ⟨g5, 3, none⟩)⟩, ⟨some 10, 170, none, fun v _ => v = .int .i64 index⟩, ⟨some 11, 171, none, fun v _ => v = .pointer (some ⟨g5, 0, none⟩)⟩, ⟨some 12, 172, none, fun v _ => v = encR X⟩, ⟨some 13, 173, none, fun v _ => v = .string ⟨tx.toArray⟩⟩, ⟨some 14, 174, none, fun v W => OwnStrs W wB.heap.size v [tx]⟩, ⟨some 15, 175, none, fun v _ => v = .pointer (some ⟨g5, 6, none⟩)⟩, ⟨some 16, 176, none, fun v _ => v = .slice PA pn pc⟩, ⟨some 17, 177, none, fun v W => OwnStrs W wB.heap.size v FT⟩]) (by kernel_rfl) (by kernel_rfl) rfl rfl rfl (fun d hcl hw j hj => ?_) (by kernel_rfl) rfl rfl (Inv.start (Below.refl _ _).drew ⟨nofun, nofun, nofun, nofun, nofun, nofun, nofun, nofun, nofun, nofun, nofun, nofun, nofun, nofun, nofun, nofun, nofun, nofun, trivial⟩) ?_ ?_
    · have r5 := hw 5 rfl
      have r17 := hw 17 rfl
      have r6 := hcl 17 _ 6 rfl rfl r17
      have r8 := hcl 17 _ 8 rfl rfl r17
      have r10 := hcl 17 _ 10 rfl rfl r17
      have r14 := hcl 17 _ 14 rfl rfl r17
      have r16 := hcl 17 _ 16 rfl rfl r17
      have r15 := hcl 16 _ 15 rfl rfl r16
      have r13 := hcl 14 _ 13 rfl rfl r14
      have r12 := hcl 13 _ 12 rfl rfl r13
      have r11 := hcl 12 _ 11 rfl rfl r12
      have r9 := hcl 10 _ 9 rfl rfl r10
      have r7 := hcl 8 _ 7 rfl rfl r8
      have r0 := hcl 5 _ 0 rfl rfl r5
      have r2 := hcl 5 _ 2 rfl rfl r5
      have r4 := hcl 5 _ 4 rfl rfl r5
      have r3 := hcl 4 _ 3 rfl rfl r4
      have r1 := hcl 2 _ 1 rfl rfl r2
      match j, hj with
      | 0, _ => exact r0
      | 1, _ => exact r1
      | 2, _ => exact r2
      | 3, _ => exact r3
      | 4, _ => exact r4
      | 5, _ => exact r5
      | 6, _ => exact r6
      | 7, _ => exact r7
      | 8, _ => exact r8
      | 9, _ => exact r9
      | 10, _ => exact r10
      | 11, _ => exact r11
      | 12, _ => exact r12
      | 13, _ => exact r13
      | 14, _ => exact r14
      | 15, _ => exact r15
      | 16, _ => exact r16
      | 17, _ => exact r17
      | j + 18, h => exact absurd h (by omega)
    · have St : ∀ xc ∈ [(⟨some 0, 160, none, fun v _ => v = wordsV⟩ : Cl), ⟨some 1, 161, none, fun v _ => v = .pointer (some ⟨g8, 0, none⟩)⟩, ⟨some 2, 162, none, fun v _ => v = .int .i64 (n : Int)⟩, ⟨some 3, 163, none, fun v _ => v = .pointer (some ⟨g8, 1, none⟩)⟩, ⟨some 4, 164, none, fun v _ => v = .slice A1 m c1⟩, ⟨some 5, 165, none, fun v W => OwnStrs W wB.heap.size v MT⟩, ⟨some 6, 166, none, fun v _ => v = wordsV⟩, ⟨some 7, 167, none, fun v _ => v = .pointer (some ⟨g5, 4, none⟩)⟩, ⟨some 8, 168, none, fun v _ => v = .int .i64 (cn : Int)⟩, ⟨some 9, 169, none, fun v _ => v = .pointer (some ⟨g5, 3, none⟩)⟩, ⟨some 10, 170, none, fun v _ => v = .int .i64 index⟩, ⟨some 11, 171, none, fun v _ => v = .pointer (some ⟨g5, 0, none⟩)⟩, ⟨some 12, 172, none, fun v _ => v = encR X⟩, ⟨some 13, 173, none, fun v _ => v = .string ⟨tx.toArray⟩⟩, ⟨some 14, 174, none, fun v W => OwnStrs W wB.heap.size v [tx]⟩, ⟨some 15, 175, none, fun v _ => v = .pointer (some ⟨g5, 6, none⟩)⟩, ⟨some 16, 176, none, fun v _ => v = .slice PA pn pc⟩, ⟨some 17, 177, none, fun v W => OwnStrs W wB.heap.size v FT⟩], Lasts xc := AllC.mem ⟨lastsV0 _ _ _ _, lastsV0 _ _ _ _, lastsV0 _ _ _ _, lastsV0 _ _ _ _, lastsV0 _ _ _ _, (fun _ _ _ h b => h.next b), lastsV0 _ _ _ _, lastsV0 _ _ _ _, lastsV0 _ _ _ _, lastsV0 _ _ _ _, lastsV0 _ _ _ _, lastsV0 _ _ _ _, lastsV0 _ _ _ _, lastsV0 _ _ _ _, (fun _ _ _ h b => h.next b), lastsV0 _ _ _ _, lastsV0 _ _ _ _, (fun _ _ _ h b => h.next b), trivial⟩
      clear HA0
      refine ⟨?_, ?_, ?_, ?_, ?_, ?_, ?_, ?_, ?_, ?_, ?_, ?_, ?_, ?_, ?_, ?_, ?_, ?_, trivial⟩
      · refine stepB rfl rfl (by decide) (by rw [hz]; decide) rfl rfl (by kernel_rfl) St SG fun d a W hF hG hH hn hcl hw => ?_
        have q18 := (hF.same 18 (by decide)).trans e18
        refine ⟨wordsV, W, ?_, Below.refl _ _, ?_⟩
        · exact exec_load rfl (by rw [q18]; exact BoxW.load (BoxA.next yB hG))
        · rfl
      · refine stepB rfl rfl (by decide) (by rw [hz]; decide) rfl rfl (by kernel_rfl) St SG fun d a W hF hG hH hn hcl hw => ?_
        have q8 := (hF.same 8 (by decide)).trans e8
        refine ⟨.pointer (some ⟨g8, 0, none⟩), W, ?_, Below.refl _ _, ?_⟩
        · clear hF hG hH hn hcl hw
          generalize a.eval = ρ at *
          go_simp
        · rfl
      · refine stepB rfl rfl (by decide) (by rw [hz]; decide) rfl rfl (by kernel_rfl) St SG fun d a W hF hG hH hn hcl hw => ?_
        have q161 : a.eval (.tmp 161) = .pointer (some ⟨g8, 0, none⟩) := hH.at_ (i := 1) rfl (hw 1 rfl) id
        have cc0 := cell_kept hG C80.out
        refine ⟨.int .i64 (n : Int), W, ?_, Below.refl _ _, ?_⟩
        · clear hF hG hH hn hcl hw
          generalize a.eval = ρ at *
          go_simp
        · rfl
      · refine stepB rfl rfl (by decide) (by rw [hz]; decide) rfl rfl (by kernel_rfl) St SG fun d a W hF hG hH hn hcl hw => ?_
        have q8 := (hF.same 8 (by decide)).trans e8
        refine ⟨.pointer (some ⟨g8, 1, none⟩), W, ?_, Below.refl _ _, ?_⟩
        · clear hF hG hH hn hcl hw
          generalize a.eval = ρ at *
          go_simp
        · rfl
      · refine stepB rfl rfl (by decide) (by rw [hz]; decide) rfl rfl (by kernel_rfl) St SG fun d a W hF hG hH hn hcl hw => ?_
        have q163 : a.eval (.tmp 163) = .pointer (some ⟨g8, 1, none⟩) := hH.at_ (i := 3) rfl (hw 3 rfl) id
        have cc0 := cell_kept hG C81.out
        refine ⟨.slice A1 m c1, W, ?_, Below.refl _ _, ?_⟩
        · clear hF hG hH hn hcl hw
          generalize a.eval = ρ at *
          go_simp
        · rfl
      · refine stepC rfl rfl (by decide) (by rw [hz]; decide) rfl rfl (by kernel_rfl) St SG fun d a W hF hG hH hn hcl hw => ?_
        have q160 : a.eval (.tmp 160) = wordsV := hH.at_ (i := 0) rfl (hw 0 rfl) id
        have q162 : a.eval (.tmp 162) = .int .i64 (n : Int) := hH.at_ (i := 2) rfl (hw 2 rfl) id
        have q164 : a.eval (.tmp 164) = .slice A1 m c1 := hH.at_ (i := 4) rfl (hw 4 rfl) id
        have qf : a.eval (.func 44) = .func (.func 44) #[] #[] := rfl
        refine ⟨44, #[wordsV, .int .i64 (n : Int), .slice A1 m c1], ?_, ?_⟩
        · clear hF hG hH hn hcl hw
          generalize a.eval = ρ at *
          go_simp
        · refine (HMT.out W A1 c1 (hR1B.below hG)).mono ?_; rintro e W' ⟨v, rfl, hO, b⟩; exact ⟨v, rfl, b, hO.mono (by have := hG.size; omega)⟩
      · refine stepB rfl rfl (by decide) (by rw [hz]; decide) rfl rfl (by kernel_rfl) St SG fun d a W hF hG hH hn hcl hw => ?_
        have q18 := (hF.same 18 (by decide)).trans e18
        refine ⟨wordsV, W, ?_, Below.refl _ _, ?_⟩
        · exact exec_load rfl (by rw [q18]; exact BoxW.load (BoxA.next yB hG))
        · rfl
      · refine stepB rfl rfl (by decide) (by rw [hz]; decide) rfl rfl (by kernel_rfl) St SG fun d a W hF hG hH hn hcl hw => ?_
        have q5 := (hF.same 5 (by decide)).trans e5
        refine ⟨.pointer (some ⟨g5, 4, none⟩), W, ?_, Below.refl _ _, ?_⟩
        · clear hF hG hH hn hcl hw
          generalize a.eval = ρ at *
          go_simp
        · rfl
      · refine stepB rfl rfl (by decide) (by rw [hz]; decide) rfl rfl (by kernel_rfl) St SG fun d a W hF hG hH hn hcl hw => ?_
        have q167 : a.eval (.tmp 167) = .pointer (some ⟨g5, 4, none⟩) := hH.at_ (i := 7) rfl (hw 7 rfl) id
        have cc0 := cell_kept hG C54.out
        refine ⟨.int .i64 (cn : Int), W, ?_, Below.refl _ _, ?_⟩
        · clear hF hG hH hn hcl hw
          generalize a.eval = ρ at *
          go_simp
        · rfl
      · refine stepB rfl rfl (by decide) (by rw [hz]; decide) rfl rfl (by kernel_rfl) St SG fun d a W hF hG hH hn hcl hw => ?_
        have q5 := (hF.same 5 (by decide)).trans e5
        refine ⟨.pointer (some ⟨g5, 3, none⟩), W, ?_, Below.refl _ _, ?_⟩
        · clear hF hG hH hn hcl hw
          generalize a.eval = ρ at *
          go_simp
        · rfl
      · refine stepB rfl rfl (by decide) (by rw [hz]; decide) rfl rfl (by kernel_rfl) St SG fun d a W hF hG hH hn hcl hw => ?_
        have q169 : a.eval (.tmp 169) = .pointer (some ⟨g5, 3, none⟩) := hH.at_ (i := 9) rfl (hw 9 rfl) id
        have cc0 := cell_kept hG C53.out
        refine ⟨.int .i64 index, W, ?_, Below.refl _ _, ?_⟩
        · clear hF hG hH hn hcl hw
          generalize a.eval = ρ at *
          go_simp
        · rfl
      · refine stepB rfl rfl (by decide) (by rw [hz]; decide) rfl rfl (by kernel_rfl) St SG fun d a W hF hG hH hn hcl hw => ?_
        have q5 := (hF.same 5 (by decide)).trans e5
        refine ⟨.pointer (some ⟨g5, 0, none⟩), W, ?_, Below.refl _ _, ?_⟩
        · clear hF hG hH hn hcl hw
          generalize a.eval = ρ at *
          go_simp
        · rfl
      · refine stepB rfl rfl (by decide) (by rw [hz]; decide) rfl rfl (by kernel_rfl) St SG fun d a W hF hG hH hn hcl hw => ?_
        have q171 : a.eval (.tmp 171) = .pointer (some ⟨g5, 0, none⟩) := hH.at_ (i := 11) rfl (hw 11 rfl) id
        have cc0 := cell_kept hG C50.out
        have cc1 := cell_kept hG C51.out
        have cc2 := cell_kept hG C52.out
        refine ⟨encR X, W, ?_, Below.refl _ _, ?_⟩
        · (clear hF hG hH hn hcl hw; generalize a.eval = ρ at *; go_simp; rfl)
        · rfl
      · refine stepC rfl rfl (by decide) (by rw [hz]; decide) rfl rfl (by kernel_rfl) St SG fun d a W hF hG hH hn hcl hw => ?_
        have q172 : a.eval (.tmp 172) = encR X := hH.at_ (i := 12) rfl (hw 12 rfl) id
        have qf : a.eval (.func 43) = .func (.func 43) #[] #[] := rfl
        refine ⟨43, #[encR X], ?_, ?_⟩
        · clear hF hG hH hn hcl hw
          generalize a.eval = ρ at *
          go_simp
        · refine (HLF.out W).mono ?_; rintro e W' ⟨rfl, b⟩; exact ⟨_, rfl, b, rfl⟩
      · refine stepB rfl rfl (by decide) (by rw [hz]; decide) rfl rfl (by kernel_rfl) St SG fun d a W hF hG hH hn hcl hw => ?_
        have q173 : a.eval (.tmp 173) = .string ⟨tx.toArray⟩ := hH.at_ (i := 13) rfl (hw 13 rfl) id
        refine ⟨.slice (some ⟨W.heap.size, 0, none⟩) 1 1, W.alloc (.cells #[.string ⟨tx.toArray⟩] 9), ?_, Below.new1 W _, ?_⟩
        · clear hF hG hH hn hcl hw
          generalize a.eval = ρ at *
          go_simp
        · exact OwnStrs.one W _ _ hG.size
      · refine stepB rfl rfl (by decide) (by rw [hz]; decide) rfl rfl (by kernel_rfl) St SG fun d a W hF hG hH hn hcl hw => ?_
        have q5 := (hF.same 5 (by decide)).trans e5
        refine ⟨.pointer (some ⟨g5, 6, none⟩), W, ?_, Below.refl _ _, ?_⟩
        · clear hF hG hH hn hcl hw
          generalize a.eval = ρ at *
          go_simp
        · rfl
      · refine stepB rfl rfl (by decide) (by rw [hz]; decide) rfl rfl (by kernel_rfl) St SG fun d a W hF hG hH hn hcl hw => ?_
        have q175 : a.eval (.tmp 175) = .pointer (some ⟨g5, 6, none⟩) := hH.at_ (i := 15) rfl (hw 15 rfl) id
        have cc0 := cell_kept hG C56.out
        refine ⟨.slice PA pn pc, W, ?_, Below.refl _ _, ?_⟩
        · clear hF hG hH hn hcl hw
          generalize a.eval = ρ at *
          go_simp
        · rfl
      · refine stepC rfl rfl (by decide) (by rw [hz]; decide) rfl rfl (by kernel_rfl) St SG fun d a W hF hG hH hn hcl hw => ?_
        have q166 : a.eval (.tmp 166) = wordsV := hH.at_ (i := 6) rfl (hw 6 rfl) id
        have q168 : a.eval (.tmp 168) = .int .i64 (cn : Int) := hH.at_ (i := 8) rfl (hw 8 rfl) id
        have q170 : a.eval (.tmp 170) = .int .i64 index := hH.at_ (i := 10) rfl (hw 10 rfl) id
        have q174 : OwnStrs W wB.heap.size (a.eval (.tmp 174)) [tx] := hH.at_ (i := 14) rfl (hw 14 rfl) id
        have q176 : a.eval (.tmp 176) = .slice PA pn pc := hH.at_ (i := 16) rfl (hw 16 rfl) id
        have qf : a.eval (.func 45) = .func (.func 45) #[] #[] := rfl
        obtain ⟨A9, c9, q174, hc9, hS9⟩ := q174.toStrs
        simp only [List.length_cons, List.length_nil, Nat.zero_add] at q174 hc9
        refine ⟨45, #[wordsV, .int .i64 (cn : Int), .int .i64 index, .slice A9 1 c9, .slice PA pn pc], ?_, ?_⟩
        · clear hF hG hH hn hcl hw
          generalize a.eval = ρ at *
          go_simp
        · refine (HFT.out A9 c9 W hc9 hS9 (hsB.next hG)).mono ?_; rintro e W' ⟨v, rfl, hO, b⟩; exact ⟨v, rfl, b, hO.mono (by have := hG.size; omega)⟩
    · intro d a W ⟨hF, hB, hH⟩ hall
      have k165 : OwnStrs W wB.heap.size (a.eval (.tmp 165)) MT := hH.at_ (i := 5) rfl (hall 5 (by decide)) id
      have k177 : OwnStrs W wB.heap.size (a.eval (.tmp 177)) FT := hH.at_ (i := 17) rfl (hall 17 (by decide)) id
      clear hH hall
      rw [hF.shape (by rw [hz]; decide)]
      clear hF
      simp only [List.foldl]
      generalize a.eval (.tmp 160) = z160 at *
      generalize a.eval (.tmp 161) = z161 at *
      generalize a.eval (.tmp 162) = z162 at *
      generalize a.eval (.tmp 163) = z163 at *
      generalize a.eval (.tmp 164) = z164 at *
      generalize a.eval (.tmp 165) = z165 at *
      generalize a.eval (.tmp 166) = z166 at *
      generalize a.eval (.tmp 167) = z167 at *
      generalize a.eval (.tmp 168) = z168 at *
      generalize a.eval (.tmp 169) = z169 at *
      generalize a.eval (.tmp 170) = z170 at *
      generalize a.eval (.tmp 171) = z171 at *
      generalize a.eval (.tmp 172) = z172 at *
      generalize a.eval (.tmp 173) = z173 at *
      generalize a.eval (.tmp 174) = z174 at *
      generalize a.eval (.tmp 175) = z175 at *
      generalize a.eval (.tmp 176) = z176 at *
      generalize a.eval (.tmp 177) = z177 at *
      rw [HA0.out]
      simp only [Act.put, List.setIfInBounds_toArray, List.set_cons_zero, List.set_cons_succ]
      clear hz HA0 SG e5 e8 e18
      clear a a0
      refine wp_append_strs (.tmp 165) (.tmp 177) rfl wB.heap.size wB.heap.size _ _ MT FT rfl rfl k165 k177 LM LF hB.size (fun z22 wC hOC bC => ?_)
      refine wp_yields (v := z22) (by rfl) ?_
      dsimp only [Act.put]
      have BC := hB.trans bC
      have sC := BC.size
      have yC : BoxW wC g18 := BoxA.next yB BC
      have u19 : BoxH wC g19 h := BoxA.next y19 BC
      have u5 := v5.next BC
      have u8 := v8.next BC
      have hkC := hkB.next BC
      have BB2 := Below.on BB1 BC
      have hbz : 0 < wB.heap.size := hkB.1
      clear C50 C51 C52 C53 C54 C55 C56 C80 C81
      have C50 := Lib.hid u5.c0
      have C51 := Lib.hid u5.c1
      have C52 := Lib.hid u5.c2
      have C53 := Lib.hid u5.c3
      have C54 := Lib.hid u5.c4
      have C55 := Lib.hid u5.c5
      have C56 := Lib.hid u5.c6
      have bs := BB1.size
      obtain ⟨bb, hbb⟩ : ∃ k, wB.heap.size = k := ⟨_, rfl⟩
      rw [hbb] at bs sC hOC l5 l8 l18 l19 hbz
      have BS := Lib.hid bs
      clear bs hbb
      clear k165 k177 hB bC BC yB y19 v5 v8 u8 hkB hsB hR1B BB1 HMT HFT
      go_upto_region 22 with (fail)
      refine wp_name fun a0 ha0 => ?_
      have e5 : a0.eval (.tmp 5) = .pointer (some ⟨g5, 0, none⟩) := by rw [ha0]; rfl
      have e18 : a0.eval (.tmp 18) = .pointer (some ⟨g18, 0, none⟩) := by rw [ha0]; rfl
      have e22 : a0.eval (.tmp 22) = z22 := by rw [ha0]; rfl
      have e19 : a0.eval (.tmp 19) = .pointer (some ⟨g19, 0, none⟩) := by rw [ha0]; rfl
      have hz : a0.tmps.size = 194 := by rw [ha0]; rfl
      have HA0 := Lib.hid ha0
      clear ha0
      have SG : ∀ (d d' : Nat → Prop) (W W' : World), (GRow bb 10 wC z22 (MT ++ FT)) d W → (∀ j, d j → d' j) → Below W.heap.size W W' → (GRow bb 10 wC z22 (MT ++ FT)) d' W' := fun _ _ _ _ h _hm b => GRow.next sC h _hm b
      refine wp_region_guards (Inv [179, 180, 181, 182, 183, 184, 185, 186, 187, 188, 189, 190, 191, 192, 193, 6] a0 (GRow bb 10 wC z22 (MT ++ FT)) [(⟨some 0, 179, none, fun v _ => v = wordsV⟩ : Cl), ⟨some 1, 180, none, fun v _ => v = z22⟩, ⟨some 2, 181, none, fun v _ => v = wordsV⟩, ⟨some 3, 182, none, fun v _ => v = .pointer (some ⟨g5, 5, none⟩)⟩, ⟨some 4, 183, none, fun v _ => v = .int .i64 size⟩, ⟨some 5, 184, none, fun v _ => v = .pointer (some ⟨g5, 4, none⟩)⟩, ⟨some 6, 185, none, fun v _ => v = .int .i64 (cn : Int)⟩, ⟨some 7, 186, none, fun v _ => v = hashV h⟩, ⟨some 8, 187, none, fun v _ => v = .string ⟨zt.toArray⟩⟩, ⟨some 9, 188, some 10, fun v W => OwnStrs W wC.heap.size v [zt]⟩, ⟨some 10, 189, none, fun v W => OwnStrs W bb v (MT ++ FT ++ [zt])⟩, ⟨some 11, 190, none, fun v _ => v = .bool true⟩, ⟨some 12, 191, none, fun v _ => v = .bool true⟩, ⟨some 13, 192, none, fun v _ => v = .bool true⟩, ⟨some 14, 193, none, fun v _ => v = .bool true⟩, ⟨some 15, 6, none, fun v _ => v = .bool true⟩]) (by kernel_rfl) (by kernel_rfl) (Inv.start ⟨⟨(Below.refl _ _).drew, Nat.le_refl _⟩, fun _ => hOC.next ((Below.refl _ _).drew)⟩ ⟨nofun, nofun, nofun, nofun, nofun, nofun, nofun, nofun, nofun, nofun, nofun, nofun, nofun, nofun, nofun, nofun, trivial⟩) ?_ ?_
      · have St : ∀ xc ∈ [(⟨some 0, 179, none, fun v _ => v = wordsV⟩ : Cl), ⟨some 1, 180, none, fun v _ => v = z22⟩, ⟨some 2, 181, none, fun v _ => v = wordsV⟩, ⟨some 3, 182, none, fun v _ => v = .pointer (some ⟨g5, 5, none⟩)⟩, ⟨some 4, 183, none, fun v _ => v = .int .i64 size⟩, ⟨some 5, 184, none, fun v _ => v = .pointer (some ⟨g5, 4, none⟩)⟩, ⟨some 6, 185, none, fun v _ => v = .int .i64 (cn : Int)⟩, ⟨some 7, 186, none, fun v _ => v = hashV h⟩, ⟨some 8, 187, none, fun v _ => v = .string ⟨zt.toArray⟩⟩, ⟨some 9, 188, some 10, fun v W => OwnStrs W wC.heap.size v [zt]⟩, ⟨some 10, 189, none, fun v W => OwnStrs W bb v (MT ++ FT ++ [zt])⟩, ⟨some 11, 190, none, fun v _ => v = .bool true⟩, ⟨some 12, 191, none, fun v _ => v = .bool true⟩, ⟨some 13, 192, none, fun v _ => v = .bool true⟩, ⟨some 14, 193, none, fun v _ => v = .bool true⟩, ⟨some 15, 6, none, fun v _ => v = .bool true⟩], Lasts xc := AllC.mem ⟨lastsV0 _ _ _ _, lastsV0 _ _ _ _, lastsV0 _ _ _ _, lastsV0 _ _ _ _, lastsV0 _ _ _ _, lastsV0 _ _ _ _, lastsV0 _ _ _ _, lastsV0 _ _ _ _, lastsV0 _ _ _ _, (fun _ _ _ h b => h.next b), (fun _ _ _ h b => h.next b), lastsV0 _ _ _ _, lastsV0 _ _ _ _, lastsV0 _ _ _ _, lastsV0 _ _ _ _, lastsV0 _ _ _ _, trivial⟩
        clear HA0
        refine ⟨?_, ?_, ?_, ?_, ?_, ?_, ?_, ?_, ?_, ?_, ?_, ?_, ?_, ?_, ?_, ?_, trivial⟩
        · refine StepG.of ?_
          refine stepB rfl rfl (by decide) (by rw [hz]; decide) rfl rfl (by kernel_rfl) St SG fun d a W hF hG hH hn hcl hw => ?_
          have q18 := (hF.same 18 (by decide)).trans e18
          refine ⟨wordsV, W, ?_, Below.refl _ _, ?_⟩
          · exact exec_load rfl (by rw [q18]; exact BoxW.load (BoxA.low yC (by omega) hG.1.1))
          · rfl
        · refine StepG.of ?_
          refine stepB rfl rfl (by decide) (by rw [hz]; decide) rfl rfl (by kernel_rfl) St SG fun d a W hF hG hH hn hcl hw => ?_
          have q22 := (hF.same 22 (by decide)).trans e22
          refine ⟨z22, W, ?_, Below.refl _ _, ?_⟩
          · clear hF hG hH hn hcl hw
            generalize a.eval = ρ at *
            go_simp
          · rfl
        · refine StepG.of ?_
          refine stepB rfl rfl (by decide) (by rw [hz]; decide) rfl rfl (by kernel_rfl) St SG fun d a W hF hG hH hn hcl hw => ?_
          have q18 := (hF.same 18 (by decide)).trans e18
          refine ⟨wordsV, W, ?_, Below.refl _ _, ?_⟩
          · exact exec_load rfl (by rw [q18]; exact BoxW.load (BoxA.low yC (by omega) hG.1.1))
          · rfl
        · refine StepG.of ?_
          refine stepB rfl rfl (by decide) (by rw [hz]; decide) rfl rfl (by kernel_rfl) St SG fun d a W hF hG hH hn hcl hw => ?_
          have q5 := (hF.same 5 (by decide)).trans e5
          refine ⟨.pointer (some ⟨g5, 5, none⟩), W, ?_, Below.refl _ _, ?_⟩
          · clear hF hG hH hn hcl hw
            generalize a.eval = ρ at *
            go_simp
          · rfl
        · refine StepG.of ?_
          refine stepB rfl rfl (by decide) (by rw [hz]; decide) rfl rfl (by kernel_rfl) St SG fun d a W hF hG hH hn hcl hw => ?_
          have q182 : a.eval (.tmp 182) = .pointer (some ⟨g5, 5, none⟩) := hH.at_ (i := 3) rfl (hw 3 rfl) id
          have cc0 := cell_low C55.out (by show _ < _; omega) hG.1.1
          refine ⟨.int .i64 size, W, ?_, Below.refl _ _, ?_⟩
          · clear hF hG hH hn hcl hw
            generalize a.eval = ρ at *
            go_simp
          · rfl
        · refine StepG.of ?_
          refine stepB rfl rfl (by decide) (by rw [hz]; decide) rfl rfl (by kernel_rfl) St SG fun d a W hF hG hH hn hcl hw => ?_
          have q5 := (hF.same 5 (by decide)).trans e5
          refine ⟨.pointer (some ⟨g5, 4, none⟩), W, ?_, Below.refl _ _, ?_⟩
          · clear hF hG hH hn hcl hw
            generalize a.eval = ρ at *
            go_simp
          · rfl
        · refine StepG.of ?_
          refine stepB rfl rfl (by decide) (by rw [hz]; decide) rfl rfl (by kernel_rfl) St SG fun d a W hF hG hH hn hcl hw => ?_
          have q184 : a.eval (.tmp 184) = .pointer (some ⟨g5, 4, none⟩) := hH.at_ (i := 5) rfl (hw 5 rfl) id
          have cc0 := cell_low C54.out (by show _ < _; omega) hG.1.1
          refine ⟨.int .i64 (cn : Int), W, ?_, Below.refl _ _, ?_⟩
          · clear hF hG hH hn hcl hw
            generalize a.eval = ρ at *
            go_simp
          · rfl
        · refine StepG.of ?_
          refine stepB rfl rfl (by decide) (by rw [hz]; decide) rfl rfl (by kernel_rfl) St SG fun d a W hF hG hH hn hcl hw => ?_
          have q19 := (hF.same 19 (by decide)).trans e19
          refine ⟨hashV h, W, ?_, Below.refl _ _, ?_⟩
          · exact exec_load rfl (by rw [q19]; exact BoxH.load_ (BoxA.low u19 (by omega) hG.1.1) HH.out)
          · rfl
        · refine StepG.of ?_
          refine stepC rfl rfl (by decide) (by rw [hz]; decide) rfl rfl (by kernel_rfl) St SG fun d a W hF hG hH hn hcl hw => ?_
          have q181 : a.eval (.tmp 181) = wordsV := hH.at_ (i := 2) rfl (hw 2 rfl) id
          have q183 : a.eval (.tmp 183) = .int .i64 size := hH.at_ (i := 4) rfl (hw 4 rfl) id
          have q185 : a.eval (.tmp 185) = .int .i64 (cn : Int) := hH.at_ (i := 6) rfl (hw 6 rfl) id
          have q186 : a.eval (.tmp 186) = hashV h := hH.at_ (i := 7) rfl (hw 7 rfl) id
          have qf : a.eval (.func 47) = .func (.func 47) #[] #[] := rfl
          refine ⟨47, #[wordsV, .int .i64 size, .int .i64 (cn : Int), hashV h], ?_, ?_⟩
          · clear hF hG hH hn hcl hw
            generalize a.eval = ρ at *
            go_simp
          · refine (HMX.out W).mono ?_; rintro e W' ⟨rfl, b⟩; exact ⟨_, rfl, b, rfl⟩
        · refine StepG.of ?_
          refine stepB rfl rfl (by decide) (by rw [hz]; decide) rfl rfl (by kernel_rfl) St SG fun d a W hF hG hH hn hcl hw => ?_
          have q187 : a.eval (.tmp 187) = .string ⟨zt.toArray⟩ := hH.at_ (i := 8) rfl (hw 8 rfl) id
          refine ⟨.slice (some ⟨W.heap.size, 0, none⟩) 1 1, W.alloc (.cells #[.string ⟨zt.toArray⟩] 9), ?_, Below.new1 W _, ?_⟩
          · clear hF hG hH hn hcl hw
            generalize a.eval = ρ at *
            go_simp
          · exact OwnStrs.one W _ _ hG.1.2
        · refine StepG.of ?_
          refine stepA3 rfl rfl (by decide) (by rw [hz]; decide) rfl rfl (by kernel_rfl) bb (AllC.mem ⟨.inr (.inr (.inl fun _ _ _ h _ => h)), .inr (.inr (.inl fun _ _ _ h _ => h)), .inr (.inr (.inl fun _ _ _ h _ => h)), .inr (.inr (.inl fun _ _ _ h _ => h)), .inr (.inr (.inl fun _ _ _ h _ => h)), .inr (.inr (.inl fun _ _ _ h _ => h)), .inr (.inr (.inl fun _ _ _ h _ => h)), .inr (.inr (.inl fun _ _ _ h _ => h)), .inr (.inr (.inl fun _ _ _ h _ => h)), .inr (.inl rfl), .inl rfl, .inr (.inr (.inl fun _ _ _ h _ => h)), .inr (.inr (.inl fun _ _ _ h _ => h)), .inr (.inr (.inl fun _ _ _ h _ => h)), .inr (.inr (.inl fun _ _ _ h _ => h)), .inr (.inr (.inl fun _ _ _ h _ => h)), trivial⟩) (fun _ _ _ _ h hm hk b => h.done hm hk b) fun d a W hF hG hH hn hcl hw => ?_
          have q180 : a.eval (.tmp 180) = z22 := hH.at_ (i := 1) rfl (hw 1 rfl) id
          have q188 : OwnStrs W wC.heap.size (a.eval (.tmp 188)) [zt] := hH.at_ (i := 9) rfl (hw 9 rfl) hn
          have hO := hG.2 hn
          exact exec_append_strs2 (.tmp 180) (.tmp 188) rfl bb wC.heap.size W _ _ (MT ++ FT) [zt] rfl rfl (by rw [q180]; exact hO) q188 LMF (by simp) (by have := hG.1.2; omega)
        · refine StepG.of ?_
          refine stepC rfl rfl (by decide) (by rw [hz]; decide) rfl rfl (by kernel_rfl) St SG fun d a W hF hG hH hn hcl hw => ?_
          have q179 : a.eval (.tmp 179) = wordsV := hH.at_ (i := 0) rfl (hw 0 rfl) id
          have q189 : OwnStrs W bb (a.eval (.tmp 189)) (MT ++ FT ++ [zt]) := hH.at_ (i := 10) rfl (hw 10 rfl) id
          have qf : a.eval (.func 46) = .func (.func 46) #[] #[] := rfl
          obtain ⟨A9, c9, q189, hS9, _⟩ := q189.slice
          refine ⟨46, #[wordsV, .slice A9 (MT ++ FT ++ [zt]).length c9], ?_, ?_⟩
          · clear hF hG hH hn hcl hw
            generalize a.eval = ρ at *
            go_simp
          · refine (HCC.out A9 c9 W hS9).mono ?_; rintro e W' ⟨rfl, b⟩; exact ⟨_, rfl, b, rfl⟩
        · refine StepG.of ?_
          refine stepB rfl rfl (by decide) (by rw [hz]; decide) rfl rfl (by kernel_rfl) St SG fun d a W hF hG hH hn hcl hw => ?_
          have q190 : a.eval (.tmp 190) = .bool true := hH.at_ (i := 11) rfl (hw 11 rfl) id
          refine ⟨.bool true, W, ?_, Below.refl _ _, ?_⟩
          · clear hF hG hH hn hcl hw
            generalize a.eval = ρ at *
            go_simp
          · rfl
        · refine StepG.on rfl (fun d a W hI hw => yielded_of rfl (hI.2.2.at_ (i := 12) rfl (hw 12 rfl) id)) ?_
          refine stepC rfl rfl (by decide) (by rw [hz]; decide) rfl rfl (by kernel_rfl) St SG fun d a W hF hG hH hn hcl hw => ?_
          have qf : a.eval (.func 17) = .func (.func 17) #[] #[] := rfl
          refine ⟨17, #[], ?_, ?_⟩
          · clear hF hG hH hn hcl hw
            generalize a.eval = ρ at *
            go_simp
          · refine (HA.out W (hkC.low hbz hG.1.1)).mono ?_; rintro e W' ⟨rfl, b⟩; exact ⟨_, rfl, b, rfl⟩
        · refine StepG.of ?_
          refine stepB rfl rfl (by decide) (by rw [hz]; decide) rfl rfl (by kernel_rfl) St SG fun d a W hF hG hH hn hcl hw => ?_
          have q191 : a.eval (.tmp 191) = .bool true := hH.at_ (i := 12) rfl (hw 12 rfl) id
          have q192 : a.eval (.tmp 192) = .bool true := hH.at_ (i := 13) rfl (hw 13 rfl) id
          have qk1 : a.eval (.const (.bool false)) = .bool false := rfl
          refine ⟨.bool true, W, ?_, Below.refl _ _, ?_⟩
          · clear hF hG hH hn hcl hw
            generalize a.eval = ρ at *
            go_simp
          · rfl
        · refine StepG.of ?_
          refine stepB rfl rfl (by decide) (by rw [hz]; decide) rfl rfl (by kernel_rfl) St SG fun d a W hF hG hH hn hcl hw => ?_
          have q193 : a.eval (.tmp 193) = .bool true := hH.at_ (i := 14) rfl (hw 14 rfl) id
          refine ⟨.bool true, W, ?_, Below.refl _ _, ?_⟩
          · clear hF hG hH hn hcl hw
            generalize a.eval = ρ at *
            go_simp
          · rfl
      · intro d a W ⟨hF, hB, hH⟩ hall
        have k6 : a.eval (.tmp 6) = .bool true := hH.at_ (i := 15) rfl (hall 15 (by decide)) id
        clear hH hall
        rw [hF.shape (by rw [hz]; decide)]
        clear hF
        simp only [List.foldl]
        generalize a.eval (.tmp 179) = z179 at *
        generalize a.eval (.tmp 180) = z180 at *
        generalize a.eval (.tmp 181) = z181 at *
        generalize a.eval (.tmp 182) = z182 at *
        generalize a.eval (.tmp 183) = z183 at *
        generalize a.eval (.tmp 184) = z184 at *
        generalize a.eval (.tmp 185) = z185 at *
        generalize a.eval (.tmp 186) = z186 at *
        generalize a.eval (.tmp 187) = z187 at *
        generalize a.eval (.tmp 188) = z188 at *
        generalize a.eval (.tmp 189) = z189 at *
        generalize a.eval (.tmp 190) = z190 at *
        generalize a.eval (.tmp 191) = z191 at *
        generalize a.eval (.tmp 192) = z192 at *
        generalize a.eval (.tmp 193) = z193 at *
        generalize a.eval (.tmp 6) = z6 at *
        subst k6
        rw [HA0.out]
        simp only [Act.put, List.setIfInBounds_toArray, List.set_cons_zero, List.set_cons_succ]
        clear hz HA0 SG e5 e18 e22 e19
        clear a a0
        go_wp2_with (fail)
        go_ret
        exact ⟨rfl, Below.trans BB2 (hB.1.1.mono BS.out)⟩
set_option maxRecDepth 100000 in
set_option maxHeartbeats 4000000 in
theorem true_out_no (ts : List UInt8) (X : Rn) (index count size : Int) (path : List Bs) (A PA : Option Addr) (at_ : Int) (n c pn pc : Nat) (w : World) (hn : ts.length = n) (_hc : n ≤ c) (h1 : 1 ≤ n) (h60 : n ≤ 60) (hT : Tags w A ts) (hs : Hs w PA path) (hpn : path.length = pn) (hpc : pn ≤ pc) (h30 : pn ≤ 30) (hk : Kon w) (hsz : size < 9223372036854775808) (hx : at_ < 0 ∨ (n : Int) ≤ at_) (hac : accept1M (rootO ts) at_ X index count size path = (0, false)) : Calls Tryd.prog 11 #[.slice A n c, .int .i64 at_, claim1V X index count size PA pn pc] w fun e w' => e = .returned (.bool true) ∧ Below w.heap.size w w' := by
  obtain ⟨w0, hW0⟩ : ∃ w0, w.alloc (.cells (cellsS X index count size PA pn pc) 37) = w0 := ⟨_, rfl⟩
  have B0 : Below w.heap.size w w0 := hW0 ▸ Below.new1 _ _
  have x5 : BoxS w0 w.heap.size X index count size PA pn pc := hW0 ▸ BoxS.new w X index count size PA pn pc
  have hk0 := hk.next B0
  have HO := Lib.hid hW0
  have hs0 := hs.next B0
  have hroot : (rootO ts).length = 32 := rootO_length ts
  have hmd := fun W (h : Tags W A ts) => made_yes ts A n c W hn h1 h60 h
  unfold MadePost at hmd
  rw [hn] at hmd
  have g := ofL_good (ts := ts) (by omega) (by omega)
  have ol := ofL_lay ts
  have ot := ofL_total ts
  have hmr := fun W p (h : Rep W p (ofL ts)) (kon : Kon W) => mapRoot_any W p (ofL ts) h kon
  rw [mapRoot_of (by omega) (by omega)] at hmr
  have hacc := fun W (h : Hs W PA path) (kon : Kon W) => accept1_any (rootO ts) at_ X index count size path PA pn pc W hsz h hpn hpc (by omega) kon hroot
  rw [hac] at hacc
  clear g ol ot
  generalize rootO ts = root at *
  generalize ofL ts = L at *
  obtain ⟨m, hm⟩ : ∃ m, (ofR ts).length = m := ⟨_, rfl⟩
  rw [hm] at hmd
  generalize ofR ts = R at *
  have HMD := Lib.hid hmd
  have HMR := Lib.hid hmr
  have HAC := Lib.hid hacc
  have HA := Lib.hid (fun W kon => awake_any W kon)
  have HROOT := Lib.hid hroot
  have j1 : ((n : Int) == 0) = false := by simp; omega
  have j2 : ¬ (60 : Int) < n := by omega
  have j3 : ¬ (30 : Int) < pn := by omega
  clear hmd hmr hacc hac hroot hn hm hk hW0 h1 h60 h30 hs hpn
  rcases hx with hx | hx
  all_goals
    go_enter Tryd.func11, Tryd.ntmps11
    go_upto_region 1 with (fail)
    change Code.wp _ _ _ _ (w.alloc (.cells (cellsS X index count size PA pn pc) 37))
    rw [HO.out]
    clear HO
    go_upto_region 2 with (go_at_call 38; refine (HMD.out _ (hT.next B0)).mono ?_; rintro e w1 ⟨p, A1, c1, rfl, hp1, hO1, b1⟩)
    obtain ⟨w2, hW2⟩ : ∃ w2, (w1.alloc (.cells #[.pointer p] 47)).alloc (.cells #[.int .i64 (n : Int), .slice A1 m c1] 69) = w2 := ⟨_, rfl⟩
    have b2 : Below w1.heap.size w1 w2 := hW2 ▸ Below.on (Below.new1 _ _) (Below.new1 _ _)
    have x7 : Boxed w2 w1.heap.size 47 (.pointer p) := hW2 ▸ (Boxed.new w1 _ _).alloc _
    have x8 : BoxM w2 (w1.heap.size + 1) n (.slice A1 m c1) := by
      have := BoxM.new (w1.alloc (.cells #[.pointer p] 47)) n (.slice A1 m c1)
      rw [World.size_alloc] at this; exact hW2 ▸ this
    have hp2 := hp1.below b2
    have hR2 : Runs w2 A1 R := by
      obtain ⟨A', c', e, _, h⟩ := (hO1.next b2).runs
      cases e; exact h
    change Code.wp _ _ _ _ ((w1.alloc (.cells #[.pointer p] 47)).alloc (.cells #[.int .i64 (n : Int), .slice A1 m c1] 69))
    rw [hW2]
    have B2 := Below.on b1 b2
    have z5 := x5.next B2
    have hk2 := hk0.next B2
    have c7 := x7.cell
    have c80 := x8.c0
    have hs2 := hs0.next B2
    have hT2 := (hT.next B0).next B2
    have c56 := z5.c6
    have BB := Below.on B0 B2
    generalize w1.heap.size = g7 at *
    clear hW2 hT x5 x7 hp1 hO1 b1 b2 B0 B2 hs0 hk0
    go_upto_region 7 with (first
      | (go_at_call 25; refine (HMR.out _ p hp2 hk2).mono ?_; rintro e w3 ⟨rfl, b3⟩)
      | ((with_reducible refine wpList_storeH ?_ (.tmp 10) (.tmp 54) ?_ w3.heap.size root ?_ ?_ (BoxA.new w3 30 .u8 (List.replicate 32 0) _ rfl) (by simp) HROOT.out ?_); rfl; rfl; rfl; rfl))
    obtain ⟨w4, hW4⟩ : ∃ w4, World.setRow (World.alloc w3 (.cells (ints .u8 (List.replicate 32 0)) 30)) w3.heap.size (ints .u8 (nums root)) = w4 := ⟨_, rfl⟩
    have y10 : BoxH w4 w3.heap.size root := hW4 ▸ (BoxA.new w3 30 .u8 (List.replicate 32 0) _ rfl).setRow (l' := nums root)
    have b4 : Below w3.heap.size w3 w4 := hW4 ▸ below_setRow (Below.new1 w3 _) (Nat.le_refl _) _
    change Code.wp _ _ _ _ (World.setRow (World.alloc w3 (.cells (ints .u8 (List.replicate 32 0)) 30)) w3.heap.size (ints .u8 (nums root)))
    rw [hW4]
    have B4 := Below.on b3 b4
    have BB4 := Below.on BB B4
    have hp4 := hp2.below B4
    have hk4 := hk2.next B4
    have hs4 := hs2.next B4
    have hT4 := hT2.next B4
    have hR4 := hR2.below B4
    have v5 := z5.next B4
    have v8 := x8.next B4
    replace c7 := cell_kept B4 c7
    replace c80 := v8.c0
    generalize w3.heap.size = g10 at *
    clear hW4 b3 b4 hp2 hk2 hs2 hT2 hR2 z5 x8 c56 B4 BB HMR HMD
    have hk7 := hk4
    have hs7 := hs4
    have hR7 := hR4
    have u5 := v5
    have u8 := v8
    have u10 := y10
    have BB7 := BB4
    obtain ⟨w7, hw7⟩ : ∃ w7, w7 = w4 := ⟨_, rfl⟩
    rw [← hw7] at hk7 hs7 hR7 u5 u8 u10 BB7 c7 c80 ⊢
    clear hw7 hp4 hk4 hs4 hT4 hR4 v5 v8 y10 BB4 c7
    go_upto_region 13 with (first
      | ((with_reducible refine wpList_load_if (o := ⟨some 96, _, _, _, _, _⟩) ?_ 30 (.tmp 10) ?_ (hashV root) ?_ ?_); rfl; rfl; exact (BoxH.load_ u10 HROOT.out))
      | ((with_reducible refine wpList_load_if (o := ⟨some 98, _, _, _, _, _⟩) ?_ 37 (.tmp 5) ?_ (claim1V X index count size PA pn pc) ?_ ?_); rfl; rfl; exact u5.load_)
      | (go_at_call 21; refine (HAC.out _ hs7 hk7).mono ?_; rintro e w8 ⟨rfl, b8⟩))
    have hk8 := hk7.next b8
    replace c80 := cell_kept b8 c80
    clear hk7 hs7 hR7 u5 u8 u10
    go_wp2_with (go_at_call 17; refine (HA.out _ hk8).mono ?_; rintro e w9 ⟨rfl, b9⟩)
    go_ret
    exact ⟨rfl, Below.on (Below.on BB7 b8) b9⟩
set_option maxRecDepth 100000 in
set_option maxHeartbeats 4000000 in
theorem true_out_clash (ts : List UInt8) (X : Rn) (index  size : Int) (path : List Bs) (A PA : Option Addr) (at_ : Int) (cn : Nat) (n c pn pc : Nat) (w : World) (hn : ts.length = n) (_hc : n ≤ c) (h1 : 1 ≤ n) (h60 : n ≤ 60) (hT : Tags w A ts) (hs : Hs w PA path) (hpn : path.length = pn) (hpc : pn ≤ pc) (h30 : pn ≤ 30) (hk : Kon w) (hsz : size < 9223372036854775808) (hx : at_ < 0 ∨ (n : Int) ≤ at_) (t : Int) (hac : accept1M (rootO ts) at_ X index cn size path = (t, true)) (h : Bs) (hh : h.length = 32) (hi0 : 0 ≤ index) (hic : index < cn) (hcn : cn ≤ 4096) (hsz0 : 0 ≤ size) (hfit : Fit X) (hfo : foldR cn index [textM X] path = (h, path.length, true)) (hcl : ClashL sha (mapT ts.length (ofR ts) ++ foldT sha cn index [textM X] path ++ [sealT size cn h])) : Calls Tryd.prog 11 #[.slice A n c, .int .i64 at_, claim1V X index (cn : Int) size PA pn pc] w fun e w' => e = .returned (.bool true) ∧ Below w.heap.size w w' := by
  obtain ⟨w0, hW0⟩ : ∃ w0, w.alloc (.cells (cellsS X index (cn : Int) size PA pn pc) 37) = w0 := ⟨_, rfl⟩
  have B0 : Below w.heap.size w w0 := hW0 ▸ Below.new1 _ _
  have x5 : BoxS w0 w.heap.size X index (cn : Int) size PA pn pc := hW0 ▸ BoxS.new w X index (cn : Int) size PA pn pc
  have hk0 := hk.next B0
  have HO := Lib.hid hW0
  have hs0 := hs.next B0
  have hroot : (rootO ts).length = 32 := rootO_length ts
  have hmd := fun W (h : Tags W A ts) => made_yes ts A n c W hn h1 h60 h
  unfold MadePost at hmd
  rw [hn] at hmd
  have g := ofL_good (ts := ts) (by omega) (by omega)
  have ol := ofL_lay ts
  have ot := ofL_total ts
  have hmr := fun W p (h : Rep W p (ofL ts)) (kon : Kon W) => mapRoot_any W p (ofL ts) h kon
  rw [mapRoot_of (by omega) (by omega)] at hmr
  have hacc := fun W (h : Hs W PA path) (kon : Kon W) => accept1_any (rootO ts) at_ X index (cn : Int) size path PA pn pc W hsz h hpn hpc (by omega) kon hroot
  rw [hac] at hacc
  have txl : (textM X).length ≤ 90000 := by rw [textM_length]; omega
  have hlf := fun W => rleaf_any X W hfit.1 hfit.2.1 hfit.2.2.1 hfit.2.2.2.1 hfit.2.2.2.2.1 hfit.2.2.2.2.2
  have hmt := fun W A1 c1 (h : Runs W A1 (ofR ts)) => rmaptexts_any n (ofR ts) A1 _ c1 W rfl (by omega) (by omega) (by have := (ofR_spec ts).2.2.2.2.1; omega) h (ofR_fit (by omega) (by omega))
  have hfd := fun A9 c9 W (hc9 : 1 ≤ c9) (h : Strs W A9 [textM X]) (hp : Hs W PA path) => rfold_any cn index [textM X] path A9 PA 1 c9 pn pc W (by omega) (by omega) (by omega) (by omega) rfl hc9 (by omega) hpn hpc (by omega) (by simpa using txl) h hp
  rw [hfo, foldV3, hpn] at hfd
  have hft := fun A9 c9 W (hc9 : 1 ≤ c9) (h : Strs W A9 [textM X]) (hp : Hs W PA path) => rftexts_any cn index [textM X] path A9 PA 1 c9 pn pc W (by omega) (by omega) (by omega) (by omega) rfl hc9 (by omega) hpn hpc (by omega) (by simpa using txl) h hp
  have hmx := fun W => rmaptext_any size cn h W hsz0 hsz (by omega) (by omega) hh
  have lm := mapT_len (ts := ts) (by omega)
  have sm := mapT_short (ts := ts) (by omega)
  have lf := foldT_len cn cn index [textM X] path (Nat.le_refl _)
  have sf := foldT_short cn cn index [textM X] path (Nat.le_refl _) (by simpa using txl) hs.1
  have szt := sealT_short size cn hh
  rw [hn] at hcl lm sm
  generalize mapT n (ofR ts) = MT at *
  generalize foldT sha cn index [textM X] path = FT at *
  generalize sealT size cn h = zt at *
  generalize textM X = tx at *
  have LM : MT.length ≤ 100000 := by omega
  have LF : FT.length ≤ 100000 := by omega
  have LMF : (MT ++ FT).length ≤ 100000 := by rw [List.length_append]; omega
  have hcc := fun A9 c9 W (h : Strs W A9 (MT ++ FT ++ [zt])) => rclash_any (MT ++ FT ++ [zt]) A9 _ c9 W rfl (by simp only [List.length_append, List.length_cons, List.length_nil]; omega) (fun s hs => (List.mem_append.1 hs).elim (fun hs => (List.mem_append.1 hs).elim (sm s) (sf s)) (fun hs => by rw [List.mem_singleton.1 hs]; exact szt)) h
  rw [clashB_yes hcl] at hcc
  have HLF := Lib.hid hlf
  have HFD := Lib.hid hfd
  have HFT := Lib.hid hft
  have HMX := Lib.hid hmx
  have HCC := Lib.hid hcc
  have HH := Lib.hid hh
  have i1 : ¬ index < 0 := by omega
  have i2 : ¬ (cn : Int) ≤ index := by omega
  have i3 : ¬ (4096 : Int) < cn := by omega
  clear g ol ot
  generalize rootO ts = root at *
  generalize ofL ts = L at *
  obtain ⟨m, hm⟩ : ∃ m, (ofR ts).length = m := ⟨_, rfl⟩
  rw [hm] at hmd
  generalize ofR ts = R at *
  have HMD := Lib.hid hmd
  have HMR := Lib.hid hmr
  have HAC := Lib.hid hacc
  have HA := Lib.hid (fun W kon => awake_any W kon)
  have HROOT := Lib.hid hroot
  rw [hm] at hmt
  have HMT := Lib.hid hmt
  have j1 : ((n : Int) == 0) = false := by simp; omega
  have j2 : ¬ (60 : Int) < n := by omega
  have j3 : ¬ (30 : Int) < pn := by omega
  clear hmd hmr hacc hac hroot hn hm hk hW0 h1 h60 h30 hs hpn hlf hmt hfd hft hmx lm sm lf sf szt hcc hcl hfo hfit hi0 hic hcn hsz0 txl hh
  rcases hx with hx | hx
  all_goals
    go_enter Tryd.func11, Tryd.ntmps11
    go_upto_region 1 with (fail)
    change Code.wp _ _ _ _ (w.alloc (.cells (cellsS X index (cn : Int) size PA pn pc) 37))
    rw [HO.out]
    clear HO
    go_upto_region 2 with (go_at_call 38; refine (HMD.out _ (hT.next B0)).mono ?_; rintro e w1 ⟨p, A1, c1, rfl, hp1, hO1, b1⟩)
    obtain ⟨w2, hW2⟩ : ∃ w2, (w1.alloc (.cells #[.pointer p] 47)).alloc (.cells #[.int .i64 (n : Int), .slice A1 m c1] 69) = w2 := ⟨_, rfl⟩
    have b2 : Below w1.heap.size w1 w2 := hW2 ▸ Below.on (Below.new1 _ _) (Below.new1 _ _)
    have x7 : Boxed w2 w1.heap.size 47 (.pointer p) := hW2 ▸ (Boxed.new w1 _ _).alloc _
    have x8 : BoxM w2 (w1.heap.size + 1) n (.slice A1 m c1) := by
      have := BoxM.new (w1.alloc (.cells #[.pointer p] 47)) n (.slice A1 m c1)
      rw [World.size_alloc] at this; exact hW2 ▸ this
    have hp2 := hp1.below b2
    have hR2 : Runs w2 A1 R := by
      obtain ⟨A', c', e, _, h⟩ := (hO1.next b2).runs
      cases e; exact h
    change Code.wp _ _ _ _ ((w1.alloc (.cells #[.pointer p] 47)).alloc (.cells #[.int .i64 (n : Int), .slice A1 m c1] 69))
    rw [hW2]
    have B2 := Below.on b1 b2
    have z5 := x5.next B2
    have hk2 := hk0.next B2
    have c7 := x7.cell
    have c80 := x8.c0
    have hs2 := hs0.next B2
    have hT2 := (hT.next B0).next B2
    have c56 := z5.c6
    have BB := Below.on B0 B2
    generalize w1.heap.size = g7 at *
    clear hW2 hT x5 x7 hp1 hO1 b1 b2 B0 B2 hs0 hk0
    go_upto_region 7 with (first
      | (go_at_call 25; refine (HMR.out _ p hp2 hk2).mono ?_; rintro e w3 ⟨rfl, b3⟩)
      | ((with_reducible refine wpList_storeH ?_ (.tmp 10) (.tmp 54) ?_ w3.heap.size root ?_ ?_ (BoxA.new w3 30 .u8 (List.replicate 32 0) _ rfl) (by simp) HROOT.out ?_); rfl; rfl; rfl; rfl))
    obtain ⟨w4, hW4⟩ : ∃ w4, World.setRow (World.alloc w3 (.cells (ints .u8 (List.replicate 32 0)) 30)) w3.heap.size (ints .u8 (nums root)) = w4 := ⟨_, rfl⟩
    have y10 : BoxH w4 w3.heap.size root := hW4 ▸ (BoxA.new w3 30 .u8 (List.replicate 32 0) _ rfl).setRow (l' := nums root)
    have b4 : Below w3.heap.size w3 w4 := hW4 ▸ below_setRow (Below.new1 w3 _) (Nat.le_refl _) _
    change Code.wp _ _ _ _ (World.setRow (World.alloc w3 (.cells (ints .u8 (List.replicate 32 0)) 30)) w3.heap.size (ints .u8 (nums root)))
    rw [hW4]
    have B4 := Below.on b3 b4
    have BB4 := Below.on BB B4
    have hp4 := hp2.below B4
    have hk4 := hk2.next B4
    have hs4 := hs2.next B4
    have hT4 := hT2.next B4
    have hR4 := hR2.below B4
    have v5 := z5.next B4
    have v8 := x8.next B4
    replace c7 := cell_kept B4 c7
    replace c80 := v8.c0
    generalize w3.heap.size = g10 at *
    clear hW4 b3 b4 hp2 hk2 hs2 hT2 hR2 z5 x8 c56 B4 BB HMR HMD
    have hk7 := hk4
    have hs7 := hs4
    have hR7 := hR4
    have u5 := v5
    have u8 := v8
    have u10 := y10
    have BB7 := BB4
    obtain ⟨w7, hw7⟩ : ∃ w7, w7 = w4 := ⟨_, rfl⟩
    rw [← hw7] at hk7 hs7 hR7 u5 u8 u10 BB7 c7 c80 ⊢
    clear hw7 hp4 hk4 hs4 hT4 hR4 v5 v8 y10 BB4 c7
    go_upto_region 13 with (first
      | ((with_reducible refine wpList_load_if (o := ⟨some 96, _, _, _, _, _⟩) ?_ 30 (.tmp 10) ?_ (hashV root) ?_ ?_); rfl; rfl; exact (BoxH.load_ u10 HROOT.out))
      | ((with_reducible refine wpList_load_if (o := ⟨some 98, _, _, _, _, _⟩) ?_ 37 (.tmp 5) ?_ (claim1V X index (cn : Int) size PA pn pc) ?_ ?_); rfl; rfl; exact u5.load_)
      | (go_at_call 21; refine (HAC.out _ hs7 hk7).mono ?_; rintro e w8 ⟨rfl, b8⟩))
    have hk8 := hk7.next b8
    replace c80 := cell_kept b8 c80
    have q5 := u5.next b8
    have q8 := u8.next b8
    have d53 := q5.c3
    have d54 := q5.c4
    go_upto_region 19 with (fail)
    go_upto_region 20 with (first
      | (go_at_call 18; refine (constants_any _).mono ?_; rintro e w10 ⟨rfl, b10⟩)
      | (refine wpList_newW rfl (.tmp 18) (.tmp 143) rfl rfl rfl ?_))
    have yA0 := withW_box w10
    have bw := withW_below w10
    obtain ⟨wA, hW⟩ : ∃ wA, withW w10 = wA := ⟨_, rfl⟩
    change Code.wp _ _ _ _ (withW w10)
    rw [hW] at yA0 bw ⊢
    have b11 := Below.on b8 (Below.on b10 bw)
    have b12 := Below.on b10 bw
    have hkA := hk7.next b11
    have hsA := hs7.next b11
    have hR1A := hR7.below b11
    have z5 := u5.next b11
    have z8 := u8.next b11
    have BB := Below.on BB7 b11
    have yA : BoxW wA w10.heap.size := yA0
    generalize w10.heap.size = g18 at *
    generalize g7 + 1 = g8 at *
    obtain ⟨g5, hg5⟩ : ∃ k, w.heap.size = k := ⟨_, rfl⟩
    have HG5 := Lib.hid hg5
    rw [hg5] at z5 ⊢
    clear hg5 yA0 bw hW b8 b10 b11 b12 hk7 hs7 hR7 u5 u8 u10 q5 q8 d53 d54 BB7 hk8 HAC c80
    have C50 := Lib.hid z5.c0
    have C51 := Lib.hid z5.c1
    have C52 := Lib.hid z5.c2
    have C53 := Lib.hid z5.c3
    have C54 := Lib.hid z5.c4
    have C55 := Lib.hid z5.c5
    have C56 := Lib.hid z5.c6
    have C80 := Lib.hid z8.c0
    have C81 := Lib.hid z8.c1
    refine wp_name fun a0 ha0 => ?_
    have e5 : a0.eval (.tmp 5) = .pointer (some ⟨g5, 0, none⟩) := by rw [ha0]; rfl
    have e8 : a0.eval (.tmp 8) = .pointer (some ⟨g8, 0, none⟩) := by rw [ha0]; rfl
    have e18 : a0.eval (.tmp 18) = .pointer (some ⟨g18, 0, none⟩) := by rw [ha0]; rfl
    have hz : a0.tmps.size = 194 := by rw [ha0]; rfl
    have HA0 := Lib.hid ha0
    clear ha0
    have SG : ∀ (d d' : Nat → Prop) (W W' : World), (fun (_ : Nat → Prop) (W : World) => Below wA.heap.size wA W) d W → (∀ j, d j → d' j) → Below W.heap.size W W' → (fun (_ : Nat → Prop) (W : World) => Below wA.heap.size wA W) d' W' := fun _ _ _ _ h _ b => Below.next h b
    refine wp_region_steps (Inv [145, 146, 147, 148, 149, 150, 151, 152, 153, 154, 155, 156, 144, 157, 158, 159, 19, 20, 21] a0 (fun (_ : Nat → Prop) (W : World) => Below wA.heap.size wA W) [(⟨some 0, 145, none, fun v _ => v = wordsV⟩ : Cl), ⟨some 1, 146, none, fun v _ => v = .pointer (some ⟨g5, 4, none⟩)⟩, ⟨some 2, 147, none, fun v _ => v = .int .i64 (cn : Int)⟩, ⟨some 3, 148, none, fun v _ => v = .pointer (some ⟨g5, 3, none⟩)⟩, ⟨some 4, 149, none, fun v _ => v = .int .i64 index⟩, ⟨some 5, 150, none, fun v _ => v = .pointer (some ⟨g5, 0, none⟩)⟩, ⟨some 6, 151, none, fun v _ => v = encR X⟩, ⟨some 7, 152, none, fun v _ => v = .string ⟨tx.toArray⟩⟩, ⟨some 8, 153, some 11, fun v W => OwnStrs W wA.heap.size v [tx]⟩, ⟨some 9, 154, none, fun v _ => v = .pointer (some ⟨g5, 6, none⟩)⟩, ⟨some 10, 155, none, fun v _ => v = .slice PA pn pc⟩, ⟨some 11, 156, none, fun v _ => v = .tuple #[hashV h, .int .i64 (pn : Int), .bool true]⟩, ⟨some 12, 144, none, fun v _ => v = .tuple #[hashV h, .int .i64 (pn : Int), .bool true]⟩, ⟨some 13, 157, none, fun v _ => v = hashV h⟩, ⟨some 14, 158, none, fun v _ => v = .int .i64 (pn : Int)⟩, ⟨some 15, 159, none, fun v _ => v = .bool true⟩, ⟨some 16, 19, some 17, fun v W => ∃ g, v = .pointer (some ⟨g, 0, none⟩) ∧ wA.heap.size ≤ g ∧ ∃ m, BoxA W g 30 .u8 m ∧ m.length = 32⟩, ⟨some 17, 19, none, fun v W => ∃ g, v = .pointer (some ⟨g, 0, none⟩) ∧ wA.heap.size ≤ g ∧ BoxH W g h⟩, ⟨some 18, 20, none, fun v _ => v = .int .i64 (pn : Int)⟩, ⟨some 19, 21, none, fun v _ => v = .bool true⟩]) (by kernel_rfl) (by kernel_rfl) (Inv.start (Below.refl _ _).drew ⟨nofun, nofun, nofun, nofun, nofun, nofun, nofun, nofun, nofun, nofun, nofun, nofun, nofun, nofun, nofun, nofun, nofun, nofun, nofun, nofun, trivial⟩) ?_ ?_
    · have St : ∀ xc ∈ [(⟨some 0, 145, none, fun v _ => v = wordsV⟩ : Cl), ⟨some 1, 146, none, fun v _ => v = .pointer (some ⟨g5, 4, none⟩)⟩, ⟨some 2, 147, none, fun v _ => v = .int .i64 (cn : Int)⟩, ⟨some 3, 148, none, fun v _ => v = .pointer (some ⟨g5, 3, none⟩)⟩, ⟨some 4, 149, none, fun v _ => v = .int .i64 index⟩, ⟨some 5, 150, none, fun v _ => v = .pointer (some ⟨g5, 0, none⟩)⟩, ⟨some 6, 151, none, fun v _ => v = encR X⟩, ⟨some 7, 152, none, fun v _ => v = .string ⟨tx.toArray⟩⟩, ⟨some 8, 153, some 11, fun v W => OwnStrs W wA.heap.size v [tx]⟩, ⟨some 9, 154, none, fun v _ => v = .pointer (some ⟨g5, 6, none⟩)⟩, ⟨some 10, 155, none, fun v _ => v = .slice PA pn pc⟩, ⟨some 11, 156, none, fun v _ => v = .tuple #[hashV h, .int .i64 (pn : Int), .bool true]⟩, ⟨some 12, 144, none, fun v _ => v = .tuple #[hashV h, .int .i64 (pn : Int), .bool true]⟩, ⟨some 13, 157, none, fun v _ => v = hashV h⟩, ⟨some 14, 158, none, fun v _ => v = .int .i64 (pn : Int)⟩, ⟨some 15, 159, none, fun v _ => v = .bool true⟩, ⟨some 16, 19, some 17, fun v W => ∃ g, v = .pointer (some ⟨g, 0, none⟩) ∧ wA.heap.size ≤ g ∧ ∃ m, BoxA W g 30 .u8 m ∧ m.length = 32⟩, ⟨some 17, 19, none, fun v W => ∃ g, v = .pointer (some ⟨g, 0, none⟩) ∧ wA.heap.size ≤ g ∧ BoxH W g h⟩, ⟨some 18, 20, none, fun v _ => v = .int .i64 (pn : Int)⟩, ⟨some 19, 21, none, fun v _ => v = .bool true⟩], Lasts xc := AllC.mem ⟨lastsV0 _ _ _ _, lastsV0 _ _ _ _, lastsV0 _ _ _ _, lastsV0 _ _ _ _, lastsV0 _ _ _ _, lastsV0 _ _ _ _, lastsV0 _ _ _ _, lastsV0 _ _ _ _, (fun _ _ _ h b => h.next b), lastsV0 _ _ _ _, lastsV0 _ _ _ _, lastsV0 _ _ _ _, lastsV0 _ _ _ _, lastsV0 _ _ _ _, lastsV0 _ _ _ _, lastsV0 _ _ _ _, (fun _ _ _ h b => by obtain ⟨g, e, h1, m, h2, h3⟩ := h; exact ⟨g, e, h1, m, h2.next b, h3⟩), (fun _ _ _ h b => by obtain ⟨g, e, h1, h2⟩ := h; exact ⟨g, e, h1, BoxA.next h2 b⟩), lastsV0 _ _ _ _, lastsV0 _ _ _ _, trivial⟩
      clear HA0
      refine ⟨?_, ?_, ?_, ?_, ?_, ?_, ?_, ?_, ?_, ?_, ?_, ?_, ?_, ?_, ?_, ?_, ?_, ?_, ?_, ?_, trivial⟩
      · refine stepB rfl rfl (by decide) (by rw [hz]; decide) rfl rfl (by kernel_rfl) St SG fun d a W hF hG hH hn hcl hw => ?_
        have q18 := (hF.same 18 (by decide)).trans e18
        refine ⟨wordsV, W, ?_, Below.refl _ _, ?_⟩
        · exact exec_load rfl (by rw [q18]; exact BoxW.load (BoxA.next yA hG))
        · rfl
      · refine stepB rfl rfl (by decide) (by rw [hz]; decide) rfl rfl (by kernel_rfl) St SG fun d a W hF hG hH hn hcl hw => ?_
        have q5 := (hF.same 5 (by decide)).trans e5
        refine ⟨.pointer (some ⟨g5, 4, none⟩), W, ?_, Below.refl _ _, ?_⟩
        · clear hF hG hH hn hcl hw
          generalize a.eval = ρ at *
          go_simp
        · rfl
      · refine stepB rfl rfl (by decide) (by rw [hz]; decide) rfl rfl (by kernel_rfl) St SG fun d a W hF hG hH hn hcl hw => ?_
        have q146 : a.eval (.tmp 146) = .pointer (some ⟨g5, 4, none⟩) := hH.at_ (i := 1) rfl (hw 1 rfl) id
        have cc0 := cell_kept hG C54.out
        refine ⟨.int .i64 (cn : Int), W, ?_, Below.refl _ _, ?_⟩
        · clear hF hG hH hn hcl hw
          generalize a.eval = ρ at *
          go_simp
        · rfl
      · refine stepB rfl rfl (by decide) (by rw [hz]; decide) rfl rfl (by kernel_rfl) St SG fun d a W hF hG hH hn hcl hw => ?_
        have q5 := (hF.same 5 (by decide)).trans e5
        refine ⟨.pointer (some ⟨g5, 3, none⟩), W, ?_, Below.refl _ _, ?_⟩
        · clear hF hG hH hn hcl hw
          generalize a.eval = ρ at *
          go_simp
        · rfl
      · refine stepB rfl rfl (by decide) (by rw [hz]; decide) rfl rfl (by kernel_rfl) St SG fun d a W hF hG hH hn hcl hw => ?_
        have q148 : a.eval (.tmp 148) = .pointer (some ⟨g5, 3, none⟩) := hH.at_ (i := 3) rfl (hw 3 rfl) id
        have cc0 := cell_kept hG C53.out
        refine ⟨.int .i64 index, W, ?_, Below.refl _ _, ?_⟩
        · clear hF hG hH hn hcl hw
          generalize a.eval = ρ at *
          go_simp
        · rfl
      · refine stepB rfl rfl (by decide) (by rw [hz]; decide) rfl rfl (by kernel_rfl) St SG fun d a W hF hG hH hn hcl hw => ?_
        have q5 := (hF.same 5 (by decide)).trans e5
        refine ⟨.pointer (some ⟨g5, 0, none⟩), W, ?_, Below.refl _ _, ?_⟩
        · clear hF hG hH hn hcl hw
          generalize a.eval = ρ at *
          go_simp
        · rfl
      · refine stepB rfl rfl (by decide) (by rw [hz]; decide) rfl rfl (by kernel_rfl) St SG fun d a W hF hG hH hn hcl hw => ?_
        have q150 : a.eval (.tmp 150) = .pointer (some ⟨g5, 0, none⟩) := hH.at_ (i := 5) rfl (hw 5 rfl) id
        have cc0 := cell_kept hG C50.out
        have cc1 := cell_kept hG C51.out
        have cc2 := cell_kept hG C52.out
        refine ⟨encR X, W, ?_, Below.refl _ _, ?_⟩
        · (clear hF hG hH hn hcl hw; generalize a.eval = ρ at *; go_simp; rfl)
        · rfl
      · refine stepC rfl rfl (by decide) (by rw [hz]; decide) rfl rfl (by kernel_rfl) St SG fun d a W hF hG hH hn hcl hw => ?_
        have q151 : a.eval (.tmp 151) = encR X := hH.at_ (i := 6) rfl (hw 6 rfl) id
        have qf : a.eval (.func 43) = .func (.func 43) #[] #[] := rfl
        refine ⟨43, #[encR X], ?_, ?_⟩
        · clear hF hG hH hn hcl hw
          generalize a.eval = ρ at *
          go_simp
        · refine (HLF.out W).mono ?_; rintro e W' ⟨rfl, b⟩; exact ⟨_, rfl, b, rfl⟩
      · refine stepB rfl rfl (by decide) (by rw [hz]; decide) rfl rfl (by kernel_rfl) St SG fun d a W hF hG hH hn hcl hw => ?_
        have q152 : a.eval (.tmp 152) = .string ⟨tx.toArray⟩ := hH.at_ (i := 7) rfl (hw 7 rfl) id
        refine ⟨.slice (some ⟨W.heap.size, 0, none⟩) 1 1, W.alloc (.cells #[.string ⟨tx.toArray⟩] 9), ?_, Below.new1 W _, ?_⟩
        · clear hF hG hH hn hcl hw
          generalize a.eval = ρ at *
          go_simp
        · exact OwnStrs.one W _ _ hG.size
      · refine stepB rfl rfl (by decide) (by rw [hz]; decide) rfl rfl (by kernel_rfl) St SG fun d a W hF hG hH hn hcl hw => ?_
        have q5 := (hF.same 5 (by decide)).trans e5
        refine ⟨.pointer (some ⟨g5, 6, none⟩), W, ?_, Below.refl _ _, ?_⟩
        · clear hF hG hH hn hcl hw
          generalize a.eval = ρ at *
          go_simp
        · rfl
      · refine stepB rfl rfl (by decide) (by rw [hz]; decide) rfl rfl (by kernel_rfl) St SG fun d a W hF hG hH hn hcl hw => ?_
        have q154 : a.eval (.tmp 154) = .pointer (some ⟨g5, 6, none⟩) := hH.at_ (i := 9) rfl (hw 9 rfl) id
        have cc0 := cell_kept hG C56.out
        refine ⟨.slice PA pn pc, W, ?_, Below.refl _ _, ?_⟩
        · clear hF hG hH hn hcl hw
          generalize a.eval = ρ at *
          go_simp
        · rfl
      · refine stepC rfl rfl (by decide) (by rw [hz]; decide) rfl rfl (by kernel_rfl) St SG fun d a W hF hG hH hn hcl hw => ?_
        have q145 : a.eval (.tmp 145) = wordsV := hH.at_ (i := 0) rfl (hw 0 rfl) id
        have q147 : a.eval (.tmp 147) = .int .i64 (cn : Int) := hH.at_ (i := 2) rfl (hw 2 rfl) id
        have q149 : a.eval (.tmp 149) = .int .i64 index := hH.at_ (i := 4) rfl (hw 4 rfl) id
        have q153 : OwnStrs W wA.heap.size (a.eval (.tmp 153)) [tx] := hH.at_ (i := 8) rfl (hw 8 rfl) hn
        have q155 : a.eval (.tmp 155) = .slice PA pn pc := hH.at_ (i := 10) rfl (hw 10 rfl) id
        have qf : a.eval (.func 42) = .func (.func 42) #[] #[] := rfl
        obtain ⟨A9, c9, q153, hc9, hS9⟩ := q153.toStrs
        simp only [List.length_cons, List.length_nil, Nat.zero_add] at q153 hc9
        refine ⟨42, #[wordsV, .int .i64 (cn : Int), .int .i64 index, .slice A9 1 c9, .slice PA pn pc], ?_, ?_⟩
        · clear hF hG hH hn hcl hw
          generalize a.eval = ρ at *
          go_simp
        · refine (HFD.out A9 c9 W hc9 hS9 (hsA.next hG)).mono ?_; rintro e W' ⟨rfl, b⟩; exact ⟨_, rfl, b, rfl⟩
      · refine stepB rfl rfl (by decide) (by rw [hz]; decide) rfl rfl (by kernel_rfl) St SG fun d a W hF hG hH hn hcl hw => ?_
        have q156 : a.eval (.tmp 156) = .tuple #[hashV h, .int .i64 (pn : Int), .bool true] := hH.at_ (i := 11) rfl (hw 11 rfl) id
        refine ⟨.tuple #[hashV h, .int .i64 (pn : Int), .bool true], W, ?_, Below.refl _ _, ?_⟩
        · clear hF hG hH hn hcl hw
          generalize a.eval = ρ at *
          go_simp
        · rfl
      · refine stepB rfl rfl (by decide) (by rw [hz]; decide) rfl rfl (by kernel_rfl) St SG fun d a W hF hG hH hn hcl hw => ?_
        have q144 : a.eval (.tmp 144) = .tuple #[hashV h, .int .i64 (pn : Int), .bool true] := hH.at_ (i := 12) rfl (hw 12 rfl) id
        refine ⟨hashV h, W, ?_, Below.refl _ _, ?_⟩
        · clear hF hG hH hn hcl hw
          generalize a.eval = ρ at *
          go_simp
        · rfl
      · refine stepB rfl rfl (by decide) (by rw [hz]; decide) rfl rfl (by kernel_rfl) St SG fun d a W hF hG hH hn hcl hw => ?_
        have q144 : a.eval (.tmp 144) = .tuple #[hashV h, .int .i64 (pn : Int), .bool true] := hH.at_ (i := 12) rfl (hw 12 rfl) id
        refine ⟨.int .i64 (pn : Int), W, ?_, Below.refl _ _, ?_⟩
        · clear hF hG hH hn hcl hw
          generalize a.eval = ρ at *
          go_simp
        · rfl
      · refine stepB rfl rfl (by decide) (by rw [hz]; decide) rfl rfl (by kernel_rfl) St SG fun d a W hF hG hH hn hcl hw => ?_
        have q144 : a.eval (.tmp 144) = .tuple #[hashV h, .int .i64 (pn : Int), .bool true] := hH.at_ (i := 12) rfl (hw 12 rfl) id
        refine ⟨.bool true, W, ?_, Below.refl _ _, ?_⟩
        · clear hF hG hH hn hcl hw
          generalize a.eval = ρ at *
          go_simp
        · rfl
      · refine stepB rfl rfl (by decide) (by rw [hz]; decide) rfl rfl (by kernel_rfl) St SG fun d a W hF hG hH hn hcl hw => ?_
        refine ⟨.pointer (some ⟨W.heap.size, 0, none⟩), W.alloc (.cells (ints .u8 (List.replicate 32 0)) 30), ?_, Below.new1 W _, ?_⟩
        · (clear hF hG hH hn hcl hw; generalize a.eval = ρ at *; go_simp; rfl)
        · exact ⟨_, rfl, hG.size, _, BoxA.new W _ _ _ _ rfl, by simp⟩
      · refine stepRow 19 (.tmp 157) 30 rfl rfl rfl rfl rfl wA.heap.size (AllC.mem ⟨.inr (.inr (.inl fun _ _ _ _ _ _ _ h => h)), .inr (.inr (.inl fun _ _ _ _ _ _ _ h => h)), .inr (.inr (.inl fun _ _ _ _ _ _ _ h => h)), .inr (.inr (.inl fun _ _ _ _ _ _ _ h => h)), .inr (.inr (.inl fun _ _ _ _ _ _ _ h => h)), .inr (.inr (.inl fun _ _ _ _ _ _ _ h => h)), .inr (.inr (.inl fun _ _ _ _ _ _ _ h => h)), .inr (.inr (.inl fun _ _ _ _ _ _ _ h => h)), .inr (.inr (.inr fun d hcl hw => hcl 12 _ 11 rfl rfl (hcl 13 _ 12 rfl rfl (hw 13 rfl)))), .inr (.inr (.inl fun _ _ _ _ _ _ _ h => h)), .inr (.inr (.inl fun _ _ _ _ _ _ _ h => h)), .inr (.inr (.inl fun _ _ _ _ _ _ _ h => h)), .inr (.inr (.inl fun _ _ _ _ _ _ _ h => h)), .inr (.inr (.inl fun _ _ _ _ _ _ _ h => h)), .inr (.inr (.inl fun _ _ _ _ _ _ _ h => h)), .inr (.inr (.inl fun _ _ _ _ _ _ _ h => h)), .inr (.inl rfl), .inl rfl, .inr (.inr (.inl fun _ _ _ _ _ _ _ h => h)), .inr (.inr (.inl fun _ _ _ _ _ _ _ h => h)), trivial⟩) (fun _ _ _ _ _ hg h _ => below_setRow h hg _) fun d a W hF hG hH hn hcl hw => ?_
        have q19 : ∃ g, a.eval (.tmp 19) = .pointer (some ⟨g, 0, none⟩) ∧ wA.heap.size ≤ g ∧ ∃ m, BoxA W g 30 .u8 m ∧ m.length = 32 := hH.at_ (i := 16) rfl (hw 16 rfl) hn
        have q157 : a.eval (.tmp 157) = hashV h := hH.at_ (i := 13) rfl (hw 13 rfl) id
        obtain ⟨g, q19, hg, mm, hx, hml⟩ := q19
        exact ⟨g, ints .u8 (nums h), ints .u8 mm, q19, hg, by rw [q157, hashV_eq], hx, by rw [ints_size, nums_length, HH.out]; exact szHash, by rw [ints_size, ints_size, nums_length, hml, HH.out], ints_one _ _, g, rfl, hg, BoxA.setRow hx⟩
      · refine stepB rfl rfl (by decide) (by rw [hz]; decide) rfl rfl (by kernel_rfl) St SG fun d a W hF hG hH hn hcl hw => ?_
        have q158 : a.eval (.tmp 158) = .int .i64 (pn : Int) := hH.at_ (i := 14) rfl (hw 14 rfl) id
        refine ⟨.int .i64 (pn : Int), W, ?_, Below.refl _ _, ?_⟩
        · clear hF hG hH hn hcl hw
          generalize a.eval = ρ at *
          go_simp
        · rfl
      · refine stepB rfl rfl (by decide) (by rw [hz]; decide) rfl rfl (by kernel_rfl) St SG fun d a W hF hG hH hn hcl hw => ?_
        have q159 : a.eval (.tmp 159) = .bool true := hH.at_ (i := 15) rfl (hw 15 rfl) id
        refine ⟨.bool true, W, ?_, Below.refl _ _, ?_⟩
        · clear hF hG hH hn hcl hw
          generalize a.eval = ρ at *
          go_simp
        · rfl
    · intro d a W ⟨hF, hB, hH⟩ hall
      have k20 : a.eval (.tmp 20) = .int .i64 (pn : Int) := hH.at_ (i := 18) rfl (hall 18 (by decide)) id
      have k21 : a.eval (.tmp 21) = .bool true := hH.at_ (i := 19) rfl (hall 19 (by decide)) id
      have s17 : ∃ g, a.eval (.tmp 19) = .pointer (some ⟨g, 0, none⟩) ∧ wA.heap.size ≤ g ∧ BoxH W g h := hH.at_ (i := 17) rfl (hall 17 (by decide)) id
      clear hH hall
      rw [hF.shape (by rw [hz]; decide)]
      clear hF
      simp only [List.foldl]
      generalize a.eval (.tmp 145) = z145 at *
      generalize a.eval (.tmp 146) = z146 at *
      generalize a.eval (.tmp 147) = z147 at *
      generalize a.eval (.tmp 148) = z148 at *
      generalize a.eval (.tmp 149) = z149 at *
      generalize a.eval (.tmp 150) = z150 at *
      generalize a.eval (.tmp 151) = z151 at *
      generalize a.eval (.tmp 152) = z152 at *
      generalize a.eval (.tmp 153) = z153 at *
      generalize a.eval (.tmp 154) = z154 at *
      generalize a.eval (.tmp 155) = z155 at *
      generalize a.eval (.tmp 156) = z156 at *
      generalize a.eval (.tmp 144) = z144 at *
      generalize a.eval (.tmp 157) = z157 at *
      generalize a.eval (.tmp 158) = z158 at *
      generalize a.eval (.tmp 159) = z159 at *
      generalize a.eval (.tmp 19) = z19 at *
      generalize a.eval (.tmp 20) = z20 at *
      generalize a.eval (.tmp 21) = z21 at *
      subst k20
      subst k21
      rw [HA0.out]
      simp only [Act.put, List.setIfInBounds_toArray, List.set_cons_zero, List.set_cons_succ]
      clear hz HA0 SG e5 e8 e18
      clear a a0
      obtain ⟨g19, rfl, hg19, y19⟩ := s17
      have BB1 := Below.on BB hB
      have yB : BoxW W g18 := BoxA.next yA hB
      have v5 := z5.next hB
      have v8 := z8.next hB
      have hkB := hkA.next hB
      have hsB := hsA.next hB
      have hR1B := hR1A.below hB
      clear C50 C51 C52 C53 C54 C55 C56 C80 C81
      have C50 := Lib.hid v5.c0
      have C51 := Lib.hid v5.c1
      have C52 := Lib.hid v5.c2
      have C53 := Lib.hid v5.c3
      have C54 := Lib.hid v5.c4
      have C55 := Lib.hid v5.c5
      have C56 := Lib.hid v5.c6
      have C80 := Lib.hid v8.c0
      have C81 := Lib.hid v8.c1
      have l5 := v5.lt
      have l8 := v8.lt
      have l18 := BoxA.lt yB
      have l19 := BoxA.lt y19
      clear hB hg19 yA hkA hsA hR1A z5 z8 BB HFD
      generalize W = wB at *
      go_upto_region 21 with (fail)
      refine wp_name fun a0 ha0 => ?_
      have e5 : a0.eval (.tmp 5) = .pointer (some ⟨g5, 0, none⟩) := by rw [ha0]; rfl
      have e8 : a0.eval (.tmp 8) = .pointer (some ⟨g8, 0, none⟩) := by rw [ha0]; rfl
      have e18 : a0.eval (.tmp 18) = .pointer (some ⟨g18, 0, none⟩) := by rw [ha0]; rfl
      have hz : a0.tmps.size = 194 := by rw [ha0]; rfl
      have HA0 := Lib.hid ha0
      clear ha0
      have SG : ∀ (d d' : Nat → Prop) (W W' : World), (fun (_ : Nat → Prop) (W : World) => Below wB.heap.size wB W) d W → (∀ j, d j → d' j) → Below W.heap.size W W' → (fun (_ : Nat → Prop) (W : World) => Below wB.heap.size wB W) d' W' := fun _ _ _ _ h _ b => Below.next h b
      refine wp_region_lastly2 18 _ _ (Inv [160, 161, 162, 163, 164, 165, 166, 167, 168, 169, 170, 171, 172, 173, 174, 175, 176, 177] a0 (fun (_ : Nat → Prop) (W : World) => Below wB.heap.size wB W) [(⟨some 0, 160, none, fun v _ => v = wordsV⟩ : Cl), ⟨some 1, 161, none, fun v _ => v = .pointer (some ⟨g8, 0, none⟩)⟩, ⟨some 2, 162, none, fun v _ => v = .int .i64 (n : Int)⟩, ⟨some 3, 163, none, fun v _ => v = .pointer (some ⟨g8, 1, none⟩)⟩, ⟨some 4, 164, none, fun v _ => v = .slice A1 m c1⟩, ⟨some 5, 165, none, fun v W => OwnStrs W wB.heap.size v MT⟩, ⟨some 6, 166, none, fun v _ => v = wordsV⟩, ⟨some 7, 167, none, fun v _ => v = .pointer (some ⟨g5, 4, none⟩)⟩, ⟨some 8, 168, none, fun v _ => v = .int .i64 (cn : Int)⟩, ⟨some 9, 169, none, fun v _ => v = .pointer (some ⟨g5, 3, none⟩)⟩, ⟨some 10, 170, none, fun v _ => v = .int .i64 index⟩, ⟨some 11, 171, none, fun v _ => v = .pointer (some ⟨g5, 0, none⟩)⟩, ⟨some 12, 172, none, fun v _ => v = encR X⟩, ⟨some 13, 173, none, fun v _ => v = .string ⟨tx.toArray⟩⟩, ⟨some 14, 174, none, fun v W => OwnStrs W wB.heap.size v [tx]⟩, ⟨some 15, 175, none, fun v _ => v = .pointer (some ⟨g5, 6, none⟩)⟩, ⟨some 16, 176, none, fun v _ => v = .slice PA pn pc⟩, ⟨some 17, 177, none, fun v W => OwnStrs W wB.heap.size v FT⟩]) (by kernel_rfl) (by kernel_rfl) rfl rfl rfl (fun d hcl hw j hj => ?_) (by kernel_rfl) rfl rfl (Inv.start (Below.refl _ _).drew ⟨nofun, nofun, nofun, nofun, nofun, nofun, nofun, nofun, nofun, nofun, nofun, nofun, nofun, nofun, nofun, nofun, nofun, nofun, trivial⟩) ?_ ?_
      · have r5 := hw 5 rfl
        have r17 := hw 17 rfl
        have r6 := hcl 17 _ 6 rfl rfl r17
        have r8 := hcl 17 _ 8 rfl rfl r17
        have r10 := hcl 17 _ 10 rfl rfl r17
        have r14 := hcl 17 _ 14 rfl rfl r17
        have r16 := hcl 17 _ 16 rfl rfl r17
        have r15 := hcl 16 _ 15 rfl rfl r16
        have r13 := hcl 14 _ 13 rfl rfl r14
        have r12 := hcl 13 _ 12 rfl rfl r13
        have r11 := hcl 12 _ 11 rfl rfl r12
        have r9 := hcl 10 _ 9 rfl rfl r10
        have r7 := hcl 8 _ 7 rfl rfl r8
        have r0 := hcl 5 _ 0 rfl rfl r5
        have r2 := hcl 5 _ 2 rfl rfl r5
        have r4 := hcl 5 _ 4 rfl rfl r5
        have r3 := hcl 4 _ 3 rfl rfl r4
        have r1 := hcl 2 _ 1 rfl rfl r2
        match j, hj with
        | 0, _ => exact r0
        | 1, _ => exact r1
        | 2, _ => exact r2
        | 3, _ => exact r3
        | 4, _ => exact r4
        | 5, _ => exact r5
        | 6, _ => exact r6
        | 7, _ => exact r7
        | 8, _ => exact r8
        | 9, _ => exact r9
        | 10, _ => exact r10
        | 11, _ => exact r11
        | 12, _ => exact r12
        | 13, _ => exact r13
        | 14, _ => exact r14
        | 15, _ => exact r15
        | 16, _ => exact r16
        | 17, _ => exact r17
        | j + 18, h => exact absurd h (by omega)
      · have St : ∀ xc ∈ [(⟨some 0, 160, none, fun v _ => v = wordsV⟩ : Cl), ⟨some 1, 161, none, fun v _ => v = .pointer (some ⟨g8, 0, none⟩)⟩, ⟨some 2, 162, none, fun v _ => v = .int .i64 (n : Int)⟩, ⟨some 3, 163, none, fun v _ => v = .pointer (some ⟨g8, 1, none⟩)⟩, ⟨some 4, 164, none, fun v _ => v = .slice A1 m c1⟩, ⟨some 5, 165, none, fun v W => OwnStrs W wB.heap.size v MT⟩, ⟨some 6, 166, none, fun v _ => v = wordsV⟩, ⟨some 7, 167, none, fun v _ => v = .pointer (some ⟨g5, 4, none⟩)⟩, ⟨some 8, 168, none, fun v _ => v = .int .i64 (cn : Int)⟩, ⟨some 9, 169, none, fun v _ => v = .pointer (some ⟨g5, 3, none⟩)⟩, ⟨some 10, 170, none, fun v _ => v = .int .i64 index⟩, ⟨some 11, 171, none, fun v _ => v = .pointer (some ⟨g5, 0, none⟩)⟩, ⟨some 12, 172, none, fun v _ => v = encR X⟩, ⟨some 13, 173, none, fun v _ => v = .string ⟨tx.toArray⟩⟩, ⟨some 14, 174, none, fun v W => OwnStrs W wB.heap.size v [tx]⟩, ⟨some 15, 175, none, fun v _ => v = .pointer (some ⟨g5, 6, none⟩)⟩, ⟨some 16, 176, none, fun v _ => v = .slice PA pn pc⟩, ⟨some 17, 177, none, fun v W => OwnStrs W wB.heap.size v FT⟩], Lasts xc := AllC.mem ⟨lastsV0 _ _ _ _, lastsV0 _ _ _ _, lastsV0 _ _ _ _, lastsV0 _ _ _ _, lastsV0 _ _ _ _, (fun _ _ _ h b => h.next b), lastsV0 _ _ _ _, lastsV0 _ _ _ _, lastsV0 _ _ _ _, lastsV0 _ _ _ _, lastsV0 _ _ _ _, lastsV0 _ _ _ _, lastsV0 _ _ _ _, lastsV0 _ _ _ _, (fun _ _ _ h b => h.next b), lastsV0 _ _ _ _, lastsV0 _ _ _ _, (fun _ _ _ h b => h.next b), trivial⟩
        clear HA0
        refine ⟨?_, ?_, ?_, ?_, ?_, ?_, ?_, ?_, ?_, ?_, ?_, ?_, ?_, ?_, ?_, ?_, ?_, ?_, trivial⟩
        · refine stepB rfl rfl (by decide) (by rw [hz]; decide) rfl rfl (by kernel_rfl) St SG fun d a W hF hG hH hn hcl hw => ?_
          have q18 := (hF.same 18 (by decide)).trans e18
          refine ⟨wordsV, W, ?_, Below.refl _ _, ?_⟩
          · exact exec_load rfl (by rw [q18]; exact BoxW.load (BoxA.next yB hG))
          · rfl
        · refine stepB rfl rfl (by decide) (by rw [hz]; decide) rfl rfl (by kernel_rfl) St SG fun d a W hF hG hH hn hcl hw => ?_
          have q8 := (hF.same 8 (by decide)).trans e8
          refine ⟨.pointer (some ⟨g8, 0, none⟩), W, ?_, Below.refl _ _, ?_⟩
          · clear hF hG hH hn hcl hw
            generalize a.eval = ρ at *
            go_simp
          · rfl
        · refine stepB rfl rfl (by decide) (by rw [hz]; decide) rfl rfl (by kernel_rfl) St SG fun d a W hF hG hH hn hcl hw => ?_
          have q161 : a.eval (.tmp 161) = .pointer (some ⟨g8, 0, none⟩) := hH.at_ (i := 1) rfl (hw 1 rfl) id
          have cc0 := cell_kept hG C80.out
          refine ⟨.int .i64 (n : Int), W, ?_, Below.refl _ _, ?_⟩
          · clear hF hG hH hn hcl hw
            generalize a.eval = ρ at *
            go_simp
          · rfl
        · refine stepB rfl rfl (by decide) (by rw [hz]; decide) rfl rfl (by kernel_rfl) St SG fun d a W hF hG hH hn hcl hw => ?_
          have q8 := (hF.same 8 (by decide)).trans e8
          refine ⟨.pointer (some ⟨g8, 1, none⟩), W, ?_, Below.refl _ _, ?_⟩
          · clear hF hG hH hn hcl hw
            generalize a.eval = ρ at *
            go_simp
          · rfl
        · refine stepB rfl rfl (by decide) (by rw [hz]; decide) rfl rfl (by kernel_rfl) St SG fun d a W hF hG hH hn hcl hw => ?_
          have q163 : a.eval (.tmp 163) = .pointer (some ⟨g8, 1, none⟩) := hH.at_ (i := 3) rfl (hw 3 rfl) id
          have cc0 := cell_kept hG C81.out
          refine ⟨.slice A1 m c1, W, ?_, Below.refl _ _, ?_⟩
          · clear hF hG hH hn hcl hw
            generalize a.eval = ρ at *
            go_simp
          · rfl
        · refine stepC rfl rfl (by decide) (by rw [hz]; decide) rfl rfl (by kernel_rfl) St SG fun d a W hF hG hH hn hcl hw => ?_
          have q160 : a.eval (.tmp 160) = wordsV := hH.at_ (i := 0) rfl (hw 0 rfl) id
          have q162 : a.eval (.tmp 162) = .int .i64 (n : Int) := hH.at_ (i := 2) rfl (hw 2 rfl) id
          have q164 : a.eval (.tmp 164) = .slice A1 m c1 := hH.at_ (i := 4) rfl (hw 4 rfl) id
          have qf : a.eval (.func 44) = .func (.func 44) #[] #[] := rfl
          refine ⟨44, #[wordsV, .int .i64 (n : Int), .slice A1 m c1], ?_, ?_⟩
          · clear hF hG hH hn hcl hw
            generalize a.eval = ρ at *
            go_simp
          · refine (HMT.out W A1 c1 (hR1B.below hG)).mono ?_; rintro e W' ⟨v, rfl, hO, b⟩; exact ⟨v, rfl, b, hO.mono (by have := hG.size; omega)⟩
        · refine stepB rfl rfl (by decide) (by rw [hz]; decide) rfl rfl (by kernel_rfl) St SG fun d a W hF hG hH hn hcl hw => ?_
          have q18 := (hF.same 18 (by decide)).trans e18
          refine ⟨wordsV, W, ?_, Below.refl _ _, ?_⟩
          · exact exec_load rfl (by rw [q18]; exact BoxW.load (BoxA.next yB hG))
          · rfl
        · refine stepB rfl rfl (by decide) (by rw [hz]; decide) rfl rfl (by kernel_rfl) St SG fun d a W hF hG hH hn hcl hw => ?_
          have q5 := (hF.same 5 (by decide)).trans e5
          refine ⟨.pointer (some ⟨g5, 4, none⟩), W, ?_, Below.refl _ _, ?_⟩
          · clear hF hG hH hn hcl hw
            generalize a.eval = ρ at *
            go_simp
          · rfl
        · refine stepB rfl rfl (by decide) (by rw [hz]; decide) rfl rfl (by kernel_rfl) St SG fun d a W hF hG hH hn hcl hw => ?_
          have q167 : a.eval (.tmp 167) = .pointer (some ⟨g5, 4, none⟩) := hH.at_ (i := 7) rfl (hw 7 rfl) id
          have cc0 := cell_kept hG C54.out
          refine ⟨.int .i64 (cn : Int), W, ?_, Below.refl _ _, ?_⟩
          · clear hF hG hH hn hcl hw
            generalize a.eval = ρ at *
            go_simp
          · rfl
        · refine stepB rfl rfl (by decide) (by rw [hz]; decide) rfl rfl (by kernel_rfl) St SG fun d a W hF hG hH hn hcl hw => ?_
          have q5 := (hF.same 5 (by decide)).trans e5
          refine ⟨.pointer (some ⟨g5, 3, none⟩), W, ?_, Below.refl _ _, ?_⟩
          · clear hF hG hH hn hcl hw
            generalize a.eval = ρ at *
            go_simp
          · rfl
        · refine stepB rfl rfl (by decide) (by rw [hz]; decide) rfl rfl (by kernel_rfl) St SG fun d a W hF hG hH hn hcl hw => ?_
          have q169 : a.eval (.tmp 169) = .pointer (some ⟨g5, 3, none⟩) := hH.at_ (i := 9) rfl (hw 9 rfl) id
          have cc0 := cell_kept hG C53.out
          refine ⟨.int .i64 index, W, ?_, Below.refl _ _, ?_⟩
          · clear hF hG hH hn hcl hw
            generalize a.eval = ρ at *
            go_simp
          · rfl
        · refine stepB rfl rfl (by decide) (by rw [hz]; decide) rfl rfl (by kernel_rfl) St SG fun d a W hF hG hH hn hcl hw => ?_
          have q5 := (hF.same 5 (by decide)).trans e5
          refine ⟨.pointer (some ⟨g5, 0, none⟩), W, ?_, Below.refl _ _, ?_⟩
          · clear hF hG hH hn hcl hw
            generalize a.eval = ρ at *
            go_simp
          · rfl
        · refine stepB rfl rfl (by decide) (by rw [hz]; decide) rfl rfl (by kernel_rfl) St SG fun d a W hF hG hH hn hcl hw => ?_
          have q171 : a.eval (.tmp 171) = .pointer (some ⟨g5, 0, none⟩) := hH.at_ (i := 11) rfl (hw 11 rfl) id
          have cc0 := cell_kept hG C50.out
          have cc1 := cell_kept hG C51.out
          have cc2 := cell_kept hG C52.out
          refine ⟨encR X, W, ?_, Below.refl _ _, ?_⟩
          · (clear hF hG hH hn hcl hw; generalize a.eval = ρ at *; go_simp; rfl)
          · rfl
        · refine stepC rfl rfl (by decide) (by rw [hz]; decide) rfl rfl (by kernel_rfl) St SG fun d a W hF hG hH hn hcl hw => ?_
          have q172 : a.eval (.tmp 172) = encR X := hH.at_ (i := 12) rfl (hw 12 rfl) id
          have qf : a.eval (.func 43) = .func (.func 43) #[] #[] := rfl
          refine ⟨43, #[encR X], ?_, ?_⟩
          · clear hF hG hH hn hcl hw
            generalize a.eval = ρ at *
            go_simp
          · refine (HLF.out W).mono ?_; rintro e W' ⟨rfl, b⟩; exact ⟨_, rfl, b, rfl⟩
        · refine stepB rfl rfl (by decide) (by rw [hz]; decide) rfl rfl (by kernel_rfl) St SG fun d a W hF hG hH hn hcl hw => ?_
          have q173 : a.eval (.tmp 173) = .string ⟨tx.toArray⟩ := hH.at_ (i := 13) rfl (hw 13 rfl) id
          refine ⟨.slice (some ⟨W.heap.size, 0, none⟩) 1 1, W.alloc (.cells #[.string ⟨tx.toArray⟩] 9), ?_, Below.new1 W _, ?_⟩
          · clear hF hG hH hn hcl hw
            generalize a.eval = ρ at *
            go_simp
          · exact OwnStrs.one W _ _ hG.size
        · refine stepB rfl rfl (by decide) (by rw [hz]; decide) rfl rfl (by kernel_rfl) St SG fun d a W hF hG hH hn hcl hw => ?_
          have q5 := (hF.same 5 (by decide)).trans e5
          refine ⟨.pointer (some ⟨g5, 6, none⟩), W, ?_, Below.refl _ _, ?_⟩
          · clear hF hG hH hn hcl hw
            generalize a.eval = ρ at *
            go_simp
          · rfl
        · refine stepB rfl rfl (by decide) (by rw [hz]; decide) rfl rfl (by kernel_rfl) St SG fun d a W hF hG hH hn hcl hw => ?_
          have q175 : a.eval (.tmp 175) = .pointer (some ⟨g5, 6, none⟩) := hH.at_ (i := 15) rfl (hw 15 rfl) id
          have cc0 := cell_kept hG C56.out
          refine ⟨.slice PA pn pc, W, ?_, Below.refl _ _, ?_⟩
          · clear hF hG hH hn hcl hw
            generalize a.eval = ρ at *
            go_simp
          · rfl
        · refine stepC rfl rfl (by decide) (by rw [hz]; decide) rfl rfl (by kernel_rfl) St SG fun d a W hF hG hH hn hcl hw => ?_
          have q166 : a.eval (.tmp 166) = wordsV := hH.at_ (i := 6) rfl (hw 6 rfl) id
          have q168 : a.eval (.tmp 168) = .int .i64 (cn : Int) := hH.at_ (i := 8) rfl (hw 8 rfl) id
          have q170 : a.eval (.tmp 170) = .int .i64 index := hH.at_ (i := 10) rfl (hw 10 rfl) id
          have q174 : OwnStrs W wB.heap.size (a.eval (.tmp 174)) [tx] := hH.at_ (i := 14) rfl (hw 14 rfl) id
          have q176 : a.eval (.tmp 176) = .slice PA pn pc := hH.at_ (i := 16) rfl (hw 16 rfl) id
          have qf : a.eval (.func 45) = .func (.func 45) #[] #[] := rfl
          obtain ⟨A9, c9, q174, hc9, hS9⟩ := q174.toStrs
          simp only [List.length_cons, List.length_nil, Nat.zero_add] at q174 hc9
          refine ⟨45, #[wordsV, .int .i64 (cn : Int), .int .i64 index, .slice A9 1 c9, .slice PA pn pc], ?_, ?_⟩
          · clear hF hG hH hn hcl hw
            generalize a.eval = ρ at *
            go_simp
          · refine (HFT.out A9 c9 W hc9 hS9 (hsB.next hG)).mono ?_; rintro e W' ⟨v, rfl, hO, b⟩; exact ⟨v, rfl, b, hO.mono (by have := hG.size; omega)⟩
      · intro d a W ⟨hF, hB, hH⟩ hall
        have k165 : OwnStrs W wB.heap.size (a.eval (.tmp 165)) MT := hH.at_ (i := 5) rfl (hall 5 (by decide)) id
        have k177 : OwnStrs W wB.heap.size (a.eval (.tmp 177)) FT := hH.at_ (i := 17) rfl (hall 17 (by decide)) id
        clear hH hall
        rw [hF.shape (by rw [hz]; decide)]
        clear hF
        simp only [List.foldl]
        generalize a.eval (.tmp 160) = z160 at *
        generalize a.eval (.tmp 161) = z161 at *
        generalize a.eval (.tmp 162) = z162 at *
        generalize a.eval (.tmp 163) = z163 at *
        generalize a.eval (.tmp 164) = z164 at *
        generalize a.eval (.tmp 165) = z165 at *
        generalize a.eval (.tmp 166) = z166 at *
        generalize a.eval (.tmp 167) = z167 at *
        generalize a.eval (.tmp 168) = z168 at *
        generalize a.eval (.tmp 169) = z169 at *
        generalize a.eval (.tmp 170) = z170 at *
        generalize a.eval (.tmp 171) = z171 at *
        generalize a.eval (.tmp 172) = z172 at *
        generalize a.eval (.tmp 173) = z173 at *
        generalize a.eval (.tmp 174) = z174 at *
        generalize a.eval (.tmp 175) = z175 at *
        generalize a.eval (.tmp 176) = z176 at *
        generalize a.eval (.tmp 177) = z177 at *
        rw [HA0.out]
        simp only [Act.put, List.setIfInBounds_toArray, List.set_cons_zero, List.set_cons_succ]
        clear hz HA0 SG e5 e8 e18
        clear a a0
        refine wp_append_strs (.tmp 165) (.tmp 177) rfl wB.heap.size wB.heap.size _ _ MT FT rfl rfl k165 k177 LM LF hB.size (fun z22 wC hOC bC => ?_)
        refine wp_yields (v := z22) (by rfl) ?_
        dsimp only [Act.put]
        have BC := hB.trans bC
        have sC := BC.size
        have yC : BoxW wC g18 := BoxA.next yB BC
        have u19 : BoxH wC g19 h := BoxA.next y19 BC
        have u5 := v5.next BC
        have u8 := v8.next BC
        have hkC := hkB.next BC
        have BB2 := Below.on BB1 BC
        have hbz : 0 < wB.heap.size := hkB.1
        clear C50 C51 C52 C53 C54 C55 C56 C80 C81
        have C50 := Lib.hid u5.c0
        have C51 := Lib.hid u5.c1
        have C52 := Lib.hid u5.c2
        have C53 := Lib.hid u5.c3
        have C54 := Lib.hid u5.c4
        have C55 := Lib.hid u5.c5
        have C56 := Lib.hid u5.c6
        have bs := BB1.size
        obtain ⟨bb, hbb⟩ : ∃ k, wB.heap.size = k := ⟨_, rfl⟩
        rw [hbb] at bs sC hOC l5 l8 l18 l19 hbz
        have BS := Lib.hid bs
        clear bs hbb
        clear k165 k177 hB bC BC yB y19 v5 v8 u8 hkB hsB hR1B BB1 HMT HFT
        go_upto_region 22 with (fail)
        refine wp_name fun a0 ha0 => ?_
        have e5 : a0.eval (.tmp 5) = .pointer (some ⟨g5, 0, none⟩) := by rw [ha0]; rfl
        have e18 : a0.eval (.tmp 18) = .pointer (some ⟨g18, 0, none⟩) := by rw [ha0]; rfl
        have e22 : a0.eval (.tmp 22) = z22 := by rw [ha0]; rfl
        have e19 : a0.eval (.tmp 19) = .pointer (some ⟨g19, 0, none⟩) := by rw [ha0]; rfl
        have hz : a0.tmps.size = 194 := by rw [ha0]; rfl
        have HA0 := Lib.hid ha0
        clear ha0
        have SG : ∀ (d d' : Nat → Prop) (W W' : World), (GRow bb 10 wC z22 (MT ++ FT)) d W → (∀ j, d j → d' j) → Below W.heap.size W W' → (GRow bb 10 wC z22 (MT ++ FT)) d' W' := fun _ _ _ _ h _hm b => GRow.next sC h _hm b
        refine wp_region_guards (Inv [179, 180, 181, 182, 183, 184, 185, 186, 187, 188, 189, 190, 191, 192, 193, 6] a0 (GRow bb 10 wC z22 (MT ++ FT)) [(⟨some 0, 179, none, fun v _ => v = wordsV⟩ : Cl), ⟨some 1, 180, none, fun v _ => v = z22⟩, ⟨some 2, 181, none, fun v _ => v = wordsV⟩, ⟨some 3, 182, none, fun v _ => v = .pointer (some ⟨g5, 5, none⟩)⟩, ⟨some 4, 183, none, fun v _ => v = .int .i64 size⟩, ⟨some 5, 184, none, fun v _ => v = .pointer (some ⟨g5, 4, none⟩)⟩, ⟨some 6, 185, none, fun v _ => v = .int .i64 (cn : Int)⟩, ⟨some 7, 186, none, fun v _ => v = hashV h⟩, ⟨some 8, 187, none, fun v _ => v = .string ⟨zt.toArray⟩⟩, ⟨some 9, 188, some 10, fun v W => OwnStrs W wC.heap.size v [zt]⟩, ⟨some 10, 189, none, fun v W => OwnStrs W bb v (MT ++ FT ++ [zt])⟩, ⟨some 11, 190, none, fun v _ => v = .bool true⟩, ⟨some 12, 191, none, fun v _ => v = .bool true⟩, ⟨some 13, 192, none, fun v _ => v = .bool true⟩, ⟨some 14, 193, none, fun v _ => v = .bool true⟩, ⟨some 15, 6, none, fun v _ => v = .bool true⟩]) (by kernel_rfl) (by kernel_rfl) (Inv.start ⟨⟨(Below.refl _ _).drew, Nat.le_refl _⟩, fun _ => hOC.next ((Below.refl _ _).drew)⟩ ⟨nofun, nofun, nofun, nofun, nofun, nofun, nofun, nofun, nofun, nofun, nofun, nofun, nofun, nofun, nofun, nofun, trivial⟩) ?_ ?_
        · have St : ∀ xc ∈ [(⟨some 0, 179, none, fun v _ => v = wordsV⟩ : Cl), ⟨some 1, 180, none, fun v _ => v = z22⟩, ⟨some 2, 181, none, fun v _ => v = wordsV⟩, ⟨some 3, 182, none, fun v _ => v = .pointer (some ⟨g5, 5, none⟩)⟩, ⟨some 4, 183, none, fun v _ => v = .int .i64 size⟩, ⟨some 5, 184, none, fun v _ => v = .pointer (some ⟨g5, 4, none⟩)⟩, ⟨some 6, 185, none, fun v _ => v = .int .i64 (cn : Int)⟩, ⟨some 7, 186, none, fun v _ => v = hashV h⟩, ⟨some 8, 187, none, fun v _ => v = .string ⟨zt.toArray⟩⟩, ⟨some 9, 188, some 10, fun v W => OwnStrs W wC.heap.size v [zt]⟩, ⟨some 10, 189, none, fun v W => OwnStrs W bb v (MT ++ FT ++ [zt])⟩, ⟨some 11, 190, none, fun v _ => v = .bool true⟩, ⟨some 12, 191, none, fun v _ => v = .bool true⟩, ⟨some 13, 192, none, fun v _ => v = .bool true⟩, ⟨some 14, 193, none, fun v _ => v = .bool true⟩, ⟨some 15, 6, none, fun v _ => v = .bool true⟩], Lasts xc := AllC.mem ⟨lastsV0 _ _ _ _, lastsV0 _ _ _ _, lastsV0 _ _ _ _, lastsV0 _ _ _ _, lastsV0 _ _ _ _, lastsV0 _ _ _ _, lastsV0 _ _ _ _, lastsV0 _ _ _ _, lastsV0 _ _ _ _, (fun _ _ _ h b => h.next b), (fun _ _ _ h b => h.next b), lastsV0 _ _ _ _, lastsV0 _ _ _ _, lastsV0 _ _ _ _, lastsV0 _ _ _ _, lastsV0 _ _ _ _, trivial⟩
          clear HA0
          refine ⟨?_, ?_, ?_, ?_, ?_, ?_, ?_, ?_, ?_, ?_, ?_, ?_, ?_, ?_, ?_, ?_, trivial⟩
          · refine StepG.of ?_
            refine stepB rfl rfl (by decide) (by rw [hz]; decide) rfl rfl (by kernel_rfl) St SG fun d a W hF hG hH hn hcl hw => ?_
            have q18 := (hF.same 18 (by decide)).trans e18
            refine ⟨wordsV, W, ?_, Below.refl _ _, ?_⟩
            · exact exec_load rfl (by rw [q18]; exact BoxW.load (BoxA.low yC (by omega) hG.1.1))
            · rfl
          · refine StepG.of ?_
            refine stepB rfl rfl (by decide) (by rw [hz]; decide) rfl rfl (by kernel_rfl) St SG fun d a W hF hG hH hn hcl hw => ?_
            have q22 := (hF.same 22 (by decide)).trans e22
            refine ⟨z22, W, ?_, Below.refl _ _, ?_⟩
            · clear hF hG hH hn hcl hw
              generalize a.eval = ρ at *
              go_simp
            · rfl
          · refine StepG.of ?_
            refine stepB rfl rfl (by decide) (by rw [hz]; decide) rfl rfl (by kernel_rfl) St SG fun d a W hF hG hH hn hcl hw => ?_
            have q18 := (hF.same 18 (by decide)).trans e18
            refine ⟨wordsV, W, ?_, Below.refl _ _, ?_⟩
            · exact exec_load rfl (by rw [q18]; exact BoxW.load (BoxA.low yC (by omega) hG.1.1))
            · rfl
          · refine StepG.of ?_
            refine stepB rfl rfl (by decide) (by rw [hz]; decide) rfl rfl (by kernel_rfl) St SG fun d a W hF hG hH hn hcl hw => ?_
            have q5 := (hF.same 5 (by decide)).trans e5
            refine ⟨.pointer (some ⟨g5, 5, none⟩), W, ?_, Below.refl _ _, ?_⟩
            · clear hF hG hH hn hcl hw
              generalize a.eval = ρ at *
              go_simp
            · rfl
          · refine StepG.of ?_
            refine stepB rfl rfl (by decide) (by rw [hz]; decide) rfl rfl (by kernel_rfl) St SG fun d a W hF hG hH hn hcl hw => ?_
            have q182 : a.eval (.tmp 182) = .pointer (some ⟨g5, 5, none⟩) := hH.at_ (i := 3) rfl (hw 3 rfl) id
            have cc0 := cell_low C55.out (by show _ < _; omega) hG.1.1
            refine ⟨.int .i64 size, W, ?_, Below.refl _ _, ?_⟩
            · clear hF hG hH hn hcl hw
              generalize a.eval = ρ at *
              go_simp
            · rfl
          · refine StepG.of ?_
            refine stepB rfl rfl (by decide) (by rw [hz]; decide) rfl rfl (by kernel_rfl) St SG fun d a W hF hG hH hn hcl hw => ?_
            have q5 := (hF.same 5 (by decide)).trans e5
            refine ⟨.pointer (some ⟨g5, 4, none⟩), W, ?_, Below.refl _ _, ?_⟩
            · clear hF hG hH hn hcl hw
              generalize a.eval = ρ at *
              go_simp
            · rfl
          · refine StepG.of ?_
            refine stepB rfl rfl (by decide) (by rw [hz]; decide) rfl rfl (by kernel_rfl) St SG fun d a W hF hG hH hn hcl hw => ?_
            have q184 : a.eval (.tmp 184) = .pointer (some ⟨g5, 4, none⟩) := hH.at_ (i := 5) rfl (hw 5 rfl) id
            have cc0 := cell_low C54.out (by show _ < _; omega) hG.1.1
            refine ⟨.int .i64 (cn : Int), W, ?_, Below.refl _ _, ?_⟩
            · clear hF hG hH hn hcl hw
              generalize a.eval = ρ at *
              go_simp
            · rfl
          · refine StepG.of ?_
            refine stepB rfl rfl (by decide) (by rw [hz]; decide) rfl rfl (by kernel_rfl) St SG fun d a W hF hG hH hn hcl hw => ?_
            have q19 := (hF.same 19 (by decide)).trans e19
            refine ⟨hashV h, W, ?_, Below.refl _ _, ?_⟩
            · exact exec_load rfl (by rw [q19]; exact BoxH.load_ (BoxA.low u19 (by omega) hG.1.1) HH.out)
            · rfl
          · refine StepG.of ?_
            refine stepC rfl rfl (by decide) (by rw [hz]; decide) rfl rfl (by kernel_rfl) St SG fun d a W hF hG hH hn hcl hw => ?_
            have q181 : a.eval (.tmp 181) = wordsV := hH.at_ (i := 2) rfl (hw 2 rfl) id
            have q183 : a.eval (.tmp 183) = .int .i64 size := hH.at_ (i := 4) rfl (hw 4 rfl) id
            have q185 : a.eval (.tmp 185) = .int .i64 (cn : Int) := hH.at_ (i := 6) rfl (hw 6 rfl) id
            have q186 : a.eval (.tmp 186) = hashV h := hH.at_ (i := 7) rfl (hw 7 rfl) id
            have qf : a.eval (.func 47) = .func (.func 47) #[] #[] := rfl
            refine ⟨47, #[wordsV, .int .i64 size, .int .i64 (cn : Int), hashV h], ?_, ?_⟩
            · clear hF hG hH hn hcl hw
              generalize a.eval = ρ at *
              go_simp
            · refine (HMX.out W).mono ?_; rintro e W' ⟨rfl, b⟩; exact ⟨_, rfl, b, rfl⟩
          · refine StepG.of ?_
            refine stepB rfl rfl (by decide) (by rw [hz]; decide) rfl rfl (by kernel_rfl) St SG fun d a W hF hG hH hn hcl hw => ?_
            have q187 : a.eval (.tmp 187) = .string ⟨zt.toArray⟩ := hH.at_ (i := 8) rfl (hw 8 rfl) id
            refine ⟨.slice (some ⟨W.heap.size, 0, none⟩) 1 1, W.alloc (.cells #[.string ⟨zt.toArray⟩] 9), ?_, Below.new1 W _, ?_⟩
            · clear hF hG hH hn hcl hw
              generalize a.eval = ρ at *
              go_simp
            · exact OwnStrs.one W _ _ hG.1.2
          · refine StepG.of ?_
            refine stepA3 rfl rfl (by decide) (by rw [hz]; decide) rfl rfl (by kernel_rfl) bb (AllC.mem ⟨.inr (.inr (.inl fun _ _ _ h _ => h)), .inr (.inr (.inl fun _ _ _ h _ => h)), .inr (.inr (.inl fun _ _ _ h _ => h)), .inr (.inr (.inl fun _ _ _ h _ => h)), .inr (.inr (.inl fun _ _ _ h _ => h)), .inr (.inr (.inl fun _ _ _ h _ => h)), .inr (.inr (.inl fun _ _ _ h _ => h)), .inr (.inr (.inl fun _ _ _ h _ => h)), .inr (.inr (.inl fun _ _ _ h _ => h)), .inr (.inl rfl), .inl rfl, .inr (.inr (.inl fun _ _ _ h _ => h)), .inr (.inr (.inl fun _ _ _ h _ => h)), .inr (.inr (.inl fun _ _ _ h _ => h)), .inr (.inr (.inl fun _ _ _ h _ => h)), .inr (.inr (.inl fun _ _ _ h _ => h)), trivial⟩) (fun _ _ _ _ h hm hk b => h.done hm hk b) fun d a W hF hG hH hn hcl hw => ?_
            have q180 : a.eval (.tmp 180) = z22 := hH.at_ (i := 1) rfl (hw 1 rfl) id
            have q188 : OwnStrs W wC.heap.size (a.eval (.tmp 188)) [zt] := hH.at_ (i := 9) rfl (hw 9 rfl) hn
            have hO := hG.2 hn
            exact exec_append_strs2 (.tmp 180) (.tmp 188) rfl bb wC.heap.size W _ _ (MT ++ FT) [zt] rfl rfl (by rw [q180]; exact hO) q188 LMF (by simp) (by have := hG.1.2; omega)
          · refine StepG.of ?_
            refine stepC rfl rfl (by decide) (by rw [hz]; decide) rfl rfl (by kernel_rfl) St SG fun d a W hF hG hH hn hcl hw => ?_
            have q179 : a.eval (.tmp 179) = wordsV := hH.at_ (i := 0) rfl (hw 0 rfl) id
            have q189 : OwnStrs W bb (a.eval (.tmp 189)) (MT ++ FT ++ [zt]) := hH.at_ (i := 10) rfl (hw 10 rfl) id
            have qf : a.eval (.func 46) = .func (.func 46) #[] #[] := rfl
            obtain ⟨A9, c9, q189, hS9, _⟩ := q189.slice
            refine ⟨46, #[wordsV, .slice A9 (MT ++ FT ++ [zt]).length c9], ?_, ?_⟩
            · clear hF hG hH hn hcl hw
              generalize a.eval = ρ at *
              go_simp
            · refine (HCC.out A9 c9 W hS9).mono ?_; rintro e W' ⟨rfl, b⟩; exact ⟨_, rfl, b, rfl⟩
          · refine StepG.of ?_
            refine stepB rfl rfl (by decide) (by rw [hz]; decide) rfl rfl (by kernel_rfl) St SG fun d a W hF hG hH hn hcl hw => ?_
            have q190 : a.eval (.tmp 190) = .bool true := hH.at_ (i := 11) rfl (hw 11 rfl) id
            refine ⟨.bool true, W, ?_, Below.refl _ _, ?_⟩
            · clear hF hG hH hn hcl hw
              generalize a.eval = ρ at *
              go_simp
            · rfl
          · refine StepG.on rfl (fun d a W hI hw => yielded_of rfl (hI.2.2.at_ (i := 12) rfl (hw 12 rfl) id)) ?_
            refine stepC rfl rfl (by decide) (by rw [hz]; decide) rfl rfl (by kernel_rfl) St SG fun d a W hF hG hH hn hcl hw => ?_
            have qf : a.eval (.func 17) = .func (.func 17) #[] #[] := rfl
            refine ⟨17, #[], ?_, ?_⟩
            · clear hF hG hH hn hcl hw
              generalize a.eval = ρ at *
              go_simp
            · refine (HA.out W (hkC.low hbz hG.1.1)).mono ?_; rintro e W' ⟨rfl, b⟩; exact ⟨_, rfl, b, rfl⟩
          · refine StepG.of ?_
            refine stepB rfl rfl (by decide) (by rw [hz]; decide) rfl rfl (by kernel_rfl) St SG fun d a W hF hG hH hn hcl hw => ?_
            have q191 : a.eval (.tmp 191) = .bool true := hH.at_ (i := 12) rfl (hw 12 rfl) id
            have q192 : a.eval (.tmp 192) = .bool true := hH.at_ (i := 13) rfl (hw 13 rfl) id
            have qk1 : a.eval (.const (.bool false)) = .bool false := rfl
            refine ⟨.bool true, W, ?_, Below.refl _ _, ?_⟩
            · clear hF hG hH hn hcl hw
              generalize a.eval = ρ at *
              go_simp
            · rfl
          · refine StepG.of ?_
            refine stepB rfl rfl (by decide) (by rw [hz]; decide) rfl rfl (by kernel_rfl) St SG fun d a W hF hG hH hn hcl hw => ?_
            have q193 : a.eval (.tmp 193) = .bool true := hH.at_ (i := 14) rfl (hw 14 rfl) id
            refine ⟨.bool true, W, ?_, Below.refl _ _, ?_⟩
            · clear hF hG hH hn hcl hw
              generalize a.eval = ρ at *
              go_simp
            · rfl
        · intro d a W ⟨hF, hB, hH⟩ hall
          have k6 : a.eval (.tmp 6) = .bool true := hH.at_ (i := 15) rfl (hall 15 (by decide)) id
          clear hH hall
          rw [hF.shape (by rw [hz]; decide)]
          clear hF
          simp only [List.foldl]
          generalize a.eval (.tmp 179) = z179 at *
          generalize a.eval (.tmp 180) = z180 at *
          generalize a.eval (.tmp 181) = z181 at *
          generalize a.eval (.tmp 182) = z182 at *
          generalize a.eval (.tmp 183) = z183 at *
          generalize a.eval (.tmp 184) = z184 at *
          generalize a.eval (.tmp 185) = z185 at *
          generalize a.eval (.tmp 186) = z186 at *
          generalize a.eval (.tmp 187) = z187 at *
          generalize a.eval (.tmp 188) = z188 at *
          generalize a.eval (.tmp 189) = z189 at *
          generalize a.eval (.tmp 190) = z190 at *
          generalize a.eval (.tmp 191) = z191 at *
          generalize a.eval (.tmp 192) = z192 at *
          generalize a.eval (.tmp 193) = z193 at *
          generalize a.eval (.tmp 6) = z6 at *
          subst k6
          rw [HA0.out]
          simp only [Act.put, List.setIfInBounds_toArray, List.set_cons_zero, List.set_cons_succ]
          clear hz HA0 SG e5 e18 e22 e19
          clear a a0
          go_wp2_with (fail)
          go_ret
          exact ⟨rfl, Below.trans BB2 (hB.1.1.mono BS.out)⟩
theorem proofTrue_any (ts : List UInt8) (at_ : Int) (X : Rn) (index count size : Int) (path : List Bs) (A PA : Option Addr) (c pc : Nat) (w : World) (hc : ts.length ≤ c) (hT : Tags w A ts) (hpc : path.length ≤ pc) (hs : Hs w PA path) (hk : Kon w) (hsz : size < 9223372036854775808) :
    Calls Tryd.prog 11 #[.slice A ts.length c, .int .i64 at_, claim1V X index count size PA path.length pc] w fun e w' => e = .returned (.bool true) ∧ Below w.heap.size w w' := by
  by_cases hn : ts.length = 0 ∨ 60 < ts.length
  · exact true_none X index count size A PA at_ _ c _ pc w hk hn
  have h1 : 1 ≤ ts.length := by omega
  have h60 : ts.length ≤ 60 := by omega
  by_cases h30 : 30 < path.length
  · exact true_long ts X index count size A PA at_ _ c _ pc w rfl h1 h60 hT hk h30
  cases e : accept1M (rootO ts) at_ X index count size path with
  | mk t b =>
    by_cases hr : 0 ≤ at_ ∧ at_ < ts.length
    · obtain ⟨q, rfl⟩ : ∃ q : Nat, at_ = q := ⟨at_.toNat, by omega⟩
      have hq : q < ts.length := by omega
      rcases accept1_tag e with ⟨rfl, rfl⟩ | ⟨rfl, _, _⟩
      · exact true_no ts X index count size path A PA q _ c _ pc w rfl hc h1 h60 hT hs rfl hpc (by omega) hk hsz hq e
      · by_cases ht : t = tagO ts[q]
        · exact true_yes ts X index count size path A PA q _ c _ pc w rfl hc h1 h60 hT hs rfl hpc (by omega) hk hsz hq (by rw [e, ht])
        · obtain ⟨b1, b2, b3, h, h32, hf, hcl⟩ := true_other h1 h60 hs.1 e (fun q' h' e' => by
            obtain rfl : q = q' := by omega
            exact ht)
          obtain ⟨cn, rfl⟩ : ∃ k : Nat, count = k := ⟨count.toNat, by omega⟩
          rw [Int.toNat_natCast] at hf hcl
          exact true_clash ts X index size path A PA q cn _ c _ pc w rfl hc h1 h60 hT hs rfl hpc (by omega) hk hsz hq t e ht h h32 b1.1 b1.2.1 (by omega) b2.1 b3 hf hcl
    · have hx : at_ < 0 ∨ (ts.length : Int) ≤ at_ := by omega
      rcases accept1_tag e with ⟨rfl, rfl⟩ | ⟨rfl, _, _⟩
      · exact true_out_no ts X index count size path A PA at_ _ c _ pc w rfl hc h1 h60 hT hs rfl hpc (by omega) hk hsz hx e
      · obtain ⟨b1, b2, b3, h, h32, hf, hcl⟩ := true_other h1 h60 hs.1 e (fun q' h' e' => by omega)
        obtain ⟨cn, rfl⟩ : ∃ k : Nat, count = k := ⟨count.toNat, by omega⟩
        rw [Int.toNat_natCast] at hf hcl
        exact true_out_clash ts X index size path A PA at_ cn _ c _ pc w rfl hc h1 h60 hT hs rfl hpc (by omega) hk hsz hx t e h h32 b1.1 b1.2.1 (by omega) b2.1 b3 hf hcl
end Go.Proofs.YtcocengpekndjaaDoor
