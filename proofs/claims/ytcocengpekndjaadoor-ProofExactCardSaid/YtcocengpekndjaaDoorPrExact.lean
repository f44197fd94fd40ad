/- The walk over ProofExact. -/
import Derived.Test.YtcocengpekndjaaDoorPrExactL
import Derived.Test.YtcocengpekndjaaDoorPrAlike
import Derived.Test.YtcocengpekndjaaDoorPrCover
namespace Go.Proofs.YtcocengpekndjaaDoor
open Go.RowKit
set_option maxRecDepth 100000 in
set_option maxHeartbeats 4000000 in
theorem exact_none (index count size : Int) (A A3 PA : Option Addr) (lo hi : Int) (n c k3 c3 pn pc : Nat) (w : World) (hk : Kon w) (hn : n = 0 ∨ 60 < n) : Calls Tryd.prog 12 #[.slice A n c, .int .i64 lo, .int .i64 hi, claimV A3 k3 c3 index count size PA pn pc] w fun e w' => e = .returned (.bool true) ∧ Below w.heap.size w w' := by
  obtain ⟨w0, hW0⟩ : ∃ w0, w.alloc (.cells #[.slice A3 k3 c3, .int .i64 index, .int .i64 count, .int .i64 size, .slice PA pn pc] 43) = w0 := ⟨_, rfl⟩
  have B0 : Below w.heap.size w w0 := hW0 ▸ Below.new1 _ _
  have x5 : BoxC w0 w.heap.size A3 k3 c3 index count size PA pn pc := hW0 ▸ BoxC.new w A3 k3 c3 index count size PA pn pc
  have hk0 := hk.next B0
  have HO := Lib.hid hW0
  have HMD := Lib.hid (made_no A n c w0 hn)
  have HA := Lib.hid (fun W kon => awake_any W kon)
  have hx : n = 0 ∨ (((n : Int) == 0) = false ∧ (60 : Int) < n) := by
    rcases hn with h | h
    · exact .inl h
    · exact .inr ⟨by simp; omega, by omega⟩
  clear hn hk hW0 x5
  rcases hx with rfl | ⟨j1, j2⟩
  all_goals
    go_enter Tryd.func12, Tryd.ntmps12
    go_upto_region 1 with (fail)
    change Code.wp _ _ _ _ (w.alloc (.cells #[.slice A3 k3 c3, .int .i64 index, .int .i64 count, .int .i64 size, .slice PA pn pc] 43))
    rw [HO.out]
    clear HO
    go_upto_region 2 with (go_at_call 38; refine HMD.out.mono ?_; rintro e w1 ⟨rfl, b1⟩)
    obtain ⟨w2, hW2⟩ : ∃ w2, (w1.alloc (.cells #[.pointer none] 47)).alloc (.cells #[.int .i64 0, .slice none 0 0] 69) = w2 := ⟨_, rfl⟩
    have b2 : Below w1.heap.size w1 w2 := hW2 ▸ Below.on (Below.new1 _ _) (Below.new1 _ _)
    change Code.wp _ _ _ _ ((w1.alloc (.cells #[.pointer none] 47)).alloc (.cells #[.int .i64 0, .slice none 0 0] 69))
    rw [hW2]
    have B2 := Below.on b1 b2
    have hk2 := hk0.next B2
    clear hW2
    go_wp2_with (go_at_call 17; refine (HA.out _ hk2).mono ?_; rintro e w7 ⟨rfl, b7⟩)
    go_ret
    exact ⟨rfl, Below.on (Below.on B0 B2) b7⟩
set_option maxRecDepth 100000 in
set_option maxHeartbeats 4000000 in
theorem exact_long (ts : List UInt8) (index count size : Int) (A A3 PA : Option Addr) (lo hi : Int) (n c k3 c3 pn pc : Nat) (w : World) (hn : ts.length = n) (h1 : 1 ≤ n) (h60 : n ≤ 60) (hT : Tags w A ts) (hk : Kon w) (h30 : 40 < pn ∨ (pn ≤ 40 ∧ 40 < k3)) : Calls Tryd.prog 12 #[.slice A n c, .int .i64 lo, .int .i64 hi, claimV A3 k3 c3 index count size PA pn pc] w fun e w' => e = .returned (.bool true) ∧ Below w.heap.size w w' := by
  obtain ⟨w0, hW0⟩ : ∃ w0, w.alloc (.cells #[.slice A3 k3 c3, .int .i64 index, .int .i64 count, .int .i64 size, .slice PA pn pc] 43) = w0 := ⟨_, rfl⟩
  have B0 : Below w.heap.size w w0 := hW0 ▸ Below.new1 _ _
  have x5 : BoxC w0 w.heap.size A3 k3 c3 index count size PA pn pc := hW0 ▸ BoxC.new w A3 k3 c3 index count size PA pn pc
  have hk0 := hk.next B0
  have HO := Lib.hid hW0
  have hmd := fun W (h : Tags W A ts) => made_yes ts A n c W hn h1 h60 h
  unfold MadePost at hmd
  rw [hn] at hmd
  obtain ⟨m, hm⟩ : ∃ m, (ofR ts).length = m := ⟨_, rfl⟩
  rw [hm] at hmd
  generalize ofR ts = R at *
  generalize ofL ts = L at *
  have HMD := Lib.hid hmd
  have HA := Lib.hid (fun W kon => awake_any W kon)
  have j1 : ((n : Int) == 0) = false := by simp; omega
  have j2 : ¬ (60 : Int) < n := by omega
  have hx : (40 : Int) < pn ∨ (¬ (40 : Int) < pn ∧ (40 : Int) < k3) := by omega
  clear hmd hn hm hk hW0 h1 h60 h30
  rcases hx with j3 | ⟨j3, j4⟩
  all_goals
    go_enter Tryd.func12, Tryd.ntmps12
    go_upto_region 1 with (fail)
    change Code.wp _ _ _ _ (w.alloc (.cells #[.slice A3 k3 c3, .int .i64 index, .int .i64 count, .int .i64 size, .slice PA pn pc] 43))
    rw [HO.out]
    clear HO
    go_upto_region 2 with (go_at_call 38; refine (HMD.out _ (hT.next B0)).mono ?_; rintro e w1 ⟨p, A1, c1, rfl, hp1, hO1, b1⟩)
    obtain ⟨w2, hW2⟩ : ∃ w2, (w1.alloc (.cells #[.pointer p] 47)).alloc (.cells #[.int .i64 (n : Int), .slice A1 m c1] 69) = w2 := ⟨_, rfl⟩
    have b2 : Below w1.heap.size w1 w2 := hW2 ▸ Below.on (Below.new1 _ _) (Below.new1 _ _)
    have x7 : Boxed w2 w1.heap.size 47 (.pointer p) := hW2 ▸ (Boxed.new w1 _ _).alloc _
    have x8 : BoxM w2 (w1.heap.size + 1) n (.slice A1 m c1) := by
      have := BoxM.new (w1.alloc (.cells #[.pointer p] 47)) n (.slice A1 m c1)
      rw [World.size_alloc] at this; exact hW2 ▸ this
    have hp2 := hp1.below b2
    have hRc : Runs w2 A1 R ∧ R.length ≤ c1 := by
      obtain ⟨A', c', e, hc', h⟩ := (hO1.next b2).runs
      cases e; exact ⟨h, hc'⟩
    obtain ⟨hR2, hc1⟩ := hRc
    change Code.wp _ _ _ _ ((w1.alloc (.cells #[.pointer p] 47)).alloc (.cells #[.int .i64 (n : Int), .slice A1 m c1] 69))
    rw [hW2]
    have B2 := Below.on b1 b2
    have z5 := x5.next B2
    have hk2 := hk0.next B2
    have c7 := x7.cell
    have c80 := x8.c0
    have c56 := z5.c4
    have c50 := z5.c0
    clear hW2 hT x5 x7 x8 hp1 hp2 hO1 hR2 z5 c7
    go_wp2_with (go_at_call 17; refine (HA.out _ hk2).mono ?_; rintro e w7 ⟨rfl, b7⟩)
    go_ret
    exact ⟨rfl, Below.on (Below.on B0 B2) b7⟩
set_option maxRecDepth 100000 in
set_option maxHeartbeats 4000000 in
theorem exact_no (ts : List UInt8) (X3 : List Rn) (index count size : Int) (path : List Bs) (A A3 PA : Option Addr) (lo hi : Int)  (n c k3 c3 pn pc : Nat) (w : World) (hn : ts.length = n) (h1 : 1 ≤ n) (h60 : n ≤ 60) (hT : Tags w A ts) (hR3 : Runs w A3 X3) (hk3 : X3.length = k3) (hkc : k3 ≤ c3) (hk40 : k3 ≤ 40) (hs : Hs w PA path) (hpn : path.length = pn) (hpc : pn ≤ pc) (h30 : pn ≤ 40) (hk : Kon w) (l0 : 0 ≤ lo) (l1 : lo < hi) (l2 : hi ≤ n) (hac : acceptM (rootO ts) lo hi X3 index count size path = false) : Calls Tryd.prog 12 #[.slice A n c, .int .i64 lo, .int .i64 hi, claimV A3 k3 c3 index count size PA pn pc] w fun e w' => e = .returned (.bool true) ∧ Below w.heap.size w w' := by
  obtain ⟨w0, hW0⟩ : ∃ w0, w.alloc (.cells #[.slice A3 k3 c3, .int .i64 index, .int .i64 count, .int .i64 size, .slice PA pn pc] 43) = w0 := ⟨_, rfl⟩
  have B0 : Below w.heap.size w w0 := hW0 ▸ Below.new1 _ _
  have x5 : BoxC w0 w.heap.size A3 k3 c3 index count size PA pn pc := hW0 ▸ BoxC.new w A3 k3 c3 index count size PA pn pc
  have hk0 := hk.next B0
  have HO := Lib.hid hW0
  have hs0 := hs.next B0
  have hR30 := hR3.below B0
  have hroot : (rootO ts).length = 32 := rootO_length ts
  have hmd := fun W (h : Tags W A ts) => made_yes ts A n c W hn h1 h60 h
  unfold MadePost at hmd
  rw [hn] at hmd
  have hmr := fun W p (h : Rep W p (ofL ts)) (kon : Kon W) => mapRoot_any W p (ofL ts) h kon
  rw [mapRoot_of (by omega) (by omega)] at hmr
  have hacc := fun W (hR : Runs W A3 X3) (h : Hs W PA path) (kon : Kon W) => accept_any (rootO ts) lo hi X3 A3 k3 c3 index count size path PA pn pc W hk3 hR hkc h hpn hpc (by omega) kon hroot
  rw [hac] at hacc
  have hcut := cutO_length (ts := ts) (lo := lo) (hi := hi) (by omega) (by omega) l0 l1 (by omega)
  have hout := outO_length (ts := ts) (by omega) lo hi
  have hrg := fun W p (h : Rep W p (ofL ts)) (kon : Kon W) => range_of (ts := ts) (lo := lo) (hi := hi) (by omega) (by omega) l0 l1 (by omega) W p h kon
  rw [hn] at hrg
  have hown := own_acc (ts := ts) (lo := lo) (hi := hi) (by omega) (by omega) l0 l1 (by omega)
  rw [hn] at hown
  have hac0 := fun W A' m' c' PA' pn' pc' (hm' : (cutO ts lo hi).length = m') (hR : Runs W A' (cutO ts lo hi)) (hc' : m' ≤ c') (h : Hs W PA' (outO ts lo hi)) (hpn' : (outO ts lo hi).length = pn') (hpc' : pn' ≤ pc') (kon : Kon W) => accept_any (rootO ts) lo hi (cutO ts lo hi) A' m' c' (fromM lo (ofR ts) : Nat) (ofR ts).length n (outO ts lo hi) PA' pn' pc' W hm' hR hc' h hpn' hpc' (by omega) kon hroot
  rw [hown] at hac0
  have hmle := (ofR_spec ts).2.2.2.2.1
  generalize rootO ts = root at *
  generalize ofL ts = L at *
  generalize outO ts lo hi = V at *
  clear hcut hown
  generalize cutO ts lo hi = D at *
  obtain ⟨f, hf⟩ : ∃ f, fromM lo (ofR ts) = f := ⟨_, rfl⟩
  rw [hf] at hac0 hrg
  obtain ⟨m, hm⟩ : ∃ m, (ofR ts).length = m := ⟨_, rfl⟩
  rw [hm] at hmd hmle hac0 hrg
  generalize ofR ts = R at *
  have HMD := Lib.hid hmd
  have HMR := Lib.hid hmr
  have HAC := Lib.hid hacc
  have HA := Lib.hid (fun W kon => awake_any W kon)
  have HROOT := Lib.hid hroot
  have HRL := Lib.hid hm
  have HRG := Lib.hid hrg
  have HAO := Lib.hid hac0
  have ml5 : m ≤ 60 := by omega
  have j1 : ((n : Int) == 0) = false := by simp; omega
  have j2 : ¬ (60 : Int) < n := by omega
  have j3 : ¬ (40 : Int) < pn := by omega
  have j4 : ¬ (40 : Int) < k3 := by omega
  clear hmd hmr hacc hac hroot hn hm hmle hk hW0 h1 h60 h30 hs hpn hpc hR3 hk3 hkc hk40 hrg hac0 hf hout
  go_enter Tryd.func12, Tryd.ntmps12
  go_upto_region 1 with (fail)
  change Code.wp _ _ _ _ (w.alloc (.cells #[.slice A3 k3 c3, .int .i64 index, .int .i64 count, .int .i64 size, .slice PA pn pc] 43))
  rw [HO.out]
  clear HO
  go_upto_region 2 with (go_at_call 38; refine (HMD.out _ (hT.next B0)).mono ?_; rintro e w1 ⟨p, A1, c1, rfl, hp1, hO1, b1⟩)
  obtain ⟨w2, hW2⟩ : ∃ w2, (w1.alloc (.cells #[.pointer p] 47)).alloc (.cells #[.int .i64 (n : Int), .slice A1 m c1] 69) = w2 := ⟨_, rfl⟩
  have b2 : Below w1.heap.size w1 w2 := hW2 ▸ Below.on (Below.new1 _ _) (Below.new1 _ _)
  have x7 : Boxed w2 w1.heap.size 47 (.pointer p) := hW2 ▸ (Boxed.new w1 _ _).alloc _
  have x8 : BoxM w2 (w1.heap.size + 1) n (.slice A1 m c1) := by
    have := BoxM.new (w1.alloc (.cells #[.pointer p] 47)) n (.slice A1 m c1)
    rw [World.size_alloc] at this; exact hW2 ▸ this
  have hp2 := hp1.below b2
  have hRc : Runs w2 A1 R ∧ R.length ≤ c1 := by
    obtain ⟨A', c', e, hc', h⟩ := (hO1.next b2).runs
    cases e; exact ⟨h, hc'⟩
  obtain ⟨hR2, hc1⟩ := hRc
  change Code.wp _ _ _ _ ((w1.alloc (.cells #[.pointer p] 47)).alloc (.cells #[.int .i64 (n : Int), .slice A1 m c1] 69))
  rw [hW2]
  have B2 := Below.on b1 b2
  have z5 := x5.next B2
  have hk2 := hk0.next B2
  have c7 := x7.cell
  have c80 := x8.c0
  have hs2 := hs0.next B2
  have hR32 := hR30.below B2
  have c56 := z5.c4
  have c50 := z5.c0
  have BB := Below.on B0 B2
  generalize w1.heap.size = g7 at *
  clear hW2 hT x5 x7 hp1 hO1 b1 b2 B0 B2 hs0 hk0 hR30
  go_upto_region 7 with (first
    | (go_at_call 25; refine (HMR.out _ p hp2 hk2).mono ?_; rintro e w3 ⟨rfl, b3⟩)
    | ((with_reducible refine wpList_storeH ?_ (.tmp 12) (.tmp 60) ?_ w3.heap.size root ?_ ?_ (BoxA.new w3 30 .u8 (List.replicate 32 0) _ rfl) (by simp) HROOT.out ?_); rfl; rfl; rfl; rfl))
  obtain ⟨w4, hW4⟩ : ∃ w4, World.setRow (World.alloc w3 (.cells (ints .u8 (List.replicate 32 0)) 30)) w3.heap.size (ints .u8 (nums root)) = w4 := ⟨_, rfl⟩
  have y10 : BoxH w4 w3.heap.size root := hW4 ▸ (BoxA.new w3 30 .u8 (List.replicate 32 0) _ rfl).setRow (l' := nums root)
  have b4 : Below w3.heap.size w3 w4 := hW4 ▸ below_setRow (Below.new1 w3 _) (Nat.le_refl _) _
  change Code.wp _ _ _ _ (World.setRow (World.alloc w3 (.cells (ints .u8 (List.replicate 32 0)) 30)) w3.heap.size (ints .u8 (nums root)))
  rw [hW4]
  have B4 := Below.on b3 b4
  have BB4 := Below.on BB B4
  have hp4 := hp2.below B4
  have hk4 := hk2.next B4
  have hs4 := hs2.next B4
  have hR4 := hR2.below B4
  have hR34 := hR32.below B4
  have v5 := z5.next B4
  have v8 := x8.next B4
  replace c7 := cell_kept B4 c7
  replace c80 := v8.c0
  generalize w3.heap.size = g10 at *
  clear hW4 b3 b4 hp2 hk2 hs2 hR2 hR32 z5 x8 c56 c50 B4 BB HMR HMD
  go_upto_region 9 with (go_at_call 27; refine (HRG.out _ p hp4 hk4).mono ?_; rintro e w5 ⟨A', m', c', PA', pn', pc', rfl, hOa, hO5, b5⟩)
  obtain ⟨w6, hW6⟩ : ∃ w6, World.alloc w5 (.cells #[.slice A' m' c', .int .i64 f, .int .i64 m, .int .i64 n, .slice PA' pn' pc'] 43) = w6 := ⟨_, rfl⟩
  have y12 : BoxC w6 w5.heap.size A' m' c' f m n PA' pn' pc' := hW6 ▸ BoxC.new w5 A' m' c' f m n PA' pn' pc'
  have b6 : Below w5.heap.size w5 w6 := hW6 ▸ Below.new1 _ _
  change Code.wp _ _ _ _ (World.alloc w5 (.cells #[.slice A' m' c', .int .i64 f, .int .i64 m, .int .i64 n, .slice PA' pn' pc'] 43))
  rw [hW6]
  have hO6 := hO5.next b6
  have B6 := Below.on b5 b6
  have z10 : BoxH w6 g10 root := BoxA.next y10 B6
  have hk6 := hk4.next B6
  obtain ⟨PAx, pcx, ex, hpx, hsx⟩ := hO6.toHs
  simp only [Value.slice.injEq] at ex
  obtain ⟨ex1, ex2, ex3⟩ := ex
  rw [← ex1] at hsx
  rw [← ex2, ← ex3] at hpx
  obtain ⟨Ax, cx, ey, hcx, hRx⟩ := (hOa.next b6).runs
  simp only [Value.slice.injEq] at ey
  obtain ⟨ey1, ey2, ey3⟩ := ey
  rw [← ey1] at hRx
  rw [← ey2, ← ey3] at hcx
  have HX2 := Lib.hid ex2.symm
  have HY2 := Lib.hid ey2.symm
  clear ex1 ex2 ex3 ey1 ey2 ey3 hOa
  generalize w5.heap.size = g12 at *
  go_upto_region 11 with (first
    | ((with_reducible refine wpList_load_if (o := ⟨some 87, _, _, _, _, _⟩) ?_ 30 (.tmp 12) ?_ (hashV root) ?_ ?_); rfl; rfl; exact (BoxH.load_ z10 HROOT.out))
    | ((with_reducible refine wpList_load_if (o := ⟨some 90, _, _, _, _, _⟩) ?_ 43 (.tmp 14) ?_ (claimV A' m' c' f m n PA' pn' pc') ?_ ?_); rfl; rfl; exact y12.load_)
    | (go_at_call 23; refine (HAO.out _ _ _ _ _ _ _ HY2.out hRx hcx hsx HX2.out hpx hk6).mono ?_; rintro e w7 ⟨rfl, b7⟩))
  have B7 := Below.on B6 b7
  have BB7 := Below.on BB4 B7
  have hk7 := hk4.next B7
  have hs7 := hs4.next B7
  have hR7 := hR4.below B7
  have hR37 := hR34.below B7
  have u5 := v5.next B7
  have u8 := v8.next B7
  have u10 : BoxH w7 g10 root := BoxA.next y10 B7
  replace c80 := u8.c0
  clear hW6 b5 b6 b7 hO5 hO6 hsx hpx hRx hcx HX2 HY2 y12 z10 hk6 HAO HRG hp4 hk4 hs4 hR4 hR34 v5 v8 y10 B6 B7 BB4 c7
  go_upto_region 12 with (first
    | ((with_reducible refine wpList_load_if (o := ⟨some 94, _, _, _, _, _⟩) ?_ 30 (.tmp 12) ?_ (hashV root) ?_ ?_); rfl; rfl; exact (BoxH.load_ u10 HROOT.out))
    | ((with_reducible refine wpList_load_if (o := ⟨some 97, _, _, _, _, _⟩) ?_ 43 (.tmp 7) ?_ (claimV A3 k3 c3 index count size PA pn pc) ?_ ?_); rfl; rfl; exact u5.load_)
    | (go_at_call 23; refine (HAC.out _ hR37 hs7 hk7).mono ?_; rintro e w8 ⟨rfl, b8⟩))
  have hk8 := hk7.next b8
  replace c80 := cell_kept b8 c80
  clear hk7 hs7 hR7 hR37 u5 u8 u10
  go_wp2_with (go_at_call 17; refine (HA.out _ hk8).mono ?_; rintro e w9 ⟨rfl, b9⟩)
  go_ret
  exact ⟨rfl, Below.on (Below.on BB7 b8) b9⟩
set_option maxRecDepth 100000 in
set_option maxHeartbeats 4000000 in
theorem exact_yes (ts : List UInt8) (X3 : List Rn) (index count size : Int) (path : List Bs) (A A3 PA : Option Addr) (lo hi : Int)  (n c k3 c3 pn pc : Nat) (w : World) (hn : ts.length = n) (h1 : 1 ≤ n) (h60 : n ≤ 60) (hT : Tags w A ts) (hR3 : Runs w A3 X3) (hk3 : X3.length = k3) (hkc : k3 ≤ c3) (hk40 : k3 ≤ 40) (hs : Hs w PA path) (hpn : path.length = pn) (hpc : pn ≤ pc) (h30 : pn ≤ 40) (hk : Kon w) (l0 : 0 ≤ lo) (l1 : lo < hi) (l2 : hi ≤ n) (hac : acceptM (rootO ts) lo hi X3 index count size path = true) (hal : X3 = cutO ts lo hi) : Calls Tryd.prog 12 #[.slice A n c, .int .i64 lo, .int .i64 hi, claimV A3 k3 c3 index count size PA pn pc] w fun e w' => e = .returned (.bool true) ∧ Below w.heap.size w w' := by
  obtain ⟨w0, hW0⟩ : ∃ w0, w.alloc (.cells #[.slice A3 k3 c3, .int .i64 index, .int .i64 count, .int .i64 size, .slice PA pn pc] 43) = w0 := ⟨_, rfl⟩
  have B0 : Below w.heap.size w w0 := hW0 ▸ Below.new1 _ _
  have x5 : BoxC w0 w.heap.size A3 k3 c3 index count size PA pn pc := hW0 ▸ BoxC.new w A3 k3 c3 index count size PA pn pc
  have hk0 := hk.next B0
  have HO := Lib.hid hW0
  have hs0 := hs.next B0
  have hR30 := hR3.below B0
  have hroot : (rootO ts).length = 32 := rootO_length ts
  have hmd := fun W (h : Tags W A ts) => made_yes ts A n c W hn h1 h60 h
  unfold MadePost at hmd
  rw [hn] at hmd
  have hmr := fun W p (h : Rep W p (ofL ts)) (kon : Kon W) => mapRoot_any W p (ofL ts) h kon
  rw [mapRoot_of (by omega) (by omega)] at hmr
  have hacc := fun W (hR : Runs W A3 X3) (h : Hs W PA path) (kon : Kon W) => accept_any (rootO ts) lo hi X3 A3 k3 c3 index count size path PA pn pc W hk3 hR hkc h hpn hpc (by omega) kon hroot
  rw [hac] at hacc
  have hcut := cutO_length (ts := ts) (lo := lo) (hi := hi) (by omega) (by omega) l0 l1 (by omega)
  have hout := outO_length (ts := ts) (by omega) lo hi
  have hrg := fun W p (h : Rep W p (ofL ts)) (kon : Kon W) => range_of (ts := ts) (lo := lo) (hi := hi) (by omega) (by omega) l0 l1 (by omega) W p h kon
  rw [hn] at hrg
  have hown := own_acc (ts := ts) (lo := lo) (hi := hi) (by omega) (by omega) l0 l1 (by omega)
  rw [hn] at hown
  have hac0 := fun W A' m' c' PA' pn' pc' (hm' : (cutO ts lo hi).length = m') (hR : Runs W A' (cutO ts lo hi)) (hc' : m' ≤ c') (h : Hs W PA' (outO ts lo hi)) (hpn' : (outO ts lo hi).length = pn') (hpc' : pn' ≤ pc') (kon : Kon W) => accept_any (rootO ts) lo hi (cutO ts lo hi) A' m' c' (fromM lo (ofR ts) : Nat) (ofR ts).length n (outO ts lo hi) PA' pn' pc' W hm' hR hc' h hpn' hpc' (by omega) kon hroot
  rw [hown] at hac0
  obtain ⟨cv1, cv2, cv3⟩ := cover_of (ts := ts) (lo := lo) (hi := hi) (by omega) (by omega) l0 l1 (by omega)
  have hml := (ofR_spec ts).2.2.2.2.1
  have hcv := fun W A1 c1 (h : Runs W A1 (ofR ts)) => rcover_any n (ofR ts) A1 (ofR ts).length c1 lo hi W rfl (by omega) h
  rw [cv1, cv2] at hcv
  obtain ⟨hca, hcb, hcc', hcd⟩ := hcut
  have hq1 : fromM lo (ofR ts) + (cutO ts lo hi).length ≤ (ofR ts).length := by omega
  have hcu := fun W A1 c1 (h : Runs W A1 (ofR ts)) (hc : (ofR ts).length ≤ c1) => (h.cutR (fromM lo (ofR ts)) c1 hc).take (cutO ts lo hi).length
  rw [← cv3] at hcu
  have hak : ∀ W A9 c9, Runs W A3 X3 → Runs W A9 (cutO ts lo hi) → (cutO ts lo hi).length ≤ c9 → Calls Tryd.prog 41 #[.slice A3 k3 c3, .slice A9 (cutO ts lo hi).length c9] W fun e w' => e = .returned (.bool true) ∧ Below W.heap.size W w' := fun W A9 c9 ha hb hc => by
    have := ralike_any X3 (cutO ts lo hi) A3 A9 c3 c9 W ha hb (by omega) hc (by omega) (by omega)
    rw [hk3] at this
    refine this.mono ?_
    rintro e w' ⟨⟨x, rfl, hx⟩, b⟩
    refine ⟨?_, b⟩
    cases x with
    | true => rfl
    | false => exact absurd (hx.2 hal) (by simp)
  have hmle := (ofR_spec ts).2.2.2.2.1
  generalize rootO ts = root at *
  generalize ofL ts = L at *
  generalize outO ts lo hi = V at *
  clear hca hcc' hcd cv3 cv1 cv2 hown
  obtain ⟨q, hql⟩ : ∃ q, (cutO ts lo hi).length = q := ⟨_, rfl⟩
  rw [hql] at hcv hq1 hak hcb
  generalize cutO ts lo hi = D at *
  obtain ⟨f, hf⟩ : ∃ f, fromM lo (ofR ts) = f := ⟨_, rfl⟩
  rw [hf] at hcv hq1 hcu hac0 hrg
  obtain ⟨m, hm⟩ : ∃ m, (ofR ts).length = m := ⟨_, rfl⟩
  rw [hm] at hmd hmle hac0 hrg hcv hq1 hcu hml
  generalize ofR ts = R at *
  have HMD := Lib.hid hmd
  have HMR := Lib.hid hmr
  have HAC := Lib.hid hacc
  have HA := Lib.hid (fun W kon => awake_any W kon)
  have HROOT := Lib.hid hroot
  have HRL := Lib.hid hm
  have HRG := Lib.hid hrg
  have HAO := Lib.hid hac0
  have ml5 : m ≤ 60 := by omega
  have HCV := Lib.hid hcv
  have HCU := Lib.hid hcu
  have HAK := Lib.hid hak
  have HFQ := Lib.hid hq1
  have HQL := Lib.hid hql
  have wf : IntKind.i64.wrap ((f : Int) + (q : Int)) = ((f + q : Nat) : Int) := by rw [show (f : Int) + (q : Int) = ((f + q : Nat) : Int) from by omega]; exact IntWalk.i64_in _ (by omega)
  have HWF := Lib.hid wf
  clear wf
  have j1 : ((n : Int) == 0) = false := by simp; omega
  have j2 : ¬ (60 : Int) < n := by omega
  have j3 : ¬ (40 : Int) < pn := by omega
  have j4 : ¬ (40 : Int) < k3 := by omega
  clear hmd hmr hacc hac hroot hn hm hmle hk hW0 h1 h60 h30 hs hpn hpc hR3 hk3 hkc hk40 hrg hac0 hf hout hcv hcu hak hq1 hml hql hcb hal
  go_enter Tryd.func12, Tryd.ntmps12
  go_upto_region 1 with (fail)
  change Code.wp _ _ _ _ (w.alloc (.cells #[.slice A3 k3 c3, .int .i64 index, .int .i64 count, .int .i64 size, .slice PA pn pc] 43))
  rw [HO.out]
  clear HO
  go_upto_region 2 with (go_at_call 38; refine (HMD.out _ (hT.next B0)).mono ?_; rintro e w1 ⟨p, A1, c1, rfl, hp1, hO1, b1⟩)
  obtain ⟨w2, hW2⟩ : ∃ w2, (w1.alloc (.cells #[.pointer p] 47)).alloc (.cells #[.int .i64 (n : Int), .slice A1 m c1] 69) = w2 := ⟨_, rfl⟩
  have b2 : Below w1.heap.size w1 w2 := hW2 ▸ Below.on (Below.new1 _ _) (Below.new1 _ _)
  have x7 : Boxed w2 w1.heap.size 47 (.pointer p) := hW2 ▸ (Boxed.new w1 _ _).alloc _
  have x8 : BoxM w2 (w1.heap.size + 1) n (.slice A1 m c1) := by
    have := BoxM.new (w1.alloc (.cells #[.pointer p] 47)) n (.slice A1 m c1)
    rw [World.size_alloc] at this; exact hW2 ▸ this
  have hp2 := hp1.below b2
  have hRc : Runs w2 A1 R ∧ R.length ≤ c1 := by
    obtain ⟨A', c', e, hc', h⟩ := (hO1.next b2).runs
    cases e; exact ⟨h, hc'⟩
  obtain ⟨hR2, hc1⟩ := hRc
  change Code.wp _ _ _ _ ((w1.alloc (.cells #[.pointer p] 47)).alloc (.cells #[.int .i64 (n : Int), .slice A1 m c1] 69))
  rw [hW2]
  have B2 := Below.on b1 b2
  have z5 := x5.next B2
  have hk2 := hk0.next B2
  have c7 := x7.cell
  have c80 := x8.c0
  have hs2 := hs0.next B2
  have hR32 := hR30.below B2
  have c56 := z5.c4
  have c50 := z5.c0
  have BB := Below.on B0 B2
  generalize w1.heap.size = g7 at *
  clear hW2 hT x5 x7 hp1 hO1 b1 b2 B0 B2 hs0 hk0 hR30
  go_upto_region 7 with (first
    | (go_at_call 25; refine (HMR.out _ p hp2 hk2).mono ?_; rintro e w3 ⟨rfl, b3⟩)
    | ((with_reducible refine wpList_storeH ?_ (.tmp 12) (.tmp 60) ?_ w3.heap.size root ?_ ?_ (BoxA.new w3 30 .u8 (List.replicate 32 0) _ rfl) (by simp) HROOT.out ?_); rfl; rfl; rfl; rfl))
  obtain ⟨w4, hW4⟩ : ∃ w4, World.setRow (World.alloc w3 (.cells (ints .u8 (List.replicate 32 0)) 30)) w3.heap.size (ints .u8 (nums root)) = w4 := ⟨_, rfl⟩
  have y10 : BoxH w4 w3.heap.size root := hW4 ▸ (BoxA.new w3 30 .u8 (List.replicate 32 0) _ rfl).setRow (l' := nums root)
  have b4 : Below w3.heap.size w3 w4 := hW4 ▸ below_setRow (Below.new1 w3 _) (Nat.le_refl _) _
  change Code.wp _ _ _ _ (World.setRow (World.alloc w3 (.cells (ints .u8 (List.replicate 32 0)) 30)) w3.heap.size (ints .u8 (nums root)))
  rw [hW4]
  have B4 := Below.on b3 b4
  have BB4 := Below.on BB B4
  have hp4 := hp2.below B4
  have hk4 := hk2.next B4
  have hs4 := hs2.next B4
  have hR4 := hR2.below B4
  have hR34 := hR32.below B4
  have v5 := z5.next B4
  have v8 := x8.next B4
  replace c7 := cell_kept B4 c7
  replace c80 := v8.c0
  generalize w3.heap.size = g10 at *
  clear hW4 b3 b4 hp2 hk2 hs2 hR2 hR32 z5 x8 c56 c50 B4 BB HMR HMD
  go_upto_region 9 with (go_at_call 27; refine (HRG.out _ p hp4 hk4).mono ?_; rintro e w5 ⟨A', m', c', PA', pn', pc', rfl, hOa, hO5, b5⟩)
  obtain ⟨w6, hW6⟩ : ∃ w6, World.alloc w5 (.cells #[.slice A' m' c', .int .i64 f, .int .i64 m, .int .i64 n, .slice PA' pn' pc'] 43) = w6 := ⟨_, rfl⟩
  have y12 : BoxC w6 w5.heap.size A' m' c' f m n PA' pn' pc' := hW6 ▸ BoxC.new w5 A' m' c' f m n PA' pn' pc'
  have b6 : Below w5.heap.size w5 w6 := hW6 ▸ Below.new1 _ _
  change Code.wp _ _ _ _ (World.alloc w5 (.cells #[.slice A' m' c', .int .i64 f, .int .i64 m, .int .i64 n, .slice PA' pn' pc'] 43))
  rw [hW6]
  have hO6 := hO5.next b6
  have B6 := Below.on b5 b6
  have z10 : BoxH w6 g10 root := BoxA.next y10 B6
  have hk6 := hk4.next B6
  obtain ⟨PAx, pcx, ex, hpx, hsx⟩ := hO6.toHs
  simp only [Value.slice.injEq] at ex
  obtain ⟨ex1, ex2, ex3⟩ := ex
  rw [← ex1] at hsx
  rw [← ex2, ← ex3] at hpx
  obtain ⟨Ax, cx, ey, hcx, hRx⟩ := (hOa.next b6).runs
  simp only [Value.slice.injEq] at ey
  obtain ⟨ey1, ey2, ey3⟩ := ey
  rw [← ey1] at hRx
  rw [← ey2, ← ey3] at hcx
  have HX2 := Lib.hid ex2.symm
  have HY2 := Lib.hid ey2.symm
  clear ex1 ex2 ex3 ey1 ey2 ey3 hOa
  generalize w5.heap.size = g12 at *
  go_upto_region 11 with (first
    | ((with_reducible refine wpList_load_if (o := ⟨some 87, _, _, _, _, _⟩) ?_ 30 (.tmp 12) ?_ (hashV root) ?_ ?_); rfl; rfl; exact (BoxH.load_ z10 HROOT.out))
    | ((with_reducible refine wpList_load_if (o := ⟨some 90, _, _, _, _, _⟩) ?_ 43 (.tmp 14) ?_ (claimV A' m' c' f m n PA' pn' pc') ?_ ?_); rfl; rfl; exact y12.load_)
    | (go_at_call 23; refine (HAO.out _ _ _ _ _ _ _ HY2.out hRx hcx hsx HX2.out hpx hk6).mono ?_; rintro e w7 ⟨rfl, b7⟩))
  have B7 := Below.on B6 b7
  have BB7 := Below.on BB4 B7
  have hk7 := hk4.next B7
  have hs7 := hs4.next B7
  have hR7 := hR4.below B7
  have hR37 := hR34.below B7
  have u5 := v5.next B7
  have u8 := v8.next B7
  have u10 : BoxH w7 g10 root := BoxA.next y10 B7
  replace c80 := u8.c0
  clear hW6 b5 b6 b7 hO5 hO6 hsx hpx hRx hcx HX2 HY2 y12 z10 hk6 HAO HRG hp4 hk4 hs4 hR4 hR34 v5 v8 y10 B6 B7 BB4 c7
  go_upto_region 13 with (first
    | ((with_reducible refine wpList_load_if (o := ⟨some 94, _, _, _, _, _⟩) ?_ 30 (.tmp 12) ?_ (hashV root) ?_ ?_); rfl; rfl; exact (BoxH.load_ u10 HROOT.out))
    | ((with_reducible refine wpList_load_if (o := ⟨some 97, _, _, _, _, _⟩) ?_ 43 (.tmp 7) ?_ (claimV A3 k3 c3 index count size PA pn pc) ?_ ?_); rfl; rfl; exact u5.load_)
    | (go_at_call 23; refine (HAC.out _ hR37 hs7 hk7).mono ?_; rintro e w8 ⟨rfl, b8⟩))
  have hk8 := hk7.next b8
  replace c80 := cell_kept b8 c80
  have q5 := u5.next b8
  have q8 := u8.next b8
  have hR8 := hR7.below b8
  have hR38 := hR37.below b8
  have hs8 := hs7.next b8
  have BB8 := Below.on BB7 b8
  have d81 := q8.c1
  clear hk7 hs7 hR7 hR37 u5 u8 u10 BB7 b8
  obtain ⟨g5, hg5⟩ : ∃ k, w.heap.size = k := ⟨_, rfl⟩
  have HG5 := Lib.hid hg5
  rw [hg5] at q5 ⊢
  clear hg5
  go_upto_region 15 with (first
    | ((with_reducible refine wpList_load_if (o := ⟨some 115, _, _, _, _, _⟩) ?_ 69 (.tmp 10) ?_ (.agg #[.int .i64 (n : Int), .slice A1 m c1]) ?_ ?_); rfl; rfl; exact BoxM.load_ q8)
    | (go_at_call 48; refine (HCV.out _ A1 c1 hR8).mono ?_; rintro e w9 ⟨rfl, b9⟩))
  have q59 := q5.next b9
  have q89 := q8.next b9
  have hR9 := hR8.below b9
  have hR39 := hR38.below b9
  have hs9 := hs8.next b9
  have hk9 := hk8.next b9
  have BB9 := Below.on BB8 b9
  have C50 := Lib.hid q59.c0
  have C81 := Lib.hid q89.c1
  have mc1 : m ≤ c1 := by have := HRL.out; omega
  have fq : f + q ≤ m := HFQ.out
  clear q5 q8 hR8 hR38 hs8 hk8 b9 c80 d81 HCV
  refine wp_name fun a0 ha0 => ?_
  have e7 : a0.eval (.tmp 7) = .pointer (some ⟨g5, 0, none⟩) := by rw [ha0]; rfl
  have e10 : a0.eval (.tmp 10) = .pointer (some ⟨g7 + 1, 0, none⟩) := by rw [ha0]; rfl
  have e16 : a0.eval (.tmp 16) = .int .i64 (f : Int) := by rw [ha0]; rfl
  have e17 : a0.eval (.tmp 17) = .int .i64 (q : Int) := by rw [ha0]; rfl
  have hz : a0.tmps.size = 196 := by rw [ha0]; rfl
  have HA0 := Lib.hid ha0
  clear ha0
  have SG : ∀ (d d' : Nat → Prop) (W W' : World), (fun (_ : Nat → Prop) (W : World) => Below w9.heap.size w9 W) d W → (∀ j, d j → d' j) → Below W.heap.size W W' → (fun (_ : Nat → Prop) (W : World) => Below w9.heap.size w9 W) d' W' := fun _ _ _ _ h _ b => Below.next h b
  have St : ∀ xc ∈ [(⟨some 0, 121, none, fun v _ => v = .pointer (some ⟨g5, 0, none⟩)⟩ : Cl), ⟨some 1, 122, none, fun v _ => v = .slice A3 k3 c3⟩, ⟨some 2, 123, none, fun v _ => v = .pointer (some ⟨g7 + 1, 1, none⟩)⟩, ⟨some 3, 124, none, fun v _ => v = .slice A1 m c1⟩, ⟨some 4, 125, none, fun v _ => v = .int .i64 (f : Int)⟩, ⟨some 5, 126, none, fun v _ => v = .int .i64 (f : Int)⟩, ⟨some 6, 127, none, fun v _ => v = .int .i64 (q : Int)⟩, ⟨some 7, 128, none, fun v _ => v = .int .i64 ((f + q : Nat) : Int)⟩, ⟨some 8, 129, none, fun v _ => v = .slice (cutR A1 c1 f) (f + q - f) (c1 - f)⟩, ⟨some 9, 130, none, fun v _ => v = .bool true⟩], Lasts xc := AllC.mem ⟨lastsV0 _ _ _ _, lastsV0 _ _ _ _, lastsV0 _ _ _ _, lastsV0 _ _ _ _, lastsV0 _ _ _ _, lastsV0 _ _ _ _, lastsV0 _ _ _ _, lastsV0 _ _ _ _, lastsV0 _ _ _ _, lastsV0 _ _ _ _, trivial⟩
  refine wp_region_steps (Inv [121, 122, 123, 124, 125, 126, 127, 128, 129, 130] a0 (fun (_ : Nat → Prop) (W : World) => Below w9.heap.size w9 W) (lst St)) (by kernel_rfl) (by kernel_rfl) (Inv.start (Below.refl _ _).drew ⟨nofun, nofun, nofun, nofun, nofun, nofun, nofun, nofun, nofun, nofun, trivial⟩) ?_ ?_
  · clear HA0
    refine ⟨?_, ?_, ?_, ?_, ?_, ?_, ?_, ?_, ?_, ?_, trivial⟩
    · refine stepB rfl rfl (by decide) (by rw [hz]; decide) rfl rfl (by kernel_rfl) St SG fun d a W hF hG hH hn hcl hw => ?_
      have q7 := (hF.same 7 (by decide)).trans e7
      exact ⟨.pointer (some ⟨g5, 0, none⟩), W, by clear hF hG hH hn hcl hw; generalize a.eval = ρ at *; go_simp, Below.refl _ _, rfl⟩
    · refine stepB rfl rfl (by decide) (by rw [hz]; decide) rfl rfl (by kernel_rfl) St SG fun d a W hF hG hH hn hcl hw => ?_
      have q121 : a.eval (.tmp 121) = .pointer (some ⟨g5, 0, none⟩) := hH.at_ (i := 0) rfl (hw 0 rfl) id
      have cc0 := cell_kept hG C50.out
      exact ⟨.slice A3 k3 c3, W, by clear hF hG hH hn hcl hw; generalize a.eval = ρ at *; go_simp, Below.refl _ _, rfl⟩
    · refine stepB rfl rfl (by decide) (by rw [hz]; decide) rfl rfl (by kernel_rfl) St SG fun d a W hF hG hH hn hcl hw => ?_
      have q10 := (hF.same 10 (by decide)).trans e10
      exact ⟨.pointer (some ⟨g7 + 1, 1, none⟩), W, by clear hF hG hH hn hcl hw; generalize a.eval = ρ at *; go_simp, Below.refl _ _, rfl⟩
    · refine stepB rfl rfl (by decide) (by rw [hz]; decide) rfl rfl (by kernel_rfl) St SG fun d a W hF hG hH hn hcl hw => ?_
      have q123 : a.eval (.tmp 123) = .pointer (some ⟨g7 + 1, 1, none⟩) := hH.at_ (i := 2) rfl (hw 2 rfl) id
      have cc0 := cell_kept hG C81.out
      exact ⟨.slice A1 m c1, W, by clear hF hG hH hn hcl hw; generalize a.eval = ρ at *; go_simp, Below.refl _ _, rfl⟩
    · refine stepB rfl rfl (by decide) (by rw [hz]; decide) rfl rfl (by kernel_rfl) St SG fun d a W hF hG hH hn hcl hw => ?_
      have q16 := (hF.same 16 (by decide)).trans e16
      exact ⟨.int .i64 (f : Int), W, by clear hF hG hH hn hcl hw; generalize a.eval = ρ at *; go_simp, Below.refl _ _, rfl⟩
    · refine stepB rfl rfl (by decide) (by rw [hz]; decide) rfl rfl (by kernel_rfl) St SG fun d a W hF hG hH hn hcl hw => ?_
      have q16 := (hF.same 16 (by decide)).trans e16
      exact ⟨.int .i64 (f : Int), W, by clear hF hG hH hn hcl hw; generalize a.eval = ρ at *; go_simp, Below.refl _ _, rfl⟩
    · refine stepB rfl rfl (by decide) (by rw [hz]; decide) rfl rfl (by kernel_rfl) St SG fun d a W hF hG hH hn hcl hw => ?_
      have q17 := (hF.same 17 (by decide)).trans e17
      exact ⟨.int .i64 (q : Int), W, by clear hF hG hH hn hcl hw; generalize a.eval = ρ at *; go_simp, Below.refl _ _, rfl⟩
    · refine stepB rfl rfl (by decide) (by rw [hz]; decide) rfl rfl (by kernel_rfl) St SG fun d a W hF hG hH hn hcl hw => ?_
      have q126 : a.eval (.tmp 126) = .int .i64 (f : Int) := hH.at_ (i := 5) rfl (hw 5 rfl) id
      have q127 : a.eval (.tmp 127) = .int .i64 (q : Int) := hH.at_ (i := 6) rfl (hw 6 rfl) id
      have ww := HWF.out
      exact ⟨.int .i64 ((f + q : Nat) : Int), W, by clear hF hG hH hn hcl hw; generalize a.eval = ρ at *; go_simp, Below.refl _ _, rfl⟩
    · refine stepB rfl rfl (by decide) (by rw [hz]; decide) rfl rfl (by kernel_rfl) St SG fun d a W hF hG hH hn hcl hw => ?_
      have q124 : a.eval (.tmp 124) = .slice A1 m c1 := hH.at_ (i := 3) rfl (hw 3 rfl) id
      have q125 : a.eval (.tmp 125) = .int .i64 (f : Int) := hH.at_ (i := 4) rfl (hw 4 rfl) id
      have q128 : a.eval (.tmp 128) = .int .i64 ((f + q : Nat) : Int) := hH.at_ (i := 7) rfl (hw 7 rfl) id
      refine ⟨.slice (cutR A1 c1 f) (f + q - f) (c1 - f), W, ?_, Below.refl _ _, ?_⟩
      · exact exec_sliceR_mid2 rfl q124 q125 q128 (by omega) (by omega)
      · rfl
    · refine stepC rfl rfl (by decide) (by rw [hz]; decide) rfl rfl (by kernel_rfl) St SG fun d a W hF hG hH hn hcl hw => ?_
      have q122 : a.eval (.tmp 122) = .slice A3 k3 c3 := hH.at_ (i := 1) rfl (hw 1 rfl) id
      have q129 : a.eval (.tmp 129) = .slice (cutR A1 c1 f) (f + q - f) (c1 - f) := hH.at_ (i := 8) rfl (hw 8 rfl) id
      have qf : a.eval (.func 41) = .func (.func 41) #[] #[] := rfl
      rw [show f + q - f = q from by omega] at q129
      refine ⟨41, #[.slice A3 k3 c3, .slice (cutR A1 c1 f) q (c1 - f)], ?_, ?_⟩
      · clear hF hG hH hn hcl hw
        generalize a.eval = ρ at *
        go_simp
      · refine (HAK.out W (cutR A1 c1 f) (c1 - f) (hR39.below hG) (HCU.out W A1 c1 (hR9.below hG) (by have := HRL.out; omega)) (by omega)).mono ?_; rintro e W' ⟨rfl, b⟩; exact ⟨_, rfl, b, rfl⟩
  · intro d a W ⟨hF, hB, hH⟩ hall
    have k130 : a.eval (.tmp 130) = .bool true := hH.at_ (i := 9) rfl (hall 9 (by decide)) id
    clear hH hall
    rw [hF.shape (by rw [hz]; decide)]
    clear hF
    simp only [List.foldl]
    generalize a.eval (.tmp 121) = z121, a.eval (.tmp 122) = z122, a.eval (.tmp 123) = z123, a.eval (.tmp 124) = z124, a.eval (.tmp 125) = z125, a.eval (.tmp 126) = z126, a.eval (.tmp 127) = z127, a.eval (.tmp 128) = z128, a.eval (.tmp 129) = z129, a.eval (.tmp 130) = z130 at *
    subst k130
    rw [HA0.out]
    simp only [Act.put, List.setIfInBounds_toArray, List.set_cons_zero, List.set_cons_succ]
    clear hz HA0 St SG e7 e10 e16 e17
    clear a a0
    have hkT := hk9.next hB
    have BBT := Below.on BB9 hB
    clear q59 q89 hR9 hR39 hs9 hk9
    go_wp2_with (go_at_call 17; refine (HA.out _ hkT).mono ?_; rintro e w12 ⟨rfl, b12⟩)
    go_ret
    exact ⟨rfl, Below.on BBT b12⟩
set_option maxRecDepth 100000 in
set_option maxHeartbeats 4000000 in
theorem exact_clash (ts : List UInt8) (X3 : List Rn) (index  size : Int) (path : List Bs) (A A3 PA : Option Addr) (lo hi : Int) (cn : Nat) (n c k3 c3 pn pc : Nat) (w : World) (hn : ts.length = n) (h1 : 1 ≤ n) (h60 : n ≤ 60) (hT : Tags w A ts) (hR3 : Runs w A3 X3) (hk3 : X3.length = k3) (hkc : k3 ≤ c3) (hk40 : k3 ≤ 40) (hs : Hs w PA path) (hpn : path.length = pn) (hpc : pn ≤ pc) (h30 : pn ≤ 40) (hk : Kon w) (hsz : size < 9223372036854775808) (l0 : 0 ≤ lo) (l1 : lo < hi) (l2 : hi ≤ n) (hac : acceptM (rootO ts) lo hi X3 index cn size path = true) (hal : X3 ≠ cutO ts lo hi) (h : Bs) (hh : h.length = 32) (hi0 : 0 ≤ index) (hic : index < cn) (hcn : cn ≤ 4096) (hsz0 : 0 ≤ size) (hfit : ∀ x ∈ X3, Fit x) (hx1 : 1 ≤ k3) (hfo : foldR cn index (X3.map textM) path = (h, path.length, true)) (hcl : ClashL sha (mapT ts.length (ofR ts) ++ foldT sha cn index (X3.map textM) path ++ [sealT size cn h])) : Calls Tryd.prog 12 #[.slice A n c, .int .i64 lo, .int .i64 hi, claimV A3 k3 c3 index (cn : Int) size PA pn pc] w fun e w' => e = .returned (.bool true) ∧ Below w.heap.size w w' := by
  obtain ⟨w0, hW0⟩ : ∃ w0, w.alloc (.cells #[.slice A3 k3 c3, .int .i64 index, .int .i64 (cn : Int), .int .i64 size, .slice PA pn pc] 43) = w0 := ⟨_, rfl⟩
  have B0 : Below w.heap.size w w0 := hW0 ▸ Below.new1 _ _
  have x5 : BoxC w0 w.heap.size A3 k3 c3 index (cn : Int) size PA pn pc := hW0 ▸ BoxC.new w A3 k3 c3 index (cn : Int) size PA pn pc
  have hk0 := hk.next B0
  have HO := Lib.hid hW0
  have hs0 := hs.next B0
  have hR30 := hR3.below B0
  have hroot : (rootO ts).length = 32 := rootO_length ts
  have hmd := fun W (h : Tags W A ts) => made_yes ts A n c W hn h1 h60 h
  unfold MadePost at hmd
  rw [hn] at hmd
  have hmr := fun W p (h : Rep W p (ofL ts)) (kon : Kon W) => mapRoot_any W p (ofL ts) h kon
  rw [mapRoot_of (by omega) (by omega)] at hmr
  have hacc := fun W (hR : Runs W A3 X3) (h : Hs W PA path) (kon : Kon W) => accept_any (rootO ts) lo hi X3 A3 k3 c3 index (cn : Int) size path PA pn pc W hk3 hR hkc h hpn hpc (by omega) kon hroot
  rw [hac] at hacc
  have hcut := cutO_length (ts := ts) (lo := lo) (hi := hi) (by omega) (by omega) l0 l1 (by omega)
  have hout := outO_length (ts := ts) (by omega) lo hi
  have hrg := fun W p (h : Rep W p (ofL ts)) (kon : Kon W) => range_of (ts := ts) (lo := lo) (hi := hi) (by omega) (by omega) l0 l1 (by omega) W p h kon
  rw [hn] at hrg
  have hown := own_acc (ts := ts) (lo := lo) (hi := hi) (by omega) (by omega) l0 l1 (by omega)
  rw [hn] at hown
  have hac0 := fun W A' m' c' PA' pn' pc' (hm' : (cutO ts lo hi).length = m') (hR : Runs W A' (cutO ts lo hi)) (hc' : m' ≤ c') (h : Hs W PA' (outO ts lo hi)) (hpn' : (outO ts lo hi).length = pn') (hpc' : pn' ≤ pc') (kon : Kon W) => accept_any (rootO ts) lo hi (cutO ts lo hi) A' m' c' (fromM lo (ofR ts) : Nat) (ofR ts).length n (outO ts lo hi) PA' pn' pc' W hm' hR hc' h hpn' hpc' (by omega) kon hroot
  rw [hown] at hac0
  obtain ⟨cv1, cv2, cv3⟩ := cover_of (ts := ts) (lo := lo) (hi := hi) (by omega) (by omega) l0 l1 (by omega)
  have hml := (ofR_spec ts).2.2.2.2.1
  have hcv := fun W A1 c1 (h : Runs W A1 (ofR ts)) => rcover_any n (ofR ts) A1 (ofR ts).length c1 lo hi W rfl (by omega) h
  rw [cv1, cv2] at hcv
  obtain ⟨hca, hcb, hcc', hcd⟩ := hcut
  have hq1 : fromM lo (ofR ts) + (cutO ts lo hi).length ≤ (ofR ts).length := by omega
  have hcu := fun W A1 c1 (h : Runs W A1 (ofR ts)) (hc : (ofR ts).length ≤ c1) => (h.cutR (fromM lo (ofR ts)) c1 hc).take (cutO ts lo hi).length
  rw [← cv3] at hcu
  have hak : ∀ W A9 c9, Runs W A3 X3 → Runs W A9 (cutO ts lo hi) → (cutO ts lo hi).length ≤ c9 → Calls Tryd.prog 41 #[.slice A3 k3 c3, .slice A9 (cutO ts lo hi).length c9] W fun e w' => e = .returned (.bool false) ∧ Below W.heap.size W w' := fun W A9 c9 ha hb hc => by
    have := ralike_any X3 (cutO ts lo hi) A3 A9 c3 c9 W ha hb (by omega) hc (by omega) (by omega)
    rw [hk3] at this
    refine this.mono ?_
    rintro e w' ⟨⟨x, rfl, hx⟩, b⟩
    refine ⟨?_, b⟩
    cases x with
    | false => rfl
    | true => exact absurd (hx.1 rfl) hal
  have hin : ∀ s ∈ X3.map textM, s.length ≤ 90000 := fun s hs => by obtain ⟨x, _, rfl⟩ := List.mem_map.1 hs; rw [textM_length]; omega
  have hl3 : (X3.map textM).length = k3 := by rw [List.length_map, hk3]
  have hlv := fun W (h : Runs W A3 X3) => rleaves_any X3 A3 k3 c3 W hk3 h hfit (by omega)
  have hmt := fun W A1 c1 (h : Runs W A1 (ofR ts)) => rmaptexts_any n (ofR ts) A1 _ c1 W rfl (by omega) (by omega) (by have := (ofR_spec ts).2.2.2.2.1; omega) h (ofR_fit (by omega) (by omega))
  have hfd := fun A9 c9 W (hc9 : k3 ≤ c9) (h : Strs W A9 (X3.map textM)) (hp : Hs W PA path) => rfold_any cn index (X3.map textM) path A9 PA k3 c9 pn pc W (by omega) (by omega) (by omega) (by omega) hl3 hc9 (by omega) hpn hpc (by omega) hin h hp
  rw [hfo, foldV3, hpn] at hfd
  have hft := fun A9 c9 W (hc9 : k3 ≤ c9) (h : Strs W A9 (X3.map textM)) (hp : Hs W PA path) => rftexts_any cn index (X3.map textM) path A9 PA k3 c9 pn pc W (by omega) (by omega) (by omega) (by omega) hl3 hc9 (by omega) hpn hpc (by omega) hin h hp
  have hmx := fun W => rmaptext_any size cn h W hsz0 hsz (by omega) (by omega) hh
  have lm := mapT_len (ts := ts) (by omega)
  have sm := mapT_short (ts := ts) (by omega)
  have lf := foldT_more cn index (X3.map textM) path
  have sf := foldT_short cn cn index (X3.map textM) path (Nat.le_refl _) hin hs.1
  have szt := sealT_short size cn hh
  rw [hn] at hcl lm sm
  generalize mapT n (ofR ts) = MT at *
  generalize foldT sha cn index (X3.map textM) path = FT at *
  generalize sealT size cn h = zt at *
  generalize X3.map textM = L3 at *
  have LM : MT.length ≤ 100000 := by omega
  have LF : FT.length ≤ 100000 := by omega
  have LMF : (MT ++ FT).length ≤ 100000 := by rw [List.length_append]; omega
  have hcc := fun A9 c9 W (h : Strs W A9 (MT ++ FT ++ [zt])) => rclash_any (MT ++ FT ++ [zt]) A9 _ c9 W rfl (by simp only [List.length_append, List.length_cons, List.length_nil]; omega) (fun s hs => (List.mem_append.1 hs).elim (fun hs => (List.mem_append.1 hs).elim (sm s) (sf s)) (fun hs => by rw [List.mem_singleton.1 hs]; exact szt)) h
  rw [clashB_yes hcl] at hcc
  have HLV3 := Lib.hid hlv
  have HL3 := Lib.hid hl3
  have HFD := Lib.hid hfd
  have HFT := Lib.hid hft
  have HMX := Lib.hid hmx
  have HCC := Lib.hid hcc
  have HH := Lib.hid hh
  have i1 : ¬ index < 0 := by omega
  have i2 : ¬ (cn : Int) ≤ index := by omega
  have i3 : ¬ (4096 : Int) < cn := by omega
  have hmle := (ofR_spec ts).2.2.2.2.1
  generalize rootO ts = root at *
  generalize ofL ts = L at *
  generalize outO ts lo hi = V at *
  clear hca hcc' hcd cv3 cv1 cv2 hown
  obtain ⟨q, hql⟩ : ∃ q, (cutO ts lo hi).length = q := ⟨_, rfl⟩
  rw [hql] at hcv hq1 hak hcb
  generalize cutO ts lo hi = D at *
  obtain ⟨f, hf⟩ : ∃ f, fromM lo (ofR ts) = f := ⟨_, rfl⟩
  rw [hf] at hcv hq1 hcu hac0 hrg
  obtain ⟨m, hm⟩ : ∃ m, (ofR ts).length = m := ⟨_, rfl⟩
  rw [hm] at hmd hmle hac0 hrg hcv hq1 hcu hml hmt
  generalize ofR ts = R at *
  have HMD := Lib.hid hmd
  have HMR := Lib.hid hmr
  have HAC := Lib.hid hacc
  have HA := Lib.hid (fun W kon => awake_any W kon)
  have HROOT := Lib.hid hroot
  have HRL := Lib.hid hm
  have HRG := Lib.hid hrg
  have HAO := Lib.hid hac0
  have ml5 : m ≤ 60 := by omega
  have HCV := Lib.hid hcv
  have HCU := Lib.hid hcu
  have HAK := Lib.hid hak
  have HFQ := Lib.hid hq1
  have HQL := Lib.hid hql
  have wf : IntKind.i64.wrap ((f : Int) + (q : Int)) = ((f + q : Nat) : Int) := by rw [show (f : Int) + (q : Int) = ((f + q : Nat) : Int) from by omega]; exact IntWalk.i64_in _ (by omega)
  have HWF := Lib.hid wf
  clear wf
  have HMT := Lib.hid hmt
  have j1 : ((n : Int) == 0) = false := by simp; omega
  have j2 : ¬ (60 : Int) < n := by omega
  have j3 : ¬ (40 : Int) < pn := by omega
  have j4 : ¬ (40 : Int) < k3 := by omega
  clear hmd hmr hacc hac hroot hn hm hmle hk hW0 h1 h60 h30 hs hpn hpc hR3 hk3 hkc hk40 hrg hac0 hf hout hcv hcu hak hq1 hml hql hcb hal hlv hmt hfd hft hmx lm sm lf sf szt hcc hcl hfo hfit hi0 hic hcn hsz0 hh hin hl3 hx1 hsz
  go_enter Tryd.func12, Tryd.ntmps12
  go_upto_region 1 with (fail)
  change Code.wp _ _ _ _ (w.alloc (.cells #[.slice A3 k3 c3, .int .i64 index, .int .i64 (cn : Int), .int .i64 size, .slice PA pn pc] 43))
  rw [HO.out]
  clear HO
  go_upto_region 2 with (go_at_call 38; refine (HMD.out _ (hT.next B0)).mono ?_; rintro e w1 ⟨p, A1, c1, rfl, hp1, hO1, b1⟩)
  obtain ⟨w2, hW2⟩ : ∃ w2, (w1.alloc (.cells #[.pointer p] 47)).alloc (.cells #[.int .i64 (n : Int), .slice A1 m c1] 69) = w2 := ⟨_, rfl⟩
  have b2 : Below w1.heap.size w1 w2 := hW2 ▸ Below.on (Below.new1 _ _) (Below.new1 _ _)
  have x7 : Boxed w2 w1.heap.size 47 (.pointer p) := hW2 ▸ (Boxed.new w1 _ _).alloc _
  have x8 : BoxM w2 (w1.heap.size + 1) n (.slice A1 m c1) := by
    have := BoxM.new (w1.alloc (.cells #[.pointer p] 47)) n (.slice A1 m c1)
    rw [World.size_alloc] at this; exact hW2 ▸ this
  have hp2 := hp1.below b2
  have hRc : Runs w2 A1 R ∧ R.length ≤ c1 := by
    obtain ⟨A', c', e, hc', h⟩ := (hO1.next b2).runs
    cases e; exact ⟨h, hc'⟩
  obtain ⟨hR2, hc1⟩ := hRc
  change Code.wp _ _ _ _ ((w1.alloc (.cells #[.pointer p] 47)).alloc (.cells #[.int .i64 (n : Int), .slice A1 m c1] 69))
  rw [hW2]
  have B2 := Below.on b1 b2
  have z5 := x5.next B2
  have hk2 := hk0.next B2
  have c7 := x7.cell
  have c80 := x8.c0
  have hs2 := hs0.next B2
  have hR32 := hR30.below B2
  have c56 := z5.c4
  have c50 := z5.c0
  have BB := Below.on B0 B2
  generalize w1.heap.size = g7 at *
  clear hW2 hT x5 x7 hp1 hO1 b1 b2 B0 B2 hs0 hk0 hR30
  go_upto_region 7 with (first
    | (go_at_call 25; refine (HMR.out _ p hp2 hk2).mono ?_; rintro e w3 ⟨rfl, b3⟩)
    | ((with_reducible refine wpList_storeH ?_ (.tmp 12) (.tmp 60) ?_ w3.heap.size root ?_ ?_ (BoxA.new w3 30 .u8 (List.replicate 32 0) _ rfl) (by simp) HROOT.out ?_); rfl; rfl; rfl; rfl))
  obtain ⟨w4, hW4⟩ : ∃ w4, World.setRow (World.alloc w3 (.cells (ints .u8 (List.replicate 32 0)) 30)) w3.heap.size (ints .u8 (nums root)) = w4 := ⟨_, rfl⟩
  have y10 : BoxH w4 w3.heap.size root := hW4 ▸ (BoxA.new w3 30 .u8 (List.replicate 32 0) _ rfl).setRow (l' := nums root)
  have b4 : Below w3.heap.size w3 w4 := hW4 ▸ below_setRow (Below.new1 w3 _) (Nat.le_refl _) _
  change Code.wp _ _ _ _ (World.setRow (World.alloc w3 (.cells (ints .u8 (List.replicate 32 0)) 30)) w3.heap.size (ints .u8 (nums root)))
  rw [hW4]
  have B4 := Below.on b3 b4
  have BB4 := Below.on BB B4
  have hp4 := hp2.below B4
  have hk4 := hk2.next B4
  have hs4 := hs2.next B4
  have hR4 := hR2.below B4
  have hR34 := hR32.below B4
  have v5 := z5.next B4
  have v8 := x8.next B4
  replace c7 := cell_kept B4 c7
  replace c80 := v8.c0
  generalize w3.heap.size = g10 at *
  clear hW4 b3 b4 hp2 hk2 hs2 hR2 hR32 z5 x8 c56 c50 B4 BB HMR HMD
  go_upto_region 9 with (go_at_call 27; refine (HRG.out _ p hp4 hk4).mono ?_; rintro e w5 ⟨A', m', c', PA', pn', pc', rfl, hOa, hO5, b5⟩)
  obtain ⟨w6, hW6⟩ : ∃ w6, World.alloc w5 (.cells #[.slice A' m' c', .int .i64 f, .int .i64 m, .int .i64 n, .slice PA' pn' pc'] 43) = w6 := ⟨_, rfl⟩
  have y12 : BoxC w6 w5.heap.size A' m' c' f m n PA' pn' pc' := hW6 ▸ BoxC.new w5 A' m' c' f m n PA' pn' pc'
  have b6 : Below w5.heap.size w5 w6 := hW6 ▸ Below.new1 _ _
  change Code.wp _ _ _ _ (World.alloc w5 (.cells #[.slice A' m' c', .int .i64 f, .int .i64 m, .int .i64 n, .slice PA' pn' pc'] 43))
  rw [hW6]
  have hO6 := hO5.next b6
  have B6 := Below.on b5 b6
  have z10 : BoxH w6 g10 root := BoxA.next y10 B6
  have hk6 := hk4.next B6
  obtain ⟨PAx, pcx, ex, hpx, hsx⟩ := hO6.toHs
  simp only [Value.slice.injEq] at ex
  obtain ⟨ex1, ex2, ex3⟩ := ex
  rw [← ex1] at hsx
  rw [← ex2, ← ex3] at hpx
  obtain ⟨Ax, cx, ey, hcx, hRx⟩ := (hOa.next b6).runs
  simp only [Value.slice.injEq] at ey
  obtain ⟨ey1, ey2, ey3⟩ := ey
  rw [← ey1] at hRx
  rw [← ey2, ← ey3] at hcx
  have HX2 := Lib.hid ex2.symm
  have HY2 := Lib.hid ey2.symm
  clear ex1 ex2 ex3 ey1 ey2 ey3 hOa
  generalize w5.heap.size = g12 at *
  go_upto_region 11 with (first
    | ((with_reducible refine wpList_load_if (o := ⟨some 87, _, _, _, _, _⟩) ?_ 30 (.tmp 12) ?_ (hashV root) ?_ ?_); rfl; rfl; exact (BoxH.load_ z10 HROOT.out))
    | ((with_reducible refine wpList_load_if (o := ⟨some 90, _, _, _, _, _⟩) ?_ 43 (.tmp 14) ?_ (claimV A' m' c' f m n PA' pn' pc') ?_ ?_); rfl; rfl; exact y12.load_)
    | (go_at_call 23; refine (HAO.out _ _ _ _ _ _ _ HY2.out hRx hcx hsx HX2.out hpx hk6).mono ?_; rintro e w7 ⟨rfl, b7⟩))
  have B7 := Below.on B6 b7
  have BB7 := Below.on BB4 B7
  have hk7 := hk4.next B7
  have hs7 := hs4.next B7
  have hR7 := hR4.below B7
  have hR37 := hR34.below B7
  have u5 := v5.next B7
  have u8 := v8.next B7
  have u10 : BoxH w7 g10 root := BoxA.next y10 B7
  replace c80 := u8.c0
  clear hW6 b5 b6 b7 hO5 hO6 hsx hpx hRx hcx HX2 HY2 y12 z10 hk6 HAO HRG hp4 hk4 hs4 hR4 hR34 v5 v8 y10 B6 B7 BB4 c7
  go_upto_region 13 with (first
    | ((with_reducible refine wpList_load_if (o := ⟨some 94, _, _, _, _, _⟩) ?_ 30 (.tmp 12) ?_ (hashV root) ?_ ?_); rfl; rfl; exact (BoxH.load_ u10 HROOT.out))
    | ((with_reducible refine wpList_load_if (o := ⟨some 97, _, _, _, _, _⟩) ?_ 43 (.tmp 7) ?_ (claimV A3 k3 c3 index (cn : Int) size PA pn pc) ?_ ?_); rfl; rfl; exact u5.load_)
    | (go_at_call 23; refine (HAC.out _ hR37 hs7 hk7).mono ?_; rintro e w8 ⟨rfl, b8⟩))
  have hk8 := hk7.next b8
  replace c80 := cell_kept b8 c80
  have q5 := u5.next b8
  have q8 := u8.next b8
  have hR8 := hR7.below b8
  have hR38 := hR37.below b8
  have hs8 := hs7.next b8
  have BB8 := Below.on BB7 b8
  have d81 := q8.c1
  clear hk7 hs7 hR7 hR37 u5 u8 u10 BB7 b8
  obtain ⟨g5, hg5⟩ : ∃ k, w.heap.size = k := ⟨_, rfl⟩
  have HG5 := Lib.hid hg5
  rw [hg5] at q5 ⊢
  clear hg5
  go_upto_region 15 with (first
    | ((with_reducible refine wpList_load_if (o := ⟨some 115, _, _, _, _, _⟩) ?_ 69 (.tmp 10) ?_ (.agg #[.int .i64 (n : Int), .slice A1 m c1]) ?_ ?_); rfl; rfl; exact BoxM.load_ q8)
    | (go_at_call 48; refine (HCV.out _ A1 c1 hR8).mono ?_; rintro e w9 ⟨rfl, b9⟩))
  have q59 := q5.next b9
  have q89 := q8.next b9
  have hR9 := hR8.below b9
  have hR39 := hR38.below b9
  have hs9 := hs8.next b9
  have hk9 := hk8.next b9
  have BB9 := Below.on BB8 b9
  have C50 := Lib.hid q59.c0
  have C81 := Lib.hid q89.c1
  have mc1 : m ≤ c1 := by have := HRL.out; omega
  have fq : f + q ≤ m := HFQ.out
  clear q5 q8 hR8 hR38 hs8 hk8 b9 c80 d81 HCV
  refine wp_name fun a0 ha0 => ?_
  have e7 : a0.eval (.tmp 7) = .pointer (some ⟨g5, 0, none⟩) := by rw [ha0]; rfl
  have e10 : a0.eval (.tmp 10) = .pointer (some ⟨g7 + 1, 0, none⟩) := by rw [ha0]; rfl
  have e16 : a0.eval (.tmp 16) = .int .i64 (f : Int) := by rw [ha0]; rfl
  have e17 : a0.eval (.tmp 17) = .int .i64 (q : Int) := by rw [ha0]; rfl
  have hz : a0.tmps.size = 196 := by rw [ha0]; rfl
  have HA0 := Lib.hid ha0
  clear ha0
  have SG : ∀ (d d' : Nat → Prop) (W W' : World), (fun (_ : Nat → Prop) (W : World) => Below w9.heap.size w9 W) d W → (∀ j, d j → d' j) → Below W.heap.size W W' → (fun (_ : Nat → Prop) (W : World) => Below w9.heap.size w9 W) d' W' := fun _ _ _ _ h _ b => Below.next h b
  have St : ∀ xc ∈ [(⟨some 0, 121, none, fun v _ => v = .pointer (some ⟨g5, 0, none⟩)⟩ : Cl), ⟨some 1, 122, none, fun v _ => v = .slice A3 k3 c3⟩, ⟨some 2, 123, none, fun v _ => v = .pointer (some ⟨g7 + 1, 1, none⟩)⟩, ⟨some 3, 124, none, fun v _ => v = .slice A1 m c1⟩, ⟨some 4, 125, none, fun v _ => v = .int .i64 (f : Int)⟩, ⟨some 5, 126, none, fun v _ => v = .int .i64 (f : Int)⟩, ⟨some 6, 127, none, fun v _ => v = .int .i64 (q : Int)⟩, ⟨some 7, 128, none, fun v _ => v = .int .i64 ((f + q : Nat) : Int)⟩, ⟨some 8, 129, none, fun v _ => v = .slice (cutR A1 c1 f) (f + q - f) (c1 - f)⟩, ⟨some 9, 130, none, fun v _ => v = .bool false⟩], Lasts xc := AllC.mem ⟨lastsV0 _ _ _ _, lastsV0 _ _ _ _, lastsV0 _ _ _ _, lastsV0 _ _ _ _, lastsV0 _ _ _ _, lastsV0 _ _ _ _, lastsV0 _ _ _ _, lastsV0 _ _ _ _, lastsV0 _ _ _ _, lastsV0 _ _ _ _, trivial⟩
  refine wp_region_steps (Inv [121, 122, 123, 124, 125, 126, 127, 128, 129, 130] a0 (fun (_ : Nat → Prop) (W : World) => Below w9.heap.size w9 W) (lst St)) (by kernel_rfl) (by kernel_rfl) (Inv.start (Below.refl _ _).drew ⟨nofun, nofun, nofun, nofun, nofun, nofun, nofun, nofun, nofun, nofun, trivial⟩) ?_ ?_
  · clear HA0
    refine ⟨?_, ?_, ?_, ?_, ?_, ?_, ?_, ?_, ?_, ?_, trivial⟩
    · refine stepB rfl rfl (by decide) (by rw [hz]; decide) rfl rfl (by kernel_rfl) St SG fun d a W hF hG hH hn hcl hw => ?_
      have q7 := (hF.same 7 (by decide)).trans e7
      exact ⟨.pointer (some ⟨g5, 0, none⟩), W, by clear hF hG hH hn hcl hw; generalize a.eval = ρ at *; go_simp, Below.refl _ _, rfl⟩
    · refine stepB rfl rfl (by decide) (by rw [hz]; decide) rfl rfl (by kernel_rfl) St SG fun d a W hF hG hH hn hcl hw => ?_
      have q121 : a.eval (.tmp 121) = .pointer (some ⟨g5, 0, none⟩) := hH.at_ (i := 0) rfl (hw 0 rfl) id
      have cc0 := cell_kept hG C50.out
      exact ⟨.slice A3 k3 c3, W, by clear hF hG hH hn hcl hw; generalize a.eval = ρ at *; go_simp, Below.refl _ _, rfl⟩
    · refine stepB rfl rfl (by decide) (by rw [hz]; decide) rfl rfl (by kernel_rfl) St SG fun d a W hF hG hH hn hcl hw => ?_
      have q10 := (hF.same 10 (by decide)).trans e10
      exact ⟨.pointer (some ⟨g7 + 1, 1, none⟩), W, by clear hF hG hH hn hcl hw; generalize a.eval = ρ at *; go_simp, Below.refl _ _, rfl⟩
    · refine stepB rfl rfl (by decide) (by rw [hz]; decide) rfl rfl (by kernel_rfl) St SG fun d a W hF hG hH hn hcl hw => ?_
      have q123 : a.eval (.tmp 123) = .pointer (some ⟨g7 + 1, 1, none⟩) := hH.at_ (i := 2) rfl (hw 2 rfl) id
      have cc0 := cell_kept hG C81.out
      exact ⟨.slice A1 m c1, W, by clear hF hG hH hn hcl hw; generalize a.eval = ρ at *; go_simp, Below.refl _ _, rfl⟩
    · refine stepB rfl rfl (by decide) (by rw [hz]; decide) rfl rfl (by kernel_rfl) St SG fun d a W hF hG hH hn hcl hw => ?_
      have q16 := (hF.same 16 (by decide)).trans e16
      exact ⟨.int .i64 (f : Int), W, by clear hF hG hH hn hcl hw; generalize a.eval = ρ at *; go_simp, Below.refl _ _, rfl⟩
    · refine stepB rfl rfl (by decide) (by rw [hz]; decide) rfl rfl (by kernel_rfl) St SG fun d a W hF hG hH hn hcl hw => ?_
      have q16 := (hF.same 16 (by decide)).trans e16
      exact ⟨.int .i64 (f : Int), W, by clear hF hG hH hn hcl hw; generalize a.eval = ρ at *; go_simp, Below.refl _ _, rfl⟩
    · refine stepB rfl rfl (by decide) (by rw [hz]; decide) rfl rfl (by kernel_rfl) St SG fun d a W hF hG hH hn hcl hw => ?_
      have q17 := (hF.same 17 (by decide)).trans e17
      exact ⟨.int .i64 (q : Int), W, by clear hF hG hH hn hcl hw; generalize a.eval = ρ at *; go_simp, Below.refl _ _, rfl⟩
    · refine stepB rfl rfl (by decide) (by rw [hz]; decide) rfl rfl (by kernel_rfl) St SG fun d a W hF hG hH hn hcl hw => ?_
      have q126 : a.eval (.tmp 126) = .int .i64 (f : Int) := hH.at_ (i := 5) rfl (hw 5 rfl) id
      have q127 : a.eval (.tmp 127) = .int .i64 (q : Int) := hH.at_ (i := 6) rfl (hw 6 rfl) id
      have ww := HWF.out
      exact ⟨.int .i64 ((f + q : Nat) : Int), W, by clear hF hG hH hn hcl hw; generalize a.eval = ρ at *; go_simp, Below.refl _ _, rfl⟩
    · refine stepB rfl rfl (by decide) (by rw [hz]; decide) rfl rfl (by kernel_rfl) St SG fun d a W hF hG hH hn hcl hw => ?_
      have q124 : a.eval (.tmp 124) = .slice A1 m c1 := hH.at_ (i := 3) rfl (hw 3 rfl) id
      have q125 : a.eval (.tmp 125) = .int .i64 (f : Int) := hH.at_ (i := 4) rfl (hw 4 rfl) id
      have q128 : a.eval (.tmp 128) = .int .i64 ((f + q : Nat) : Int) := hH.at_ (i := 7) rfl (hw 7 rfl) id
      refine ⟨.slice (cutR A1 c1 f) (f + q - f) (c1 - f), W, ?_, Below.refl _ _, ?_⟩
      · exact exec_sliceR_mid2 rfl q124 q125 q128 (by omega) (by omega)
      · rfl
    · refine stepC rfl rfl (by decide) (by rw [hz]; decide) rfl rfl (by kernel_rfl) St SG fun d a W hF hG hH hn hcl hw => ?_
      have q122 : a.eval (.tmp 122) = .slice A3 k3 c3 := hH.at_ (i := 1) rfl (hw 1 rfl) id
      have q129 : a.eval (.tmp 129) = .slice (cutR A1 c1 f) (f + q - f) (c1 - f) := hH.at_ (i := 8) rfl (hw 8 rfl) id
      have qf : a.eval (.func 41) = .func (.func 41) #[] #[] := rfl
      rw [show f + q - f = q from by omega] at q129
      refine ⟨41, #[.slice A3 k3 c3, .slice (cutR A1 c1 f) q (c1 - f)], ?_, ?_⟩
      · clear hF hG hH hn hcl hw
        generalize a.eval = ρ at *
        go_simp
      · refine (HAK.out W (cutR A1 c1 f) (c1 - f) (hR39.below hG) (HCU.out W A1 c1 (hR9.below hG) (by have := HRL.out; omega)) (by omega)).mono ?_; rintro e W' ⟨rfl, b⟩; exact ⟨_, rfl, b, rfl⟩
  · intro d a W ⟨hF, hB, hH⟩ hall
    have k130 : a.eval (.tmp 130) = .bool false := hH.at_ (i := 9) rfl (hall 9 (by decide)) id
    clear hH hall
    rw [hF.shape (by rw [hz]; decide)]
    clear hF
    simp only [List.foldl]
    generalize a.eval (.tmp 121) = z121, a.eval (.tmp 122) = z122, a.eval (.tmp 123) = z123, a.eval (.tmp 124) = z124, a.eval (.tmp 125) = z125, a.eval (.tmp 126) = z126, a.eval (.tmp 127) = z127, a.eval (.tmp 128) = z128, a.eval (.tmp 129) = z129, a.eval (.tmp 130) = z130 at *
    subst k130
    rw [HA0.out]
    simp only [Act.put, List.setIfInBounds_toArray, List.set_cons_zero, List.set_cons_succ]
    clear hz HA0 St SG e7 e10 e16 e17
    clear a a0
    have hkT := hk9.next hB
    have BBT := Below.on BB9 hB
    have hsT := hs9.next hB
    have hRT := hR9.below hB
    have hR3T := hR39.below hB
    have t5 := q59.next hB
    have t8 := q89.next hB
    clear q59 q89 hR9 hR39 hs9 hk9 BB9 C50 C81 hB
    generalize W = wT at *
    have d51 := t5.c1
    have d52 := t5.c2
    go_upto_region 19 with (fail)
    go_upto_region 20 with (first
      | (go_at_call 18; refine (constants_any _).mono ?_; rintro e w10 ⟨rfl, b10⟩)
      | (refine wpList_newW rfl (.tmp 18) (.tmp 147) rfl rfl rfl ?_))
    have yA0 := withW_box w10
    have bw := withW_below w10
    obtain ⟨wA, hW⟩ : ∃ wA, withW w10 = wA := ⟨_, rfl⟩
    change Code.wp _ _ _ _ (withW w10)
    rw [hW] at yA0 bw ⊢
    have b11 := Below.on b10 bw
    have hkA := hkT.next b11
    have hsA := hsT.next b11
    have hR1A := hRT.below b11
    have hR3A := hR3T.below b11
    have z5 := t5.next b11
    have z8 := t8.next b11
    have BB := Below.on BBT b11
    have yA : BoxW wA w10.heap.size := yA0
    generalize w10.heap.size = g18 at *
    generalize g7 + 1 = g8 at *
    clear yA0 bw hW b10 b11 hkT hsT hRT hR3T t5 t8 d51 d52 BBT HAC
    have C50 := Lib.hid z5.c0
    have C51 := Lib.hid z5.c1
    have C52 := Lib.hid z5.c2
    have C53 := Lib.hid z5.c3
    have C54 := Lib.hid z5.c4
    have C80 := Lib.hid z8.c0
    have C81 := Lib.hid z8.c1
    refine wp_name fun a0 ha0 => ?_
    have e7 : a0.eval (.tmp 7) = .pointer (some ⟨g5, 0, none⟩) := by rw [ha0]; rfl
    have e10 : a0.eval (.tmp 10) = .pointer (some ⟨g8, 0, none⟩) := by rw [ha0]; rfl
    have e18 : a0.eval (.tmp 18) = .pointer (some ⟨g18, 0, none⟩) := by rw [ha0]; rfl
    have hz : a0.tmps.size = 196 := by rw [ha0]; rfl
    have HA0 := Lib.hid ha0
    clear ha0
    have SG : ∀ (d d' : Nat → Prop) (W W' : World), (fun (_ : Nat → Prop) (W : World) => Below wA.heap.size wA W) d W → (∀ j, d j → d' j) → Below W.heap.size W W' → (fun (_ : Nat → Prop) (W : World) => Below wA.heap.size wA W) d' W' := fun _ _ _ _ h _ b => Below.next h b
    have St : ∀ xc ∈ [(⟨some 0, 149, none, fun v _ => v = wordsV⟩ : Cl), ⟨some 1, 150, none, fun v _ => v = .pointer (some ⟨g5, 2, none⟩)⟩, ⟨some 2, 151, none, fun v _ => v = .int .i64 (cn : Int)⟩, ⟨some 3, 152, none, fun v _ => v = .pointer (some ⟨g5, 1, none⟩)⟩, ⟨some 4, 153, none, fun v _ => v = .int .i64 index⟩, ⟨some 5, 154, none, fun v _ => v = .pointer (some ⟨g5, 0, none⟩)⟩, ⟨some 6, 155, none, fun v _ => v = .slice A3 k3 c3⟩, ⟨some 7, 156, some 10, fun v W => OwnStrs W wA.heap.size v L3⟩, ⟨some 8, 157, none, fun v _ => v = .pointer (some ⟨g5, 4, none⟩)⟩, ⟨some 9, 158, none, fun v _ => v = .slice PA pn pc⟩, ⟨some 10, 159, none, fun v _ => v = .tuple #[hashV h, .int .i64 (pn : Int), .bool true]⟩, ⟨some 11, 148, none, fun v _ => v = .tuple #[hashV h, .int .i64 (pn : Int), .bool true]⟩, ⟨some 12, 160, none, fun v _ => v = hashV h⟩, ⟨some 13, 161, none, fun v _ => v = .int .i64 (pn : Int)⟩, ⟨some 14, 162, none, fun v _ => v = .bool true⟩, ⟨some 15, 19, some 16, fun v W => ∃ g, v = .pointer (some ⟨g, 0, none⟩) ∧ wA.heap.size ≤ g ∧ ∃ m, BoxA W g 30 .u8 m ∧ m.length = 32⟩, ⟨some 16, 19, none, fun v W => ∃ g, v = .pointer (some ⟨g, 0, none⟩) ∧ wA.heap.size ≤ g ∧ BoxH W g h⟩, ⟨some 17, 20, none, fun v _ => v = .int .i64 (pn : Int)⟩, ⟨some 18, 21, none, fun v _ => v = .bool true⟩], Lasts xc := AllC.mem ⟨lastsV0 _ _ _ _, lastsV0 _ _ _ _, lastsV0 _ _ _ _, lastsV0 _ _ _ _, lastsV0 _ _ _ _, lastsV0 _ _ _ _, lastsV0 _ _ _ _, (fun _ _ _ h b => h.next b), lastsV0 _ _ _ _, lastsV0 _ _ _ _, lastsV0 _ _ _ _, lastsV0 _ _ _ _, lastsV0 _ _ _ _, lastsV0 _ _ _ _, lastsV0 _ _ _ _, (fun _ _ _ h b => by obtain ⟨g, e, h1, m, h2, h3⟩ := h; exact ⟨g, e, h1, m, h2.next b, h3⟩), (fun _ _ _ h b => by obtain ⟨g, e, h1, h2⟩ := h; exact ⟨g, e, h1, BoxA.next h2 b⟩), lastsV0 _ _ _ _, lastsV0 _ _ _ _, trivial⟩
    refine wp_region_steps (Inv [149, 150, 151, 152, 153, 154, 155, 156, 157, 158, 159, 148, 160, 161, 162, 19, 20, 21] a0 (fun (_ : Nat → Prop) (W : World) => Below wA.heap.size wA W) (lst St)) (by kernel_rfl) (by kernel_rfl) (Inv.start (Below.refl _ _).drew ⟨nofun, nofun, nofun, nofun, nofun, nofun, nofun, nofun, nofun, nofun, nofun, nofun, nofun, nofun, nofun, nofun, nofun, nofun, nofun, trivial⟩) ?_ ?_
    · clear HA0
      refine ⟨?_, ?_, ?_, ?_, ?_, ?_, ?_, ?_, ?_, ?_, ?_, ?_, ?_, ?_, ?_, ?_, ?_, ?_, ?_, trivial⟩
      · refine stepB rfl rfl (by decide) (by rw [hz]; decide) rfl rfl (by kernel_rfl) St SG fun d a W hF hG hH hn hcl hw => ?_
        have q18 := (hF.same 18 (by decide)).trans e18
        refine ⟨wordsV, W, ?_, Below.refl _ _, ?_⟩
        · exact exec_load rfl (by rw [q18]; exact BoxW.load (BoxA.next yA hG))
        · rfl
      · refine stepB rfl rfl (by decide) (by rw [hz]; decide) rfl rfl (by kernel_rfl) St SG fun d a W hF hG hH hn hcl hw => ?_
        have q7 := (hF.same 7 (by decide)).trans e7
        exact ⟨.pointer (some ⟨g5, 2, none⟩), W, by clear hF hG hH hn hcl hw; generalize a.eval = ρ at *; go_simp, Below.refl _ _, rfl⟩
      · refine stepB rfl rfl (by decide) (by rw [hz]; decide) rfl rfl (by kernel_rfl) St SG fun d a W hF hG hH hn hcl hw => ?_
        have q150 : a.eval (.tmp 150) = .pointer (some ⟨g5, 2, none⟩) := hH.at_ (i := 1) rfl (hw 1 rfl) id
        have cc0 := cell_kept hG C52.out
        exact ⟨.int .i64 (cn : Int), W, by clear hF hG hH hn hcl hw; generalize a.eval = ρ at *; go_simp, Below.refl _ _, rfl⟩
      · refine stepB rfl rfl (by decide) (by rw [hz]; decide) rfl rfl (by kernel_rfl) St SG fun d a W hF hG hH hn hcl hw => ?_
        have q7 := (hF.same 7 (by decide)).trans e7
        exact ⟨.pointer (some ⟨g5, 1, none⟩), W, by clear hF hG hH hn hcl hw; generalize a.eval = ρ at *; go_simp, Below.refl _ _, rfl⟩
      · refine stepB rfl rfl (by decide) (by rw [hz]; decide) rfl rfl (by kernel_rfl) St SG fun d a W hF hG hH hn hcl hw => ?_
        have q152 : a.eval (.tmp 152) = .pointer (some ⟨g5, 1, none⟩) := hH.at_ (i := 3) rfl (hw 3 rfl) id
        have cc0 := cell_kept hG C51.out
        exact ⟨.int .i64 index, W, by clear hF hG hH hn hcl hw; generalize a.eval = ρ at *; go_simp, Below.refl _ _, rfl⟩
      · refine stepB rfl rfl (by decide) (by rw [hz]; decide) rfl rfl (by kernel_rfl) St SG fun d a W hF hG hH hn hcl hw => ?_
        have q7 := (hF.same 7 (by decide)).trans e7
        exact ⟨.pointer (some ⟨g5, 0, none⟩), W, by clear hF hG hH hn hcl hw; generalize a.eval = ρ at *; go_simp, Below.refl _ _, rfl⟩
      · refine stepB rfl rfl (by decide) (by rw [hz]; decide) rfl rfl (by kernel_rfl) St SG fun d a W hF hG hH hn hcl hw => ?_
        have q154 : a.eval (.tmp 154) = .pointer (some ⟨g5, 0, none⟩) := hH.at_ (i := 5) rfl (hw 5 rfl) id
        have cc0 := cell_kept hG C50.out
        exact ⟨.slice A3 k3 c3, W, by clear hF hG hH hn hcl hw; generalize a.eval = ρ at *; go_simp, Below.refl _ _, rfl⟩
      · refine stepC rfl rfl (by decide) (by rw [hz]; decide) rfl rfl (by kernel_rfl) St SG fun d a W hF hG hH hn hcl hw => ?_
        have q155 : a.eval (.tmp 155) = .slice A3 k3 c3 := hH.at_ (i := 6) rfl (hw 6 rfl) id
        have qf : a.eval (.func 49) = .func (.func 49) #[] #[] := rfl
        refine ⟨49, #[.slice A3 k3 c3], ?_, ?_⟩
        · clear hF hG hH hn hcl hw
          generalize a.eval = ρ at *
          go_simp
        · refine (HLV3.out W (hR3A.below hG)).mono ?_; rintro e W' ⟨v, rfl, hO, b⟩; exact ⟨v, rfl, b, hO.mono (by have := hG.size; omega)⟩
      · refine stepB rfl rfl (by decide) (by rw [hz]; decide) rfl rfl (by kernel_rfl) St SG fun d a W hF hG hH hn hcl hw => ?_
        have q7 := (hF.same 7 (by decide)).trans e7
        exact ⟨.pointer (some ⟨g5, 4, none⟩), W, by clear hF hG hH hn hcl hw; generalize a.eval = ρ at *; go_simp, Below.refl _ _, rfl⟩
      · refine stepB rfl rfl (by decide) (by rw [hz]; decide) rfl rfl (by kernel_rfl) St SG fun d a W hF hG hH hn hcl hw => ?_
        have q157 : a.eval (.tmp 157) = .pointer (some ⟨g5, 4, none⟩) := hH.at_ (i := 8) rfl (hw 8 rfl) id
        have cc0 := cell_kept hG C54.out
        exact ⟨.slice PA pn pc, W, by clear hF hG hH hn hcl hw; generalize a.eval = ρ at *; go_simp, Below.refl _ _, rfl⟩
      · refine stepC rfl rfl (by decide) (by rw [hz]; decide) rfl rfl (by kernel_rfl) St SG fun d a W hF hG hH hn hcl hw => ?_
        have q149 : a.eval (.tmp 149) = wordsV := hH.at_ (i := 0) rfl (hw 0 rfl) id
        have q151 : a.eval (.tmp 151) = .int .i64 (cn : Int) := hH.at_ (i := 2) rfl (hw 2 rfl) id
        have q153 : a.eval (.tmp 153) = .int .i64 index := hH.at_ (i := 4) rfl (hw 4 rfl) id
        have q156 : OwnStrs W wA.heap.size (a.eval (.tmp 156)) L3 := hH.at_ (i := 7) rfl (hw 7 rfl) hn
        have q158 : a.eval (.tmp 158) = .slice PA pn pc := hH.at_ (i := 9) rfl (hw 9 rfl) id
        have qf : a.eval (.func 42) = .func (.func 42) #[] #[] := rfl
        obtain ⟨A9, c9, q156, hc9, hS9⟩ := q156.toStrs
        rw [HL3.out] at q156 hc9
        refine ⟨42, #[wordsV, .int .i64 (cn : Int), .int .i64 index, .slice A9 k3 c9, .slice PA pn pc], ?_, ?_⟩
        · clear hF hG hH hn hcl hw
          generalize a.eval = ρ at *
          go_simp
        · refine (HFD.out A9 c9 W hc9 hS9 (hsA.next hG)).mono ?_; rintro e W' ⟨rfl, b⟩; exact ⟨_, rfl, b, rfl⟩
      · refine stepB rfl rfl (by decide) (by rw [hz]; decide) rfl rfl (by kernel_rfl) St SG fun d a W hF hG hH hn hcl hw => ?_
        have q159 : a.eval (.tmp 159) = .tuple #[hashV h, .int .i64 (pn : Int), .bool true] := hH.at_ (i := 10) rfl (hw 10 rfl) id
        exact ⟨.tuple #[hashV h, .int .i64 (pn : Int), .bool true], W, by clear hF hG hH hn hcl hw; generalize a.eval = ρ at *; go_simp, Below.refl _ _, rfl⟩
      · refine stepB rfl rfl (by decide) (by rw [hz]; decide) rfl rfl (by kernel_rfl) St SG fun d a W hF hG hH hn hcl hw => ?_
        have q148 : a.eval (.tmp 148) = .tuple #[hashV h, .int .i64 (pn : Int), .bool true] := hH.at_ (i := 11) rfl (hw 11 rfl) id
        exact ⟨hashV h, W, by clear hF hG hH hn hcl hw; generalize a.eval = ρ at *; go_simp, Below.refl _ _, rfl⟩
      · refine stepB rfl rfl (by decide) (by rw [hz]; decide) rfl rfl (by kernel_rfl) St SG fun d a W hF hG hH hn hcl hw => ?_
        have q148 : a.eval (.tmp 148) = .tuple #[hashV h, .int .i64 (pn : Int), .bool true] := hH.at_ (i := 11) rfl (hw 11 rfl) id
        exact ⟨.int .i64 (pn : Int), W, by clear hF hG hH hn hcl hw; generalize a.eval = ρ at *; go_simp, Below.refl _ _, rfl⟩
      · refine stepB rfl rfl (by decide) (by rw [hz]; decide) rfl rfl (by kernel_rfl) St SG fun d a W hF hG hH hn hcl hw => ?_
        have q148 : a.eval (.tmp 148) = .tuple #[hashV h, .int .i64 (pn : Int), .bool true] := hH.at_ (i := 11) rfl (hw 11 rfl) id
        exact ⟨.bool true, W, by clear hF hG hH hn hcl hw; generalize a.eval = ρ at *; go_simp, Below.refl _ _, rfl⟩
      · refine stepB rfl rfl (by decide) (by rw [hz]; decide) rfl rfl (by kernel_rfl) St SG fun d a W hF hG hH hn hcl hw => ?_
        refine ⟨.pointer (some ⟨W.heap.size, 0, none⟩), W.alloc (.cells (ints .u8 (List.replicate 32 0)) 30), ?_, Below.new1 W _, ?_⟩
        · (clear hF hG hH hn hcl hw; generalize a.eval = ρ at *; go_simp; rfl)
        · exact ⟨_, rfl, hG.size, _, BoxA.new W _ _ _ _ rfl, by simp⟩
      · refine stepRow 19 (.tmp 160) 30 rfl rfl rfl rfl rfl wA.heap.size (AllC.mem ⟨.inr (.inr (.inl fun _ _ _ _ _ _ _ h => h)), .inr (.inr (.inl fun _ _ _ _ _ _ _ h => h)), .inr (.inr (.inl fun _ _ _ _ _ _ _ h => h)), .inr (.inr (.inl fun _ _ _ _ _ _ _ h => h)), .inr (.inr (.inl fun _ _ _ _ _ _ _ h => h)), .inr (.inr (.inl fun _ _ _ _ _ _ _ h => h)), .inr (.inr (.inl fun _ _ _ _ _ _ _ h => h)), .inr (.inr (.inr fun d hcl hw => hcl 11 _ 10 rfl rfl (hcl 12 _ 11 rfl rfl (hw 12 rfl)))), .inr (.inr (.inl fun _ _ _ _ _ _ _ h => h)), .inr (.inr (.inl fun _ _ _ _ _ _ _ h => h)), .inr (.inr (.inl fun _ _ _ _ _ _ _ h => h)), .inr (.inr (.inl fun _ _ _ _ _ _ _ h => h)), .inr (.inr (.inl fun _ _ _ _ _ _ _ h => h)), .inr (.inr (.inl fun _ _ _ _ _ _ _ h => h)), .inr (.inr (.inl fun _ _ _ _ _ _ _ h => h)), .inr (.inl rfl), .inl rfl, .inr (.inr (.inl fun _ _ _ _ _ _ _ h => h)), .inr (.inr (.inl fun _ _ _ _ _ _ _ h => h)), trivial⟩) (fun _ _ _ _ _ hg h _ => below_setRow h hg _) fun d a W hF hG hH hn hcl hw => ?_
        have q19 : ∃ g, a.eval (.tmp 19) = .pointer (some ⟨g, 0, none⟩) ∧ wA.heap.size ≤ g ∧ ∃ m, BoxA W g 30 .u8 m ∧ m.length = 32 := hH.at_ (i := 15) rfl (hw 15 rfl) hn
        have q160 : a.eval (.tmp 160) = hashV h := hH.at_ (i := 12) rfl (hw 12 rfl) id
        obtain ⟨g, q19, hg, mm, hx, hml⟩ := q19
        exact ⟨g, ints .u8 (nums h), ints .u8 mm, q19, hg, by rw [q160, hashV_eq], hx, by rw [ints_size, nums_length, HH.out]; exact szHash, by rw [ints_size, ints_size, nums_length, hml, HH.out], ints_one _ _, g, rfl, hg, BoxA.setRow hx⟩
      · refine stepB rfl rfl (by decide) (by rw [hz]; decide) rfl rfl (by kernel_rfl) St SG fun d a W hF hG hH hn hcl hw => ?_
        have q161 : a.eval (.tmp 161) = .int .i64 (pn : Int) := hH.at_ (i := 13) rfl (hw 13 rfl) id
        exact ⟨.int .i64 (pn : Int), W, by clear hF hG hH hn hcl hw; generalize a.eval = ρ at *; go_simp, Below.refl _ _, rfl⟩
      · refine stepB rfl rfl (by decide) (by rw [hz]; decide) rfl rfl (by kernel_rfl) St SG fun d a W hF hG hH hn hcl hw => ?_
        have q162 : a.eval (.tmp 162) = .bool true := hH.at_ (i := 14) rfl (hw 14 rfl) id
        exact ⟨.bool true, W, by clear hF hG hH hn hcl hw; generalize a.eval = ρ at *; go_simp, Below.refl _ _, rfl⟩
    · intro d a W ⟨hF, hB, hH⟩ hall
      have k20 : a.eval (.tmp 20) = .int .i64 (pn : Int) := hH.at_ (i := 17) rfl (hall 17 (by decide)) id
      have k21 : a.eval (.tmp 21) = .bool true := hH.at_ (i := 18) rfl (hall 18 (by decide)) id
      have s16 : ∃ g, a.eval (.tmp 19) = .pointer (some ⟨g, 0, none⟩) ∧ wA.heap.size ≤ g ∧ BoxH W g h := hH.at_ (i := 16) rfl (hall 16 (by decide)) id
      clear hH hall
      rw [hF.shape (by rw [hz]; decide)]
      clear hF
      simp only [List.foldl]
      generalize a.eval (.tmp 149) = z149, a.eval (.tmp 150) = z150, a.eval (.tmp 151) = z151, a.eval (.tmp 152) = z152, a.eval (.tmp 153) = z153, a.eval (.tmp 154) = z154, a.eval (.tmp 155) = z155, a.eval (.tmp 156) = z156, a.eval (.tmp 157) = z157, a.eval (.tmp 158) = z158, a.eval (.tmp 159) = z159, a.eval (.tmp 148) = z148, a.eval (.tmp 160) = z160, a.eval (.tmp 161) = z161, a.eval (.tmp 162) = z162, a.eval (.tmp 19) = z19, a.eval (.tmp 20) = z20, a.eval (.tmp 21) = z21 at *
      subst k20
      subst k21
      rw [HA0.out]
      simp only [Act.put, List.setIfInBounds_toArray, List.set_cons_zero, List.set_cons_succ]
      clear hz HA0 St SG e7 e10 e18
      clear a a0
      obtain ⟨g19, rfl, hg19, y19⟩ := s16
      have BB1 := Below.on BB hB
      have yB : BoxW W g18 := BoxA.next yA hB
      have v5 := z5.next hB
      have v8 := z8.next hB
      have hkB := hkA.next hB
      have hsB := hsA.next hB
      have hR1B := hR1A.below hB
      have hR3B := hR3A.below hB
      clear C50 C51 C52 C53 C54 C80 C81
      have C50 := Lib.hid v5.c0
      have C51 := Lib.hid v5.c1
      have C52 := Lib.hid v5.c2
      have C53 := Lib.hid v5.c3
      have C54 := Lib.hid v5.c4
      have C80 := Lib.hid v8.c0
      have C81 := Lib.hid v8.c1
      have l5 := v5.lt
      have l8 := v8.lt
      have l18 := BoxA.lt yB
      have l19 := BoxA.lt y19
      clear hB hg19 yA hkA hsA hR1A hR3A z5 z8 BB HFD
      generalize W = wB at *
      go_upto_region 21 with (fail)
      refine wp_name fun a0 ha0 => ?_
      have e7 : a0.eval (.tmp 7) = .pointer (some ⟨g5, 0, none⟩) := by rw [ha0]; rfl
      have e10 : a0.eval (.tmp 10) = .pointer (some ⟨g8, 0, none⟩) := by rw [ha0]; rfl
      have e18 : a0.eval (.tmp 18) = .pointer (some ⟨g18, 0, none⟩) := by rw [ha0]; rfl
      have hz : a0.tmps.size = 196 := by rw [ha0]; rfl
      have HA0 := Lib.hid ha0
      clear ha0
      have SG : ∀ (d d' : Nat → Prop) (W W' : World), (fun (_ : Nat → Prop) (W : World) => Below wB.heap.size wB W) d W → (∀ j, d j → d' j) → Below W.heap.size W W' → (fun (_ : Nat → Prop) (W : World) => Below wB.heap.size wB W) d' W' := fun _ _ _ _ h _ b => Below.next h b
      have St : ∀ xc ∈ [(⟨some 0, 163, none, fun v _ => v = wordsV⟩ : Cl), ⟨some 1, 164, none, fun v _ => v = .pointer (some ⟨g8, 0, none⟩)⟩, ⟨some 2, 165, none, fun v _ => v = .int .i64 (n : Int)⟩, ⟨some 3, 166, none, fun v _ => v = .pointer (some ⟨g8, 1, none⟩)⟩, ⟨some 4, 167, none, fun v _ => v = .slice A1 m c1⟩, ⟨some 5, 168, none, fun v W => OwnStrs W wB.heap.size v MT⟩, ⟨some 6, 169, none, fun v _ => v = wordsV⟩, ⟨some 7, 170, none, fun v _ => v = .pointer (some ⟨g5, 2, none⟩)⟩, ⟨some 8, 171, none, fun v _ => v = .int .i64 (cn : Int)⟩, ⟨some 9, 172, none, fun v _ => v = .pointer (some ⟨g5, 1, none⟩)⟩, ⟨some 10, 173, none, fun v _ => v = .int .i64 index⟩, ⟨some 11, 174, none, fun v _ => v = .pointer (some ⟨g5, 0, none⟩)⟩, ⟨some 12, 175, none, fun v _ => v = .slice A3 k3 c3⟩, ⟨some 13, 176, none, fun v W => OwnStrs W wB.heap.size v L3⟩, ⟨some 14, 177, none, fun v _ => v = .pointer (some ⟨g5, 4, none⟩)⟩, ⟨some 15, 178, none, fun v _ => v = .slice PA pn pc⟩, ⟨some 16, 179, none, fun v W => OwnStrs W wB.heap.size v FT⟩], Lasts xc := AllC.mem ⟨lastsV0 _ _ _ _, lastsV0 _ _ _ _, lastsV0 _ _ _ _, lastsV0 _ _ _ _, lastsV0 _ _ _ _, (fun _ _ _ h b => h.next b), lastsV0 _ _ _ _, lastsV0 _ _ _ _, lastsV0 _ _ _ _, lastsV0 _ _ _ _, lastsV0 _ _ _ _, lastsV0 _ _ _ _, lastsV0 _ _ _ _, (fun _ _ _ h b => h.next b), lastsV0 _ _ _ _, lastsV0 _ _ _ _, (fun _ _ _ h b => h.next b), trivial⟩
      refine wp_region_lastly2 17 _ _ (Inv [163, 164, 165, 166, 167, 168, 169, 170, 171, 172, 173, 174, 175, 176, 177, 178, 179] a0 (fun (_ : Nat → Prop) (W : World) => Below wB.heap.size wB W) (lst St)) (by kernel_rfl) (by kernel_rfl) rfl rfl rfl (fun d hcl hw j hj => ?_) (by kernel_rfl) rfl rfl (Inv.start (Below.refl _ _).drew ⟨nofun, nofun, nofun, nofun, nofun, nofun, nofun, nofun, nofun, nofun, nofun, nofun, nofun, nofun, nofun, nofun, nofun, trivial⟩) ?_ ?_
      · have r5 := hw 5 rfl
        have r16 := hw 16 rfl
        have r6 := hcl 16 _ 6 rfl rfl r16
        have r8 := hcl 16 _ 8 rfl rfl r16
        have r10 := hcl 16 _ 10 rfl rfl r16
        have r13 := hcl 16 _ 13 rfl rfl r16
        have r15 := hcl 16 _ 15 rfl rfl r16
        have r14 := hcl 15 _ 14 rfl rfl r15
        have r12 := hcl 13 _ 12 rfl rfl r13
        have r11 := hcl 12 _ 11 rfl rfl r12
        have r9 := hcl 10 _ 9 rfl rfl r10
        have r7 := hcl 8 _ 7 rfl rfl r8
        have r0 := hcl 5 _ 0 rfl rfl r5
        have r2 := hcl 5 _ 2 rfl rfl r5
        have r4 := hcl 5 _ 4 rfl rfl r5
        have r3 := hcl 4 _ 3 rfl rfl r4
        have r1 := hcl 2 _ 1 rfl rfl r2
        match j, hj with
        | 0, _ => exact r0
        | 1, _ => exact r1
        | 2, _ => exact r2
        | 3, _ => exact r3
        | 4, _ => exact r4
        | 5, _ => exact r5
        | 6, _ => exact r6
        | 7, _ => exact r7
        | 8, _ => exact r8
        | 9, _ => exact r9
        | 10, _ => exact r10
        | 11, _ => exact r11
        | 12, _ => exact r12
        | 13, _ => exact r13
        | 14, _ => exact r14
        | 15, _ => exact r15
        | 16, _ => exact r16
        | j + 17, h => exact absurd h (by omega)
      · clear HA0
        refine ⟨?_, ?_, ?_, ?_, ?_, ?_, ?_, ?_, ?_, ?_, ?_, ?_, ?_, ?_, ?_, ?_, ?_, trivial⟩
        · refine stepB rfl rfl (by decide) (by rw [hz]; decide) rfl rfl (by kernel_rfl) St SG fun d a W hF hG hH hn hcl hw => ?_
          have q18 := (hF.same 18 (by decide)).trans e18
          refine ⟨wordsV, W, ?_, Below.refl _ _, ?_⟩
          · exact exec_load rfl (by rw [q18]; exact BoxW.load (BoxA.next yB hG))
          · rfl
        · refine stepB rfl rfl (by decide) (by rw [hz]; decide) rfl rfl (by kernel_rfl) St SG fun d a W hF hG hH hn hcl hw => ?_
          have q10 := (hF.same 10 (by decide)).trans e10
          exact ⟨.pointer (some ⟨g8, 0, none⟩), W, by clear hF hG hH hn hcl hw; generalize a.eval = ρ at *; go_simp, Below.refl _ _, rfl⟩
        · refine stepB rfl rfl (by decide) (by rw [hz]; decide) rfl rfl (by kernel_rfl) St SG fun d a W hF hG hH hn hcl hw => ?_
          have q164 : a.eval (.tmp 164) = .pointer (some ⟨g8, 0, none⟩) := hH.at_ (i := 1) rfl (hw 1 rfl) id
          have cc0 := cell_kept hG C80.out
          exact ⟨.int .i64 (n : Int), W, by clear hF hG hH hn hcl hw; generalize a.eval = ρ at *; go_simp, Below.refl _ _, rfl⟩
        · refine stepB rfl rfl (by decide) (by rw [hz]; decide) rfl rfl (by kernel_rfl) St SG fun d a W hF hG hH hn hcl hw => ?_
          have q10 := (hF.same 10 (by decide)).trans e10
          exact ⟨.pointer (some ⟨g8, 1, none⟩), W, by clear hF hG hH hn hcl hw; generalize a.eval = ρ at *; go_simp, Below.refl _ _, rfl⟩
        · refine stepB rfl rfl (by decide) (by rw [hz]; decide) rfl rfl (by kernel_rfl) St SG fun d a W hF hG hH hn hcl hw => ?_
          have q166 : a.eval (.tmp 166) = .pointer (some ⟨g8, 1, none⟩) := hH.at_ (i := 3) rfl (hw 3 rfl) id
          have cc0 := cell_kept hG C81.out
          exact ⟨.slice A1 m c1, W, by clear hF hG hH hn hcl hw; generalize a.eval = ρ at *; go_simp, Below.refl _ _, rfl⟩
        · refine stepC rfl rfl (by decide) (by rw [hz]; decide) rfl rfl (by kernel_rfl) St SG fun d a W hF hG hH hn hcl hw => ?_
          have q163 : a.eval (.tmp 163) = wordsV := hH.at_ (i := 0) rfl (hw 0 rfl) id
          have q165 : a.eval (.tmp 165) = .int .i64 (n : Int) := hH.at_ (i := 2) rfl (hw 2 rfl) id
          have q167 : a.eval (.tmp 167) = .slice A1 m c1 := hH.at_ (i := 4) rfl (hw 4 rfl) id
          have qf : a.eval (.func 44) = .func (.func 44) #[] #[] := rfl
          refine ⟨44, #[wordsV, .int .i64 (n : Int), .slice A1 m c1], ?_, ?_⟩
          · clear hF hG hH hn hcl hw
            generalize a.eval = ρ at *
            go_simp
          · refine (HMT.out W A1 c1 (hR1B.below hG)).mono ?_; rintro e W' ⟨v, rfl, hO, b⟩; exact ⟨v, rfl, b, hO.mono (by have := hG.size; omega)⟩
        · refine stepB rfl rfl (by decide) (by rw [hz]; decide) rfl rfl (by kernel_rfl) St SG fun d a W hF hG hH hn hcl hw => ?_
          have q18 := (hF.same 18 (by decide)).trans e18
          refine ⟨wordsV, W, ?_, Below.refl _ _, ?_⟩
          · exact exec_load rfl (by rw [q18]; exact BoxW.load (BoxA.next yB hG))
          · rfl
        · refine stepB rfl rfl (by decide) (by rw [hz]; decide) rfl rfl (by kernel_rfl) St SG fun d a W hF hG hH hn hcl hw => ?_
          have q7 := (hF.same 7 (by decide)).trans e7
          exact ⟨.pointer (some ⟨g5, 2, none⟩), W, by clear hF hG hH hn hcl hw; generalize a.eval = ρ at *; go_simp, Below.refl _ _, rfl⟩
        · refine stepB rfl rfl (by decide) (by rw [hz]; decide) rfl rfl (by kernel_rfl) St SG fun d a W hF hG hH hn hcl hw => ?_
          have q170 : a.eval (.tmp 170) = .pointer (some ⟨g5, 2, none⟩) := hH.at_ (i := 7) rfl (hw 7 rfl) id
          have cc0 := cell_kept hG C52.out
          exact ⟨.int .i64 (cn : Int), W, by clear hF hG hH hn hcl hw; generalize a.eval = ρ at *; go_simp, Below.refl _ _, rfl⟩
        · refine stepB rfl rfl (by decide) (by rw [hz]; decide) rfl rfl (by kernel_rfl) St SG fun d a W hF hG hH hn hcl hw => ?_
          have q7 := (hF.same 7 (by decide)).trans e7
          exact ⟨.pointer (some ⟨g5, 1, none⟩), W, by clear hF hG hH hn hcl hw; generalize a.eval = ρ at *; go_simp, Below.refl _ _, rfl⟩
        · refine stepB rfl rfl (by decide) (by rw [hz]; decide) rfl rfl (by kernel_rfl) St SG fun d a W hF hG hH hn hcl hw => ?_
          have q172 : a.eval (.tmp 172) = .pointer (some ⟨g5, 1, none⟩) := hH.at_ (i := 9) rfl (hw 9 rfl) id
          have cc0 := cell_kept hG C51.out
          exact ⟨.int .i64 index, W, by clear hF hG hH hn hcl hw; generalize a.eval = ρ at *; go_simp, Below.refl _ _, rfl⟩
        · refine stepB rfl rfl (by decide) (by rw [hz]; decide) rfl rfl (by kernel_rfl) St SG fun d a W hF hG hH hn hcl hw => ?_
          have q7 := (hF.same 7 (by decide)).trans e7
          exact ⟨.pointer (some ⟨g5, 0, none⟩), W, by clear hF hG hH hn hcl hw; generalize a.eval = ρ at *; go_simp, Below.refl _ _, rfl⟩
        · refine stepB rfl rfl (by decide) (by rw [hz]; decide) rfl rfl (by kernel_rfl) St SG fun d a W hF hG hH hn hcl hw => ?_
          have q174 : a.eval (.tmp 174) = .pointer (some ⟨g5, 0, none⟩) := hH.at_ (i := 11) rfl (hw 11 rfl) id
          have cc0 := cell_kept hG C50.out
          exact ⟨.slice A3 k3 c3, W, by clear hF hG hH hn hcl hw; generalize a.eval = ρ at *; go_simp, Below.refl _ _, rfl⟩
        · refine stepC rfl rfl (by decide) (by rw [hz]; decide) rfl rfl (by kernel_rfl) St SG fun d a W hF hG hH hn hcl hw => ?_
          have q175 : a.eval (.tmp 175) = .slice A3 k3 c3 := hH.at_ (i := 12) rfl (hw 12 rfl) id
          have qf : a.eval (.func 49) = .func (.func 49) #[] #[] := rfl
          refine ⟨49, #[.slice A3 k3 c3], ?_, ?_⟩
          · clear hF hG hH hn hcl hw
            generalize a.eval = ρ at *
            go_simp
          · refine (HLV3.out W (hR3B.below hG)).mono ?_; rintro e W' ⟨v, rfl, hO, b⟩; exact ⟨v, rfl, b, hO.mono (by have := hG.size; omega)⟩
        · refine stepB rfl rfl (by decide) (by rw [hz]; decide) rfl rfl (by kernel_rfl) St SG fun d a W hF hG hH hn hcl hw => ?_
          have q7 := (hF.same 7 (by decide)).trans e7
          exact ⟨.pointer (some ⟨g5, 4, none⟩), W, by clear hF hG hH hn hcl hw; generalize a.eval = ρ at *; go_simp, Below.refl _ _, rfl⟩
        · refine stepB rfl rfl (by decide) (by rw [hz]; decide) rfl rfl (by kernel_rfl) St SG fun d a W hF hG hH hn hcl hw => ?_
          have q177 : a.eval (.tmp 177) = .pointer (some ⟨g5, 4, none⟩) := hH.at_ (i := 14) rfl (hw 14 rfl) id
          have cc0 := cell_kept hG C54.out
          exact ⟨.slice PA pn pc, W, by clear hF hG hH hn hcl hw; generalize a.eval = ρ at *; go_simp, Below.refl _ _, rfl⟩
        · refine stepC rfl rfl (by decide) (by rw [hz]; decide) rfl rfl (by kernel_rfl) St SG fun d a W hF hG hH hn hcl hw => ?_
          have q169 : a.eval (.tmp 169) = wordsV := hH.at_ (i := 6) rfl (hw 6 rfl) id
          have q171 : a.eval (.tmp 171) = .int .i64 (cn : Int) := hH.at_ (i := 8) rfl (hw 8 rfl) id
          have q173 : a.eval (.tmp 173) = .int .i64 index := hH.at_ (i := 10) rfl (hw 10 rfl) id
          have q176 : OwnStrs W wB.heap.size (a.eval (.tmp 176)) L3 := hH.at_ (i := 13) rfl (hw 13 rfl) id
          have q178 : a.eval (.tmp 178) = .slice PA pn pc := hH.at_ (i := 15) rfl (hw 15 rfl) id
          have qf : a.eval (.func 45) = .func (.func 45) #[] #[] := rfl
          obtain ⟨A9, c9, q176, hc9, hS9⟩ := q176.toStrs
          rw [HL3.out] at q176 hc9
          refine ⟨45, #[wordsV, .int .i64 (cn : Int), .int .i64 index, .slice A9 k3 c9, .slice PA pn pc], ?_, ?_⟩
          · clear hF hG hH hn hcl hw
            generalize a.eval = ρ at *
            go_simp
          · refine (HFT.out A9 c9 W hc9 hS9 (hsB.next hG)).mono ?_; rintro e W' ⟨v, rfl, hO, b⟩; exact ⟨v, rfl, b, hO.mono (by have := hG.size; omega)⟩
      · intro d a W ⟨hF, hB, hH⟩ hall
        have k168 : OwnStrs W wB.heap.size (a.eval (.tmp 168)) MT := hH.at_ (i := 5) rfl (hall 5 (by decide)) id
        have k179 : OwnStrs W wB.heap.size (a.eval (.tmp 179)) FT := hH.at_ (i := 16) rfl (hall 16 (by decide)) id
        clear hH hall
        rw [hF.shape (by rw [hz]; decide)]
        clear hF
        simp only [List.foldl]
        generalize a.eval (.tmp 163) = z163, a.eval (.tmp 164) = z164, a.eval (.tmp 165) = z165, a.eval (.tmp 166) = z166, a.eval (.tmp 167) = z167, a.eval (.tmp 168) = z168, a.eval (.tmp 169) = z169, a.eval (.tmp 170) = z170, a.eval (.tmp 171) = z171, a.eval (.tmp 172) = z172, a.eval (.tmp 173) = z173, a.eval (.tmp 174) = z174, a.eval (.tmp 175) = z175, a.eval (.tmp 176) = z176, a.eval (.tmp 177) = z177, a.eval (.tmp 178) = z178, a.eval (.tmp 179) = z179 at *
        rw [HA0.out]
        simp only [Act.put, List.setIfInBounds_toArray, List.set_cons_zero, List.set_cons_succ]
        clear hz HA0 St SG e7 e10 e18
        clear a a0
        refine wp_append_strs (.tmp 168) (.tmp 179) rfl wB.heap.size wB.heap.size _ _ MT FT rfl rfl k168 k179 LM LF hB.size (fun z22 wC hOC bC => ?_)
        refine wp_yields (v := z22) (by rfl) ?_
        dsimp only [Act.put]
        have BC := hB.trans bC
        have sC := BC.size
        have yC : BoxW wC g18 := BoxA.next yB BC
        have u19 : BoxH wC g19 h := BoxA.next y19 BC
        have u5 := v5.next BC
        have u8 := v8.next BC
        have hkC := hkB.next BC
        have BB2 := Below.on BB1 BC
        have hbz : 0 < wB.heap.size := hkB.1
        clear C50 C51 C52 C53 C54 C80 C81
        have C50 := Lib.hid u5.c0
        have C51 := Lib.hid u5.c1
        have C52 := Lib.hid u5.c2
        have C53 := Lib.hid u5.c3
        have C54 := Lib.hid u5.c4
        have bs := BB1.size
        obtain ⟨bb, hbb⟩ : ∃ k, wB.heap.size = k := ⟨_, rfl⟩
        rw [hbb] at bs sC hOC l5 l8 l18 l19 hbz
        have BS := Lib.hid bs
        clear bs hbb
        clear k168 k179 hB bC BC yB y19 v5 v8 u8 hkB hsB hR1B hR3B BB1 HMT HFT
        go_upto_region 22 with (fail)
        refine wp_name fun a0 ha0 => ?_
        have e7 : a0.eval (.tmp 7) = .pointer (some ⟨g5, 0, none⟩) := by rw [ha0]; rfl
        have e18 : a0.eval (.tmp 18) = .pointer (some ⟨g18, 0, none⟩) := by rw [ha0]; rfl
        have e22 : a0.eval (.tmp 22) = z22 := by rw [ha0]; rfl
        have e19 : a0.eval (.tmp 19) = .pointer (some ⟨g19, 0, none⟩) := by rw [ha0]; rfl
        have hz : a0.tmps.size = 196 := by rw [ha0]; rfl
        have HA0 := Lib.hid ha0
        clear ha0
        have SG : ∀ (d d' : Nat → Prop) (W W' : World), (GRow bb 10 wC z22 (MT ++ FT)) d W → (∀ j, d j → d' j) → Below W.heap.size W W' → (GRow bb 10 wC z22 (MT ++ FT)) d' W' := fun _ _ _ _ h _hm b => GRow.next sC h _hm b
        have St : ∀ xc ∈ [(⟨some 0, 181, none, fun v _ => v = wordsV⟩ : Cl), ⟨some 1, 182, none, fun v _ => v = z22⟩, ⟨some 2, 183, none, fun v _ => v = wordsV⟩, ⟨some 3, 184, none, fun v _ => v = .pointer (some ⟨g5, 3, none⟩)⟩, ⟨some 4, 185, none, fun v _ => v = .int .i64 size⟩, ⟨some 5, 186, none, fun v _ => v = .pointer (some ⟨g5, 2, none⟩)⟩, ⟨some 6, 187, none, fun v _ => v = .int .i64 (cn : Int)⟩, ⟨some 7, 188, none, fun v _ => v = hashV h⟩, ⟨some 8, 189, none, fun v _ => v = .string ⟨zt.toArray⟩⟩, ⟨some 9, 190, some 10, fun v W => OwnStrs W wC.heap.size v [zt]⟩, ⟨some 10, 191, none, fun v W => OwnStrs W bb v (MT ++ FT ++ [zt])⟩, ⟨some 11, 192, none, fun v _ => v = .bool true⟩, ⟨some 12, 193, none, fun v _ => v = .bool true⟩, ⟨some 13, 194, none, fun v _ => v = .bool true⟩, ⟨some 14, 195, none, fun v _ => v = .bool true⟩, ⟨some 15, 8, none, fun v _ => v = .bool true⟩], Lasts xc := AllC.mem ⟨lastsV0 _ _ _ _, lastsV0 _ _ _ _, lastsV0 _ _ _ _, lastsV0 _ _ _ _, lastsV0 _ _ _ _, lastsV0 _ _ _ _, lastsV0 _ _ _ _, lastsV0 _ _ _ _, lastsV0 _ _ _ _, (fun _ _ _ h b => h.next b), (fun _ _ _ h b => h.next b), lastsV0 _ _ _ _, lastsV0 _ _ _ _, lastsV0 _ _ _ _, lastsV0 _ _ _ _, lastsV0 _ _ _ _, trivial⟩
        refine wp_region_guards (Inv [181, 182, 183, 184, 185, 186, 187, 188, 189, 190, 191, 192, 193, 194, 195, 8] a0 (GRow bb 10 wC z22 (MT ++ FT)) (lst St)) (by kernel_rfl) (by kernel_rfl) (Inv.start ⟨⟨(Below.refl _ _).drew, Nat.le_refl _⟩, fun _ => hOC.next ((Below.refl _ _).drew)⟩ ⟨nofun, nofun, nofun, nofun, nofun, nofun, nofun, nofun, nofun, nofun, nofun, nofun, nofun, nofun, nofun, nofun, trivial⟩) ?_ ?_
        · clear HA0
          refine ⟨?_, ?_, ?_, ?_, ?_, ?_, ?_, ?_, ?_, ?_, ?_, ?_, ?_, ?_, ?_, ?_, trivial⟩
          · refine StepG.of ?_
            refine stepB rfl rfl (by decide) (by rw [hz]; decide) rfl rfl (by kernel_rfl) St SG fun d a W hF hG hH hn hcl hw => ?_
            have q18 := (hF.same 18 (by decide)).trans e18
            refine ⟨wordsV, W, ?_, Below.refl _ _, ?_⟩
            · exact exec_load rfl (by rw [q18]; exact BoxW.load (BoxA.low yC (by omega) hG.1.1))
            · rfl
          · refine StepG.of ?_
            refine stepB rfl rfl (by decide) (by rw [hz]; decide) rfl rfl (by kernel_rfl) St SG fun d a W hF hG hH hn hcl hw => ?_
            have q22 := (hF.same 22 (by decide)).trans e22
            exact ⟨z22, W, by clear hF hG hH hn hcl hw; generalize a.eval = ρ at *; go_simp, Below.refl _ _, rfl⟩
          · refine StepG.of ?_
            refine stepB rfl rfl (by decide) (by rw [hz]; decide) rfl rfl (by kernel_rfl) St SG fun d a W hF hG hH hn hcl hw => ?_
            have q18 := (hF.same 18 (by decide)).trans e18
            refine ⟨wordsV, W, ?_, Below.refl _ _, ?_⟩
            · exact exec_load rfl (by rw [q18]; exact BoxW.load (BoxA.low yC (by omega) hG.1.1))
            · rfl
          · refine StepG.of ?_
            refine stepB rfl rfl (by decide) (by rw [hz]; decide) rfl rfl (by kernel_rfl) St SG fun d a W hF hG hH hn hcl hw => ?_
            have q7 := (hF.same 7 (by decide)).trans e7
            exact ⟨.pointer (some ⟨g5, 3, none⟩), W, by clear hF hG hH hn hcl hw; generalize a.eval = ρ at *; go_simp, Below.refl _ _, rfl⟩
          · refine StepG.of ?_
            refine stepB rfl rfl (by decide) (by rw [hz]; decide) rfl rfl (by kernel_rfl) St SG fun d a W hF hG hH hn hcl hw => ?_
            have q184 : a.eval (.tmp 184) = .pointer (some ⟨g5, 3, none⟩) := hH.at_ (i := 3) rfl (hw 3 rfl) id
            have cc0 := cell_low C53.out (by show _ < _; omega) hG.1.1
            exact ⟨.int .i64 size, W, by clear hF hG hH hn hcl hw; generalize a.eval = ρ at *; go_simp, Below.refl _ _, rfl⟩
          · refine StepG.of ?_
            refine stepB rfl rfl (by decide) (by rw [hz]; decide) rfl rfl (by kernel_rfl) St SG fun d a W hF hG hH hn hcl hw => ?_
            have q7 := (hF.same 7 (by decide)).trans e7
            exact ⟨.pointer (some ⟨g5, 2, none⟩), W, by clear hF hG hH hn hcl hw; generalize a.eval = ρ at *; go_simp, Below.refl _ _, rfl⟩
          · refine StepG.of ?_
            refine stepB rfl rfl (by decide) (by rw [hz]; decide) rfl rfl (by kernel_rfl) St SG fun d a W hF hG hH hn hcl hw => ?_
            have q186 : a.eval (.tmp 186) = .pointer (some ⟨g5, 2, none⟩) := hH.at_ (i := 5) rfl (hw 5 rfl) id
            have cc0 := cell_low C52.out (by show _ < _; omega) hG.1.1
            exact ⟨.int .i64 (cn : Int), W, by clear hF hG hH hn hcl hw; generalize a.eval = ρ at *; go_simp, Below.refl _ _, rfl⟩
          · refine StepG.of ?_
            refine stepB rfl rfl (by decide) (by rw [hz]; decide) rfl rfl (by kernel_rfl) St SG fun d a W hF hG hH hn hcl hw => ?_
            have q19 := (hF.same 19 (by decide)).trans e19
            refine ⟨hashV h, W, ?_, Below.refl _ _, ?_⟩
            · exact exec_load rfl (by rw [q19]; exact BoxH.load_ (BoxA.low u19 (by omega) hG.1.1) HH.out)
            · rfl
          · refine StepG.of ?_
            refine stepC rfl rfl (by decide) (by rw [hz]; decide) rfl rfl (by kernel_rfl) St SG fun d a W hF hG hH hn hcl hw => ?_
            have q183 : a.eval (.tmp 183) = wordsV := hH.at_ (i := 2) rfl (hw 2 rfl) id
            have q185 : a.eval (.tmp 185) = .int .i64 size := hH.at_ (i := 4) rfl (hw 4 rfl) id
            have q187 : a.eval (.tmp 187) = .int .i64 (cn : Int) := hH.at_ (i := 6) rfl (hw 6 rfl) id
            have q188 : a.eval (.tmp 188) = hashV h := hH.at_ (i := 7) rfl (hw 7 rfl) id
            have qf : a.eval (.func 47) = .func (.func 47) #[] #[] := rfl
            refine ⟨47, #[wordsV, .int .i64 size, .int .i64 (cn : Int), hashV h], ?_, ?_⟩
            · clear hF hG hH hn hcl hw
              generalize a.eval = ρ at *
              go_simp
            · refine (HMX.out W).mono ?_; rintro e W' ⟨rfl, b⟩; exact ⟨_, rfl, b, rfl⟩
          · refine StepG.of ?_
            refine stepB rfl rfl (by decide) (by rw [hz]; decide) rfl rfl (by kernel_rfl) St SG fun d a W hF hG hH hn hcl hw => ?_
            have q189 : a.eval (.tmp 189) = .string ⟨zt.toArray⟩ := hH.at_ (i := 8) rfl (hw 8 rfl) id
            refine ⟨.slice (some ⟨W.heap.size, 0, none⟩) 1 1, W.alloc (.cells #[.string ⟨zt.toArray⟩] 9), ?_, Below.new1 W _, ?_⟩
            · clear hF hG hH hn hcl hw
              generalize a.eval = ρ at *
              go_simp
            · exact OwnStrs.one W _ _ hG.1.2
          · refine StepG.of ?_
            refine stepA3 rfl rfl (by decide) (by rw [hz]; decide) rfl rfl (by kernel_rfl) bb (AllC.mem ⟨.inr (.inr (.inl fun _ _ _ h _ => h)), .inr (.inr (.inl fun _ _ _ h _ => h)), .inr (.inr (.inl fun _ _ _ h _ => h)), .inr (.inr (.inl fun _ _ _ h _ => h)), .inr (.inr (.inl fun _ _ _ h _ => h)), .inr (.inr (.inl fun _ _ _ h _ => h)), .inr (.inr (.inl fun _ _ _ h _ => h)), .inr (.inr (.inl fun _ _ _ h _ => h)), .inr (.inr (.inl fun _ _ _ h _ => h)), .inr (.inl rfl), .inl rfl, .inr (.inr (.inl fun _ _ _ h _ => h)), .inr (.inr (.inl fun _ _ _ h _ => h)), .inr (.inr (.inl fun _ _ _ h _ => h)), .inr (.inr (.inl fun _ _ _ h _ => h)), .inr (.inr (.inl fun _ _ _ h _ => h)), trivial⟩) (fun _ _ _ _ h hm hk b => h.done hm hk b) fun d a W hF hG hH hn hcl hw => ?_
            have q182 : a.eval (.tmp 182) = z22 := hH.at_ (i := 1) rfl (hw 1 rfl) id
            have q190 : OwnStrs W wC.heap.size (a.eval (.tmp 190)) [zt] := hH.at_ (i := 9) rfl (hw 9 rfl) hn
            have hO := hG.2 hn
            exact exec_append_strs2 (.tmp 182) (.tmp 190) rfl bb wC.heap.size W _ _ (MT ++ FT) [zt] rfl rfl (by rw [q182]; exact hO) q190 LMF (by simp) (by have := hG.1.2; omega)
          · refine StepG.of ?_
            refine stepC rfl rfl (by decide) (by rw [hz]; decide) rfl rfl (by kernel_rfl) St SG fun d a W hF hG hH hn hcl hw => ?_
            have q181 : a.eval (.tmp 181) = wordsV := hH.at_ (i := 0) rfl (hw 0 rfl) id
            have q191 : OwnStrs W bb (a.eval (.tmp 191)) (MT ++ FT ++ [zt]) := hH.at_ (i := 10) rfl (hw 10 rfl) id
            have qf : a.eval (.func 46) = .func (.func 46) #[] #[] := rfl
            obtain ⟨A9, c9, q191, hS9, _⟩ := q191.slice
            refine ⟨46, #[wordsV, .slice A9 (MT ++ FT ++ [zt]).length c9], ?_, ?_⟩
            · clear hF hG hH hn hcl hw
              generalize a.eval = ρ at *
              go_simp
            · refine (HCC.out A9 c9 W hS9).mono ?_; rintro e W' ⟨rfl, b⟩; exact ⟨_, rfl, b, rfl⟩
          · refine StepG.of ?_
            refine stepB rfl rfl (by decide) (by rw [hz]; decide) rfl rfl (by kernel_rfl) St SG fun d a W hF hG hH hn hcl hw => ?_
            have q192 : a.eval (.tmp 192) = .bool true := hH.at_ (i := 11) rfl (hw 11 rfl) id
            exact ⟨.bool true, W, by clear hF hG hH hn hcl hw; generalize a.eval = ρ at *; go_simp, Below.refl _ _, rfl⟩
          · refine StepG.on rfl (fun d a W hI hw => yielded_of rfl (hI.2.2.at_ (i := 12) rfl (hw 12 rfl) id)) ?_
            refine stepC rfl rfl (by decide) (by rw [hz]; decide) rfl rfl (by kernel_rfl) St SG fun d a W hF hG hH hn hcl hw => ?_
            have qf : a.eval (.func 17) = .func (.func 17) #[] #[] := rfl
            refine ⟨17, #[], ?_, ?_⟩
            · clear hF hG hH hn hcl hw
              generalize a.eval = ρ at *
              go_simp
            · refine (HA.out W (hkC.low hbz hG.1.1)).mono ?_; rintro e W' ⟨rfl, b⟩; exact ⟨_, rfl, b, rfl⟩
          · refine StepG.of ?_
            refine stepB rfl rfl (by decide) (by rw [hz]; decide) rfl rfl (by kernel_rfl) St SG fun d a W hF hG hH hn hcl hw => ?_
            have q193 : a.eval (.tmp 193) = .bool true := hH.at_ (i := 12) rfl (hw 12 rfl) id
            have q194 : a.eval (.tmp 194) = .bool true := hH.at_ (i := 13) rfl (hw 13 rfl) id
            have qk1 : a.eval (.const (.bool false)) = .bool false := rfl
            exact ⟨.bool true, W, by clear hF hG hH hn hcl hw; generalize a.eval = ρ at *; go_simp, Below.refl _ _, rfl⟩
          · refine StepG.of ?_
            refine stepB rfl rfl (by decide) (by rw [hz]; decide) rfl rfl (by kernel_rfl) St SG fun d a W hF hG hH hn hcl hw => ?_
            have q195 : a.eval (.tmp 195) = .bool true := hH.at_ (i := 14) rfl (hw 14 rfl) id
            exact ⟨.bool true, W, by clear hF hG hH hn hcl hw; generalize a.eval = ρ at *; go_simp, Below.refl _ _, rfl⟩
        · intro d a W ⟨hF, hB, hH⟩ hall
          have k8 : a.eval (.tmp 8) = .bool true := hH.at_ (i := 15) rfl (hall 15 (by decide)) id
          clear hH hall
          rw [hF.shape (by rw [hz]; decide)]
          clear hF
          simp only [List.foldl]
          generalize a.eval (.tmp 181) = z181, a.eval (.tmp 182) = z182, a.eval (.tmp 183) = z183, a.eval (.tmp 184) = z184, a.eval (.tmp 185) = z185, a.eval (.tmp 186) = z186, a.eval (.tmp 187) = z187, a.eval (.tmp 188) = z188, a.eval (.tmp 189) = z189, a.eval (.tmp 190) = z190, a.eval (.tmp 191) = z191, a.eval (.tmp 192) = z192, a.eval (.tmp 193) = z193, a.eval (.tmp 194) = z194, a.eval (.tmp 195) = z195, a.eval (.tmp 8) = z8 at *
          subst k8
          rw [HA0.out]
          simp only [Act.put, List.setIfInBounds_toArray, List.set_cons_zero, List.set_cons_succ]
          clear hz HA0 St SG e7 e18 e22 e19
          clear a a0
          go_wp2_with (fail)
          go_ret
          exact ⟨rfl, Below.trans BB2 (hB.1.1.mono BS.out)⟩
set_option maxRecDepth 100000 in
set_option maxHeartbeats 4000000 in
theorem exact_out_no (ts : List UInt8) (X3 : List Rn) (index count size : Int) (path : List Bs) (A A3 PA : Option Addr) (lo hi : Int)  (n c k3 c3 pn pc : Nat) (w : World) (hn : ts.length = n) (h1 : 1 ≤ n) (h60 : n ≤ 60) (hT : Tags w A ts) (hR3 : Runs w A3 X3) (hk3 : X3.length = k3) (hkc : k3 ≤ c3) (hk40 : k3 ≤ 40) (hs : Hs w PA path) (hpn : path.length = pn) (hpc : pn ≤ pc) (h30 : pn ≤ 40) (hk : Kon w) (hx : lo < 0 ∨ (0 ≤ lo ∧ (hi ≤ lo ∨ (lo < hi ∧ (n : Int) < hi)))) (hac : acceptM (rootO ts) lo hi X3 index count size path = false) : Calls Tryd.prog 12 #[.slice A n c, .int .i64 lo, .int .i64 hi, claimV A3 k3 c3 index count size PA pn pc] w fun e w' => e = .returned (.bool true) ∧ Below w.heap.size w w' := by
  obtain ⟨w0, hW0⟩ : ∃ w0, w.alloc (.cells #[.slice A3 k3 c3, .int .i64 index, .int .i64 count, .int .i64 size, .slice PA pn pc] 43) = w0 := ⟨_, rfl⟩
  have B0 : Below w.heap.size w w0 := hW0 ▸ Below.new1 _ _
  have x5 : BoxC w0 w.heap.size A3 k3 c3 index count size PA pn pc := hW0 ▸ BoxC.new w A3 k3 c3 index count size PA pn pc
  have hk0 := hk.next B0
  have HO := Lib.hid hW0
  have hs0 := hs.next B0
  have hR30 := hR3.below B0
  have hroot : (rootO ts).length = 32 := rootO_length ts
  have hmd := fun W (h : Tags W A ts) => made_yes ts A n c W hn h1 h60 h
  unfold MadePost at hmd
  rw [hn] at hmd
  have hmr := fun W p (h : Rep W p (ofL ts)) (kon : Kon W) => mapRoot_any W p (ofL ts) h kon
  rw [mapRoot_of (by omega) (by omega)] at hmr
  have hacc := fun W (hR : Runs W A3 X3) (h : Hs W PA path) (kon : Kon W) => accept_any (rootO ts) lo hi X3 A3 k3 c3 index count size path PA pn pc W hk3 hR hkc h hpn hpc (by omega) kon hroot
  rw [hac] at hacc
  have hmle := (ofR_spec ts).2.2.2.2.1
  generalize rootO ts = root at *
  generalize ofL ts = L at *
  obtain ⟨m, hm⟩ : ∃ m, (ofR ts).length = m := ⟨_, rfl⟩
  rw [hm] at hmd hmle
  generalize ofR ts = R at *
  have HMD := Lib.hid hmd
  have HMR := Lib.hid hmr
  have HAC := Lib.hid hacc
  have HA := Lib.hid (fun W kon => awake_any W kon)
  have HROOT := Lib.hid hroot
  have HRL := Lib.hid hm
  have j1 : ((n : Int) == 0) = false := by simp; omega
  have j2 : ¬ (60 : Int) < n := by omega
  have j3 : ¬ (40 : Int) < pn := by omega
  have j4 : ¬ (40 : Int) < k3 := by omega
  clear hmd hmr hacc hac hroot hn hm hmle hk hW0 h1 h60 h30 hs hpn hpc hR3 hk3 hkc hk40
  rcases hx with l0 | ⟨l0, hx⟩
  rotate_left
  rcases hx with l1 | ⟨l1, l2⟩
  all_goals
    go_enter Tryd.func12, Tryd.ntmps12
    go_upto_region 1 with (fail)
    change Code.wp _ _ _ _ (w.alloc (.cells #[.slice A3 k3 c3, .int .i64 index, .int .i64 count, .int .i64 size, .slice PA pn pc] 43))
    rw [HO.out]
    clear HO
    go_upto_region 2 with (go_at_call 38; refine (HMD.out _ (hT.next B0)).mono ?_; rintro e w1 ⟨p, A1, c1, rfl, hp1, hO1, b1⟩)
    obtain ⟨w2, hW2⟩ : ∃ w2, (w1.alloc (.cells #[.pointer p] 47)).alloc (.cells #[.int .i64 (n : Int), .slice A1 m c1] 69) = w2 := ⟨_, rfl⟩
    have b2 : Below w1.heap.size w1 w2 := hW2 ▸ Below.on (Below.new1 _ _) (Below.new1 _ _)
    have x7 : Boxed w2 w1.heap.size 47 (.pointer p) := hW2 ▸ (Boxed.new w1 _ _).alloc _
    have x8 : BoxM w2 (w1.heap.size + 1) n (.slice A1 m c1) := by
      have := BoxM.new (w1.alloc (.cells #[.pointer p] 47)) n (.slice A1 m c1)
      rw [World.size_alloc] at this; exact hW2 ▸ this
    have hp2 := hp1.below b2
    have hRc : Runs w2 A1 R ∧ R.length ≤ c1 := by
      obtain ⟨A', c', e, hc', h⟩ := (hO1.next b2).runs
      cases e; exact ⟨h, hc'⟩
    obtain ⟨hR2, hc1⟩ := hRc
    change Code.wp _ _ _ _ ((w1.alloc (.cells #[.pointer p] 47)).alloc (.cells #[.int .i64 (n : Int), .slice A1 m c1] 69))
    rw [hW2]
    have B2 := Below.on b1 b2
    have z5 := x5.next B2
    have hk2 := hk0.next B2
    have c7 := x7.cell
    have c80 := x8.c0
    have hs2 := hs0.next B2
    have hR32 := hR30.below B2
    have c56 := z5.c4
    have c50 := z5.c0
    have BB := Below.on B0 B2
    generalize w1.heap.size = g7 at *
    clear hW2 hT x5 x7 hp1 hO1 b1 b2 B0 B2 hs0 hk0 hR30
    go_upto_region 7 with (first
      | (go_at_call 25; refine (HMR.out _ p hp2 hk2).mono ?_; rintro e w3 ⟨rfl, b3⟩)
      | ((with_reducible refine wpList_storeH ?_ (.tmp 12) (.tmp 60) ?_ w3.heap.size root ?_ ?_ (BoxA.new w3 30 .u8 (List.replicate 32 0) _ rfl) (by simp) HROOT.out ?_); rfl; rfl; rfl; rfl))
    obtain ⟨w4, hW4⟩ : ∃ w4, World.setRow (World.alloc w3 (.cells (ints .u8 (List.replicate 32 0)) 30)) w3.heap.size (ints .u8 (nums root)) = w4 := ⟨_, rfl⟩
    have y10 : BoxH w4 w3.heap.size root := hW4 ▸ (BoxA.new w3 30 .u8 (List.replicate 32 0) _ rfl).setRow (l' := nums root)
    have b4 : Below w3.heap.size w3 w4 := hW4 ▸ below_setRow (Below.new1 w3 _) (Nat.le_refl _) _
    change Code.wp _ _ _ _ (World.setRow (World.alloc w3 (.cells (ints .u8 (List.replicate 32 0)) 30)) w3.heap.size (ints .u8 (nums root)))
    rw [hW4]
    have B4 := Below.on b3 b4
    have BB4 := Below.on BB B4
    have hp4 := hp2.below B4
    have hk4 := hk2.next B4
    have hs4 := hs2.next B4
    have hR4 := hR2.below B4
    have hR34 := hR32.below B4
    have v5 := z5.next B4
    have v8 := x8.next B4
    replace c7 := cell_kept B4 c7
    replace c80 := v8.c0
    generalize w3.heap.size = g10 at *
    clear hW4 b3 b4 hp2 hk2 hs2 hR2 hR32 z5 x8 c56 c50 B4 BB HMR HMD
    have hk7 := hk4
    have hs7 := hs4
    have hR7 := hR4
    have hR37 := hR34
    have u5 := v5
    have u8 := v8
    have u10 := y10
    have BB7 := BB4
    obtain ⟨w7, hw7⟩ : ∃ w7, w7 = w4 := ⟨_, rfl⟩
    rw [← hw7] at hk7 hs7 hR7 hR37 u5 u8 u10 BB7 c7 c80 ⊢
    clear hw7 hp4 hk4 hs4 hR4 hR34 v5 v8 y10 BB4 c7
    go_upto_region 12 with (first
      | ((with_reducible refine wpList_load_if (o := ⟨some 94, _, _, _, _, _⟩) ?_ 30 (.tmp 12) ?_ (hashV root) ?_ ?_); rfl; rfl; exact (BoxH.load_ u10 HROOT.out))
      | ((with_reducible refine wpList_load_if (o := ⟨some 97, _, _, _, _, _⟩) ?_ 43 (.tmp 7) ?_ (claimV A3 k3 c3 index count size PA pn pc) ?_ ?_); rfl; rfl; exact u5.load_)
      | (go_at_call 23; refine (HAC.out _ hR37 hs7 hk7).mono ?_; rintro e w8 ⟨rfl, b8⟩))
    have hk8 := hk7.next b8
    replace c80 := cell_kept b8 c80
    clear hk7 hs7 hR7 hR37 u5 u8 u10
    go_wp2_with (go_at_call 17; refine (HA.out _ hk8).mono ?_; rintro e w9 ⟨rfl, b9⟩)
    go_ret
    exact ⟨rfl, Below.on (Below.on BB7 b8) b9⟩
set_option maxRecDepth 100000 in
set_option maxHeartbeats 4000000 in
theorem exact_out_clash (ts : List UInt8) (X3 : List Rn) (index  size : Int) (path : List Bs) (A A3 PA : Option Addr) (lo hi : Int) (cn : Nat) (n c k3 c3 pn pc : Nat) (w : World) (hn : ts.length = n) (h1 : 1 ≤ n) (h60 : n ≤ 60) (hT : Tags w A ts) (hR3 : Runs w A3 X3) (hk3 : X3.length = k3) (hkc : k3 ≤ c3) (hk40 : k3 ≤ 40) (hs : Hs w PA path) (hpn : path.length = pn) (hpc : pn ≤ pc) (h30 : pn ≤ 40) (hk : Kon w) (hsz : size < 9223372036854775808) (hx : lo < 0 ∨ (0 ≤ lo ∧ (hi ≤ lo ∨ (lo < hi ∧ (n : Int) < hi)))) (hac : acceptM (rootO ts) lo hi X3 index cn size path = true) (h : Bs) (hh : h.length = 32) (hi0 : 0 ≤ index) (hic : index < cn) (hcn : cn ≤ 4096) (hsz0 : 0 ≤ size) (hfit : ∀ x ∈ X3, Fit x) (hx1 : 1 ≤ k3) (hfo : foldR cn index (X3.map textM) path = (h, path.length, true)) (hcl : ClashL sha (mapT ts.length (ofR ts) ++ foldT sha cn index (X3.map textM) path ++ [sealT size cn h])) : Calls Tryd.prog 12 #[.slice A n c, .int .i64 lo, .int .i64 hi, claimV A3 k3 c3 index (cn : Int) size PA pn pc] w fun e w' => e = .returned (.bool true) ∧ Below w.heap.size w w' := by
  obtain ⟨w0, hW0⟩ : ∃ w0, w.alloc (.cells #[.slice A3 k3 c3, .int .i64 index, .int .i64 (cn : Int), .int .i64 size, .slice PA pn pc] 43) = w0 := ⟨_, rfl⟩
  have B0 : Below w.heap.size w w0 := hW0 ▸ Below.new1 _ _
  have x5 : BoxC w0 w.heap.size A3 k3 c3 index (cn : Int) size PA pn pc := hW0 ▸ BoxC.new w A3 k3 c3 index (cn : Int) size PA pn pc
  have hk0 := hk.next B0
  have HO := Lib.hid hW0
  have hs0 := hs.next B0
  have hR30 := hR3.below B0
  have hroot : (rootO ts).length = 32 := rootO_length ts
  have hmd := fun W (h : Tags W A ts) => made_yes ts A n c W hn h1 h60 h
  unfold MadePost at hmd
  rw [hn] at hmd
  have hmr := fun W p (h : Rep W p (ofL ts)) (kon : Kon W) => mapRoot_any W p (ofL ts) h kon
  rw [mapRoot_of (by omega) (by omega)] at hmr
  have hacc := fun W (hR : Runs W A3 X3) (h : Hs W PA path) (kon : Kon W) => accept_any (rootO ts) lo hi X3 A3 k3 c3 index (cn : Int) size path PA pn pc W hk3 hR hkc h hpn hpc (by omega) kon hroot
  rw [hac] at hacc
  have hin : ∀ s ∈ X3.map textM, s.length ≤ 90000 := fun s hs => by obtain ⟨x, _, rfl⟩ := List.mem_map.1 hs; rw [textM_length]; omega
  have hl3 : (X3.map textM).length = k3 := by rw [List.length_map, hk3]
  have hlv := fun W (h : Runs W A3 X3) => rleaves_any X3 A3 k3 c3 W hk3 h hfit (by omega)
  have hmt := fun W A1 c1 (h : Runs W A1 (ofR ts)) => rmaptexts_any n (ofR ts) A1 _ c1 W rfl (by omega) (by omega) (by have := (ofR_spec ts).2.2.2.2.1; omega) h (ofR_fit (by omega) (by omega))
  have hfd := fun A9 c9 W (hc9 : k3 ≤ c9) (h : Strs W A9 (X3.map textM)) (hp : Hs W PA path) => rfold_any cn index (X3.map textM) path A9 PA k3 c9 pn pc W (by omega) (by omega) (by omega) (by omega) hl3 hc9 (by omega) hpn hpc (by omega) hin h hp
  rw [hfo, foldV3, hpn] at hfd
  have hft := fun A9 c9 W (hc9 : k3 ≤ c9) (h : Strs W A9 (X3.map textM)) (hp : Hs W PA path) => rftexts_any cn index (X3.map textM) path A9 PA k3 c9 pn pc W (by omega) (by omega) (by omega) (by omega) hl3 hc9 (by omega) hpn hpc (by omega) hin h hp
  have hmx := fun W => rmaptext_any size cn h W hsz0 hsz (by omega) (by omega) hh
  have lm := mapT_len (ts := ts) (by omega)
  have sm := mapT_short (ts := ts) (by omega)
  have lf := foldT_more cn index (X3.map textM) path
  have sf := foldT_short cn cn index (X3.map textM) path (Nat.le_refl _) hin hs.1
  have szt := sealT_short size cn hh
  rw [hn] at hcl lm sm
  generalize mapT n (ofR ts) = MT at *
  generalize foldT sha cn index (X3.map textM) path = FT at *
  generalize sealT size cn h = zt at *
  generalize X3.map textM = L3 at *
  have LM : MT.length ≤ 100000 := by omega
  have LF : FT.length ≤ 100000 := by omega
  have LMF : (MT ++ FT).length ≤ 100000 := by rw [List.length_append]; omega
  have hcc := fun A9 c9 W (h : Strs W A9 (MT ++ FT ++ [zt])) => rclash_any (MT ++ FT ++ [zt]) A9 _ c9 W rfl (by simp only [List.length_append, List.length_cons, List.length_nil]; omega) (fun s hs => (List.mem_append.1 hs).elim (fun hs => (List.mem_append.1 hs).elim (sm s) (sf s)) (fun hs => by rw [List.mem_singleton.1 hs]; exact szt)) h
  rw [clashB_yes hcl] at hcc
  have HLV3 := Lib.hid hlv
  have HL3 := Lib.hid hl3
  have HFD := Lib.hid hfd
  have HFT := Lib.hid hft
  have HMX := Lib.hid hmx
  have HCC := Lib.hid hcc
  have HH := Lib.hid hh
  have i1 : ¬ index < 0 := by omega
  have i2 : ¬ (cn : Int) ≤ index := by omega
  have i3 : ¬ (4096 : Int) < cn := by omega
  have hmle := (ofR_spec ts).2.2.2.2.1
  generalize rootO ts = root at *
  generalize ofL ts = L at *
  obtain ⟨m, hm⟩ : ∃ m, (ofR ts).length = m := ⟨_, rfl⟩
  rw [hm] at hmd hmle hmt
  generalize ofR ts = R at *
  have HMD := Lib.hid hmd
  have HMR := Lib.hid hmr
  have HAC := Lib.hid hacc
  have HA := Lib.hid (fun W kon => awake_any W kon)
  have HROOT := Lib.hid hroot
  have HRL := Lib.hid hm
  have HMT := Lib.hid hmt
  have j1 : ((n : Int) == 0) = false := by simp; omega
  have j2 : ¬ (60 : Int) < n := by omega
  have j3 : ¬ (40 : Int) < pn := by omega
  have j4 : ¬ (40 : Int) < k3 := by omega
  clear hmd hmr hacc hac hroot hn hm hmle hk hW0 h1 h60 h30 hs hpn hpc hR3 hk3 hkc hk40 hlv hmt hfd hft hmx lm sm lf sf szt hcc hcl hfo hfit hi0 hic hcn hsz0 hh hin hl3 hx1 hsz
  rcases hx with l0 | ⟨l0, hx⟩
  rotate_left
  rcases hx with l1 | ⟨l1, l2⟩
  all_goals
    go_enter Tryd.func12, Tryd.ntmps12
    go_upto_region 1 with (fail)
    change Code.wp _ _ _ _ (w.alloc (.cells #[.slice A3 k3 c3, .int .i64 index, .int .i64 (cn : Int), .int .i64 size, .slice PA pn pc] 43))
    rw [HO.out]
    clear HO
    go_upto_region 2 with (go_at_call 38; refine (HMD.out _ (hT.next B0)).mono ?_; rintro e w1 ⟨p, A1, c1, rfl, hp1, hO1, b1⟩)
    obtain ⟨w2, hW2⟩ : ∃ w2, (w1.alloc (.cells #[.pointer p] 47)).alloc (.cells #[.int .i64 (n : Int), .slice A1 m c1] 69) = w2 := ⟨_, rfl⟩
    have b2 : Below w1.heap.size w1 w2 := hW2 ▸ Below.on (Below.new1 _ _) (Below.new1 _ _)
    have x7 : Boxed w2 w1.heap.size 47 (.pointer p) := hW2 ▸ (Boxed.new w1 _ _).alloc _
    have x8 : BoxM w2 (w1.heap.size + 1) n (.slice A1 m c1) := by
      have := BoxM.new (w1.alloc (.cells #[.pointer p] 47)) n (.slice A1 m c1)
      rw [World.size_alloc] at this; exact hW2 ▸ this
    have hp2 := hp1.below b2
    have hRc : Runs w2 A1 R ∧ R.length ≤ c1 := by
      obtain ⟨A', c', e, hc', h⟩ := (hO1.next b2).runs
      cases e; exact ⟨h, hc'⟩
    obtain ⟨hR2, hc1⟩ := hRc
    change Code.wp _ _ _ _ ((w1.alloc (.cells #[.pointer p] 47)).alloc (.cells #[.int .i64 (n : Int), .slice A1 m c1] 69))
    rw [hW2]
    have B2 := Below.on b1 b2
    have z5 := x5.next B2
    have hk2 := hk0.next B2
    have c7 := x7.cell
    have c80 := x8.c0
    have hs2 := hs0.next B2
    have hR32 := hR30.below B2
    have c56 := z5.c4
    have c50 := z5.c0
    have BB := Below.on B0 B2
    generalize w1.heap.size = g7 at *
    clear hW2 hT x5 x7 hp1 hO1 b1 b2 B0 B2 hs0 hk0 hR30
    go_upto_region 7 with (first
      | (go_at_call 25; refine (HMR.out _ p hp2 hk2).mono ?_; rintro e w3 ⟨rfl, b3⟩)
      | ((with_reducible refine wpList_storeH ?_ (.tmp 12) (.tmp 60) ?_ w3.heap.size root ?_ ?_ (BoxA.new w3 30 .u8 (List.replicate 32 0) _ rfl) (by simp) HROOT.out ?_); rfl; rfl; rfl; rfl))
    obtain ⟨w4, hW4⟩ : ∃ w4, World.setRow (World.alloc w3 (.cells (ints .u8 (List.replicate 32 0)) 30)) w3.heap.size (ints .u8 (nums root)) = w4 := ⟨_, rfl⟩
    have y10 : BoxH w4 w3.heap.size root := hW4 ▸ (BoxA.new w3 30 .u8 (List.replicate 32 0) _ rfl).setRow (l' := nums root)
    have b4 : Below w3.heap.size w3 w4 := hW4 ▸ below_setRow (Below.new1 w3 _) (Nat.le_refl _) _
    change Code.wp _ _ _ _ (World.setRow (World.alloc w3 (.cells (ints .u8 (List.replicate 32 0)) 30)) w3.heap.size (ints .u8 (nums root)))
    rw [hW4]
    have B4 := Below.on b3 b4
    have BB4 := Below.on BB B4
    have hp4 := hp2.below B4
    have hk4 := hk2.next B4
    have hs4 := hs2.next B4
    have hR4 := hR2.below B4
    have hR34 := hR32.below B4
    have v5 := z5.next B4
    have v8 := x8.next B4
    replace c7 := cell_kept B4 c7
    replace c80 := v8.c0
    generalize w3.heap.size = g10 at *
    clear hW4 b3 b4 hp2 hk2 hs2 hR2 hR32 z5 x8 c56 c50 B4 BB HMR HMD
    have hk7 := hk4
    have hs7 := hs4
    have hR7 := hR4
    have hR37 := hR34
    have u5 := v5
    have u8 := v8
    have u10 := y10
    have BB7 := BB4
    obtain ⟨w7, hw7⟩ : ∃ w7, w7 = w4 := ⟨_, rfl⟩
    rw [← hw7] at hk7 hs7 hR7 hR37 u5 u8 u10 BB7 c7 c80 ⊢
    clear hw7 hp4 hk4 hs4 hR4 hR34 v5 v8 y10 BB4 c7
    go_upto_region 13 with (first
      | ((with_reducible refine wpList_load_if (o := ⟨some 94, _, _, _, _, _⟩) ?_ 30 (.tmp 12) ?_ (hashV root) ?_ ?_); rfl; rfl; exact (BoxH.load_ u10 HROOT.out))
      | ((with_reducible refine wpList_load_if (o := ⟨some 97, _, _, _, _, _⟩) ?_ 43 (.tmp 7) ?_ (claimV A3 k3 c3 index (cn : Int) size PA pn pc) ?_ ?_); rfl; rfl; exact u5.load_)
      | (go_at_call 23; refine (HAC.out _ hR37 hs7 hk7).mono ?_; rintro e w8 ⟨rfl, b8⟩))
    have hk8 := hk7.next b8
    replace c80 := cell_kept b8 c80
    have q5 := u5.next b8
    have q8 := u8.next b8
    have hR8 := hR7.below b8
    have hR38 := hR37.below b8
    have hs8 := hs7.next b8
    have BB8 := Below.on BB7 b8
    have d81 := q8.c1
    clear hk7 hs7 hR7 hR37 u5 u8 u10 BB7 b8
    obtain ⟨g5, hg5⟩ : ∃ k, w.heap.size = k := ⟨_, rfl⟩
    have HG5 := Lib.hid hg5
    rw [hg5] at q5 ⊢
    clear hg5
    have hkT := hk8
    have BBT := BB8
    have hsT := hs8
    have hRT := hR8
    have hR3T := hR38
    have t5 := q5
    have t8 := q8
    obtain ⟨wT, hwT⟩ : ∃ x, x = w8 := ⟨_, rfl⟩
    rw [← hwT] at hkT BBT hsT hRT hR3T t5 t8 c80 d81 ⊢
    clear hwT hk8 hs8 hR8 hR38 q5 q8 BB8
    have d51 := t5.c1
    have d52 := t5.c2
    go_upto_region 19 with (fail)
    go_upto_region 20 with (first
      | (go_at_call 18; refine (constants_any _).mono ?_; rintro e w10 ⟨rfl, b10⟩)
      | (refine wpList_newW rfl (.tmp 18) (.tmp 147) rfl rfl rfl ?_))
    have yA0 := withW_box w10
    have bw := withW_below w10
    obtain ⟨wA, hW⟩ : ∃ wA, withW w10 = wA := ⟨_, rfl⟩
    change Code.wp _ _ _ _ (withW w10)
    rw [hW] at yA0 bw ⊢
    have b11 := Below.on b10 bw
    have hkA := hkT.next b11
    have hsA := hsT.next b11
    have hR1A := hRT.below b11
    have hR3A := hR3T.below b11
    have z5 := t5.next b11
    have z8 := t8.next b11
    have BB := Below.on BBT b11
    have yA : BoxW wA w10.heap.size := yA0
    generalize w10.heap.size = g18 at *
    generalize g7 + 1 = g8 at *
    clear yA0 bw hW b10 b11 hkT hsT hRT hR3T t5 t8 d51 d52 BBT HAC c80 d81
    have C50 := Lib.hid z5.c0
    have C51 := Lib.hid z5.c1
    have C52 := Lib.hid z5.c2
    have C53 := Lib.hid z5.c3
    have C54 := Lib.hid z5.c4
    have C80 := Lib.hid z8.c0
    have C81 := Lib.hid z8.c1
    refine wp_name fun a0 ha0 => ?_
    have e7 : a0.eval (.tmp 7) = .pointer (some ⟨g5, 0, none⟩) := by rw [ha0]; rfl
    have e10 : a0.eval (.tmp 10) = .pointer (some ⟨g8, 0, none⟩) := by rw [ha0]; rfl
    have e18 : a0.eval (.tmp 18) = .pointer (some ⟨g18, 0, none⟩) := by rw [ha0]; rfl
    have hz : a0.tmps.size = 196 := by rw [ha0]; rfl
    have HA0 := Lib.hid ha0
    clear ha0
    have SG : ∀ (d d' : Nat → Prop) (W W' : World), (fun (_ : Nat → Prop) (W : World) => Below wA.heap.size wA W) d W → (∀ j, d j → d' j) → Below W.heap.size W W' → (fun (_ : Nat → Prop) (W : World) => Below wA.heap.size wA W) d' W' := fun _ _ _ _ h _ b => Below.next h b
    have St : ∀ xc ∈ [(⟨some 0, 149, none, fun v _ => v = wordsV⟩ : Cl), ⟨some 1, 150, none, fun v _ => v = .pointer (some ⟨g5, 2, none⟩)⟩, ⟨some 2, 151, none, fun v _ => v = .int .i64 (cn : Int)⟩, ⟨some 3, 152, none, fun v _ => v = .pointer (some ⟨g5, 1, none⟩)⟩, ⟨some 4, 153, none, fun v _ => v = .int .i64 index⟩, ⟨some 5, 154, none, fun v _ => v = .pointer (some ⟨g5, 0, none⟩)⟩, ⟨some 6, 155, none, fun v _ => v = .slice A3 k3 c3⟩, ⟨some 7, 156, some 10, fun v W => OwnStrs W wA.heap.size v L3⟩, ⟨some 8, 157, none, fun v _ => v = .pointer (some ⟨g5, 4, none⟩)⟩, ⟨some 9, 158, none, fun v _ => v = .slice PA pn pc⟩, ⟨some 10, 159, none, fun v _ => v = .tuple #[hashV h, .int .i64 (pn : Int), .bool true]⟩, ⟨some 11, 148, none, fun v _ => v = .tuple #[hashV h, .int .i64 (pn : Int), .bool true]⟩, ⟨some 12, 160, none, fun v _ => v = hashV h⟩, ⟨some 13, 161, none, fun v _ => v = .int .i64 (pn : Int)⟩, ⟨some 14, 162, none, fun v _ => v = .bool true⟩, ⟨some 15, 19, some 16, fun v W => ∃ g, v = .pointer (some ⟨g, 0, none⟩) ∧ wA.heap.size ≤ g ∧ ∃ m, BoxA W g 30 .u8 m ∧ m.length = 32⟩, ⟨some 16, 19, none, fun v W => ∃ g, v = .pointer (some ⟨g, 0, none⟩) ∧ wA.heap.size ≤ g ∧ BoxH W g h⟩, ⟨some 17, 20, none, fun v _ => v = .int .i64 (pn : Int)⟩, ⟨some 18, 21, none, fun v _ => v = .bool true⟩], Lasts xc := AllC.mem ⟨lastsV0 _ _ _ _, lastsV0 _ _ _ _, lastsV0 _ _ _ _, lastsV0 _ _ _ _, lastsV0 _ _ _ _, lastsV0 _ _ _ _, lastsV0 _ _ _ _, (fun _ _ _ h b => h.next b), lastsV0 _ _ _ _, lastsV0 _ _ _ _, lastsV0 _ _ _ _, lastsV0 _ _ _ _, lastsV0 _ _ _ _, lastsV0 _ _ _ _, lastsV0 _ _ _ _, (fun _ _ _ h b => by obtain ⟨g, e, h1, m, h2, h3⟩ := h; exact ⟨g, e, h1, m, h2.next b, h3⟩), (fun _ _ _ h b => by obtain ⟨g, e, h1, h2⟩ := h; exact ⟨g, e, h1, BoxA.next h2 b⟩), lastsV0 _ _ _ _, lastsV0 _ _ _ _, trivial⟩
    refine wp_region_steps (Inv [149, 150, 151, 152, 153, 154, 155, 156, 157, 158, 159, 148, 160, 161, 162, 19, 20, 21] a0 (fun (_ : Nat → Prop) (W : World) => Below wA.heap.size wA W) (lst St)) (by kernel_rfl) (by kernel_rfl) (Inv.start (Below.refl _ _).drew ⟨nofun, nofun, nofun, nofun, nofun, nofun, nofun, nofun, nofun, nofun, nofun, nofun, nofun, nofun, nofun, nofun, nofun, nofun, nofun, trivial⟩) ?_ ?_
    · clear HA0
      refine ⟨?_, ?_, ?_, ?_, ?_, ?_, ?_, ?_, ?_, ?_, ?_, ?_, ?_, ?_, ?_, ?_, ?_, ?_, ?_, trivial⟩
      · refine stepB rfl rfl (by decide) (by rw [hz]; decide) rfl rfl (by kernel_rfl) St SG fun d a W hF hG hH hn hcl hw => ?_
        have q18 := (hF.same 18 (by decide)).trans e18
        refine ⟨wordsV, W, ?_, Below.refl _ _, ?_⟩
        · exact exec_load rfl (by rw [q18]; exact BoxW.load (BoxA.next yA hG))
        · rfl
      · refine stepB rfl rfl (by decide) (by rw [hz]; decide) rfl rfl (by kernel_rfl) St SG fun d a W hF hG hH hn hcl hw => ?_
        have q7 := (hF.same 7 (by decide)).trans e7
        exact ⟨.pointer (some ⟨g5, 2, none⟩), W, by clear hF hG hH hn hcl hw; generalize a.eval = ρ at *; go_simp, Below.refl _ _, rfl⟩
      · refine stepB rfl rfl (by decide) (by rw [hz]; decide) rfl rfl (by kernel_rfl) St SG fun d a W hF hG hH hn hcl hw => ?_
        have q150 : a.eval (.tmp 150) = .pointer (some ⟨g5, 2, none⟩) := hH.at_ (i := 1) rfl (hw 1 rfl) id
        have cc0 := cell_kept hG C52.out
        exact ⟨.int .i64 (cn : Int), W, by clear hF hG hH hn hcl hw; generalize a.eval = ρ at *; go_simp, Below.refl _ _, rfl⟩
      · refine stepB rfl rfl (by decide) (by rw [hz]; decide) rfl rfl (by kernel_rfl) St SG fun d a W hF hG hH hn hcl hw => ?_
        have q7 := (hF.same 7 (by decide)).trans e7
        exact ⟨.pointer (some ⟨g5, 1, none⟩), W, by clear hF hG hH hn hcl hw; generalize a.eval = ρ at *; go_simp, Below.refl _ _, rfl⟩
      · refine stepB rfl rfl (by decide) (by rw [hz]; decide) rfl rfl (by kernel_rfl) St SG fun d a W hF hG hH hn hcl hw => ?_
        have q152 : a.eval (.tmp 152) = .pointer (some ⟨g5, 1, none⟩) := hH.at_ (i := 3) rfl (hw 3 rfl) id
        have cc0 := cell_kept hG C51.out
        exact ⟨.int .i64 index, W, by clear hF hG hH hn hcl hw; generalize a.eval = ρ at *; go_simp, Below.refl _ _, rfl⟩
      · refine stepB rfl rfl (by decide) (by rw [hz]; decide) rfl rfl (by kernel_rfl) St SG fun d a W hF hG hH hn hcl hw => ?_
        have q7 := (hF.same 7 (by decide)).trans e7
        exact ⟨.pointer (some ⟨g5, 0, none⟩), W, by clear hF hG hH hn hcl hw; generalize a.eval = ρ at *; go_simp, Below.refl _ _, rfl⟩
      · refine stepB rfl rfl (by decide) (by rw [hz]; decide) rfl rfl (by kernel_rfl) St SG fun d a W hF hG hH hn hcl hw => ?_
        have q154 : a.eval (.tmp 154) = .pointer (some ⟨g5, 0, none⟩) := hH.at_ (i := 5) rfl (hw 5 rfl) id
        have cc0 := cell_kept hG C50.out
        exact ⟨.slice A3 k3 c3, W, by clear hF hG hH hn hcl hw; generalize a.eval = ρ at *; go_simp, Below.refl _ _, rfl⟩
      · refine stepC rfl rfl (by decide) (by rw [hz]; decide) rfl rfl (by kernel_rfl) St SG fun d a W hF hG hH hn hcl hw => ?_
        have q155 : a.eval (.tmp 155) = .slice A3 k3 c3 := hH.at_ (i := 6) rfl (hw 6 rfl) id
        have qf : a.eval (.func 49) = .func (.func 49) #[] #[] := rfl
        refine ⟨49, #[.slice A3 k3 c3], ?_, ?_⟩
        · clear hF hG hH hn hcl hw
          generalize a.eval = ρ at *
          go_simp
        · refine (HLV3.out W (hR3A.below hG)).mono ?_; rintro e W' ⟨v, rfl, hO, b⟩; exact ⟨v, rfl, b, hO.mono (by have := hG.size; omega)⟩
      · refine stepB rfl rfl (by decide) (by rw [hz]; decide) rfl rfl (by kernel_rfl) St SG fun d a W hF hG hH hn hcl hw => ?_
        have q7 := (hF.same 7 (by decide)).trans e7
        exact ⟨.pointer (some ⟨g5, 4, none⟩), W, by clear hF hG hH hn hcl hw; generalize a.eval = ρ at *; go_simp, Below.refl _ _, rfl⟩
      · refine stepB rfl rfl (by decide) (by rw [hz]; decide) rfl rfl (by kernel_rfl) St SG fun d a W hF hG hH hn hcl hw => ?_
        have q157 : a.eval (.tmp 157) = .pointer (some ⟨g5, 4, none⟩) := hH.at_ (i := 8) rfl (hw 8 rfl) id
        have cc0 := cell_kept hG C54.out
        exact ⟨.slice PA pn pc, W, by clear hF hG hH hn hcl hw; generalize a.eval = ρ at *; go_simp, Below.refl _ _, rfl⟩
      · refine stepC rfl rfl (by decide) (by rw [hz]; decide) rfl rfl (by kernel_rfl) St SG fun d a W hF hG hH hn hcl hw => ?_
        have q149 : a.eval (.tmp 149) = wordsV := hH.at_ (i := 0) rfl (hw 0 rfl) id
        have q151 : a.eval (.tmp 151) = .int .i64 (cn : Int) := hH.at_ (i := 2) rfl (hw 2 rfl) id
        have q153 : a.eval (.tmp 153) = .int .i64 index := hH.at_ (i := 4) rfl (hw 4 rfl) id
        have q156 : OwnStrs W wA.heap.size (a.eval (.tmp 156)) L3 := hH.at_ (i := 7) rfl (hw 7 rfl) hn
        have q158 : a.eval (.tmp 158) = .slice PA pn pc := hH.at_ (i := 9) rfl (hw 9 rfl) id
        have qf : a.eval (.func 42) = .func (.func 42) #[] #[] := rfl
        obtain ⟨A9, c9, q156, hc9, hS9⟩ := q156.toStrs
        rw [HL3.out] at q156 hc9
        refine ⟨42, #[wordsV, .int .i64 (cn : Int), .int .i64 index, .slice A9 k3 c9, .slice PA pn pc], ?_, ?_⟩
        · clear hF hG hH hn hcl hw
          generalize a.eval = ρ at *
          go_simp
        · refine (HFD.out A9 c9 W hc9 hS9 (hsA.next hG)).mono ?_; rintro e W' ⟨rfl, b⟩; exact ⟨_, rfl, b, rfl⟩
      · refine stepB rfl rfl (by decide) (by rw [hz]; decide) rfl rfl (by kernel_rfl) St SG fun d a W hF hG hH hn hcl hw => ?_
        have q159 : a.eval (.tmp 159) = .tuple #[hashV h, .int .i64 (pn : Int), .bool true] := hH.at_ (i := 10) rfl (hw 10 rfl) id
        exact ⟨.tuple #[hashV h, .int .i64 (pn : Int), .bool true], W, by clear hF hG hH hn hcl hw; generalize a.eval = ρ at *; go_simp, Below.refl _ _, rfl⟩
      · refine stepB rfl rfl (by decide) (by rw [hz]; decide) rfl rfl (by kernel_rfl) St SG fun d a W hF hG hH hn hcl hw => ?_
        have q148 : a.eval (.tmp 148) = .tuple #[hashV h, .int .i64 (pn : Int), .bool true] := hH.at_ (i := 11) rfl (hw 11 rfl) id
        exact ⟨hashV h, W, by clear hF hG hH hn hcl hw; generalize a.eval = ρ at *; go_simp, Below.refl _ _, rfl⟩
      · refine stepB rfl rfl (by decide) (by rw [hz]; decide) rfl rfl (by kernel_rfl) St SG fun d a W hF hG hH hn hcl hw => ?_
        have q148 : a.eval (.tmp 148) = .tuple #[hashV h, .int .i64 (pn : Int), .bool true] := hH.at_ (i := 11) rfl (hw 11 rfl) id
        exact ⟨.int .i64 (pn : Int), W, by clear hF hG hH hn hcl hw; generalize a.eval = ρ at *; go_simp, Below.refl _ _, rfl⟩
      · refine stepB rfl rfl (by decide) (by rw [hz]; decide) rfl rfl (by kernel_rfl) St SG fun d a W hF hG hH hn hcl hw => ?_
        have q148 : a.eval (.tmp 148) = .tuple #[hashV h, .int .i64 (pn : Int), .bool true] := hH.at_ (i := 11) rfl (hw 11 rfl) id
        exact ⟨.bool true, W, by clear hF hG hH hn hcl hw; generalize a.eval = ρ at *; go_simp, Below.refl _ _, rfl⟩
      · refine stepB rfl rfl (by decide) (by rw [hz]; decide) rfl rfl (by kernel_rfl) St SG fun d a W hF hG hH hn hcl hw => ?_
        refine ⟨.pointer (some ⟨W.heap.size, 0, none⟩), W.alloc (.cells (ints .u8 (List.replicate 32 0)) 30), ?_, Below.new1 W _, ?_⟩
        · (clear hF hG hH hn hcl hw; generalize a.eval = ρ at *; go_simp; rfl)
        · exact ⟨_, rfl, hG.size, _, BoxA.new W _ _ _ _ rfl, by simp⟩
      · refine stepRow 19 (.tmp 160) 30 rfl rfl rfl rfl rfl wA.heap.size (AllC.mem ⟨.inr (.inr (.inl fun _ _ _ _ _ _ _ h => h)), .inr (.inr (.inl fun _ _ _ _ _ _ _ h => h)), .inr (.inr (.inl fun _ _ _ _ _ _ _ h => h)), .inr (.inr (.inl fun _ _ _ _ _ _ _ h => h)), .inr (.inr (.inl fun _ _ _ _ _ _ _ h => h)), .inr (.inr (.inl fun _ _ _ _ _ _ _ h => h)), .inr (.inr (.inl fun _ _ _ _ _ _ _ h => h)), .inr (.inr (.inr fun d hcl hw => hcl 11 _ 10 rfl rfl (hcl 12 _ 11 rfl rfl (hw 12 rfl)))), .inr (.inr (.inl fun _ _ _ _ _ _ _ h => h)), .inr (.inr (.inl fun _ _ _ _ _ _ _ h => h)), .inr (.inr (.inl fun _ _ _ _ _ _ _ h => h)), .inr (.inr (.inl fun _ _ _ _ _ _ _ h => h)), .inr (.inr (.inl fun _ _ _ _ _ _ _ h => h)), .inr (.inr (.inl fun _ _ _ _ _ _ _ h => h)), .inr (.inr (.inl fun _ _ _ _ _ _ _ h => h)), .inr (.inl rfl), .inl rfl, .inr (.inr (.inl fun _ _ _ _ _ _ _ h => h)), .inr (.inr (.inl fun _ _ _ _ _ _ _ h => h)), trivial⟩) (fun _ _ _ _ _ hg h _ => below_setRow h hg _) fun d a W hF hG hH hn hcl hw => ?_
        have q19 : ∃ g, a.eval (.tmp 19) = .pointer (some ⟨g, 0, none⟩) ∧ wA.heap.size ≤ g ∧ ∃ m, BoxA W g 30 .u8 m ∧ m.length = 32 := hH.at_ (i := 15) rfl (hw 15 rfl) hn
        have q160 : a.eval (.tmp 160) = hashV h := hH.at_ (i := 12) rfl (hw 12 rfl) id
        obtain ⟨g, q19, hg, mm, hx, hml⟩ := q19
        exact ⟨g, ints .u8 (nums h), ints .u8 mm, q19, hg, by rw [q160, hashV_eq], hx, by rw [ints_size, nums_length, HH.out]; exact szHash, by rw [ints_size, ints_size, nums_length, hml, HH.out], ints_one _ _, g, rfl, hg, BoxA.setRow hx⟩
      · refine stepB rfl rfl (by decide) (by rw [hz]; decide) rfl rfl (by kernel_rfl) St SG fun d a W hF hG hH hn hcl hw => ?_
        have q161 : a.eval (.tmp 161) = .int .i64 (pn : Int) := hH.at_ (i := 13) rfl (hw 13 rfl) id
        exact ⟨.int .i64 (pn : Int), W, by clear hF hG hH hn hcl hw; generalize a.eval = ρ at *; go_simp, Below.refl _ _, rfl⟩
      · refine stepB rfl rfl (by decide) (by rw [hz]; decide) rfl rfl (by kernel_rfl) St SG fun d a W hF hG hH hn hcl hw => ?_
        have q162 : a.eval (.tmp 162) = .bool true := hH.at_ (i := 14) rfl (hw 14 rfl) id
        exact ⟨.bool true, W, by clear hF hG hH hn hcl hw; generalize a.eval = ρ at *; go_simp, Below.refl _ _, rfl⟩
    · intro d a W ⟨hF, hB, hH⟩ hall
      have k20 : a.eval (.tmp 20) = .int .i64 (pn : Int) := hH.at_ (i := 17) rfl (hall 17 (by decide)) id
      have k21 : a.eval (.tmp 21) = .bool true := hH.at_ (i := 18) rfl (hall 18 (by decide)) id
      have s16 : ∃ g, a.eval (.tmp 19) = .pointer (some ⟨g, 0, none⟩) ∧ wA.heap.size ≤ g ∧ BoxH W g h := hH.at_ (i := 16) rfl (hall 16 (by decide)) id
      clear hH hall
      rw [hF.shape (by rw [hz]; decide)]
      clear hF
      simp only [List.foldl]
      generalize a.eval (.tmp 149) = z149, a.eval (.tmp 150) = z150, a.eval (.tmp 151) = z151, a.eval (.tmp 152) = z152, a.eval (.tmp 153) = z153, a.eval (.tmp 154) = z154, a.eval (.tmp 155) = z155, a.eval (.tmp 156) = z156, a.eval (.tmp 157) = z157, a.eval (.tmp 158) = z158, a.eval (.tmp 159) = z159, a.eval (.tmp 148) = z148, a.eval (.tmp 160) = z160, a.eval (.tmp 161) = z161, a.eval (.tmp 162) = z162, a.eval (.tmp 19) = z19, a.eval (.tmp 20) = z20, a.eval (.tmp 21) = z21 at *
      subst k20
      subst k21
      rw [HA0.out]
      simp only [Act.put, List.setIfInBounds_toArray, List.set_cons_zero, List.set_cons_succ]
      clear hz HA0 St SG e7 e10 e18
      clear a a0
      obtain ⟨g19, rfl, hg19, y19⟩ := s16
      have BB1 := Below.on BB hB
      have yB : BoxW W g18 := BoxA.next yA hB
      have v5 := z5.next hB
      have v8 := z8.next hB
      have hkB := hkA.next hB
      have hsB := hsA.next hB
      have hR1B := hR1A.below hB
      have hR3B := hR3A.below hB
      clear C50 C51 C52 C53 C54 C80 C81
      have C50 := Lib.hid v5.c0
      have C51 := Lib.hid v5.c1
      have C52 := Lib.hid v5.c2
      have C53 := Lib.hid v5.c3
      have C54 := Lib.hid v5.c4
      have C80 := Lib.hid v8.c0
      have C81 := Lib.hid v8.c1
      have l5 := v5.lt
      have l8 := v8.lt
      have l18 := BoxA.lt yB
      have l19 := BoxA.lt y19
      clear hB hg19 yA hkA hsA hR1A hR3A z5 z8 BB HFD
      generalize W = wB at *
      go_upto_region 21 with (fail)
      refine wp_name fun a0 ha0 => ?_
      have e7 : a0.eval (.tmp 7) = .pointer (some ⟨g5, 0, none⟩) := by rw [ha0]; rfl
      have e10 : a0.eval (.tmp 10) = .pointer (some ⟨g8, 0, none⟩) := by rw [ha0]; rfl
      have e18 : a0.eval (.tmp 18) = .pointer (some ⟨g18, 0, none⟩) := by rw [ha0]; rfl
      have hz : a0.tmps.size = 196 := by rw [ha0]; rfl
      have HA0 := Lib.hid ha0
      clear ha0
      have SG : ∀ (d d' : Nat → Prop) (W W' : World), (fun (_ : Nat → Prop) (W : World) => Below wB.heap.size wB W) d W → (∀ j, d j → d' j) → Below W.heap.size W W' → (fun (_ : Nat → Prop) (W : World) => Below wB.heap.size wB W) d' W' := fun _ _ _ _ h _ b => Below.next h b
      have St : ∀ xc ∈ [(⟨some 0, 163, none, fun v _ => v = wordsV⟩ : Cl), ⟨some 1, 164, none, fun v _ => v = .pointer (some ⟨g8, 0, none⟩)⟩, ⟨some 2, 165, none, fun v _ => v = .int .i64 (n : Int)⟩, ⟨some 3, 166, none, fun v _ => v = .pointer (some ⟨g8, 1, none⟩)⟩, ⟨some 4, 167, none, fun v _ => v = .slice A1 m c1⟩, ⟨some 5, 168, none, fun v W => OwnStrs W wB.heap.size v MT⟩, ⟨some 6, 169, none, fun v _ => v = wordsV⟩, ⟨some 7, 170, none, fun v _ => v = .pointer (some ⟨g5, 2, none⟩)⟩, ⟨some 8, 171, none, fun v _ => v = .int .i64 (cn : Int)⟩, ⟨some 9, 172, none, fun v _ => v = .pointer (some ⟨g5, 1, none⟩)⟩, ⟨some 10, 173, none, fun v _ => v = .int .i64 index⟩, ⟨some 11, 174, none, fun v _ => v = .pointer (some ⟨g5, 0, none⟩)⟩, ⟨some 12, 175, none, fun v _ => v = .slice A3 k3 c3⟩, ⟨some 13, 176, none, fun v W => OwnStrs W wB.heap.size v L3⟩, ⟨some 14, 177, none, fun v _ => v = .pointer (some ⟨g5, 4, none⟩)⟩, ⟨some 15, 178, none, fun v _ => v = .slice PA pn pc⟩, ⟨some 16, 179, none, fun v W => OwnStrs W wB.heap.size v FT⟩], Lasts xc := AllC.mem ⟨lastsV0 _ _ _ _, lastsV0 _ _ _ _, lastsV0 _ _ _ _, lastsV0 _ _ _ _, lastsV0 _ _ _ _, (fun _ _ _ h b => h.next b), lastsV0 _ _ _ _, lastsV0 _ _ _ _, lastsV0 _ _ _ _, lastsV0 _ _ _ _, lastsV0 _ _ _ _, lastsV0 _ _ _ _, lastsV0 _ _ _ _, (fun _ _ _ h b => h.next b), lastsV0 _ _ _ _, lastsV0 _ _ _ _, (fun _ _ _ h b => h.next b), trivial⟩
      refine wp_region_lastly2 17 _ _ (Inv [163, 164, 165, 166, 167, 168, 169, 170, 171, 172, 173, 174, 175, 176, 177, 178, 179] a0 (fun (_ : Nat → Prop) (W : World) => Below wB.heap.size wB W) (lst St)) (by kernel_rfl) (by kernel_rfl) rfl rfl rfl (fun d hcl hw j hj => ?_) (by kernel_rfl) rfl rfl (Inv.start (Below.refl _ _).drew ⟨nofun, nofun, nofun, nofun, nofun, nofun, nofun, nofun, nofun, nofun, nofun, nofun, nofun, nofun, nofun, nofun, nofun, trivial⟩) ?_ ?_
      · have r5 := hw 5 rfl
        have r16 := hw 16 rfl
        have r6 := hcl 16 _ 6 rfl rfl r16
        have r8 := hcl 16 _ 8 rfl rfl r16
        have r10 := hcl 16 _ 10 rfl rfl r16
        have r13 := hcl 16 _ 13 rfl rfl r16
        have r15 := hcl 16 _ 15 rfl rfl r16
        have r14 := hcl 15 _ 14 rfl rfl r15
        have r12 := hcl 13 _ 12 rfl rfl r13
        have r11 := hcl 12 _ 11 rfl rfl r12
        have r9 := hcl 10 _ 9 rfl rfl r10
        have r7 := hcl 8 _ 7 rfl rfl r8
        have r0 := hcl 5 _ 0 rfl rfl r5
        have r2 := hcl 5 _ 2 rfl rfl r5
        have r4 := hcl 5 _ 4 rfl rfl r5
        have r3 := hcl 4 _ 3 rfl rfl r4
        have r1 := hcl 2 _ 1 rfl rfl r2
        match j, hj with
        | 0, _ => exact r0
        | 1, _ => exact r1
        | 2, _ => exact r2
        | 3, _ => exact r3
        | 4, _ => exact r4
        | 5, _ => exact r5
        | 6, _ => exact r6
        | 7, _ => exact r7
        | 8, _ => exact r8
        | 9, _ => exact r9
        | 10, _ => exact r10
        | 11, _ => exact r11
        | 12, _ => exact r12
        | 13, _ => exact r13
        | 14, _ => exact r14
        | 15, _ => exact r15
        | 16, _ => exact r16
        | j + 17, h => exact absurd h (by omega)
      · clear HA0
        refine ⟨?_, ?_, ?_, ?_, ?_, ?_, ?_, ?_, ?_, ?_, ?_, ?_, ?_, ?_, ?_, ?_, ?_, trivial⟩
        · refine stepB rfl rfl (by decide) (by rw [hz]; decide) rfl rfl (by kernel_rfl) St SG fun d a W hF hG hH hn hcl hw => ?_
          have q18 := (hF.same 18 (by decide)).trans e18
          refine ⟨wordsV, W, ?_, Below.refl _ _, ?_⟩
          · exact exec_load rfl (by rw [q18]; exact BoxW.load (BoxA.next yB hG))
          · rfl
        · refine stepB rfl rfl (by decide) (by rw [hz]; decide) rfl rfl (by kernel_rfl) St SG fun d a W hF hG hH hn hcl hw => ?_
          have q10 := (hF.same 10 (by decide)).trans e10
          exact ⟨.pointer (some ⟨g8, 0, none⟩), W, by clear hF hG hH hn hcl hw; generalize a.eval = ρ at *; go_simp, Below.refl _ _, rfl⟩
        · refine stepB rfl rfl (by decide) (by rw [hz]; decide) rfl rfl (by kernel_rfl) St SG fun d a W hF hG hH hn hcl hw => ?_
          have q164 : a.eval (.tmp 164) = .pointer (some ⟨g8, 0, none⟩) := hH.at_ (i := 1) rfl (hw 1 rfl) id
          have cc0 := cell_kept hG C80.out
          exact ⟨.int .i64 (n : Int), W, by clear hF hG hH hn hcl hw; generalize a.eval = ρ at *; go_simp, Below.refl _ _, rfl⟩
        · refine stepB rfl rfl (by decide) (by rw [hz]; decide) rfl rfl (by kernel_rfl) St SG fun d a W hF hG hH hn hcl hw => ?_
          have q10 := (hF.same 10 (by decide)).trans e10
          exact ⟨.pointer (some ⟨g8, 1, none⟩), W, by clear hF hG hH hn hcl hw; generalize a.eval = ρ at *; go_simp, Below.refl _ _, rfl⟩
        · refine stepB rfl rfl (by decide) (by rw [hz]; decide) rfl rfl (by kernel_rfl) St SG fun d a W hF hG hH hn hcl hw => ?_
          have q166 : a.eval (.tmp 166) = .pointer (some ⟨g8, 1, none⟩) := hH.at_ (i := 3) rfl (hw 3 rfl) id
          have cc0 := cell_kept hG C81.out
          exact ⟨.slice A1 m c1, W, by clear hF hG hH hn hcl hw; generalize a.eval = ρ at *; go_simp, Below.refl _ _, rfl⟩
        · refine stepC rfl rfl (by decide) (by rw [hz]; decide) rfl rfl (by kernel_rfl) St SG fun d a W hF hG hH hn hcl hw => ?_
          have q163 : a.eval (.tmp 163) = wordsV := hH.at_ (i := 0) rfl (hw 0 rfl) id
          have q165 : a.eval (.tmp 165) = .int .i64 (n : Int) := hH.at_ (i := 2) rfl (hw 2 rfl) id
          have q167 : a.eval (.tmp 167) = .slice A1 m c1 := hH.at_ (i := 4) rfl (hw 4 rfl) id
          have qf : a.eval (.func 44) = .func (.func 44) #[] #[] := rfl
          refine ⟨44, #[wordsV, .int .i64 (n : Int), .slice A1 m c1], ?_, ?_⟩
          · clear hF hG hH hn hcl hw
            generalize a.eval = ρ at *
            go_simp
          · refine (HMT.out W A1 c1 (hR1B.below hG)).mono ?_; rintro e W' ⟨v, rfl, hO, b⟩; exact ⟨v, rfl, b, hO.mono (by have := hG.size; omega)⟩
        · refine stepB rfl rfl (by decide) (by rw [hz]; decide) rfl rfl (by kernel_rfl) St SG fun d a W hF hG hH hn hcl hw => ?_
          have q18 := (hF.same 18 (by decide)).trans e18
          refine ⟨wordsV, W, ?_, Below.refl _ _, ?_⟩
          · exact exec_load rfl (by rw [q18]; exact BoxW.load (BoxA.next yB hG))
          · rfl
        · refine stepB rfl rfl (by decide) (by rw [hz]; decide) rfl rfl (by kernel_rfl) St SG fun d a W hF hG hH hn hcl hw => ?_
          have q7 := (hF.same 7 (by decide)).trans e7
          exact ⟨.pointer (some ⟨g5, 2, none⟩), W, by clear hF hG hH hn hcl hw; generalize a.eval = ρ at *; go_simp, Below.refl _ _, rfl⟩
        · refine stepB rfl rfl (by decide) (by rw [hz]; decide) rfl rfl (by kernel_rfl) St SG fun d a W hF hG hH hn hcl hw => ?_
          have q170 : a.eval (.tmp 170) = .pointer (some ⟨g5, 2, none⟩) := hH.at_ (i := 7) rfl (hw 7 rfl) id
          have cc0 := cell_kept hG C52.out
          exact ⟨.int .i64 (cn : Int), W, by clear hF hG hH hn hcl hw; generalize a.eval = ρ at *; go_simp, Below.refl _ _, rfl⟩
        · refine stepB rfl rfl (by decide) (by rw [hz]; decide) rfl rfl (by kernel_rfl) St SG fun d a W hF hG hH hn hcl hw => ?_
          have q7 := (hF.same 7 (by decide)).trans e7
          exact ⟨.pointer (some ⟨g5, 1, none⟩), W, by clear hF hG hH hn hcl hw; generalize a.eval = ρ at *; go_simp, Below.refl _ _, rfl⟩
        · refine stepB rfl rfl (by decide) (by rw [hz]; decide) rfl rfl (by kernel_rfl) St SG fun d a W hF hG hH hn hcl hw => ?_
          have q172 : a.eval (.tmp 172) = .pointer (some ⟨g5, 1, none⟩) := hH.at_ (i := 9) rfl (hw 9 rfl) id
          have cc0 := cell_kept hG C51.out
          exact ⟨.int .i64 index, W, by clear hF hG hH hn hcl hw; generalize a.eval = ρ at *; go_simp, Below.refl _ _, rfl⟩
        · refine stepB rfl rfl (by decide) (by rw [hz]; decide) rfl rfl (by kernel_rfl) St SG fun d a W hF hG hH hn hcl hw => ?_
          have q7 := (hF.same 7 (by decide)).trans e7
          exact ⟨.pointer (some ⟨g5, 0, none⟩), W, by clear hF hG hH hn hcl hw; generalize a.eval = ρ at *; go_simp, Below.refl _ _, rfl⟩
        · refine stepB rfl rfl (by decide) (by rw [hz]; decide) rfl rfl (by kernel_rfl) St SG fun d a W hF hG hH hn hcl hw => ?_
          have q174 : a.eval (.tmp 174) = .pointer (some ⟨g5, 0, none⟩) := hH.at_ (i := 11) rfl (hw 11 rfl) id
          have cc0 := cell_kept hG C50.out
          exact ⟨.slice A3 k3 c3, W, by clear hF hG hH hn hcl hw; generalize a.eval = ρ at *; go_simp, Below.refl _ _, rfl⟩
        · refine stepC rfl rfl (by decide) (by rw [hz]; decide) rfl rfl (by kernel_rfl) St SG fun d a W hF hG hH hn hcl hw => ?_
          have q175 : a.eval (.tmp 175) = .slice A3 k3 c3 := hH.at_ (i := 12) rfl (hw 12 rfl) id
          have qf : a.eval (.func 49) = .func (.func 49) #[] #[] := rfl
          refine ⟨49, #[.slice A3 k3 c3], ?_, ?_⟩
          · clear hF hG hH hn hcl hw
            generalize a.eval = ρ at *
            go_simp
          · refine (HLV3.out W (hR3B.below hG)).mono ?_; rintro e W' ⟨v, rfl, hO, b⟩; exact ⟨v, rfl, b, hO.mono (by have := hG.size; omega)⟩
        · refine stepB rfl rfl (by decide) (by rw [hz]; decide) rfl rfl (by kernel_rfl) St SG fun d a W hF hG hH hn hcl hw => ?_
          have q7 := (hF.same 7 (by decide)).trans e7
          exact ⟨.pointer (some ⟨g5, 4, none⟩), W, by clear hF hG hH hn hcl hw; generalize a.eval = ρ at *; go_simp, Below.refl _ _, rfl⟩
        · refine stepB rfl rfl (by decide) (by rw [hz]; decide) rfl rfl (by kernel_rfl) St SG fun d a W hF hG hH hn hcl hw => ?_
          have q177 : a.eval (.tmp 177) = .pointer (some ⟨g5, 4, none⟩) := hH.at_ (i := 14) rfl (hw 14 rfl) id
          have cc0 := cell_kept hG C54.out
          exact ⟨.slice PA pn pc, W, by clear hF hG hH hn hcl hw; generalize a.eval = ρ at *; go_simp, Below.refl _ _, rfl⟩
        · refine stepC rfl rfl (by decide) (by rw [hz]; decide) rfl rfl (by kernel_rfl) St SG fun d a W hF hG hH hn hcl hw => ?_
          have q169 : a.eval (.tmp 169) = wordsV := hH.at_ (i := 6) rfl (hw 6 rfl) id
          have q171 : a.eval (.tmp 171) = .int .i64 (cn : Int) := hH.at_ (i := 8) rfl (hw 8 rfl) id
          have q173 : a.eval (.tmp 173) = .int .i64 index := hH.at_ (i := 10) rfl (hw 10 rfl) id
          have q176 : OwnStrs W wB.heap.size (a.eval (.tmp 176)) L3 := hH.at_ (i := 13) rfl (hw 13 rfl) id
          have q178 : a.eval (.tmp 178) = .slice PA pn pc := hH.at_ (i := 15) rfl (hw 15 rfl) id
          have qf : a.eval (.func 45) = .func (.func 45) #[] #[] := rfl
          obtain ⟨A9, c9, q176, hc9, hS9⟩ := q176.toStrs
          rw [HL3.out] at q176 hc9
          refine ⟨45, #[wordsV, .int .i64 (cn : Int), .int .i64 index, .slice A9 k3 c9, .slice PA pn pc], ?_, ?_⟩
          · clear hF hG hH hn hcl hw
            generalize a.eval = ρ at *
            go_simp
          · refine (HFT.out A9 c9 W hc9 hS9 (hsB.next hG)).mono ?_; rintro e W' ⟨v, rfl, hO, b⟩; exact ⟨v, rfl, b, hO.mono (by have := hG.size; omega)⟩
      · intro d a W ⟨hF, hB, hH⟩ hall
        have k168 : OwnStrs W wB.heap.size (a.eval (.tmp 168)) MT := hH.at_ (i := 5) rfl (hall 5 (by decide)) id
        have k179 : OwnStrs W wB.heap.size (a.eval (.tmp 179)) FT := hH.at_ (i := 16) rfl (hall 16 (by decide)) id
        clear hH hall
        rw [hF.shape (by rw [hz]; decide)]
        clear hF
        simp only [List.foldl]
        generalize a.eval (.tmp 163) = z163, a.eval (.tmp 164) = z164, a.eval (.tmp 165) = z165, a.eval (.tmp 166) = z166, a.eval (.tmp 167) = z167, a.eval (.tmp 168) = z168, a.eval (.tmp 169) = z169, a.eval (.tmp 170) = z170, a.eval (.tmp 171) = z171, a.eval (.tmp 172) = z172, a.eval (.tmp 173) = z173, a.eval (.tmp 174) = z174, a.eval (.tmp 175) = z175, a.eval (.tmp 176) = z176, a.eval (.tmp 177) = z177, a.eval (.tmp 178) = z178, a.eval (.tmp 179) = z179 at *
        rw [HA0.out]
        simp only [Act.put, List.setIfInBounds_toArray, List.set_cons_zero, List.set_cons_succ]
        clear hz HA0 St SG e7 e10 e18
        clear a a0
        refine wp_append_strs (.tmp 168) (.tmp 179) rfl wB.heap.size wB.heap.size _ _ MT FT rfl rfl k168 k179 LM LF hB.size (fun z22 wC hOC bC => ?_)
        refine wp_yields (v := z22) (by rfl) ?_
        dsimp only [Act.put]
        have BC := hB.trans bC
        have sC := BC.size
        have yC : BoxW wC g18 := BoxA.next yB BC
        have u19 : BoxH wC g19 h := BoxA.next y19 BC
        have u5 := v5.next BC
        have u8 := v8.next BC
        have hkC := hkB.next BC
        have BB2 := Below.on BB1 BC
        have hbz : 0 < wB.heap.size := hkB.1
        clear C50 C51 C52 C53 C54 C80 C81
        have C50 := Lib.hid u5.c0
        have C51 := Lib.hid u5.c1
        have C52 := Lib.hid u5.c2
        have C53 := Lib.hid u5.c3
        have C54 := Lib.hid u5.c4
        have bs := BB1.size
        obtain ⟨bb, hbb⟩ : ∃ k, wB.heap.size = k := ⟨_, rfl⟩
        rw [hbb] at bs sC hOC l5 l8 l18 l19 hbz
        have BS := Lib.hid bs
        clear bs hbb
        clear k168 k179 hB bC BC yB y19 v5 v8 u8 hkB hsB hR1B hR3B BB1 HMT HFT
        go_upto_region 22 with (fail)
        refine wp_name fun a0 ha0 => ?_
        have e7 : a0.eval (.tmp 7) = .pointer (some ⟨g5, 0, none⟩) := by rw [ha0]; rfl
        have e18 : a0.eval (.tmp 18) = .pointer (some ⟨g18, 0, none⟩) := by rw [ha0]; rfl
        have e22 : a0.eval (.tmp 22) = z22 := by rw [ha0]; rfl
        have e19 : a0.eval (.tmp 19) = .pointer (some ⟨g19, 0, none⟩) := by rw [ha0]; rfl
        have hz : a0.tmps.size = 196 := by rw [ha0]; rfl
        have HA0 := Lib.hid ha0
        clear ha0
        have SG : ∀ (d d' : Nat → Prop) (W W' : World), (GRow bb 10 wC z22 (MT ++ FT)) d W → (∀ j, d j → d' j) → Below W.heap.size W W' → (GRow bb 10 wC z22 (MT ++ FT)) d' W' := fun _ _ _ _ h _hm b => GRow.next sC h _hm b
        have St : ∀ xc ∈ [(⟨some 0, 181, none, fun v _ => v = wordsV⟩ : Cl), ⟨some 1, 182, none, fun v _ => v = z22⟩, ⟨some 2, 183, none, fun v _ => v = wordsV⟩, ⟨some 3, 184, none, fun v _ => v = .pointer (some ⟨g5, 3, none⟩)⟩, ⟨some 4, 185, none, fun v _ => v = .int .i64 size⟩, ⟨some 5, 186, none, fun v _ => v = .pointer (some ⟨g5, 2, none⟩)⟩, ⟨some 6, 187, none, fun v _ => v = .int .i64 (cn : Int)⟩, ⟨some 7, 188, none, fun v _ => v = hashV h⟩, ⟨some 8, 189, none, fun v _ => v = .string ⟨zt.toArray⟩⟩, ⟨some 9, 190, some 10, fun v W => OwnStrs W wC.heap.size v [zt]⟩, ⟨some 10, 191, none, fun v W => OwnStrs W bb v (MT ++ FT ++ [zt])⟩, ⟨some 11, 192, none, fun v _ => v = .bool true⟩, ⟨some 12, 193, none, fun v _ => v = .bool true⟩, ⟨some 13, 194, none, fun v _ => v = .bool true⟩, ⟨some 14, 195, none, fun v _ => v = .bool true⟩, ⟨some 15, 8, none, fun v _ => v = .bool true⟩], Lasts xc := AllC.mem ⟨lastsV0 _ _ _ _, lastsV0 _ _ _ _, lastsV0 _ _ _ _, lastsV0 _ _ _ _, lastsV0 _ _ _ _, lastsV0 _ _ _ _, lastsV0 _ _ _ _, lastsV0 _ _ _ _, lastsV0 _ _ _ _, (fun _ _ _ h b => h.next b), (fun _ _ _ h b => h.next b), lastsV0 _ _ _ _, lastsV0 _ _ _ _, lastsV0 _ _ _ _, lastsV0 _ _ _ _, lastsV0 _ _ _ _, trivial⟩
        refine wp_region_guards (Inv [181, 182, 183, 184, 185, 186, 187, 188, 189, 190, 191, 192, 193, 194, 195, 8] a0 (GRow bb 10 wC z22 (MT ++ FT)) (lst St)) (by kernel_rfl) (by kernel_rfl) (Inv.start ⟨⟨(Below.refl _ _).drew, Nat.le_refl _⟩, fun _ => hOC.next ((Below.refl _ _).drew)⟩ ⟨nofun, nofun, nofun, nofun, nofun, nofun, nofun, nofun, nofun, nofun, nofun, nofun, nofun, nofun, nofun, nofun, trivial⟩) ?_ ?_
        · clear HA0
          refine ⟨?_, ?_, ?_, ?_, ?_, ?_, ?_, ?_, ?_, ?_, ?_, ?_, ?_, ?_, ?_, ?_, trivial⟩
          · refine StepG.of ?_
            refine stepB rfl rfl (by decide) (by rw [hz]; decide) rfl rfl (by kernel_rfl) St SG fun d a W hF hG hH hn hcl hw => ?_
            have q18 := (hF.same 18 (by decide)).trans e18
            refine ⟨wordsV, W, ?_, Below.refl _ _, ?_⟩
            · exact exec_load rfl (by rw [q18]; exact BoxW.load (BoxA.low yC (by omega) hG.1.1))
            · rfl
          · refine StepG.of ?_
            refine stepB rfl rfl (by decide) (by rw [hz]; decide) rfl rfl (by kernel_rfl) St SG fun d a W hF hG hH hn hcl hw => ?_
            have q22 := (hF.same 22 (by decide)).trans e22
            exact ⟨z22, W, by clear hF hG hH hn hcl hw; generalize a.eval = ρ at *; go_simp, Below.refl _ _, rfl⟩
          · refine StepG.of ?_
            refine stepB rfl rfl (by decide) (by rw [hz]; decide) rfl rfl (by kernel_rfl) St SG fun d a W hF hG hH hn hcl hw => ?_
            have q18 := (hF.same 18 (by decide)).trans e18
            refine ⟨wordsV, W, ?_, Below.refl _ _, ?_⟩
            · exact exec_load rfl (by rw [q18]; exact BoxW.load (BoxA.low yC (by omega) hG.1.1))
            · rfl
          · refine StepG.of ?_
            refine stepB rfl rfl (by decide) (by rw [hz]; decide) rfl rfl (by kernel_rfl) St SG fun d a W hF hG hH hn hcl hw => ?_
            have q7 := (hF.same 7 (by decide)).trans e7
            exact ⟨.pointer (some ⟨g5, 3, none⟩), W, by clear hF hG hH hn hcl hw; generalize a.eval = ρ at *; go_simp, Below.refl _ _, rfl⟩
          · refine StepG.of ?_
            refine stepB rfl rfl (by decide) (by rw [hz]; decide) rfl rfl (by kernel_rfl) St SG fun d a W hF hG hH hn hcl hw => ?_
            have q184 : a.eval (.tmp 184) = .pointer (some ⟨g5, 3, none⟩) := hH.at_ (i := 3) rfl (hw 3 rfl) id
            have cc0 := cell_low C53.out (by show _ < _; omega) hG.1.1
            exact ⟨.int .i64 size, W, by clear hF hG hH hn hcl hw; generalize a.eval = ρ at *; go_simp, Below.refl _ _, rfl⟩
          · refine StepG.of ?_
            refine stepB rfl rfl (by decide) (by rw [hz]; decide) rfl rfl (by kernel_rfl) St SG fun d a W hF hG hH hn hcl hw => ?_
            have q7 := (hF.same 7 (by decide)).trans e7
            exact ⟨.pointer (some ⟨g5, 2, none⟩), W, by clear hF hG hH hn hcl hw; generalize a.eval = ρ at *; go_simp, Below.refl _ _, rfl⟩
          · refine StepG.of ?_
            refine stepB rfl rfl (by decide) (by rw [hz]; decide) rfl rfl (by kernel_rfl) St SG fun d a W hF hG hH hn hcl hw => ?_
            have q186 : a.eval (.tmp 186) = .pointer (some ⟨g5, 2, none⟩) := hH.at_ (i := 5) rfl (hw 5 rfl) id
            have cc0 := cell_low C52.out (by show _ < _; omega) hG.1.1
            exact ⟨.int .i64 (cn : Int), W, by clear hF hG hH hn hcl hw; generalize a.eval = ρ at *; go_simp, Below.refl _ _, rfl⟩
          · refine StepG.of ?_
            refine stepB rfl rfl (by decide) (by rw [hz]; decide) rfl rfl (by kernel_rfl) St SG fun d a W hF hG hH hn hcl hw => ?_
            have q19 := (hF.same 19 (by decide)).trans e19
            refine ⟨hashV h, W, ?_, Below.refl _ _, ?_⟩
            · exact exec_load rfl (by rw [q19]; exact BoxH.load_ (BoxA.low u19 (by omega) hG.1.1) HH.out)
            · rfl
          · refine StepG.of ?_
            refine stepC rfl rfl (by decide) (by rw [hz]; decide) rfl rfl (by kernel_rfl) St SG fun d a W hF hG hH hn hcl hw => ?_
            have q183 : a.eval (.tmp 183) = wordsV := hH.at_ (i := 2) rfl (hw 2 rfl) id
            have q185 : a.eval (.tmp 185) = .int .i64 size := hH.at_ (i := 4) rfl (hw 4 rfl) id
            have q187 : a.eval (.tmp 187) = .int .i64 (cn : Int) := hH.at_ (i := 6) rfl (hw 6 rfl) id
            have q188 : a.eval (.tmp 188) = hashV h := hH.at_ (i := 7) rfl (hw 7 rfl) id
            have qf : a.eval (.func 47) = .func (.func 47) #[] #[] := rfl
            refine ⟨47, #[wordsV, .int .i64 size, .int .i64 (cn : Int), hashV h], ?_, ?_⟩
            · clear hF hG hH hn hcl hw
              generalize a.eval = ρ at *
              go_simp
            · refine (HMX.out W).mono ?_; rintro e W' ⟨rfl, b⟩; exact ⟨_, rfl, b, rfl⟩
          · refine StepG.of ?_
            refine stepB rfl rfl (by decide) (by rw [hz]; decide) rfl rfl (by kernel_rfl) St SG fun d a W hF hG hH hn hcl hw => ?_
            have q189 : a.eval (.tmp 189) = .string ⟨zt.toArray⟩ := hH.at_ (i := 8) rfl (hw 8 rfl) id
            refine ⟨.slice (some ⟨W.heap.size, 0, none⟩) 1 1, W.alloc (.cells #[.string ⟨zt.toArray⟩] 9), ?_, Below.new1 W _, ?_⟩
            · clear hF hG hH hn hcl hw
              generalize a.eval = ρ at *
              go_simp
            · exact OwnStrs.one W _ _ hG.1.2
          · refine StepG.of ?_
            refine stepA3 rfl rfl (by decide) (by rw [hz]; decide) rfl rfl (by kernel_rfl) bb (AllC.mem ⟨.inr (.inr (.inl fun _ _ _ h _ => h)), .inr (.inr (.inl fun _ _ _ h _ => h)), .inr (.inr (.inl fun _ _ _ h _ => h)), .inr (.inr (.inl fun _ _ _ h _ => h)), .inr (.inr (.inl fun _ _ _ h _ => h)), .inr (.inr (.inl fun _ _ _ h _ => h)), .inr (.inr (.inl fun _ _ _ h _ => h)), .inr (.inr (.inl fun _ _ _ h _ => h)), .inr (.inr (.inl fun _ _ _ h _ => h)), .inr (.inl rfl), .inl rfl, .inr (.inr (.inl fun _ _ _ h _ => h)), .inr (.inr (.inl fun _ _ _ h _ => h)), .inr (.inr (.inl fun _ _ _ h _ => h)), .inr (.inr (.inl fun _ _ _ h _ => h)), .inr (.inr (.inl fun _ _ _ h _ => h)), trivial⟩) (fun _ _ _ _ h hm hk b => h.done hm hk b) fun d a W hF hG hH hn hcl hw => ?_
            have q182 : a.eval (.tmp 182) = z22 := hH.at_ (i := 1) rfl (hw 1 rfl) id
            have q190 : OwnStrs W wC.heap.size (a.eval (.tmp 190)) [zt] := hH.at_ (i := 9) rfl (hw 9 rfl) hn
            have hO := hG.2 hn
            exact exec_append_strs2 (.tmp 182) (.tmp 190) rfl bb wC.heap.size W _ _ (MT ++ FT) [zt] rfl rfl (by rw [q182]; exact hO) q190 LMF (by simp) (by have := hG.1.2; omega)
          · refine StepG.of ?_
            refine stepC rfl rfl (by decide) (by rw [hz]; decide) rfl rfl (by kernel_rfl) St SG fun d a W hF hG hH hn hcl hw => ?_
            have q181 : a.eval (.tmp 181) = wordsV := hH.at_ (i := 0) rfl (hw 0 rfl) id
            have q191 : OwnStrs W bb (a.eval (.tmp 191)) (MT ++ FT ++ [zt]) := hH.at_ (i := 10) rfl (hw 10 rfl) id
            have qf : a.eval (.func 46) = .func (.func 46) #[] #[] := rfl
            obtain ⟨A9, c9, q191, hS9, _⟩ := q191.slice
            refine ⟨46, #[wordsV, .slice A9 (MT ++ FT ++ [zt]).length c9], ?_, ?_⟩
            · clear hF hG hH hn hcl hw
              generalize a.eval = ρ at *
              go_simp
            · refine (HCC.out A9 c9 W hS9).mono ?_; rintro e W' ⟨rfl, b⟩; exact ⟨_, rfl, b, rfl⟩
          · refine StepG.of ?_
            refine stepB rfl rfl (by decide) (by rw [hz]; decide) rfl rfl (by kernel_rfl) St SG fun d a W hF hG hH hn hcl hw => ?_
            have q192 : a.eval (.tmp 192) = .bool true := hH.at_ (i := 11) rfl (hw 11 rfl) id
            exact ⟨.bool true, W, by clear hF hG hH hn hcl hw; generalize a.eval = ρ at *; go_simp, Below.refl _ _, rfl⟩
          · refine StepG.on rfl (fun d a W hI hw => yielded_of rfl (hI.2.2.at_ (i := 12) rfl (hw 12 rfl) id)) ?_
            refine stepC rfl rfl (by decide) (by rw [hz]; decide) rfl rfl (by kernel_rfl) St SG fun d a W hF hG hH hn hcl hw => ?_
            have qf : a.eval (.func 17) = .func (.func 17) #[] #[] := rfl
            refine ⟨17, #[], ?_, ?_⟩
            · clear hF hG hH hn hcl hw
              generalize a.eval = ρ at *
              go_simp
            · refine (HA.out W (hkC.low hbz hG.1.1)).mono ?_; rintro e W' ⟨rfl, b⟩; exact ⟨_, rfl, b, rfl⟩
          · refine StepG.of ?_
            refine stepB rfl rfl (by decide) (by rw [hz]; decide) rfl rfl (by kernel_rfl) St SG fun d a W hF hG hH hn hcl hw => ?_
            have q193 : a.eval (.tmp 193) = .bool true := hH.at_ (i := 12) rfl (hw 12 rfl) id
            have q194 : a.eval (.tmp 194) = .bool true := hH.at_ (i := 13) rfl (hw 13 rfl) id
            have qk1 : a.eval (.const (.bool false)) = .bool false := rfl
            exact ⟨.bool true, W, by clear hF hG hH hn hcl hw; generalize a.eval = ρ at *; go_simp, Below.refl _ _, rfl⟩
          · refine StepG.of ?_
            refine stepB rfl rfl (by decide) (by rw [hz]; decide) rfl rfl (by kernel_rfl) St SG fun d a W hF hG hH hn hcl hw => ?_
            have q195 : a.eval (.tmp 195) = .bool true := hH.at_ (i := 14) rfl (hw 14 rfl) id
            exact ⟨.bool true, W, by clear hF hG hH hn hcl hw; generalize a.eval = ρ at *; go_simp, Below.refl _ _, rfl⟩
        · intro d a W ⟨hF, hB, hH⟩ hall
          have k8 : a.eval (.tmp 8) = .bool true := hH.at_ (i := 15) rfl (hall 15 (by decide)) id
          clear hH hall
          rw [hF.shape (by rw [hz]; decide)]
          clear hF
          simp only [List.foldl]
          generalize a.eval (.tmp 181) = z181, a.eval (.tmp 182) = z182, a.eval (.tmp 183) = z183, a.eval (.tmp 184) = z184, a.eval (.tmp 185) = z185, a.eval (.tmp 186) = z186, a.eval (.tmp 187) = z187, a.eval (.tmp 188) = z188, a.eval (.tmp 189) = z189, a.eval (.tmp 190) = z190, a.eval (.tmp 191) = z191, a.eval (.tmp 192) = z192, a.eval (.tmp 193) = z193, a.eval (.tmp 194) = z194, a.eval (.tmp 195) = z195, a.eval (.tmp 8) = z8 at *
          subst k8
          rw [HA0.out]
          simp only [Act.put, List.setIfInBounds_toArray, List.set_cons_zero, List.set_cons_succ]
          clear hz HA0 St SG e7 e18 e22 e19
          clear a a0
          go_wp2_with (fail)
          go_ret
          exact ⟨rfl, Below.trans BB2 (hB.1.1.mono BS.out)⟩
theorem proofExact_any (ts : List UInt8) (lo hi : Int) (X3 : List Rn) (index count size : Int) (path : List Bs) (A A3 PA : Option Addr) (c c3 pc : Nat) (w : World) (hT : Tags w A ts) (hR3 : Runs w A3 X3) (hkc : X3.length ≤ c3) (hpc : path.length ≤ pc) (hs : Hs w PA path) (hk : Kon w) (hsz : size < 9223372036854775808) :
    Calls Tryd.prog 12 #[.slice A ts.length c, .int .i64 lo, .int .i64 hi, claimV A3 X3.length c3 index count size PA path.length pc] w fun e w' => e = .returned (.bool true) ∧ Below w.heap.size w w' := by
  by_cases hn : ts.length = 0 ∨ 60 < ts.length
  · exact exact_none index count size A A3 PA lo hi _ c _ c3 _ pc w hk hn
  have h1 : 1 ≤ ts.length := by omega
  have h60 : ts.length ≤ 60 := by omega
  by_cases h30 : 40 < path.length ∨ (path.length ≤ 40 ∧ 40 < X3.length)
  · exact exact_long ts index count size A A3 PA lo hi _ c _ c3 _ pc w rfl h1 h60 hT hk h30
  by_cases hr : 0 ≤ lo ∧ lo < hi ∧ hi ≤ ts.length
  · obtain ⟨l0, l1, l2⟩ := hr
    cases e : acceptM (rootO ts) lo hi X3 index count size path with
    | false => exact exact_no ts X3 index count size path A A3 PA lo hi _ c _ c3 _ pc w rfl h1 h60 hT hR3 rfl hkc (by omega) hs rfl hpc (by omega) hk l0 l1 l2 e
    | true =>
      by_cases ha : X3 = cutO ts lo hi
      · exact exact_yes ts X3 index count size path A A3 PA lo hi _ c _ c3 _ pc w rfl h1 h60 hT hR3 rfl hkc (by omega) hs rfl hpc (by omega) hk l0 l1 l2 e ha
      · obtain ⟨b1, b2, b3, b4, h, h32, hf, hcl⟩ := exact_other h1 h60 hs.1 e (fun ⟨_, _, _, h, _⟩ => ha h)
        obtain ⟨cn, rfl⟩ : ∃ k : Nat, count = k := ⟨count.toNat, by omega⟩
        rw [Int.toNat_natCast] at hf hcl
        exact exact_clash ts X3 index size path A A3 PA lo hi cn _ c _ c3 _ pc w rfl h1 h60 hT hR3 rfl hkc (by omega) hs rfl hpc (by omega) hk hsz l0 l1 l2 e ha h h32 b1.1 b1.2.1 (by omega) b2.1 b3 b4 hf hcl
  · have hx : lo < 0 ∨ (0 ≤ lo ∧ (hi ≤ lo ∨ (lo < hi ∧ (ts.length : Int) < hi))) := by omega
    cases e : acceptM (rootO ts) lo hi X3 index count size path with
    | false => exact exact_out_no ts X3 index count size path A A3 PA lo hi _ c _ c3 _ pc w rfl h1 h60 hT hR3 rfl hkc (by omega) hs rfl hpc (by omega) hk hx e
    | true =>
      obtain ⟨b1, b2, b3, b4, h, h32, hf, hcl⟩ := exact_other h1 h60 hs.1 e (fun ⟨h1, h2, h3, _, _⟩ => hr ⟨h1, h2, h3⟩)
      obtain ⟨cn, rfl⟩ : ∃ k : Nat, count = k := ⟨count.toNat, by omega⟩
      rw [Int.toNat_natCast] at hf hcl
      exact exact_out_clash ts X3 index size path A A3 PA lo hi cn _ c _ c3 _ pc w rfl h1 h60 hT hR3 rfl hkc (by omega) hs rfl hpc (by omega) hk hsz hx e h h32 b1.1 b1.2.1 (by omega) b2.1 b3 b4 hf hcl
end Go.Proofs.YtcocengpekndjaaDoor
