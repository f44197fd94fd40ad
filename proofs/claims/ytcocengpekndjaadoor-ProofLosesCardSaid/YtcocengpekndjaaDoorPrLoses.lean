/- The walk over ProofLoses. -/
import Derived.Test.YtcocengpekndjaaDoorPrLosesL
namespace Go.Proofs.YtcocengpekndjaaDoor
open Go.RowKit
set_option maxRecDepth 100000 in
set_option maxHeartbeats 4000000 in
theorem loses_none (A : Option Addr) (lo hi at_ : Int) (b : UInt8) (n c : Nat) (w : World) (hk : Kon w) (hn : n = 0 ∨ 60 < n) : Calls Tryd.prog 13 #[.slice A n c, .int .i64 lo, .int .i64 hi, .int .i64 at_, .int .u8 (b.toNat : Int)] w fun e w' => e = .returned (.bool true) ∧ Below w.heap.size w w' := by
  have HMD := Lib.hid (made_no A n c w hn)
  have HA := Lib.hid (fun W kon => awake_any W kon)
  have hx : n = 0 ∨ (((n : Int) == 0) = false ∧ (60 : Int) < n) := by
    rcases hn with h | h
    · exact .inl h
    · exact .inr ⟨by simp; omega, by omega⟩
  clear hn
  rcases hx with rfl | ⟨j1, j2⟩
  all_goals
    go_enter Tryd.func13, Tryd.ntmps13
    go_upto_region 2 with (go_at_call 38; refine HMD.out.mono ?_; rintro e w1 ⟨rfl, b1⟩)
    obtain ⟨w2, hW2⟩ : ∃ w2, (w1.alloc (.cells #[.pointer none] 47)).alloc (.cells #[.int .i64 0, .slice none 0 0] 69) = w2 := ⟨_, rfl⟩
    have b2 : Below w1.heap.size w1 w2 := hW2 ▸ Below.on (Below.new1 _ _) (Below.new1 _ _)
    change Code.wp _ _ _ _ ((w1.alloc (.cells #[.pointer none] 47)).alloc (.cells #[.int .i64 0, .slice none 0 0] 69))
    rw [hW2]
    have B2 := Below.on b1 b2
    have hk2 := hk.next B2
    clear hW2
    go_wp2_with (go_at_call 17; refine (HA.out _ hk2).mono ?_; rintro e w7 ⟨rfl, b7⟩)
    go_ret
    exact ⟨rfl, Below.on B2 b7⟩
set_option maxRecDepth 100000 in
set_option maxHeartbeats 4000000 in
theorem loses_bad (ts : List UInt8) (A : Option Addr) (lo hi at_ : Int) (b : UInt8) (n c : Nat) (w : World) (hn : ts.length = n) (h1 : 1 ≤ n) (h60 : n ≤ 60) (hT : Tags w A ts) (hk : Kon w) (hx : lo < 0 ∨ (0 ≤ lo ∧ (hi ≤ lo ∨ (lo < hi ∧ ((n : Int) < hi ∨ (hi ≤ n ∧ at_ < 0)))))) : Calls Tryd.prog 13 #[.slice A n c, .int .i64 lo, .int .i64 hi, .int .i64 at_, .int .u8 (b.toNat : Int)] w fun e w' => e = .returned (.bool true) ∧ Below w.heap.size w w' := by
  have hmd := fun W (h : Tags W A ts) => made_yes ts A n c W hn h1 h60 h
  unfold MadePost at hmd
  rw [hn] at hmd
  obtain ⟨m, hm⟩ : ∃ m, (ofR ts).length = m := ⟨_, rfl⟩
  rw [hm] at hmd
  generalize ofR ts = R at *
  generalize ofL ts = L at *
  have HMD := Lib.hid hmd
  have HA := Lib.hid (fun W kon => awake_any W kon)
  have j1 : ((n : Int) == 0) = false := by simp; omega
  have j2 : ¬ (60 : Int) < n := by omega
  clear hmd hn hm h1 h60
  have hx' : lo < 0 ∨ (¬ lo < 0 ∧ hi ≤ lo) ∨ (¬ lo < 0 ∧ ¬ hi ≤ lo ∧ (n : Int) < hi) ∨ (¬ lo < 0 ∧ ¬ hi ≤ lo ∧ ¬ (n : Int) < hi ∧ at_ < 0) := by omega
  clear hx
  rcases hx' with i1 | ⟨i1, i2⟩ | ⟨i1, i2, i3⟩ | ⟨i1, i2, i3, i4⟩
  all_goals
    go_enter Tryd.func13, Tryd.ntmps13
    go_upto_region 2 with (go_at_call 38; refine (HMD.out _ hT).mono ?_; rintro e w1 ⟨p, A1, c1, rfl, hp1, hO1, b1⟩)
    obtain ⟨w2, hW2⟩ : ∃ w2, (w1.alloc (.cells #[.pointer p] 47)).alloc (.cells #[.int .i64 (n : Int), .slice A1 m c1] 69) = w2 := ⟨_, rfl⟩
    have b2 : Below w1.heap.size w1 w2 := hW2 ▸ Below.on (Below.new1 _ _) (Below.new1 _ _)
    have x7 : Boxed w2 w1.heap.size 47 (.pointer p) := hW2 ▸ (Boxed.new w1 _ _).alloc _
    have x8 : BoxM w2 (w1.heap.size + 1) n (.slice A1 m c1) := by
      have := BoxM.new (w1.alloc (.cells #[.pointer p] 47)) n (.slice A1 m c1)
      rw [World.size_alloc] at this; exact hW2 ▸ this
    have hp2 := hp1.below b2
    have hR2 : Runs w2 A1 R := by
      obtain ⟨A', c', e, _, h⟩ := (hO1.next b2).runs
      cases e; exact h
    change Code.wp _ _ _ _ ((w1.alloc (.cells #[.pointer p] 47)).alloc (.cells #[.int .i64 (n : Int), .slice A1 m c1] 69))
    rw [hW2]
    have B2 := Below.on b1 b2
    have hk2 := hk.next B2
    have c7 := x7.cell
    have c80 := x8.c0
    clear hW2 hT x7 x8 hp1 hp2 hO1 hR2 c7
    go_wp2_with (go_at_call 17; refine (HA.out _ hk2).mono ?_; rintro e w7 ⟨rfl, b7⟩)
    go_ret
    exact ⟨rfl, Below.on B2 b7⟩
set_option maxRecDepth 100000 in
set_option maxHeartbeats 4000000 in
theorem loses_short (ts : List UInt8) (A : Option Addr) (lo hi : Int) (at_ : Nat) (b : UInt8) (n c : Nat) (w : World) (hn : ts.length = n) (h1 : 1 ≤ n) (h60 : n ≤ 60) (hT : Tags w A ts) (hk : Kon w) (l0 : 0 ≤ lo) (l1 : lo < hi) (l2 : hi ≤ n) (hat : (at_ : Int) ≤ 9223372036854775807) (hv0 : (outO ts lo hi).length = 0) : Calls Tryd.prog 13 #[.slice A n c, .int .i64 lo, .int .i64 hi, .int .i64 (at_ : Int), .int .u8 (b.toNat : Int)] w fun e w' => e = .returned (.bool true) ∧ Below w.heap.size w w' := by
  have hroot : (rootO ts).length = 32 := rootO_length ts
  have hmd := fun W (h : Tags W A ts) => made_yes ts A n c W hn h1 h60 h
  unfold MadePost at hmd
  rw [hn] at hmd
  have hmr := fun W p (h : Rep W p (ofL ts)) (kon : Kon W) => mapRoot_any W p (ofL ts) h kon
  rw [mapRoot_of (by omega) (by omega)] at hmr
  have hcut := cutO_length (ts := ts) (lo := lo) (hi := hi) (by omega) (by omega) l0 l1 (by omega)
  have hout := outO_length (ts := ts) (by omega) lo hi
  have hfl : fromM lo (ofR ts) ≤ 60 := by have := (ofR_spec ts).2.2.2.2.1; omega
  have hrg := fun W p (h : Rep W p (ofL ts)) (kon : Kon W) => range_of (ts := ts) (lo := lo) (hi := hi) (by omega) (by omega) l0 l1 (by omega) W p h kon
  rw [hn] at hrg
  have e1 := lose_more (ts := ts) (lo := lo) (hi := hi) (by omega) (by omega) l0 l1 (by omega) (rootO ts)
  rw [hn] at e1
  have hacc := fun (path : List Bs) PA pn pc W A' m' c' (hm' : (cutO ts lo hi).length = m') (hR : Runs W A' (cutO ts lo hi)) (hc' : m' ≤ c') (h : Hs W PA path) (hpn : path.length = pn) (hpc : pn ≤ pc) (hl : pn ≤ 100000) (kon : Kon W) => accept_any (rootO ts) lo hi (cutO ts lo hi) A' m' c' (fromM lo (ofR ts) : Nat) (ofR ts).length n path PA pn pc W hm' hR hc' h hpn hpc (by omega) kon hroot
  generalize rootO ts = root at *
  generalize ofL ts = L at *
  have ix0 : (0 : Int) ≤ (fromM lo (ofR ts) : Nat) := by omega
  have ix1 : ((fromM lo (ofR ts) : Nat) : Int) ≤ 60 := by omega
  generalize ((fromM lo (ofR ts) : Nat) : Int) = index at *
  obtain ⟨_, hd1, hd60, _⟩ := hcut
  generalize cutO ts lo hi = D at *
  generalize outO ts lo hi = V at *
  have hmle := (ofR_spec ts).2.2.2.2.1
  obtain ⟨m, hm⟩ : ∃ m, (ofR ts).length = m := ⟨_, rfl⟩
  rw [hm] at hmd hrg hacc e1 hmle
  generalize ofR ts = R at *
  have HMD := Lib.hid hmd
  have HMR := Lib.hid hmr
  have HAC := Lib.hid hacc
  have HRG := Lib.hid hrg
  have HA := Lib.hid (fun W kon => awake_any W kon)
  have HROOT := Lib.hid hroot
  have E1 := Lib.hid e1
  have j1 : ((n : Int) == 0) = false := by simp; omega
  have j2 : ¬ (60 : Int) < n := by omega
  have i1 : ¬ lo < 0 := by omega
  have i2 : ¬ hi ≤ lo := by omega
  have i3 : ¬ (n : Int) < hi := by omega
  have i4 : ¬ (at_ : Int) < 0 := by omega
  have HOUT := Lib.hid hout
  have HV0 := Lib.hid hv0
  have HD60 := Lib.hid hd60
  clear hmd hmr hacc hrg hroot e1 hn hm hmle h1 h60 hout hv0 hd1 hd60 hfl hat
  go_enter Tryd.func13, Tryd.ntmps13
  go_upto_region 2 with (go_at_call 38; refine (HMD.out _ hT).mono ?_; rintro e w1 ⟨p, A1, c1, rfl, hp1, hO1, b1⟩)
  obtain ⟨w2, hW2⟩ : ∃ w2, (w1.alloc (.cells #[.pointer p] 47)).alloc (.cells #[.int .i64 (n : Int), .slice A1 m c1] 69) = w2 := ⟨_, rfl⟩
  have b2 : Below w1.heap.size w1 w2 := hW2 ▸ Below.on (Below.new1 _ _) (Below.new1 _ _)
  have x7 : Boxed w2 w1.heap.size 47 (.pointer p) := hW2 ▸ (Boxed.new w1 _ _).alloc _
  have x8 : BoxM w2 (w1.heap.size + 1) n (.slice A1 m c1) := by
    have := BoxM.new (w1.alloc (.cells #[.pointer p] 47)) n (.slice A1 m c1)
    rw [World.size_alloc] at this; exact hW2 ▸ this
  have hp2 := hp1.below b2
  have hR2 : Runs w2 A1 R := by
    obtain ⟨A', c', e, _, h⟩ := (hO1.next b2).runs
    cases e; exact h
  change Code.wp _ _ _ _ ((w1.alloc (.cells #[.pointer p] 47)).alloc (.cells #[.int .i64 (n : Int), .slice A1 m c1] 69))
  rw [hW2]
  have B2 := Below.on b1 b2
  have hk2 := hk.next B2
  have c7 := x7.cell
  have c80 := x8.c0
  generalize w1.heap.size = g11 at *
  clear hW2 hT x7 hp1 hO1 b1 b2 hk
  go_upto_region 5 with (first
    | (go_at_call 25; refine (HMR.out _ p hp2 hk2).mono ?_; rintro e w3 ⟨rfl, b3⟩)
    | ((with_reducible refine wpList_storeH ?_ (.tmp 14) (.tmp 68) ?_ w3.heap.size root ?_ ?_ (BoxA.new w3 30 .u8 (List.replicate 32 0) _ rfl) (by simp) HROOT.out ?_); rfl; rfl; rfl; rfl))
  obtain ⟨w4, hW4⟩ : ∃ w4, World.setRow (World.alloc w3 (.cells (ints .u8 (List.replicate 32 0)) 30)) w3.heap.size (ints .u8 (nums root)) = w4 := ⟨_, rfl⟩
  have y14 : BoxH w4 w3.heap.size root := hW4 ▸ (BoxA.new w3 30 .u8 (List.replicate 32 0) _ rfl).setRow (l' := nums root)
  have b4 : Below w3.heap.size w3 w4 := hW4 ▸ below_setRow (Below.new1 w3 _) (Nat.le_refl _) _
  change Code.wp _ _ _ _ (World.setRow (World.alloc w3 (.cells (ints .u8 (List.replicate 32 0)) 30)) w3.heap.size (ints .u8 (nums root)))
  rw [hW4]
  have B4 := Below.on b3 b4
  have BB4 := Below.on B2 B4
  have hp4 := hp2.below B4
  have hk4 := hk2.next B4
  have hR4 := hR2.below B4
  have v8 := x8.next B4
  replace c7 := cell_kept B4 c7
  replace c80 := v8.c0
  generalize w3.heap.size = g14 at *
  clear hW4 b3 b4 hp2 hk2 hR2 x8 B4 B2 HMR HMD
  go_upto_region 6 with (go_at_call 27; refine (HRG.out _ p hp4 hk4).mono ?_; rintro e w5 ⟨A', m', c', PA', pn', pc', rfl, hOa, hO5, b5⟩)
  obtain ⟨w6, hW6⟩ : ∃ w6, World.alloc w5 (.cells #[.slice A' m' c', .int .i64 index, .int .i64 m, .int .i64 n, .slice PA' pn' pc'] 43) = w6 := ⟨_, rfl⟩
  have X6 : BoxC w6 w5.heap.size A' m' c' index m n PA' pn' pc' := hW6 ▸ BoxC.new w5 A' m' c' index m n PA' pn' pc'
  have s6 : Below w5.heap.size w5 w6 := hW6 ▸ Below.new1 _ _
  change Code.wp _ _ _ _ (World.alloc w5 (.cells #[.slice A' m' c', .int .i64 index, .int .i64 m, .int .i64 n, .slice PA' pn' pc'] 43))
  rw [hW6]
  have BB5 := Below.on BB4 b5
  have f14 : BoxH w5 g14 root := BoxA.next y14 b5
  have f8 := v8.next b5
  have hk5 := hk4.next b5
  have hR5 := hR4.below b5
  obtain ⟨PAx, pcx, ex, hpc', hsV⟩ := hO5.toHs
  simp only [Value.slice.injEq] at ex
  obtain ⟨ex1, ex2, ex3⟩ := ex
  rw [← ex1] at hsV
  rw [← ex2, ← ex3] at hpc'
  obtain ⟨Ax, cx, ey, hc', hRD⟩ := hOa.runs
  simp only [Value.slice.injEq] at ey
  obtain ⟨ey1, ey2, ey3⟩ := ey
  rw [← ey1] at hRD
  rw [← ey2, ← ey3] at hc'
  have HPN := Lib.hid ex2.symm
  have HDL := Lib.hid ey2.symm
  have pn1 : pn' ≤ 1000 := by have := HOUT.out; omega
  have dl60 : m' ≤ 60 := by have := HD60.out; omega
  have PVZ := Lib.hid (show pn' = 0 by have := HV0.out; omega)
  have c64 := X6.c4
  clear ex1 ex2 ex3 ey1 ey2 ey3 hOa hW6 b5 y14 v8 hk4 hR4 BB4 hp4 c7 HRG
  go_upto_region 9 with (fail)
  obtain ⟨g16, hg16⟩ : ∃ k, w5.heap.size = k := ⟨_, rfl⟩
  have HG16 := Lib.hid hg16
  rw [hg16] at X6 s6 c64 ⊢
  have f146 : BoxH w6 g14 root := f14.low (by have := BoxA.lt f14; have := HG16.out; omega) s6
  have hO6 := hO5.next (HG16.out ▸ s6)
  refine wp_name fun a0 ha0 => ?_
  have e14 : a0.eval (.tmp 14) = .pointer (some ⟨g14, 0, none⟩) := by rw [ha0]; rfl
  have e16 : a0.eval (.tmp 16) = .pointer (some ⟨g16, 0, none⟩) := by rw [ha0]; rfl
  have e18 : a0.eval (.tmp 18) = .slice PA' pn' pc' := by rw [ha0]; rfl
  have hz : a0.tmps.size = 191 := by rw [ha0]; rfl
  have HA0 := Lib.hid ha0
  clear ha0
  have SG : ∀ (d d' : Nat → Prop) (W W' : World), (fun (_ : Nat → Prop) (W : World) => Below w6.heap.size w6 W) d W → (∀ j, d j → d' j) → Below W.heap.size W W' → (fun (_ : Nat → Prop) (W : World) => Below w6.heap.size w6 W) d' W' := fun _ _ _ _ h _ b => Below.next h b
  have St : ∀ xc ∈ [(⟨some 0, 85, some 2, fun v W => ∃ g, v = .slice (some ⟨g, 0, none⟩) 0 0 ∧ OwnHs W w6.heap.size (.slice (some ⟨g, 0, none⟩) 0 0) []⟩ : Cl), ⟨some 1, 86, none, fun v _ => v = .slice PA' pn' pc'⟩, ⟨some 2, 87, some 5, fun v W => OwnHs W w6.heap.size v V⟩, ⟨some 3, 88, none, fun v _ => v = hashV root⟩, ⟨some 4, 89, some 5, fun v W => OwnHs W w6.heap.size v [root]⟩, ⟨some 5, 90, none, fun v W => OwnHs W w6.heap.size v (V ++ [root])⟩, ⟨some 6, 91, none, fun v _ => v = .pointer (some ⟨g16, 4, none⟩)⟩], Lasts xc := AllC.mem ⟨(fun _ _ _ h b => by obtain ⟨g, e, h1⟩ := h; exact ⟨g, e, h1.next b⟩), lastsV0 _ _ _ _, (fun _ _ _ h b => h.next b), lastsV0 _ _ _ _, (fun _ _ _ h b => h.next b), (fun _ _ _ h b => h.next b), lastsV0 _ _ _ _, trivial⟩
  refine wp_region_lastlyR 7 _ (Inv [85, 86, 87, 88, 89, 90, 91] a0 (fun (_ : Nat → Prop) (W : World) => Below w6.heap.size w6 W) (lst St)) (by kernel_rfl) (by kernel_rfl) rfl rfl (fun d hcl hw j hj => ?_) rfl (Inv.start (Below.refl _ _).drew ⟨nofun, nofun, nofun, nofun, nofun, nofun, nofun, trivial⟩) ?_ ?_
  · have r5 := hw 5 rfl
    have r6 := hw 6 rfl
    have r2 := hcl 5 _ 2 rfl rfl r5
    have r4 := hcl 5 _ 4 rfl rfl r5
    have r3 := hcl 4 _ 3 rfl rfl r4
    have r0 := hcl 2 _ 0 rfl rfl r2
    have r1 := hcl 2 _ 1 rfl rfl r2
    match j, hj with
    | 0, _ => exact r0
    | 1, _ => exact r1
    | 2, _ => exact r2
    | 3, _ => exact r3
    | 4, _ => exact r4
    | 5, _ => exact r5
    | 6, _ => exact r6
    | j + 7, h => exact absurd h (by omega)
  · clear HA0
    refine ⟨?_, ?_, ?_, ?_, ?_, ?_, ?_, trivial⟩
    · refine stepB rfl rfl (by decide) (by rw [hz]; decide) rfl rfl (by kernel_rfl) St SG fun d a W hF hG hH hn hcl hw => ?_
      refine ⟨.slice (some ⟨W.heap.size, 0, none⟩) 0 0, W.alloc (.cells #[] 30), ?_, Below.new1 W _, ?_⟩
      · clear hF hG hH hn hcl hw
        generalize a.eval = ρ at *
        go_simp
      · exact ⟨_, rfl, (OwnHs.emptyW W).mono hG.size⟩
    · refine stepB rfl rfl (by decide) (by rw [hz]; decide) rfl rfl (by kernel_rfl) St SG fun d a W hF hG hH hn hcl hw => ?_
      have q18 := (hF.same 18 (by decide)).trans e18
      exact ⟨.slice PA' pn' pc', W, by clear hF hG hH hn hcl hw; generalize a.eval = ρ at *; go_simp, Below.refl _ _, rfl⟩
    · refine stepB rfl rfl (by decide) (by rw [hz]; decide) rfl rfl (by kernel_rfl) St SG fun d a W hF hG hH hn hcl hw => ?_
      have q85 : ∃ g, a.eval (.tmp 85) = .slice (some ⟨g, 0, none⟩) 0 0 ∧ OwnHs W w6.heap.size (.slice (some ⟨g, 0, none⟩) 0 0) [] := hH.at_ (i := 0) rfl (hw 0 rfl) hn
      have q86 : a.eval (.tmp 86) = .slice PA' pn' pc' := hH.at_ (i := 1) rfl (hw 1 rfl) id
      obtain ⟨g, q85, h85⟩ := q85
      exact exec_append_fresh (.tmp 85) (.tmp 86) rfl w6.heap.size _ g W _ V q85 q86 h85 (hO6.next hG) (by have := HOUT.out; omega) hG.size
    · refine stepB rfl rfl (by decide) (by rw [hz]; decide) rfl rfl (by kernel_rfl) St SG fun d a W hF hG hH hn hcl hw => ?_
      have q14 := (hF.same 14 (by decide)).trans e14
      refine ⟨hashV root, W, ?_, Below.refl _ _, ?_⟩
      · exact exec_load rfl (by rw [q14]; exact BoxH.load_ (BoxA.next f146 hG) HROOT.out)
      · rfl
    · refine stepB rfl rfl (by decide) (by rw [hz]; decide) rfl rfl (by kernel_rfl) St SG fun d a W hF hG hH hn hcl hw => ?_
      have q88 : a.eval (.tmp 88) = hashV root := hH.at_ (i := 3) rfl (hw 3 rfl) id
      refine ⟨.slice (some ⟨W.heap.size, 0, none⟩) 1 1, W.alloc (.cells (cellsB root).toArray 30), ?_, Below.new1 W _, ?_⟩
      · exact exec_buildH (.tmp 88) rfl root q88 HROOT.out
      · exact OwnHs.one W _ HROOT.out hG.size
    · refine stepA2 rfl rfl (by decide) (by rw [hz]; decide) rfl rfl (by kernel_rfl) w6.heap.size (AllC.mem ⟨.inr (.inr (.inr fun d hcl hw => hw 2 rfl)), .inr (.inr (.inl fun _ _ _ h _ => h)), .inr (.inl rfl), .inr (.inr (.inl fun _ _ _ h _ => h)), .inr (.inl rfl), .inl rfl, .inr (.inr (.inl fun _ _ _ h _ => h)), trivial⟩) (fun _ _ _ _ h _ b => h.trans b) fun d a W hF hG hH hn hcl hw => ?_
      have q87 : OwnHs W w6.heap.size (a.eval (.tmp 87)) V := hH.at_ (i := 2) rfl (hw 2 rfl) hn
      have q89 : OwnHs W w6.heap.size (a.eval (.tmp 89)) [root] := hH.at_ (i := 4) rfl (hw 4 rfl) hn
      exact exec_append_hs2 (.tmp 87) (.tmp 89) rfl w6.heap.size w6.heap.size W _ _ V [root] rfl rfl q87 q89 (by have := HOUT.out; omega) (by simp) hG.size
    · refine stepB rfl rfl (by decide) (by rw [hz]; decide) rfl rfl (by kernel_rfl) St SG fun d a W hF hG hH hn hcl hw => ?_
      have q16 := (hF.same 16 (by decide)).trans e16
      exact ⟨.pointer (some ⟨g16, 4, none⟩), W, by clear hF hG hH hn hcl hw; generalize a.eval = ρ at *; go_simp, Below.refl _ _, rfl⟩
  · intro d a W ⟨hF, hB, hH⟩ hall
    have k90 : OwnHs W w6.heap.size (a.eval (.tmp 90)) (V ++ [root]) := hH.at_ (i := 5) rfl (hall 5 (by decide)) id
    have k91 : a.eval (.tmp 91) = .pointer (some ⟨g16, 4, none⟩) := hH.at_ (i := 6) rfl (hall 6 (by decide)) id
    clear hH hall
    rw [hF.shape (by rw [hz]; decide)]
    clear hF
    simp only [List.foldl]
    generalize a.eval (.tmp 85) = z85, a.eval (.tmp 86) = z86, a.eval (.tmp 87) = z87, a.eval (.tmp 88) = z88, a.eval (.tmp 89) = z89, a.eval (.tmp 90) = z90, a.eval (.tmp 91) = z91 at *
    subst k91
    rw [HA0.out]
    simp only [Act.put, List.setIfInBounds_toArray, List.set_cons_zero, List.set_cons_succ]
    clear hz HA0 St SG e14 e16 e18
    clear a a0
    have cc := cell_kept hB c64
    have X7 := X6.next hB
    have cf := X7.frozen 4
    obtain ⟨A9, c9, rfl, hc9, hs9⟩ := k90.toHs
    refine wp_skips (w' := W.setCell ⟨g16, 4, none⟩ (.slice A9 (V ++ [root]).length c9)) (by go_simp) ?_
    dsimp only [Act.put]
    have X8 := X7.set4 A9 (V ++ [root]).length c9
    have S8 := (s6.trans (hB.mono (by have := s6.size; have := HG16.out; omega))).setCell (p := ⟨g16, 4, none⟩) (Nat.le_refl _) (.slice A9 (V ++ [root]).length c9)
    have hO9 := k90.but (.inl (by have := (Array.getElem?_eq_some_iff.1 X6.row).1; omega)) ((But.refl g16 W).setCell 4 (.slice A9 (V ++ [root]).length c9))
    generalize W.setCell ⟨g16, 4, none⟩ (.slice A9 (V ++ [root]).length c9) = w8 at *
    have hs8 : Hs w8 A9 (V ++ [root]) := by
      obtain ⟨A1, c1, e, _, h⟩ := hO9.toHs
      simp only [Value.slice.injEq] at e
      rw [← e.1] at h
      exact h
    have S85 : Below w5.heap.size w5 w8 := by rw [HG16.out]; exact S8
    have f148 : BoxH w8 g14 root := BoxA.next f14 S85
    have hk8 := hk5.next S85
    have hR8 := hRD.below S85
    clear X6 X7 cc cf hB k90 hs9 hO9 c64 f146 hO6
    have hq1 := fun PA9 pc9 W (hR : Runs W A' D) (h : Hs W PA9 (V ++ [root])) (hpc9 : (V ++ [root]).length ≤ pc9) (kon : Kon W) => HAC.out (V ++ [root]) PA9 ((V ++ [root]).length) pc9 W A' m' c' HDL.out hR hc' h (by rfl) hpc9 (by rw [List.length_append]; have := HOUT.out; simp; omega) kon
    rw [E1.out] at hq1
    have HQ1 := Lib.hid (hq1 A9 c9 w8 hR8 hs8 hc9 hk8)
    clear hq1
    generalize (V ++ [root]).length = l9 at *
    go_upto_region 12 with (first
      | ((with_reducible refine wpList_load_if (o := ⟨some 92, _, _, _, _, _⟩) ?_ 30 (.tmp 14) ?_ (hashV root) ?_ ?_); rfl; rfl; exact (BoxH.load_ f148 HROOT.out))
      | ((with_reducible refine wpList_load_if (o := ⟨some 95, _, _, _, _, _⟩) ?_ 43 (.tmp 16) ?_ (claimV A' m' c' index m n A9 l9 c9) ?_ ?_); rfl; rfl; exact X8.load_)
      | (go_at_call 23; refine HQ1.out.mono ?_; rintro e w10 ⟨rfl, b10⟩))
    have X10 : BoxC w10 g16 A' m' c' index m n A9 l9 c9 := X8.next b10
    have S10 : Below w5.heap.size w5 w10 := S85.trans (b10.mono S85.size)
    have k10c := X10.c4
    have k10f := X10.frozen 4
    clear X8 S8 S85 hs8 f148 hk8 hR8 b10 HQ1 hc9
    have hk10 := hk5.next S10
    have pz : ((pn' : Int) == 0) = true := by have := PVZ.out; simp; omega
    go_wp2_with (go_at_call 17; refine (HA.out _ hk10).mono ?_; rintro e w12 ⟨rfl, b12⟩)
    go_ret
    exact ⟨rfl, Below.on (Below.on BB5 S10) b12⟩
set_option maxRecDepth 100000 in
set_option maxHeartbeats 4000000 in
theorem loses_calm (ts : List UInt8) (A : Option Addr) (lo hi : Int) (at_ : Nat) (b : UInt8) (n c : Nat) (w : World) (hn : ts.length = n) (h1 : 1 ≤ n) (h60 : n ≤ 60) (hT : Tags w A ts) (hk : Kon w) (l0 : 0 ≤ lo) (l1 : lo < hi) (l2 : hi ≤ n) (hat : (at_ : Int) ≤ 9223372036854775807) (hv0 : 1 ≤ (outO ts lo hi).length) (hac : b = 0 ∨ (b ≠ 0 ∧ acceptM (rootO ts) lo hi (cutO ts lo hi) (fromM lo (ofR ts) : Nat) (ofR ts).length ts.length (turnO (outO ts lo hi) at_ b) = false)) : Calls Tryd.prog 13 #[.slice A n c, .int .i64 lo, .int .i64 hi, .int .i64 (at_ : Int), .int .u8 (b.toNat : Int)] w fun e w' => e = .returned (.bool true) ∧ Below w.heap.size w w' := by
  have hroot : (rootO ts).length = 32 := rootO_length ts
  have hmd := fun W (h : Tags W A ts) => made_yes ts A n c W hn h1 h60 h
  unfold MadePost at hmd
  rw [hn] at hmd
  have hmr := fun W p (h : Rep W p (ofL ts)) (kon : Kon W) => mapRoot_any W p (ofL ts) h kon
  rw [mapRoot_of (by omega) (by omega)] at hmr
  have hcut := cutO_length (ts := ts) (lo := lo) (hi := hi) (by omega) (by omega) l0 l1 (by omega)
  have hout := outO_length (ts := ts) (by omega) lo hi
  have hfl : fromM lo (ofR ts) ≤ 60 := by have := (ofR_spec ts).2.2.2.2.1; omega
  have hrg := fun W p (h : Rep W p (ofL ts)) (kon : Kon W) => range_of (ts := ts) (lo := lo) (hi := hi) (by omega) (by omega) l0 l1 (by omega) W p h kon
  rw [hn] at hrg
  have e1 := lose_more (ts := ts) (lo := lo) (hi := hi) (by omega) (by omega) l0 l1 (by omega) (rootO ts)
  rw [hn] at e1
  have e2 := lose_less (ts := ts) (lo := lo) (hi := hi) (by omega) (by omega) l0 l1 (by omega) (by omega)
  rw [hn] at e2
  rw [hn] at hac
  have hacc := fun (path : List Bs) PA pn pc W A' m' c' (hm' : (cutO ts lo hi).length = m') (hR : Runs W A' (cutO ts lo hi)) (hc' : m' ≤ c') (h : Hs W PA path) (hpn : path.length = pn) (hpc : pn ≤ pc) (hl : pn ≤ 100000) (kon : Kon W) => accept_any (rootO ts) lo hi (cutO ts lo hi) A' m' c' (fromM lo (ofR ts) : Nat) (ofR ts).length n path PA pn pc W hm' hR hc' h hpn hpc (by omega) kon hroot
  have hV32 := outO_h32 ts lo hi
  generalize rootO ts = root at *
  generalize ofL ts = L at *
  have ix0 : (0 : Int) ≤ (fromM lo (ofR ts) : Nat) := by omega
  have ix1 : ((fromM lo (ofR ts) : Nat) : Int) ≤ 60 := by omega
  generalize ((fromM lo (ofR ts) : Nat) : Int) = index at *
  obtain ⟨_, hd1, hd60, _⟩ := hcut
  generalize cutO ts lo hi = D at *
  generalize outO ts lo hi = V at *
  have hmle := (ofR_spec ts).2.2.2.2.1
  obtain ⟨m, hm⟩ : ∃ m, (ofR ts).length = m := ⟨_, rfl⟩
  rw [hm] at hmd hrg hacc e1 hmle e2 hac
  generalize ofR ts = R at *
  have HMD := Lib.hid hmd
  have HMR := Lib.hid hmr
  have HAC := Lib.hid hacc
  have HRG := Lib.hid hrg
  have HA := Lib.hid (fun W kon => awake_any W kon)
  have HROOT := Lib.hid hroot
  have E1 := Lib.hid e1
  have E2 := Lib.hid e2
  have HV32 := Lib.hid hV32
  have E3 := Lib.hid hac
  have j1 : ((n : Int) == 0) = false := by simp; omega
  have j2 : ¬ (60 : Int) < n := by omega
  have i1 : ¬ lo < 0 := by omega
  have i2 : ¬ hi ≤ lo := by omega
  have i3 : ¬ (n : Int) < hi := by omega
  have i4 : ¬ (at_ : Int) < 0 := by omega
  have HOUT := Lib.hid hout
  have HV0 := Lib.hid hv0
  have HD60 := Lib.hid hd60
  clear hmd hmr hacc hrg hroot e1 hn hm hmle h1 h60 hout hv0 hd1 hd60 hfl hat e2 hV32 hac
  go_enter Tryd.func13, Tryd.ntmps13
  go_upto_region 2 with (go_at_call 38; refine (HMD.out _ hT).mono ?_; rintro e w1 ⟨p, A1, c1, rfl, hp1, hO1, b1⟩)
  obtain ⟨w2, hW2⟩ : ∃ w2, (w1.alloc (.cells #[.pointer p] 47)).alloc (.cells #[.int .i64 (n : Int), .slice A1 m c1] 69) = w2 := ⟨_, rfl⟩
  have b2 : Below w1.heap.size w1 w2 := hW2 ▸ Below.on (Below.new1 _ _) (Below.new1 _ _)
  have x7 : Boxed w2 w1.heap.size 47 (.pointer p) := hW2 ▸ (Boxed.new w1 _ _).alloc _
  have x8 : BoxM w2 (w1.heap.size + 1) n (.slice A1 m c1) := by
    have := BoxM.new (w1.alloc (.cells #[.pointer p] 47)) n (.slice A1 m c1)
    rw [World.size_alloc] at this; exact hW2 ▸ this
  have hp2 := hp1.below b2
  have hR2 : Runs w2 A1 R := by
    obtain ⟨A', c', e, _, h⟩ := (hO1.next b2).runs
    cases e; exact h
  change Code.wp _ _ _ _ ((w1.alloc (.cells #[.pointer p] 47)).alloc (.cells #[.int .i64 (n : Int), .slice A1 m c1] 69))
  rw [hW2]
  have B2 := Below.on b1 b2
  have hk2 := hk.next B2
  have c7 := x7.cell
  have c80 := x8.c0
  generalize w1.heap.size = g11 at *
  clear hW2 hT x7 hp1 hO1 b1 b2 hk
  go_upto_region 5 with (first
    | (go_at_call 25; refine (HMR.out _ p hp2 hk2).mono ?_; rintro e w3 ⟨rfl, b3⟩)
    | ((with_reducible refine wpList_storeH ?_ (.tmp 14) (.tmp 68) ?_ w3.heap.size root ?_ ?_ (BoxA.new w3 30 .u8 (List.replicate 32 0) _ rfl) (by simp) HROOT.out ?_); rfl; rfl; rfl; rfl))
  obtain ⟨w4, hW4⟩ : ∃ w4, World.setRow (World.alloc w3 (.cells (ints .u8 (List.replicate 32 0)) 30)) w3.heap.size (ints .u8 (nums root)) = w4 := ⟨_, rfl⟩
  have y14 : BoxH w4 w3.heap.size root := hW4 ▸ (BoxA.new w3 30 .u8 (List.replicate 32 0) _ rfl).setRow (l' := nums root)
  have b4 : Below w3.heap.size w3 w4 := hW4 ▸ below_setRow (Below.new1 w3 _) (Nat.le_refl _) _
  change Code.wp _ _ _ _ (World.setRow (World.alloc w3 (.cells (ints .u8 (List.replicate 32 0)) 30)) w3.heap.size (ints .u8 (nums root)))
  rw [hW4]
  have B4 := Below.on b3 b4
  have BB4 := Below.on B2 B4
  have hp4 := hp2.below B4
  have hk4 := hk2.next B4
  have hR4 := hR2.below B4
  have v8 := x8.next B4
  replace c7 := cell_kept B4 c7
  replace c80 := v8.c0
  generalize w3.heap.size = g14 at *
  clear hW4 b3 b4 hp2 hk2 hR2 x8 B4 B2 HMR HMD
  go_upto_region 6 with (go_at_call 27; refine (HRG.out _ p hp4 hk4).mono ?_; rintro e w5 ⟨A', m', c', PA', pn', pc', rfl, hOa, hO5, b5⟩)
  obtain ⟨w6, hW6⟩ : ∃ w6, World.alloc w5 (.cells #[.slice A' m' c', .int .i64 index, .int .i64 m, .int .i64 n, .slice PA' pn' pc'] 43) = w6 := ⟨_, rfl⟩
  have X6 : BoxC w6 w5.heap.size A' m' c' index m n PA' pn' pc' := hW6 ▸ BoxC.new w5 A' m' c' index m n PA' pn' pc'
  have s6 : Below w5.heap.size w5 w6 := hW6 ▸ Below.new1 _ _
  change Code.wp _ _ _ _ (World.alloc w5 (.cells #[.slice A' m' c', .int .i64 index, .int .i64 m, .int .i64 n, .slice PA' pn' pc'] 43))
  rw [hW6]
  have BB5 := Below.on BB4 b5
  have f14 : BoxH w5 g14 root := BoxA.next y14 b5
  have f8 := v8.next b5
  have hk5 := hk4.next b5
  have hR5 := hR4.below b5
  obtain ⟨PAx, pcx, ex, hpc', hsV⟩ := hO5.toHs
  simp only [Value.slice.injEq] at ex
  obtain ⟨ex1, ex2, ex3⟩ := ex
  rw [← ex1] at hsV
  rw [← ex2, ← ex3] at hpc'
  obtain ⟨Ax, cx, ey, hc', hRD⟩ := hOa.runs
  simp only [Value.slice.injEq] at ey
  obtain ⟨ey1, ey2, ey3⟩ := ey
  rw [← ey1] at hRD
  rw [← ey2, ← ey3] at hc'
  have HPN := Lib.hid ex2.symm
  have HDL := Lib.hid ey2.symm
  have pn1 : pn' ≤ 1000 := by have := HOUT.out; omega
  have dl60 : m' ≤ 60 := by have := HD60.out; omega
  have pv : 1 ≤ pn' := by have := HV0.out; omega
  have c64 := X6.c4
  clear ex1 ex2 ex3 ey1 ey2 ey3 hOa hW6 b5 y14 v8 hk4 hR4 BB4 hp4 c7 HRG
  go_upto_region 9 with (fail)
  obtain ⟨g16, hg16⟩ : ∃ k, w5.heap.size = k := ⟨_, rfl⟩
  have HG16 := Lib.hid hg16
  rw [hg16] at X6 s6 c64 ⊢
  have f146 : BoxH w6 g14 root := f14.low (by have := BoxA.lt f14; have := HG16.out; omega) s6
  have hO6 := hO5.next (HG16.out ▸ s6)
  refine wp_name fun a0 ha0 => ?_
  have e14 : a0.eval (.tmp 14) = .pointer (some ⟨g14, 0, none⟩) := by rw [ha0]; rfl
  have e16 : a0.eval (.tmp 16) = .pointer (some ⟨g16, 0, none⟩) := by rw [ha0]; rfl
  have e18 : a0.eval (.tmp 18) = .slice PA' pn' pc' := by rw [ha0]; rfl
  have hz : a0.tmps.size = 191 := by rw [ha0]; rfl
  have HA0 := Lib.hid ha0
  clear ha0
  have SG : ∀ (d d' : Nat → Prop) (W W' : World), (fun (_ : Nat → Prop) (W : World) => Below w6.heap.size w6 W) d W → (∀ j, d j → d' j) → Below W.heap.size W W' → (fun (_ : Nat → Prop) (W : World) => Below w6.heap.size w6 W) d' W' := fun _ _ _ _ h _ b => Below.next h b
  have St : ∀ xc ∈ [(⟨some 0, 85, some 2, fun v W => ∃ g, v = .slice (some ⟨g, 0, none⟩) 0 0 ∧ OwnHs W w6.heap.size (.slice (some ⟨g, 0, none⟩) 0 0) []⟩ : Cl), ⟨some 1, 86, none, fun v _ => v = .slice PA' pn' pc'⟩, ⟨some 2, 87, some 5, fun v W => OwnHs W w6.heap.size v V⟩, ⟨some 3, 88, none, fun v _ => v = hashV root⟩, ⟨some 4, 89, some 5, fun v W => OwnHs W w6.heap.size v [root]⟩, ⟨some 5, 90, none, fun v W => OwnHs W w6.heap.size v (V ++ [root])⟩, ⟨some 6, 91, none, fun v _ => v = .pointer (some ⟨g16, 4, none⟩)⟩], Lasts xc := AllC.mem ⟨(fun _ _ _ h b => by obtain ⟨g, e, h1⟩ := h; exact ⟨g, e, h1.next b⟩), lastsV0 _ _ _ _, (fun _ _ _ h b => h.next b), lastsV0 _ _ _ _, (fun _ _ _ h b => h.next b), (fun _ _ _ h b => h.next b), lastsV0 _ _ _ _, trivial⟩
  refine wp_region_lastlyR 7 _ (Inv [85, 86, 87, 88, 89, 90, 91] a0 (fun (_ : Nat → Prop) (W : World) => Below w6.heap.size w6 W) (lst St)) (by kernel_rfl) (by kernel_rfl) rfl rfl (fun d hcl hw j hj => ?_) rfl (Inv.start (Below.refl _ _).drew ⟨nofun, nofun, nofun, nofun, nofun, nofun, nofun, trivial⟩) ?_ ?_
  · have r5 := hw 5 rfl
    have r6 := hw 6 rfl
    have r2 := hcl 5 _ 2 rfl rfl r5
    have r4 := hcl 5 _ 4 rfl rfl r5
    have r3 := hcl 4 _ 3 rfl rfl r4
    have r0 := hcl 2 _ 0 rfl rfl r2
    have r1 := hcl 2 _ 1 rfl rfl r2
    match j, hj with
    | 0, _ => exact r0
    | 1, _ => exact r1
    | 2, _ => exact r2
    | 3, _ => exact r3
    | 4, _ => exact r4
    | 5, _ => exact r5
    | 6, _ => exact r6
    | j + 7, h => exact absurd h (by omega)
  · clear HA0
    refine ⟨?_, ?_, ?_, ?_, ?_, ?_, ?_, trivial⟩
    · refine stepB rfl rfl (by decide) (by rw [hz]; decide) rfl rfl (by kernel_rfl) St SG fun d a W hF hG hH hn hcl hw => ?_
      refine ⟨.slice (some ⟨W.heap.size, 0, none⟩) 0 0, W.alloc (.cells #[] 30), ?_, Below.new1 W _, ?_⟩
      · clear hF hG hH hn hcl hw
        generalize a.eval = ρ at *
        go_simp
      · exact ⟨_, rfl, (OwnHs.emptyW W).mono hG.size⟩
    · refine stepB rfl rfl (by decide) (by rw [hz]; decide) rfl rfl (by kernel_rfl) St SG fun d a W hF hG hH hn hcl hw => ?_
      have q18 := (hF.same 18 (by decide)).trans e18
      exact ⟨.slice PA' pn' pc', W, by clear hF hG hH hn hcl hw; generalize a.eval = ρ at *; go_simp, Below.refl _ _, rfl⟩
    · refine stepB rfl rfl (by decide) (by rw [hz]; decide) rfl rfl (by kernel_rfl) St SG fun d a W hF hG hH hn hcl hw => ?_
      have q85 : ∃ g, a.eval (.tmp 85) = .slice (some ⟨g, 0, none⟩) 0 0 ∧ OwnHs W w6.heap.size (.slice (some ⟨g, 0, none⟩) 0 0) [] := hH.at_ (i := 0) rfl (hw 0 rfl) hn
      have q86 : a.eval (.tmp 86) = .slice PA' pn' pc' := hH.at_ (i := 1) rfl (hw 1 rfl) id
      obtain ⟨g, q85, h85⟩ := q85
      exact exec_append_fresh (.tmp 85) (.tmp 86) rfl w6.heap.size _ g W _ V q85 q86 h85 (hO6.next hG) (by have := HOUT.out; omega) hG.size
    · refine stepB rfl rfl (by decide) (by rw [hz]; decide) rfl rfl (by kernel_rfl) St SG fun d a W hF hG hH hn hcl hw => ?_
      have q14 := (hF.same 14 (by decide)).trans e14
      refine ⟨hashV root, W, ?_, Below.refl _ _, ?_⟩
      · exact exec_load rfl (by rw [q14]; exact BoxH.load_ (BoxA.next f146 hG) HROOT.out)
      · rfl
    · refine stepB rfl rfl (by decide) (by rw [hz]; decide) rfl rfl (by kernel_rfl) St SG fun d a W hF hG hH hn hcl hw => ?_
      have q88 : a.eval (.tmp 88) = hashV root := hH.at_ (i := 3) rfl (hw 3 rfl) id
      refine ⟨.slice (some ⟨W.heap.size, 0, none⟩) 1 1, W.alloc (.cells (cellsB root).toArray 30), ?_, Below.new1 W _, ?_⟩
      · exact exec_buildH (.tmp 88) rfl root q88 HROOT.out
      · exact OwnHs.one W _ HROOT.out hG.size
    · refine stepA2 rfl rfl (by decide) (by rw [hz]; decide) rfl rfl (by kernel_rfl) w6.heap.size (AllC.mem ⟨.inr (.inr (.inr fun d hcl hw => hw 2 rfl)), .inr (.inr (.inl fun _ _ _ h _ => h)), .inr (.inl rfl), .inr (.inr (.inl fun _ _ _ h _ => h)), .inr (.inl rfl), .inl rfl, .inr (.inr (.inl fun _ _ _ h _ => h)), trivial⟩) (fun _ _ _ _ h _ b => h.trans b) fun d a W hF hG hH hn hcl hw => ?_
      have q87 : OwnHs W w6.heap.size (a.eval (.tmp 87)) V := hH.at_ (i := 2) rfl (hw 2 rfl) hn
      have q89 : OwnHs W w6.heap.size (a.eval (.tmp 89)) [root] := hH.at_ (i := 4) rfl (hw 4 rfl) hn
      exact exec_append_hs2 (.tmp 87) (.tmp 89) rfl w6.heap.size w6.heap.size W _ _ V [root] rfl rfl q87 q89 (by have := HOUT.out; omega) (by simp) hG.size
    · refine stepB rfl rfl (by decide) (by rw [hz]; decide) rfl rfl (by kernel_rfl) St SG fun d a W hF hG hH hn hcl hw => ?_
      have q16 := (hF.same 16 (by decide)).trans e16
      exact ⟨.pointer (some ⟨g16, 4, none⟩), W, by clear hF hG hH hn hcl hw; generalize a.eval = ρ at *; go_simp, Below.refl _ _, rfl⟩
  · intro d a W ⟨hF, hB, hH⟩ hall
    have k90 : OwnHs W w6.heap.size (a.eval (.tmp 90)) (V ++ [root]) := hH.at_ (i := 5) rfl (hall 5 (by decide)) id
    have k91 : a.eval (.tmp 91) = .pointer (some ⟨g16, 4, none⟩) := hH.at_ (i := 6) rfl (hall 6 (by decide)) id
    clear hH hall
    rw [hF.shape (by rw [hz]; decide)]
    clear hF
    simp only [List.foldl]
    generalize a.eval (.tmp 85) = z85, a.eval (.tmp 86) = z86, a.eval (.tmp 87) = z87, a.eval (.tmp 88) = z88, a.eval (.tmp 89) = z89, a.eval (.tmp 90) = z90, a.eval (.tmp 91) = z91 at *
    subst k91
    rw [HA0.out]
    simp only [Act.put, List.setIfInBounds_toArray, List.set_cons_zero, List.set_cons_succ]
    clear hz HA0 St SG e14 e16 e18
    clear a a0
    have cc := cell_kept hB c64
    have X7 := X6.next hB
    have cf := X7.frozen 4
    obtain ⟨A9, c9, rfl, hc9, hs9⟩ := k90.toHs
    refine wp_skips (w' := W.setCell ⟨g16, 4, none⟩ (.slice A9 (V ++ [root]).length c9)) (by go_simp) ?_
    dsimp only [Act.put]
    have X8 := X7.set4 A9 (V ++ [root]).length c9
    have S8 := (s6.trans (hB.mono (by have := s6.size; have := HG16.out; omega))).setCell (p := ⟨g16, 4, none⟩) (Nat.le_refl _) (.slice A9 (V ++ [root]).length c9)
    have hO9 := k90.but (.inl (by have := (Array.getElem?_eq_some_iff.1 X6.row).1; omega)) ((But.refl g16 W).setCell 4 (.slice A9 (V ++ [root]).length c9))
    generalize W.setCell ⟨g16, 4, none⟩ (.slice A9 (V ++ [root]).length c9) = w8 at *
    have hs8 : Hs w8 A9 (V ++ [root]) := by
      obtain ⟨A1, c1, e, _, h⟩ := hO9.toHs
      simp only [Value.slice.injEq] at e
      rw [← e.1] at h
      exact h
    have S85 : Below w5.heap.size w5 w8 := by rw [HG16.out]; exact S8
    have f148 : BoxH w8 g14 root := BoxA.next f14 S85
    have hk8 := hk5.next S85
    have hR8 := hRD.below S85
    clear X6 X7 cc cf hB k90 hs9 hO9 c64 f146 hO6
    have hq1 := fun PA9 pc9 W (hR : Runs W A' D) (h : Hs W PA9 (V ++ [root])) (hpc9 : (V ++ [root]).length ≤ pc9) (kon : Kon W) => HAC.out (V ++ [root]) PA9 ((V ++ [root]).length) pc9 W A' m' c' HDL.out hR hc' h (by rfl) hpc9 (by rw [List.length_append]; have := HOUT.out; simp; omega) kon
    rw [E1.out] at hq1
    have HQ1 := Lib.hid (hq1 A9 c9 w8 hR8 hs8 hc9 hk8)
    clear hq1
    generalize (V ++ [root]).length = l9 at *
    go_upto_region 12 with (first
      | ((with_reducible refine wpList_load_if (o := ⟨some 92, _, _, _, _, _⟩) ?_ 30 (.tmp 14) ?_ (hashV root) ?_ ?_); rfl; rfl; exact (BoxH.load_ f148 HROOT.out))
      | ((with_reducible refine wpList_load_if (o := ⟨some 95, _, _, _, _, _⟩) ?_ 43 (.tmp 16) ?_ (claimV A' m' c' index m n A9 l9 c9) ?_ ?_); rfl; rfl; exact X8.load_)
      | (go_at_call 23; refine HQ1.out.mono ?_; rintro e w10 ⟨rfl, b10⟩))
    have X10 : BoxC w10 g16 A' m' c' index m n A9 l9 c9 := X8.next b10
    have S10 : Below w5.heap.size w5 w10 := S85.trans (b10.mono S85.size)
    have k10c := X10.c4
    have k10f := X10.frozen 4
    clear X8 S8 S85 hs8 f148 hk8 hR8 b10 HQ1 hc9
    have pz : ((pn' : Int) == 0) = false := by simp; omega
    go_upto_region 15 with ((with_reducible refine wpList_exec (o := ⟨some 105, _, _, _, _, _⟩) ?_ (.slice PA' (pn' - 1) pc') ?_ ?_); rfl; exact exec_sliceH_pred rfl rfl rfl pv hpc')
    have X11 := X10.set4 PA' (pn' - 1) pc'
    have S11 : Below w5.heap.size w5 (w10.setCell ⟨g16, 4, none⟩ (.slice PA' (pn' - 1) pc')) := S10.setCell (p := ⟨g16, 4, none⟩) (by show _ ≤ g16; rw [HG16.out]; exact Nat.le_refl _) _
    obtain ⟨w11, hw11⟩ : ∃ x, w10.setCell ⟨g16, 4, none⟩ (.slice PA' (pn' - 1) pc') = x := ⟨_, rfl⟩
    rw [hw11] at X11 S11
    change Code.wp _ _ _ _ (w10.setCell ⟨g16, 4, none⟩ (.slice PA' (pn' - 1) pc'))
    rw [hw11]
    have f1411 : BoxH w11 g14 root := BoxA.next f14 S11
    have hk11 := hk5.next S11
    have hR11 := hRD.below S11
    have hs11 := (hsV.next S11).takeK (V.length - 1)
    have hq2 := fun PA9 pc9 W (hR : Runs W A' D) (h : Hs W PA9 (V.take (V.length - 1))) (hpc9 : (V.take (V.length - 1)).length ≤ pc9) (kon : Kon W) => HAC.out (V.take (V.length - 1)) PA9 ((V.take (V.length - 1)).length) pc9 W A' m' c' HDL.out hR hc' h (by rfl) hpc9 (by rw [List.length_take]; have := HOUT.out; omega) kon
    rw [E2.out] at hq2
    have htl : (V.take (V.length - 1)).length = pn' - 1 := by rw [List.length_take]; have := HPN.out; omega
    rw [htl] at hq2
    have HQ2 := Lib.hid (hq2 PA' pc' w11 hR11 hs11 (by omega) hk11)
    clear hq2 htl hw11 X10 S10 k10c k10f
    go_upto_region 17 with (first
      | ((with_reducible refine wpList_load_if (o := ⟨some 107, _, _, _, _, _⟩) ?_ 30 (.tmp 14) ?_ (hashV root) ?_ ?_); rfl; rfl; exact (BoxH.load_ f1411 HROOT.out))
      | ((with_reducible refine wpList_load_if (o := ⟨some 110, _, _, _, _, _⟩) ?_ 43 (.tmp 16) ?_ (claimV A' m' c' index m n PA' (pn' - 1) pc') ?_ ?_); rfl; rfl; exact X11.load_)
      | (go_at_call 23; refine HQ2.out.mono ?_; rintro e w12 ⟨rfl, b12⟩))
    have X12 : BoxC w12 g16 A' m' c' index m n PA' (pn' - 1) pc' := X11.next b12
    have S12 : Below w5.heap.size w5 w12 := S11.trans (b12.mono S11.size)
    clear X11 S11 f1411 hk11 hR11 hs11 b12 HQ2
    have hO12 := hO5.next S12
    go_upto_region 18 with (first
      | (at_builtin; refine wpList_append_hs rfl (.tmp 112) (.tmp 113) rfl w12.heap.size _ _ _ [] V rfl rfl (OwnHs.emptyW w12) (hO12.next (Below.new1 w12 _)) (by simp) (by have := HOUT.out; omega) (by rw [World.size_alloc]; omega) ?_
         intro v w13 hTx b13; rw [List.nil_append] at hTx; have B13 := (Below.new1 w12 (.cells #[] 30)).trans b13
         obtain ⟨gt, tc, hgt, rfl⟩ : ∃ g cap, w12.heap.size ≤ g ∧ v = .slice (some ⟨g, 0, none⟩) V.length cap := by
           rcases hTx.2.2 with ⟨_, e⟩ | ⟨g, cap, _, e, hg, _⟩
           · exact absurd e (by have := HPN.out; omega)
           · exact ⟨g, cap, hg, e⟩
         have k13c := (X12.next B13).c4
         have k13f := (X12.next B13).frozen 4))
    have X13 := X12.next B13
    have X14 := X13.set4 (some ⟨gt, 0, none⟩) V.length tc
    have l16 := (Array.getElem?_eq_some_iff.1 X12.row).1
    have S13 : Below w5.heap.size w5 w13 := S12.trans (B13.mono S12.size)
    have S14 : Below w5.heap.size w5 (w13.setCell ⟨g16, 4, none⟩ (.slice (some ⟨gt, 0, none⟩) V.length tc)) := S13.setCell (p := ⟨g16, 4, none⟩) (by show _ ≤ g16; rw [HG16.out]; exact Nat.le_refl _) _
    have hT := hTx.but (.inl l16) ((But.refl g16 w13).setCell 4 (.slice (some ⟨gt, 0, none⟩) V.length tc))
    obtain ⟨w14, hw14⟩ : ∃ x, w13.setCell ⟨g16, 4, none⟩ (.slice (some ⟨gt, 0, none⟩) V.length tc) = x := ⟨_, rfl⟩
    rw [hw14] at X14 S14 hT
    change Code.wp _ _ _ _ (w13.setCell ⟨g16, 4, none⟩ (.slice (some ⟨gt, 0, none⟩) V.length tc))
    rw [hw14]
    have hgl : g16 < gt := by omega
    clear hw14 X12 X13 S12 S13 hTx k13c k13f hO12 b13 B13 l16
    have htn0 := fun (j p : Nat) (hj : j < V.length) (hp : p < 32) W (h : Below w14.heap.size w14 W) (x : UInt8) => (hT.next h).turn hj hp x
    have hT2 := hT.2
    have hfz : ∀ (k : Nat) W, Below w14.heap.size w14 W → W.frozen? ⟨gt, k, none⟩ = false := fun k W h => ((hT.next h).2).frozenAt _
    have hcA := fun (j p : Nat) (hj : j < V.length) (hp : p < 32) (x : UInt8) (hx : (cellsH V)[j * 32 + p]? = some (.int .u8 (x.toNat : Int))) => show w14.cell? ⟨gt, j * 32 + p, none⟩ = some (.int .u8 (x.toNat : Int)) from by rw [hT2.cellAt (j * 32 + p) (by omega)]; exact hx
    rw [HPN.out] at X14 ⊢
    obtain ⟨j, hj⟩ : ∃ j, at_ % pn' = j := ⟨_, rfl⟩
    obtain ⟨p_, hp⟩ : ∃ p, at_ % 32 = p := ⟨_, rfl⟩
    have jl : j < pn' := by rw [← hj]; exact Nat.mod_lt _ (by omega)
    have pl : p_ < 32 := by rw [← hp]; exact Nat.mod_lt _ (by decide)
    have jV : j < V.length := by rw [HPN.out]; exact jl
    have hto := turnO_at HV32.out (at_ := at_) (by rw [HPN.out]; exact hj) hp jV b
    have hVj : V[j].length = 32 := HV32.out _ (List.getElem_mem jV)
    have hcl_ : (cellsH V)[j * 32 + p_]? = some (.int .u8 ((V[j][p_]).toNat : Int)) := cellsH_at HV32.out jV (cellsB_get (by omega))
    have hcc_ := hcA j p_ jV pl V[j][p_] hcl_
    have hxb := bits_xor_u8 V[j][p_] b
    have htn := fun W (h : Below w14.heap.size w14 W) => htn0 j p_ jV pl W h (V[j][p_] ^^^ b)
    rw [← hto] at htn
    generalize V[j][p_] = xb at *
    have HTN := Lib.hid htn
    have HFZ := Lib.hid (hfz (j * 32 + p_))
    have r1 : ((at_ : Int) % (pn' : Int)) = (j : Int) := by rw [← hj]; rfl
    have r2 : ((at_ : Int) % 32) = (p_ : Int) := by rw [← hp]; rfl
    have r3 : ((at_ : Int).tmod (pn' : Int)) = (j : Int) := by rw [← hj]; rfl
    have r4 : ((at_ : Int).tmod 32) = (p_ : Int) := by rw [← hp]; rfl
    have p0 : (0 : Int) ≤ (p_ : Int) := by omega
    have p1 : (p_ : Int) < 32 := by omega
    have j0 : (0 : Int) ≤ (j : Int) := by omega
    have j1' : (j : Int) < (pn' : Int) := by omega
    have vnz : ¬ (pn' : Int) = 0 := by omega
    have vnn : ¬ pn' = 0 := by omega
    have IXH : ∀ (ev : Operand → Value) (o : Oper) (W : World) (x y : Operand), o.op = .indexAddr 35 x y → ev x = .slice (some ⟨gt, 0, none⟩) pn' tc → ev y = .int .i64 (j : Int) → (execOp ev o).run Tryd.prog W = .ok (.value (.pointer (some ⟨gt, j * 32, none⟩))) W := fun _ _ W _ _ ho hx hy => by
      have e := exec_indexH (W := W) (i := j) ho hx hy jl
      rw [Addr.add_mid, Nat.zero_add] at e; exact e
    have C4 := Lib.hid X14.c4
    clear hj hp hVj hcl_ hT2 htn htn0 jV hto hfz hcA hT
    refine wp_name fun a0 ha0 => ?_
    have e3 : a0.eval (.tmp 3) = .int .i64 (at_ : Int) := by rw [ha0]; rfl
    have e4 : a0.eval (.tmp 4) = .int .u8 (b.toNat : Int) := by rw [ha0]; rfl
    have e16 : a0.eval (.tmp 16) = .pointer (some ⟨g16, 0, none⟩) := by rw [ha0]; rfl
    have e18 : a0.eval (.tmp 18) = .slice PA' pn' pc' := by rw [ha0]; rfl
    have hz : a0.tmps.size = 191 := by rw [ha0]; rfl
    have HA0 := Lib.hid ha0
    clear ha0
    have SG : ∀ (d d' : Nat → Prop) (W W' : World), (fun (_ : Nat → Prop) (W : World) => Below w14.heap.size w14 W) d W → (∀ j, d j → d' j) → Below W.heap.size W W' → (fun (_ : Nat → Prop) (W : World) => Below w14.heap.size w14 W) d' W' := fun _ _ _ _ h _ b => Below.next h b
    have St : ∀ xc ∈ [(⟨some 0, 116, none, fun v _ => v = .pointer (some ⟨g16, 4, none⟩)⟩ : Cl), ⟨some 1, 117, none, fun v _ => v = .slice (some ⟨gt, 0, none⟩) pn' tc⟩, ⟨some 2, 118, none, fun v _ => v = .int .i64 (at_ : Int)⟩, ⟨some 3, 119, none, fun v _ => v = .slice PA' pn' pc'⟩, ⟨some 4, 120, none, fun v _ => v = .int .i64 (pn' : Int)⟩, ⟨some 5, 121, none, fun v _ => v = .int .i64 (j : Int)⟩, ⟨some 6, 122, none, fun v _ => v = .int .i64 (at_ : Int)⟩, ⟨some 7, 123, none, fun v _ => v = .int .i64 (p_ : Int)⟩, ⟨some 8, 124, none, fun v _ => v = .pointer (some ⟨gt, j * 32, none⟩)⟩, ⟨some 9, 125, none, fun v _ => v = .pointer (some ⟨gt, j * 32 + p_, none⟩)⟩, ⟨some 10, 126, none, fun v _ => v = .int .u8 (xb.toNat : Int)⟩, ⟨some 11, 127, none, fun v _ => v = .int .u8 (b.toNat : Int)⟩, ⟨some 12, 128, none, fun v _ => v = .int .u8 ((xb ^^^ b).toNat : Int)⟩, ⟨some 13, 129, none, fun v _ => v = .pointer (some ⟨gt, j * 32, none⟩)⟩, ⟨some 14, 130, none, fun v _ => v = .pointer (some ⟨gt, j * 32 + p_, none⟩)⟩], Lasts xc := AllC.mem ⟨lastsV0 _ _ _ _, lastsV0 _ _ _ _, lastsV0 _ _ _ _, lastsV0 _ _ _ _, lastsV0 _ _ _ _, lastsV0 _ _ _ _, lastsV0 _ _ _ _, lastsV0 _ _ _ _, lastsV0 _ _ _ _, lastsV0 _ _ _ _, lastsV0 _ _ _ _, lastsV0 _ _ _ _, lastsV0 _ _ _ _, lastsV0 _ _ _ _, lastsV0 _ _ _ _, trivial⟩
    refine wp_region_lastlyR 15 _ (Inv [116, 117, 118, 119, 120, 121, 122, 123, 124, 125, 126, 127, 128, 129, 130] a0 (fun (_ : Nat → Prop) (W : World) => Below w14.heap.size w14 W) (lst St)) (by kernel_rfl) (by kernel_rfl) rfl rfl (fun d hcl hw j hj => ?_) rfl (Inv.start (Below.refl _ _).drew ⟨nofun, nofun, nofun, nofun, nofun, nofun, nofun, nofun, nofun, nofun, nofun, nofun, nofun, nofun, nofun, trivial⟩) ?_ ?_
    · have r12 := hw 12 rfl
      have r14 := hw 14 rfl
      have r7 := hcl 14 _ 7 rfl rfl r14
      have r13 := hcl 14 _ 13 rfl rfl r14
      have r1 := hcl 13 _ 1 rfl rfl r13
      have r5 := hcl 13 _ 5 rfl rfl r13
      have r2 := hcl 5 _ 2 rfl rfl r5
      have r4 := hcl 5 _ 4 rfl rfl r5
      have r3 := hcl 4 _ 3 rfl rfl r4
      have r0 := hcl 1 _ 0 rfl rfl r1
      have r6 := hcl 7 _ 6 rfl rfl r7
      have r10 := hcl 12 _ 10 rfl rfl r12
      have r11 := hcl 12 _ 11 rfl rfl r12
      have r9 := hcl 10 _ 9 rfl rfl r10
      have r8 := hcl 9 _ 8 rfl rfl r9
      match j, hj with
      | 0, _ => exact r0
      | 1, _ => exact r1
      | 2, _ => exact r2
      | 3, _ => exact r3
      | 4, _ => exact r4
      | 5, _ => exact r5
      | 6, _ => exact r6
      | 7, _ => exact r7
      | 8, _ => exact r8
      | 9, _ => exact r9
      | 10, _ => exact r10
      | 11, _ => exact r11
      | 12, _ => exact r12
      | 13, _ => exact r13
      | 14, _ => exact r14
      | j + 15, h => exact absurd h (by omega)
    · clear HA0
      refine ⟨?_, ?_, ?_, ?_, ?_, ?_, ?_, ?_, ?_, ?_, ?_, ?_, ?_, ?_, ?_, trivial⟩
      · refine stepB rfl rfl (by decide) (by rw [hz]; decide) rfl rfl (by kernel_rfl) St SG fun d a W hF hG hH hn hcl hw => ?_
        have q16 := (hF.same 16 (by decide)).trans e16
        exact ⟨.pointer (some ⟨g16, 4, none⟩), W, by clear hF hG hH hn hcl hw; generalize a.eval = ρ at *; go_simp, Below.refl _ _, rfl⟩
      · refine stepB rfl rfl (by decide) (by rw [hz]; decide) rfl rfl (by kernel_rfl) St SG fun d a W hF hG hH hn hcl hw => ?_
        have q116 : a.eval (.tmp 116) = .pointer (some ⟨g16, 4, none⟩) := hH.at_ (i := 0) rfl (hw 0 rfl) id
        have cc_ := cell_kept hG C4.out
        exact ⟨.slice (some ⟨gt, 0, none⟩) pn' tc, W, by clear hF hG hH hn hcl hw; generalize a.eval = ρ at *; go_simp, Below.refl _ _, rfl⟩
      · refine stepB rfl rfl (by decide) (by rw [hz]; decide) rfl rfl (by kernel_rfl) St SG fun d a W hF hG hH hn hcl hw => ?_
        have q3 := (hF.same 3 (by decide)).trans e3
        exact ⟨.int .i64 (at_ : Int), W, by clear hF hG hH hn hcl hw; generalize a.eval = ρ at *; go_simp, Below.refl _ _, rfl⟩
      · refine stepB rfl rfl (by decide) (by rw [hz]; decide) rfl rfl (by kernel_rfl) St SG fun d a W hF hG hH hn hcl hw => ?_
        have q18 := (hF.same 18 (by decide)).trans e18
        exact ⟨.slice PA' pn' pc', W, by clear hF hG hH hn hcl hw; generalize a.eval = ρ at *; go_simp, Below.refl _ _, rfl⟩
      · refine stepB rfl rfl (by decide) (by rw [hz]; decide) rfl rfl (by kernel_rfl) St SG fun d a W hF hG hH hn hcl hw => ?_
        have q119 : a.eval (.tmp 119) = .slice PA' pn' pc' := hH.at_ (i := 3) rfl (hw 3 rfl) id
        exact ⟨.int .i64 (pn' : Int), W, by clear hF hG hH hn hcl hw; generalize a.eval = ρ at *; go_simp, Below.refl _ _, rfl⟩
      · refine stepB rfl rfl (by decide) (by rw [hz]; decide) rfl rfl (by kernel_rfl) St SG fun d a W hF hG hH hn hcl hw => ?_
        have q118 : a.eval (.tmp 118) = .int .i64 (at_ : Int) := hH.at_ (i := 2) rfl (hw 2 rfl) id
        have q120 : a.eval (.tmp 120) = .int .i64 (pn' : Int) := hH.at_ (i := 4) rfl (hw 4 rfl) id
        exact ⟨.int .i64 (j : Int), W, by clear hF hG hH hn hcl hw; generalize a.eval = ρ at *; go_simp, Below.refl _ _, rfl⟩
      · refine stepB rfl rfl (by decide) (by rw [hz]; decide) rfl rfl (by kernel_rfl) St SG fun d a W hF hG hH hn hcl hw => ?_
        have q3 := (hF.same 3 (by decide)).trans e3
        exact ⟨.int .i64 (at_ : Int), W, by clear hF hG hH hn hcl hw; generalize a.eval = ρ at *; go_simp, Below.refl _ _, rfl⟩
      · refine stepB rfl rfl (by decide) (by rw [hz]; decide) rfl rfl (by kernel_rfl) St SG fun d a W hF hG hH hn hcl hw => ?_
        have q122 : a.eval (.tmp 122) = .int .i64 (at_ : Int) := hH.at_ (i := 6) rfl (hw 6 rfl) id
        have qc32 : a.eval (.const (.int .i64 32)) = .int .i64 32 := rfl
        exact ⟨.int .i64 (p_ : Int), W, by clear hF hG hH hn hcl hw; generalize a.eval = ρ at *; go_simp, Below.refl _ _, rfl⟩
      · refine stepB rfl rfl (by decide) (by rw [hz]; decide) rfl rfl (by kernel_rfl) St SG fun d a W hF hG hH hn hcl hw => ?_
        have q117 : a.eval (.tmp 117) = .slice (some ⟨gt, 0, none⟩) pn' tc := hH.at_ (i := 1) rfl (hw 1 rfl) id
        have q121 : a.eval (.tmp 121) = .int .i64 (j : Int) := hH.at_ (i := 5) rfl (hw 5 rfl) id
        refine ⟨.pointer (some ⟨gt, j * 32, none⟩), W, ?_, Below.refl _ _, ?_⟩
        · exact IXH _ _ W _ _ rfl q117 q121
        · rfl
      · refine stepB rfl rfl (by decide) (by rw [hz]; decide) rfl rfl (by kernel_rfl) St SG fun d a W hF hG hH hn hcl hw => ?_
        have q123 : a.eval (.tmp 123) = .int .i64 (p_ : Int) := hH.at_ (i := 7) rfl (hw 7 rfl) id
        have q124 : a.eval (.tmp 124) = .pointer (some ⟨gt, j * 32, none⟩) := hH.at_ (i := 8) rfl (hw 8 rfl) id
        exact ⟨.pointer (some ⟨gt, j * 32 + p_, none⟩), W, by clear hF hG hH hn hcl hw; generalize a.eval = ρ at *; go_simp, Below.refl _ _, rfl⟩
      · refine stepB rfl rfl (by decide) (by rw [hz]; decide) rfl rfl (by kernel_rfl) St SG fun d a W hF hG hH hn hcl hw => ?_
        have q125 : a.eval (.tmp 125) = .pointer (some ⟨gt, j * 32 + p_, none⟩) := hH.at_ (i := 9) rfl (hw 9 rfl) id
        have qc_ := cell_kept hG hcc_
        exact ⟨.int .u8 (xb.toNat : Int), W, by clear hF hG hH hn hcl hw; generalize a.eval = ρ at *; go_simp, Below.refl _ _, rfl⟩
      · refine stepB rfl rfl (by decide) (by rw [hz]; decide) rfl rfl (by kernel_rfl) St SG fun d a W hF hG hH hn hcl hw => ?_
        have q4 := (hF.same 4 (by decide)).trans e4
        exact ⟨.int .u8 (b.toNat : Int), W, by clear hF hG hH hn hcl hw; generalize a.eval = ρ at *; go_simp, Below.refl _ _, rfl⟩
      · refine stepB rfl rfl (by decide) (by rw [hz]; decide) rfl rfl (by kernel_rfl) St SG fun d a W hF hG hH hn hcl hw => ?_
        have q126 : a.eval (.tmp 126) = .int .u8 (xb.toNat : Int) := hH.at_ (i := 10) rfl (hw 10 rfl) id
        have q127 : a.eval (.tmp 127) = .int .u8 (b.toNat : Int) := hH.at_ (i := 11) rfl (hw 11 rfl) id
        have qx_ := hxb
        exact ⟨.int .u8 ((xb ^^^ b).toNat : Int), W, by clear hF hG hH hn hcl hw; generalize a.eval = ρ at *; go_simp, Below.refl _ _, rfl⟩
      · refine stepB rfl rfl (by decide) (by rw [hz]; decide) rfl rfl (by kernel_rfl) St SG fun d a W hF hG hH hn hcl hw => ?_
        have q117 : a.eval (.tmp 117) = .slice (some ⟨gt, 0, none⟩) pn' tc := hH.at_ (i := 1) rfl (hw 1 rfl) id
        have q121 : a.eval (.tmp 121) = .int .i64 (j : Int) := hH.at_ (i := 5) rfl (hw 5 rfl) id
        refine ⟨.pointer (some ⟨gt, j * 32, none⟩), W, ?_, Below.refl _ _, ?_⟩
        · exact IXH _ _ W _ _ rfl q117 q121
        · rfl
      · refine stepB rfl rfl (by decide) (by rw [hz]; decide) rfl rfl (by kernel_rfl) St SG fun d a W hF hG hH hn hcl hw => ?_
        have q123 : a.eval (.tmp 123) = .int .i64 (p_ : Int) := hH.at_ (i := 7) rfl (hw 7 rfl) id
        have q129 : a.eval (.tmp 129) = .pointer (some ⟨gt, j * 32, none⟩) := hH.at_ (i := 13) rfl (hw 13 rfl) id
        exact ⟨.pointer (some ⟨gt, j * 32 + p_, none⟩), W, by clear hF hG hH hn hcl hw; generalize a.eval = ρ at *; go_simp, Below.refl _ _, rfl⟩
    · intro d a W ⟨hF, hB, hH⟩ hall
      have k128 : a.eval (.tmp 128) = .int .u8 ((xb ^^^ b).toNat : Int) := hH.at_ (i := 12) rfl (hall 12 (by decide)) id
      have k130 : a.eval (.tmp 130) = .pointer (some ⟨gt, j * 32 + p_, none⟩) := hH.at_ (i := 14) rfl (hall 14 (by decide)) id
      clear hH hall
      rw [hF.shape (by rw [hz]; decide)]
      clear hF
      simp only [List.foldl]
      generalize a.eval (.tmp 116) = z116, a.eval (.tmp 117) = z117, a.eval (.tmp 118) = z118, a.eval (.tmp 119) = z119, a.eval (.tmp 120) = z120, a.eval (.tmp 121) = z121, a.eval (.tmp 122) = z122, a.eval (.tmp 123) = z123, a.eval (.tmp 124) = z124, a.eval (.tmp 125) = z125, a.eval (.tmp 126) = z126, a.eval (.tmp 127) = z127, a.eval (.tmp 128) = z128, a.eval (.tmp 129) = z129, a.eval (.tmp 130) = z130 at *
      subst k128
      subst k130
      rw [HA0.out]
      simp only [Act.put, List.setIfInBounds_toArray, List.set_cons_zero, List.set_cons_succ]
      clear hz HA0 St SG e3 e4 e16 e18
      clear a a0
      have cc := cell_kept hB hcc_
      have cf := HFZ.out W hB
      refine wp_skips (w' := W.setCell ⟨gt, j * 32 + p_, none⟩ (.int .u8 ((xb ^^^ b).toNat : Int))) (by go_simp) ?_
      dsimp only [Act.put]
      have hT9 := HTN.out W hB
      have X15 : BoxC (W.setCell ⟨gt, j * 32 + p_, none⟩ (.int .u8 ((xb ^^^ b).toNat : Int))) g16 A' m' c' index m n (some ⟨gt, 0, none⟩) pn' tc := ⟨(Below.heap_setCell W ⟨gt, j * 32 + p_, none⟩ _ g16 (by show g16 ≠ gt; omega)).trans (X14.next hB).row⟩
      have S15 : Below w5.heap.size w5 (W.setCell ⟨gt, j * 32 + p_, none⟩ (.int .u8 ((xb ^^^ b).toNat : Int))) := (S14.trans (hB.mono S14.size)).setCell (p := ⟨gt, j * 32 + p_, none⟩) (by show _ ≤ gt; have := HG16.out; omega) _
      generalize W.setCell ⟨gt, j * 32 + p_, none⟩ (.int .u8 ((xb ^^^ b).toNat : Int)) = w15 at *
      have hk15 := hk5.next S15
      clear cc cf hB HTN HFZ IXH X14 S14 hcc_ hxb r1 r2 r3 r4 p0 p1 j0 j1' vnz vnn jl pl hgt
      rcases E3.out with hb | ⟨hb, hac⟩
      · have hbz : ((b.toNat : Int) == 0) = true := by rw [hb]; rfl
        clear X15 hT9 hb
        go_wp2_with (go_at_call 17; refine (HA.out _ hk15).mono ?_; rintro e w17 ⟨rfl, b17⟩)
        go_ret
        exact ⟨rfl, Below.on (Below.on BB5 S15) b17⟩
      replace E3 := Lib.hid hac
      have hbz : ((b.toNat : Int) == 0) = false := by
        have : b.toNat ≠ 0 := fun e => hb (UInt8.toNat_inj.1 (by rw [e]; rfl))
        simp; omega
      clear hb hac
      have hto2 := turnO_length V at_ b
      rw [HPN.out] at hto2
      have hs15 : Hs w15 (some ⟨gt, 0, none⟩) (turnO V at_ b) := by
        obtain ⟨A1, c1, e, _, h⟩ := hT9.toHs
        simp only [Value.slice.injEq] at e
        rw [← e.1] at h
        exact h
      have htc : pn' ≤ tc := by
        obtain ⟨A1, c1, e, hc, h⟩ := hT9.toHs
        simp only [Value.slice.injEq] at e
        rw [hto2] at hc
        omega
      have f1415 : BoxH w15 g14 root := BoxA.next f14 S15
      have hR15 := hRD.below S15
      have hq3 := fun PA9 pc9 W (hR : Runs W A' D) (h : Hs W PA9 (turnO V at_ b)) (hpc9 : (turnO V at_ b).length ≤ pc9) (kon : Kon W) => HAC.out (turnO V at_ b) PA9 ((turnO V at_ b).length) pc9 W A' m' c' HDL.out hR hc' h (by rfl) hpc9 (by rw [hto2]; omega) kon
      rw [E3.out, hto2] at hq3
      have HQ3 := Lib.hid (hq3 (some ⟨gt, 0, none⟩) tc w15 hR15 hs15 htc hk15)
      clear hq3 hT9
      go_upto_region 20 with (first
        | ((with_reducible refine wpList_load_if (o := ⟨some 134, _, _, _, _, _⟩) ?_ 30 (.tmp 14) ?_ (hashV root) ?_ ?_); rfl; rfl; exact (BoxH.load_ f1415 HROOT.out))
        | ((with_reducible refine wpList_load_if (o := ⟨some 137, _, _, _, _, _⟩) ?_ 43 (.tmp 16) ?_ (claimV A' m' c' index m n (some ⟨gt, 0, none⟩) pn' tc) ?_ ?_); rfl; rfl; exact X15.load_)
        | (go_at_call 23; refine HQ3.out.mono ?_; rintro e w16 ⟨rfl, b16⟩))
      have hk16 := hk15.next b16
      have S16 : Below w5.heap.size w5 w16 := S15.trans (b16.mono S15.size)
      clear X15 f1415 hR15 hs15
      go_wp2_with (go_at_call 17; refine (HA.out _ hk16).mono ?_; rintro e w17 ⟨rfl, b17⟩)
      go_ret
      exact ⟨rfl, Below.on (Below.on BB5 S16) b17⟩
set_option maxRecDepth 100000 in
set_option maxHeartbeats 4000000 in
theorem loses_clash (ts : List UInt8) (A : Option Addr) (lo hi : Int) (at_ : Nat) (b : UInt8) (n c : Nat) (w : World) (hn : ts.length = n) (h1 : 1 ≤ n) (h60 : n ≤ 60) (hT : Tags w A ts) (hk : Kon w) (l0 : 0 ≤ lo) (l1 : lo < hi) (l2 : hi ≤ n) (hat : (at_ : Int) ≤ 9223372036854775807) (hv0 : 1 ≤ (outO ts lo hi).length) (hb : b ≠ 0) (hac : acceptM (rootO ts) lo hi (cutO ts lo hi) (fromM lo (ofR ts) : Nat) (ofR ts).length ts.length (turnO (outO ts lo hi) at_ b) = true) (h : Bs) (hh : h.length = 32) (hfo : foldR (ofR ts).length (fromM lo (ofR ts) : Nat) ((cutO ts lo hi).map textM) (turnO (outO ts lo hi) at_ b) = (h, (outO ts lo hi).length, true)) (hcl : ClashL sha (mapT ts.length (ofR ts) ++ foldT sha (ofR ts).length (fromM lo (ofR ts) : Nat) ((cutO ts lo hi).map textM) (turnO (outO ts lo hi) at_ b) ++ [sealT ts.length (ofR ts).length h])) : Calls Tryd.prog 13 #[.slice A n c, .int .i64 lo, .int .i64 hi, .int .i64 (at_ : Int), .int .u8 (b.toNat : Int)] w fun e w' => e = .returned (.bool true) ∧ Below w.heap.size w w' := by
  have hroot : (rootO ts).length = 32 := rootO_length ts
  have hmd := fun W (h : Tags W A ts) => made_yes ts A n c W hn h1 h60 h
  unfold MadePost at hmd
  rw [hn] at hmd
  have hmr := fun W p (h : Rep W p (ofL ts)) (kon : Kon W) => mapRoot_any W p (ofL ts) h kon
  rw [mapRoot_of (by omega) (by omega)] at hmr
  have hcut := cutO_length (ts := ts) (lo := lo) (hi := hi) (by omega) (by omega) l0 l1 (by omega)
  have hout := outO_length (ts := ts) (by omega) lo hi
  have hfl : fromM lo (ofR ts) ≤ 60 := by have := (ofR_spec ts).2.2.2.2.1; omega
  have hrg := fun W p (h : Rep W p (ofL ts)) (kon : Kon W) => range_of (ts := ts) (lo := lo) (hi := hi) (by omega) (by omega) l0 l1 (by omega) W p h kon
  rw [hn] at hrg
  have e1 := lose_more (ts := ts) (lo := lo) (hi := hi) (by omega) (by omega) l0 l1 (by omega) (rootO ts)
  rw [hn] at e1
  have e2 := lose_less (ts := ts) (lo := lo) (hi := hi) (by omega) (by omega) l0 l1 (by omega) (by omega)
  rw [hn] at e2
  rw [hn] at hac
  have hacc := fun (path : List Bs) PA pn pc W A' m' c' (hm' : (cutO ts lo hi).length = m') (hR : Runs W A' (cutO ts lo hi)) (hc' : m' ≤ c') (h : Hs W PA path) (hpn : path.length = pn) (hpc : pn ≤ pc) (hl : pn ≤ 100000) (kon : Kon W) => accept_any (rootO ts) lo hi (cutO ts lo hi) A' m' c' (fromM lo (ofR ts) : Nat) (ofR ts).length n path PA pn pc W hm' hR hc' h hpn hpc (by omega) kon hroot
  have hV32 := outO_h32 ts lo hi
  have hin : ∀ s ∈ (cutO ts lo hi).map textM, s.length ≤ 90000 := fun s hs => by obtain ⟨x, _, rfl⟩ := List.mem_map.1 hs; rw [textM_length]; omega
  have hdl : (cutO ts lo hi).length ≤ 60 := hcut.2.2.1
  have hd1 : 1 ≤ (cutO ts lo hi).length := hcut.2.1
  have hmle := (ofR_spec ts).2.2.2.2.1
  have hfit : ∀ x ∈ cutO ts lo hi, Fit x := fun x hx => ofR_fit (by omega) (by omega) x (List.mem_of_mem_drop (List.mem_of_mem_take hx))
  have hlv := fun W A3 k3 c3 (hk3 : (cutO ts lo hi).length = k3) (h : Runs W A3 (cutO ts lo hi)) => rleaves_any (cutO ts lo hi) A3 k3 c3 W hk3 h hfit (by omega)
  have hmt := fun W A1 c1 (h : Runs W A1 (ofR ts)) => rmaptexts_any n (ofR ts) A1 _ c1 W rfl (by omega) (by omega) (by omega) h (ofR_fit (by omega) (by omega))
  have hft1 : toM lo hi (ofR ts) ≤ (ofR ts).length := hcut.2.2.2
  have hfd := fun k3 PA pn pc (hk3 : (cutO ts lo hi).length = k3) (hpn : (outO ts lo hi).length = pn) (hpc : pn ≤ pc) A9 c9 W (hc9 : k3 ≤ c9) (h : Strs W A9 ((cutO ts lo hi).map textM)) (hp : Hs W PA (turnO (outO ts lo hi) at_ b)) => rfold_any (ofR ts).length (fromM lo (ofR ts) : Nat) ((cutO ts lo hi).map textM) (turnO (outO ts lo hi) at_ b) A9 PA k3 c9 pn pc W (by omega) (by omega) (by omega) (by omega) (by rw [List.length_map, hk3]) hc9 (by omega) (by rw [turnO_length]; exact hpn) hpc (by omega) hin h hp
  rw [hfo, foldV3] at hfd
  have hft := fun k3 PA pn pc (hk3 : (cutO ts lo hi).length = k3) (hpn : (outO ts lo hi).length = pn) (hpc : pn ≤ pc) A9 c9 W (hc9 : k3 ≤ c9) (h : Strs W A9 ((cutO ts lo hi).map textM)) (hp : Hs W PA (turnO (outO ts lo hi) at_ b)) => rftexts_any (ofR ts).length (fromM lo (ofR ts) : Nat) ((cutO ts lo hi).map textM) (turnO (outO ts lo hi) at_ b) A9 PA k3 c9 pn pc W (by omega) (by omega) (by omega) (by omega) (by rw [List.length_map, hk3]) hc9 (by omega) (by rw [turnO_length]; exact hpn) hpc (by omega) hin h hp
  have hmx := fun W => rmaptext_any n (ofR ts).length h W (by omega) (by omega) (by omega) (by omega) hh
  have lm := mapT_len (ts := ts) (by omega)
  have sm := mapT_short (ts := ts) (by omega)
  have lf := foldT_more (ofR ts).length (fromM lo (ofR ts) : Nat) ((cutO ts lo hi).map textM) (turnO (outO ts lo hi) at_ b)
  have sf := foldT_short (ofR ts).length (ofR ts).length (fromM lo (ofR ts) : Nat) ((cutO ts lo hi).map textM) (turnO (outO ts lo hi) at_ b) (Nat.le_refl _) hin (turnO_h32 hV32 at_ b)
  have szt := sealT_short n (ofR ts).length hh
  have hl3 : ((cutO ts lo hi).map textM).length = (cutO ts lo hi).length := List.length_map _
  rw [hn] at hcl lm sm
  generalize mapT n (ofR ts) = MT at *
  generalize foldT sha (ofR ts).length (fromM lo (ofR ts) : Nat) ((cutO ts lo hi).map textM) (turnO (outO ts lo hi) at_ b) = FT at *
  generalize sealT n (ofR ts).length h = zt at *
  generalize (cutO ts lo hi).map textM = L3 at *
  have LM : MT.length ≤ 100000 := by omega
  have LF : FT.length ≤ 100000 := by omega
  have LMF : (MT ++ FT).length ≤ 100000 := by rw [List.length_append]; omega
  have hcc := fun A9 c9 W (h : Strs W A9 (MT ++ FT ++ [zt])) => rclash_any (MT ++ FT ++ [zt]) A9 _ c9 W rfl (by simp only [List.length_append, List.length_cons, List.length_nil]; omega) (fun s hs => (List.mem_append.1 hs).elim (fun hs => (List.mem_append.1 hs).elim (sm s) (sf s)) (fun hs => by rw [List.mem_singleton.1 hs]; exact szt)) h
  rw [clashB_yes hcl] at hcc
  have HCC := Lib.hid hcc
  have HH := Lib.hid hh
  clear hcc hcl lm sm lf sf szt hfo hin hdl hd1 hfit hmle
  generalize rootO ts = root at *
  generalize ofL ts = L at *
  have ix0 : (0 : Int) ≤ (fromM lo (ofR ts) : Nat) := by omega
  have ix1 : ((fromM lo (ofR ts) : Nat) : Int) ≤ 60 := by omega
  generalize ((fromM lo (ofR ts) : Nat) : Int) = index at *
  obtain ⟨_, hd1, hd60, _⟩ := hcut
  generalize cutO ts lo hi = D at *
  generalize outO ts lo hi = V at *
  have hmle := (ofR_spec ts).2.2.2.2.1
  obtain ⟨m, hm⟩ : ∃ m, (ofR ts).length = m := ⟨_, rfl⟩
  rw [hm] at hmd hrg hacc e1 hmle e2 hac hmt hfd hft hmx
  generalize ofR ts = R at *
  have HMD := Lib.hid hmd
  have HMR := Lib.hid hmr
  have HAC := Lib.hid hacc
  have HRG := Lib.hid hrg
  have HA := Lib.hid (fun W kon => awake_any W kon)
  have HROOT := Lib.hid hroot
  have E1 := Lib.hid e1
  have E2 := Lib.hid e2
  have HV32 := Lib.hid hV32
  have E3 := Lib.hid hac
  have HLV := Lib.hid hlv
  have HMT := Lib.hid hmt
  have HFDx := Lib.hid hfd
  have HFTx := Lib.hid hft
  have HMX := Lib.hid hmx
  have HL3x := Lib.hid hl3
  have j1 : ((n : Int) == 0) = false := by simp; omega
  have j2 : ¬ (60 : Int) < n := by omega
  have i1 : ¬ lo < 0 := by omega
  have i2 : ¬ hi ≤ lo := by omega
  have i3 : ¬ (n : Int) < hi := by omega
  have i4 : ¬ (at_ : Int) < 0 := by omega
  have HOUT := Lib.hid hout
  have HV0 := Lib.hid hv0
  have HD60 := Lib.hid hd60
  have hbz : ((b.toNat : Int) == 0) = false := by
    have : b.toNat ≠ 0 := fun e => hb (UInt8.toNat_inj.1 (by rw [e]; rfl))
    simp; omega
  clear hmd hmr hacc hrg hroot e1 hn hm hmle h1 h60 hout hv0 hd1 hd60 hfl hat e2 hV32 hac hb hlv hmt hfd hft hmx hl3 hft1 hh
  go_enter Tryd.func13, Tryd.ntmps13
  go_upto_region 2 with (go_at_call 38; refine (HMD.out _ hT).mono ?_; rintro e w1 ⟨p, A1, c1, rfl, hp1, hO1, b1⟩)
  obtain ⟨w2, hW2⟩ : ∃ w2, (w1.alloc (.cells #[.pointer p] 47)).alloc (.cells #[.int .i64 (n : Int), .slice A1 m c1] 69) = w2 := ⟨_, rfl⟩
  have b2 : Below w1.heap.size w1 w2 := hW2 ▸ Below.on (Below.new1 _ _) (Below.new1 _ _)
  have x7 : Boxed w2 w1.heap.size 47 (.pointer p) := hW2 ▸ (Boxed.new w1 _ _).alloc _
  have x8 : BoxM w2 (w1.heap.size + 1) n (.slice A1 m c1) := by
    have := BoxM.new (w1.alloc (.cells #[.pointer p] 47)) n (.slice A1 m c1)
    rw [World.size_alloc] at this; exact hW2 ▸ this
  have hp2 := hp1.below b2
  have hR2 : Runs w2 A1 R := by
    obtain ⟨A', c', e, _, h⟩ := (hO1.next b2).runs
    cases e; exact h
  change Code.wp _ _ _ _ ((w1.alloc (.cells #[.pointer p] 47)).alloc (.cells #[.int .i64 (n : Int), .slice A1 m c1] 69))
  rw [hW2]
  have B2 := Below.on b1 b2
  have hk2 := hk.next B2
  have c7 := x7.cell
  have c80 := x8.c0
  generalize w1.heap.size = g11 at *
  clear hW2 hT x7 hp1 hO1 b1 b2 hk
  go_upto_region 5 with (first
    | (go_at_call 25; refine (HMR.out _ p hp2 hk2).mono ?_; rintro e w3 ⟨rfl, b3⟩)
    | ((with_reducible refine wpList_storeH ?_ (.tmp 14) (.tmp 68) ?_ w3.heap.size root ?_ ?_ (BoxA.new w3 30 .u8 (List.replicate 32 0) _ rfl) (by simp) HROOT.out ?_); rfl; rfl; rfl; rfl))
  obtain ⟨w4, hW4⟩ : ∃ w4, World.setRow (World.alloc w3 (.cells (ints .u8 (List.replicate 32 0)) 30)) w3.heap.size (ints .u8 (nums root)) = w4 := ⟨_, rfl⟩
  have y14 : BoxH w4 w3.heap.size root := hW4 ▸ (BoxA.new w3 30 .u8 (List.replicate 32 0) _ rfl).setRow (l' := nums root)
  have b4 : Below w3.heap.size w3 w4 := hW4 ▸ below_setRow (Below.new1 w3 _) (Nat.le_refl _) _
  change Code.wp _ _ _ _ (World.setRow (World.alloc w3 (.cells (ints .u8 (List.replicate 32 0)) 30)) w3.heap.size (ints .u8 (nums root)))
  rw [hW4]
  have B4 := Below.on b3 b4
  have BB4 := Below.on B2 B4
  have hp4 := hp2.below B4
  have hk4 := hk2.next B4
  have hR4 := hR2.below B4
  have v8 := x8.next B4
  replace c7 := cell_kept B4 c7
  replace c80 := v8.c0
  generalize w3.heap.size = g14 at *
  clear hW4 b3 b4 hp2 hk2 hR2 x8 B4 B2 HMR HMD
  go_upto_region 6 with (go_at_call 27; refine (HRG.out _ p hp4 hk4).mono ?_; rintro e w5 ⟨A', m', c', PA', pn', pc', rfl, hOa, hO5, b5⟩)
  obtain ⟨w6, hW6⟩ : ∃ w6, World.alloc w5 (.cells #[.slice A' m' c', .int .i64 index, .int .i64 m, .int .i64 n, .slice PA' pn' pc'] 43) = w6 := ⟨_, rfl⟩
  have X6 : BoxC w6 w5.heap.size A' m' c' index m n PA' pn' pc' := hW6 ▸ BoxC.new w5 A' m' c' index m n PA' pn' pc'
  have s6 : Below w5.heap.size w5 w6 := hW6 ▸ Below.new1 _ _
  change Code.wp _ _ _ _ (World.alloc w5 (.cells #[.slice A' m' c', .int .i64 index, .int .i64 m, .int .i64 n, .slice PA' pn' pc'] 43))
  rw [hW6]
  have BB5 := Below.on BB4 b5
  have f14 : BoxH w5 g14 root := BoxA.next y14 b5
  have f8 := v8.next b5
  have hk5 := hk4.next b5
  have hR5 := hR4.below b5
  obtain ⟨PAx, pcx, ex, hpc', hsV⟩ := hO5.toHs
  simp only [Value.slice.injEq] at ex
  obtain ⟨ex1, ex2, ex3⟩ := ex
  rw [← ex1] at hsV
  rw [← ex2, ← ex3] at hpc'
  obtain ⟨Ax, cx, ey, hc', hRD⟩ := hOa.runs
  simp only [Value.slice.injEq] at ey
  obtain ⟨ey1, ey2, ey3⟩ := ey
  rw [← ey1] at hRD
  rw [← ey2, ← ey3] at hc'
  have HPN := Lib.hid ex2.symm
  have HDL := Lib.hid ey2.symm
  have pn1 : pn' ≤ 1000 := by have := HOUT.out; omega
  have dl60 : m' ≤ 60 := by have := HD60.out; omega
  have pv : 1 ≤ pn' := by have := HV0.out; omega
  have c64 := X6.c4
  clear ex1 ex2 ex3 ey1 ey2 ey3 hOa hW6 b5 y14 v8 hk4 hR4 BB4 hp4 c7 HRG
  go_upto_region 9 with (fail)
  obtain ⟨g16, hg16⟩ : ∃ k, w5.heap.size = k := ⟨_, rfl⟩
  have HG16 := Lib.hid hg16
  rw [hg16] at X6 s6 c64 ⊢
  have f146 : BoxH w6 g14 root := f14.low (by have := BoxA.lt f14; have := HG16.out; omega) s6
  have hO6 := hO5.next (HG16.out ▸ s6)
  refine wp_name fun a0 ha0 => ?_
  have e14 : a0.eval (.tmp 14) = .pointer (some ⟨g14, 0, none⟩) := by rw [ha0]; rfl
  have e16 : a0.eval (.tmp 16) = .pointer (some ⟨g16, 0, none⟩) := by rw [ha0]; rfl
  have e18 : a0.eval (.tmp 18) = .slice PA' pn' pc' := by rw [ha0]; rfl
  have hz : a0.tmps.size = 191 := by rw [ha0]; rfl
  have HA0 := Lib.hid ha0
  clear ha0
  have SG : ∀ (d d' : Nat → Prop) (W W' : World), (fun (_ : Nat → Prop) (W : World) => Below w6.heap.size w6 W) d W → (∀ j, d j → d' j) → Below W.heap.size W W' → (fun (_ : Nat → Prop) (W : World) => Below w6.heap.size w6 W) d' W' := fun _ _ _ _ h _ b => Below.next h b
  have St : ∀ xc ∈ [(⟨some 0, 85, some 2, fun v W => ∃ g, v = .slice (some ⟨g, 0, none⟩) 0 0 ∧ OwnHs W w6.heap.size (.slice (some ⟨g, 0, none⟩) 0 0) []⟩ : Cl), ⟨some 1, 86, none, fun v _ => v = .slice PA' pn' pc'⟩, ⟨some 2, 87, some 5, fun v W => OwnHs W w6.heap.size v V⟩, ⟨some 3, 88, none, fun v _ => v = hashV root⟩, ⟨some 4, 89, some 5, fun v W => OwnHs W w6.heap.size v [root]⟩, ⟨some 5, 90, none, fun v W => OwnHs W w6.heap.size v (V ++ [root])⟩, ⟨some 6, 91, none, fun v _ => v = .pointer (some ⟨g16, 4, none⟩)⟩], Lasts xc := AllC.mem ⟨(fun _ _ _ h b => by obtain ⟨g, e, h1⟩ := h; exact ⟨g, e, h1.next b⟩), lastsV0 _ _ _ _, (fun _ _ _ h b => h.next b), lastsV0 _ _ _ _, (fun _ _ _ h b => h.next b), (fun _ _ _ h b => h.next b), lastsV0 _ _ _ _, trivial⟩
  refine wp_region_lastlyR 7 _ (Inv [85, 86, 87, 88, 89, 90, 91] a0 (fun (_ : Nat → Prop) (W : World) => Below w6.heap.size w6 W) (lst St)) (by kernel_rfl) (by kernel_rfl) rfl rfl (fun d hcl hw j hj => ?_) rfl (Inv.start (Below.refl _ _).drew ⟨nofun, nofun, nofun, nofun, nofun, nofun, nofun, trivial⟩) ?_ ?_
  · have r5 := hw 5 rfl
    have r6 := hw 6 rfl
    have r2 := hcl 5 _ 2 rfl rfl r5
    have r4 := hcl 5 _ 4 rfl rfl r5
    have r3 := hcl 4 _ 3 rfl rfl r4
    have r0 := hcl 2 _ 0 rfl rfl r2
    have r1 := hcl 2 _ 1 rfl rfl r2
    match j, hj with
    | 0, _ => exact r0
    | 1, _ => exact r1
    | 2, _ => exact r2
    | 3, _ => exact r3
    | 4, _ => exact r4
    | 5, _ => exact r5
    | 6, _ => exact r6
    | j + 7, h => exact absurd h (by omega)
  · clear HA0
    refine ⟨?_, ?_, ?_, ?_, ?_, ?_, ?_, trivial⟩
    · refine stepB rfl rfl (by decide) (by rw [hz]; decide) rfl rfl (by kernel_rfl) St SG fun d a W hF hG hH hn hcl hw => ?_
      refine ⟨.slice (some ⟨W.heap.size, 0, none⟩) 0 0, W.alloc (.cells #[] 30), ?_, Below.new1 W _, ?_⟩
      · clear hF hG hH hn hcl hw
        generalize a.eval = ρ at *
        go_simp
      · exact ⟨_, rfl, (OwnHs.emptyW W).mono hG.size⟩
    · refine stepB rfl rfl (by decide) (by rw [hz]; decide) rfl rfl (by kernel_rfl) St SG fun d a W hF hG hH hn hcl hw => ?_
      have q18 := (hF.same 18 (by decide)).trans e18
      exact ⟨.slice PA' pn' pc', W, by clear hF hG hH hn hcl hw; generalize a.eval = ρ at *; go_simp, Below.refl _ _, rfl⟩
    · refine stepB rfl rfl (by decide) (by rw [hz]; decide) rfl rfl (by kernel_rfl) St SG fun d a W hF hG hH hn hcl hw => ?_
      have q85 : ∃ g, a.eval (.tmp 85) = .slice (some ⟨g, 0, none⟩) 0 0 ∧ OwnHs W w6.heap.size (.slice (some ⟨g, 0, none⟩) 0 0) [] := hH.at_ (i := 0) rfl (hw 0 rfl) hn
      have q86 : a.eval (.tmp 86) = .slice PA' pn' pc' := hH.at_ (i := 1) rfl (hw 1 rfl) id
      obtain ⟨g, q85, h85⟩ := q85
      exact exec_append_fresh (.tmp 85) (.tmp 86) rfl w6.heap.size _ g W _ V q85 q86 h85 (hO6.next hG) (by have := HOUT.out; omega) hG.size
    · refine stepB rfl rfl (by decide) (by rw [hz]; decide) rfl rfl (by kernel_rfl) St SG fun d a W hF hG hH hn hcl hw => ?_
      have q14 := (hF.same 14 (by decide)).trans e14
      refine ⟨hashV root, W, ?_, Below.refl _ _, ?_⟩
      · exact exec_load rfl (by rw [q14]; exact BoxH.load_ (BoxA.next f146 hG) HROOT.out)
      · rfl
    · refine stepB rfl rfl (by decide) (by rw [hz]; decide) rfl rfl (by kernel_rfl) St SG fun d a W hF hG hH hn hcl hw => ?_
      have q88 : a.eval (.tmp 88) = hashV root := hH.at_ (i := 3) rfl (hw 3 rfl) id
      refine ⟨.slice (some ⟨W.heap.size, 0, none⟩) 1 1, W.alloc (.cells (cellsB root).toArray 30), ?_, Below.new1 W _, ?_⟩
      · exact exec_buildH (.tmp 88) rfl root q88 HROOT.out
      · exact OwnHs.one W _ HROOT.out hG.size
    · refine stepA2 rfl rfl (by decide) (by rw [hz]; decide) rfl rfl (by kernel_rfl) w6.heap.size (AllC.mem ⟨.inr (.inr (.inr fun d hcl hw => hw 2 rfl)), .inr (.inr (.inl fun _ _ _ h _ => h)), .inr (.inl rfl), .inr (.inr (.inl fun _ _ _ h _ => h)), .inr (.inl rfl), .inl rfl, .inr (.inr (.inl fun _ _ _ h _ => h)), trivial⟩) (fun _ _ _ _ h _ b => h.trans b) fun d a W hF hG hH hn hcl hw => ?_
      have q87 : OwnHs W w6.heap.size (a.eval (.tmp 87)) V := hH.at_ (i := 2) rfl (hw 2 rfl) hn
      have q89 : OwnHs W w6.heap.size (a.eval (.tmp 89)) [root] := hH.at_ (i := 4) rfl (hw 4 rfl) hn
      exact exec_append_hs2 (.tmp 87) (.tmp 89) rfl w6.heap.size w6.heap.size W _ _ V [root] rfl rfl q87 q89 (by have := HOUT.out; omega) (by simp) hG.size
    · refine stepB rfl rfl (by decide) (by rw [hz]; decide) rfl rfl (by kernel_rfl) St SG fun d a W hF hG hH hn hcl hw => ?_
      have q16 := (hF.same 16 (by decide)).trans e16
      exact ⟨.pointer (some ⟨g16, 4, none⟩), W, by clear hF hG hH hn hcl hw; generalize a.eval = ρ at *; go_simp, Below.refl _ _, rfl⟩
  · intro d a W ⟨hF, hB, hH⟩ hall
    have k90 : OwnHs W w6.heap.size (a.eval (.tmp 90)) (V ++ [root]) := hH.at_ (i := 5) rfl (hall 5 (by decide)) id
    have k91 : a.eval (.tmp 91) = .pointer (some ⟨g16, 4, none⟩) := hH.at_ (i := 6) rfl (hall 6 (by decide)) id
    clear hH hall
    rw [hF.shape (by rw [hz]; decide)]
    clear hF
    simp only [List.foldl]
    generalize a.eval (.tmp 85) = z85, a.eval (.tmp 86) = z86, a.eval (.tmp 87) = z87, a.eval (.tmp 88) = z88, a.eval (.tmp 89) = z89, a.eval (.tmp 90) = z90, a.eval (.tmp 91) = z91 at *
    subst k91
    rw [HA0.out]
    simp only [Act.put, List.setIfInBounds_toArray, List.set_cons_zero, List.set_cons_succ]
    clear hz HA0 St SG e14 e16 e18
    clear a a0
    have cc := cell_kept hB c64
    have X7 := X6.next hB
    have cf := X7.frozen 4
    obtain ⟨A9, c9, rfl, hc9, hs9⟩ := k90.toHs
    refine wp_skips (w' := W.setCell ⟨g16, 4, none⟩ (.slice A9 (V ++ [root]).length c9)) (by go_simp) ?_
    dsimp only [Act.put]
    have X8 := X7.set4 A9 (V ++ [root]).length c9
    have S8 := (s6.trans (hB.mono (by have := s6.size; have := HG16.out; omega))).setCell (p := ⟨g16, 4, none⟩) (Nat.le_refl _) (.slice A9 (V ++ [root]).length c9)
    have hO9 := k90.but (.inl (by have := (Array.getElem?_eq_some_iff.1 X6.row).1; omega)) ((But.refl g16 W).setCell 4 (.slice A9 (V ++ [root]).length c9))
    generalize W.setCell ⟨g16, 4, none⟩ (.slice A9 (V ++ [root]).length c9) = w8 at *
    have hs8 : Hs w8 A9 (V ++ [root]) := by
      obtain ⟨A1, c1, e, _, h⟩ := hO9.toHs
      simp only [Value.slice.injEq] at e
      rw [← e.1] at h
      exact h
    have S85 : Below w5.heap.size w5 w8 := by rw [HG16.out]; exact S8
    have f148 : BoxH w8 g14 root := BoxA.next f14 S85
    have hk8 := hk5.next S85
    have hR8 := hRD.below S85
    clear X6 X7 cc cf hB k90 hs9 hO9 c64 f146 hO6
    have hq1 := fun PA9 pc9 W (hR : Runs W A' D) (h : Hs W PA9 (V ++ [root])) (hpc9 : (V ++ [root]).length ≤ pc9) (kon : Kon W) => HAC.out (V ++ [root]) PA9 ((V ++ [root]).length) pc9 W A' m' c' HDL.out hR hc' h (by rfl) hpc9 (by rw [List.length_append]; have := HOUT.out; simp; omega) kon
    rw [E1.out] at hq1
    have HQ1 := Lib.hid (hq1 A9 c9 w8 hR8 hs8 hc9 hk8)
    clear hq1
    generalize (V ++ [root]).length = l9 at *
    go_upto_region 12 with (first
      | ((with_reducible refine wpList_load_if (o := ⟨some 92, _, _, _, _, _⟩) ?_ 30 (.tmp 14) ?_ (hashV root) ?_ ?_); rfl; rfl; exact (BoxH.load_ f148 HROOT.out))
      | ((with_reducible refine wpList_load_if (o := ⟨some 95, _, _, _, _, _⟩) ?_ 43 (.tmp 16) ?_ (claimV A' m' c' index m n A9 l9 c9) ?_ ?_); rfl; rfl; exact X8.load_)
      | (go_at_call 23; refine HQ1.out.mono ?_; rintro e w10 ⟨rfl, b10⟩))
    have X10 : BoxC w10 g16 A' m' c' index m n A9 l9 c9 := X8.next b10
    have S10 : Below w5.heap.size w5 w10 := S85.trans (b10.mono S85.size)
    have k10c := X10.c4
    have k10f := X10.frozen 4
    clear X8 S8 S85 hs8 f148 hk8 hR8 b10 HQ1 hc9
    have pz : ((pn' : Int) == 0) = false := by simp; omega
    go_upto_region 15 with ((with_reducible refine wpList_exec (o := ⟨some 105, _, _, _, _, _⟩) ?_ (.slice PA' (pn' - 1) pc') ?_ ?_); rfl; exact exec_sliceH_pred rfl rfl rfl pv hpc')
    have X11 := X10.set4 PA' (pn' - 1) pc'
    have S11 : Below w5.heap.size w5 (w10.setCell ⟨g16, 4, none⟩ (.slice PA' (pn' - 1) pc')) := S10.setCell (p := ⟨g16, 4, none⟩) (by show _ ≤ g16; rw [HG16.out]; exact Nat.le_refl _) _
    obtain ⟨w11, hw11⟩ : ∃ x, w10.setCell ⟨g16, 4, none⟩ (.slice PA' (pn' - 1) pc') = x := ⟨_, rfl⟩
    rw [hw11] at X11 S11
    change Code.wp _ _ _ _ (w10.setCell ⟨g16, 4, none⟩ (.slice PA' (pn' - 1) pc'))
    rw [hw11]
    have f1411 : BoxH w11 g14 root := BoxA.next f14 S11
    have hk11 := hk5.next S11
    have hR11 := hRD.below S11
    have hs11 := (hsV.next S11).takeK (V.length - 1)
    have hq2 := fun PA9 pc9 W (hR : Runs W A' D) (h : Hs W PA9 (V.take (V.length - 1))) (hpc9 : (V.take (V.length - 1)).length ≤ pc9) (kon : Kon W) => HAC.out (V.take (V.length - 1)) PA9 ((V.take (V.length - 1)).length) pc9 W A' m' c' HDL.out hR hc' h (by rfl) hpc9 (by rw [List.length_take]; have := HOUT.out; omega) kon
    rw [E2.out] at hq2
    have htl : (V.take (V.length - 1)).length = pn' - 1 := by rw [List.length_take]; have := HPN.out; omega
    rw [htl] at hq2
    have HQ2 := Lib.hid (hq2 PA' pc' w11 hR11 hs11 (by omega) hk11)
    clear hq2 htl hw11 X10 S10 k10c k10f
    go_upto_region 17 with (first
      | ((with_reducible refine wpList_load_if (o := ⟨some 107, _, _, _, _, _⟩) ?_ 30 (.tmp 14) ?_ (hashV root) ?_ ?_); rfl; rfl; exact (BoxH.load_ f1411 HROOT.out))
      | ((with_reducible refine wpList_load_if (o := ⟨some 110, _, _, _, _, _⟩) ?_ 43 (.tmp 16) ?_ (claimV A' m' c' index m n PA' (pn' - 1) pc') ?_ ?_); rfl; rfl; exact X11.load_)
      | (go_at_call 23; refine HQ2.out.mono ?_; rintro e w12 ⟨rfl, b12⟩))
    have X12 : BoxC w12 g16 A' m' c' index m n PA' (pn' - 1) pc' := X11.next b12
    have S12 : Below w5.heap.size w5 w12 := S11.trans (b12.mono S11.size)
    clear X11 S11 f1411 hk11 hR11 hs11 b12 HQ2
    have hO12 := hO5.next S12
    go_upto_region 18 with (first
      | (at_builtin; refine wpList_append_hs rfl (.tmp 112) (.tmp 113) rfl w12.heap.size _ _ _ [] V rfl rfl (OwnHs.emptyW w12) (hO12.next (Below.new1 w12 _)) (by simp) (by have := HOUT.out; omega) (by rw [World.size_alloc]; omega) ?_
         intro v w13 hTx b13; rw [List.nil_append] at hTx; have B13 := (Below.new1 w12 (.cells #[] 30)).trans b13
         obtain ⟨gt, tc, hgt, rfl⟩ : ∃ g cap, w12.heap.size ≤ g ∧ v = .slice (some ⟨g, 0, none⟩) V.length cap := by
           rcases hTx.2.2 with ⟨_, e⟩ | ⟨g, cap, _, e, hg, _⟩
           · exact absurd e (by have := HPN.out; omega)
           · exact ⟨g, cap, hg, e⟩
         have k13c := (X12.next B13).c4
         have k13f := (X12.next B13).frozen 4))
    have X13 := X12.next B13
    have X14 := X13.set4 (some ⟨gt, 0, none⟩) V.length tc
    have l16 := (Array.getElem?_eq_some_iff.1 X12.row).1
    have S13 : Below w5.heap.size w5 w13 := S12.trans (B13.mono S12.size)
    have S14 : Below w5.heap.size w5 (w13.setCell ⟨g16, 4, none⟩ (.slice (some ⟨gt, 0, none⟩) V.length tc)) := S13.setCell (p := ⟨g16, 4, none⟩) (by show _ ≤ g16; rw [HG16.out]; exact Nat.le_refl _) _
    have hT := hTx.but (.inl l16) ((But.refl g16 w13).setCell 4 (.slice (some ⟨gt, 0, none⟩) V.length tc))
    obtain ⟨w14, hw14⟩ : ∃ x, w13.setCell ⟨g16, 4, none⟩ (.slice (some ⟨gt, 0, none⟩) V.length tc) = x := ⟨_, rfl⟩
    rw [hw14] at X14 S14 hT
    change Code.wp _ _ _ _ (w13.setCell ⟨g16, 4, none⟩ (.slice (some ⟨gt, 0, none⟩) V.length tc))
    rw [hw14]
    have hgl : g16 < gt := by omega
    clear hw14 X12 X13 S12 S13 hTx k13c k13f hO12 b13 B13 l16
    have htn0 := fun (j p : Nat) (hj : j < V.length) (hp : p < 32) W (h : Below w14.heap.size w14 W) (x : UInt8) => (hT.next h).turn hj hp x
    have hT2 := hT.2
    have hfz : ∀ (k : Nat) W, Below w14.heap.size w14 W → W.frozen? ⟨gt, k, none⟩ = false := fun k W h => ((hT.next h).2).frozenAt _
    have hcA := fun (j p : Nat) (hj : j < V.length) (hp : p < 32) (x : UInt8) (hx : (cellsH V)[j * 32 + p]? = some (.int .u8 (x.toNat : Int))) => show w14.cell? ⟨gt, j * 32 + p, none⟩ = some (.int .u8 (x.toNat : Int)) from by rw [hT2.cellAt (j * 32 + p) (by omega)]; exact hx
    rw [HPN.out] at X14 ⊢
    obtain ⟨j, hj⟩ : ∃ j, at_ % pn' = j := ⟨_, rfl⟩
    obtain ⟨p_, hp⟩ : ∃ p, at_ % 32 = p := ⟨_, rfl⟩
    have jl : j < pn' := by rw [← hj]; exact Nat.mod_lt _ (by omega)
    have pl : p_ < 32 := by rw [← hp]; exact Nat.mod_lt _ (by decide)
    have jV : j < V.length := by rw [HPN.out]; exact jl
    have hto := turnO_at HV32.out (at_ := at_) (by rw [HPN.out]; exact hj) hp jV b
    have hVj : V[j].length = 32 := HV32.out _ (List.getElem_mem jV)
    have hcl_ : (cellsH V)[j * 32 + p_]? = some (.int .u8 ((V[j][p_]).toNat : Int)) := cellsH_at HV32.out jV (cellsB_get (by omega))
    have hcc_ := hcA j p_ jV pl V[j][p_] hcl_
    have hxb := bits_xor_u8 V[j][p_] b
    have htn := fun W (h : Below w14.heap.size w14 W) => htn0 j p_ jV pl W h (V[j][p_] ^^^ b)
    rw [← hto] at htn
    generalize V[j][p_] = xb at *
    have HTN := Lib.hid htn
    have HFZ := Lib.hid (hfz (j * 32 + p_))
    have r1 : ((at_ : Int) % (pn' : Int)) = (j : Int) := by rw [← hj]; rfl
    have r2 : ((at_ : Int) % 32) = (p_ : Int) := by rw [← hp]; rfl
    have r3 : ((at_ : Int).tmod (pn' : Int)) = (j : Int) := by rw [← hj]; rfl
    have r4 : ((at_ : Int).tmod 32) = (p_ : Int) := by rw [← hp]; rfl
    have p0 : (0 : Int) ≤ (p_ : Int) := by omega
    have p1 : (p_ : Int) < 32 := by omega
    have j0 : (0 : Int) ≤ (j : Int) := by omega
    have j1' : (j : Int) < (pn' : Int) := by omega
    have vnz : ¬ (pn' : Int) = 0 := by omega
    have vnn : ¬ pn' = 0 := by omega
    have IXH : ∀ (ev : Operand → Value) (o : Oper) (W : World) (x y : Operand), o.op = .indexAddr 35 x y → ev x = .slice (some ⟨gt, 0, none⟩) pn' tc → ev y = .int .i64 (j : Int) → (execOp ev o).run Tryd.prog W = .ok (.value (.pointer (some ⟨gt, j * 32, none⟩))) W := fun _ _ W _ _ ho hx hy => by
      have e := exec_indexH (W := W) (i := j) ho hx hy jl
      rw [Addr.add_mid, Nat.zero_add] at e; exact e
    have C4 := Lib.hid X14.c4
    clear hj hp hVj hcl_ hT2 htn htn0 jV hto hfz hcA hT
    refine wp_name fun a0 ha0 => ?_
    have e3 : a0.eval (.tmp 3) = .int .i64 (at_ : Int) := by rw [ha0]; rfl
    have e4 : a0.eval (.tmp 4) = .int .u8 (b.toNat : Int) := by rw [ha0]; rfl
    have e16 : a0.eval (.tmp 16) = .pointer (some ⟨g16, 0, none⟩) := by rw [ha0]; rfl
    have e18 : a0.eval (.tmp 18) = .slice PA' pn' pc' := by rw [ha0]; rfl
    have hz : a0.tmps.size = 191 := by rw [ha0]; rfl
    have HA0 := Lib.hid ha0
    clear ha0
    have SG : ∀ (d d' : Nat → Prop) (W W' : World), (fun (_ : Nat → Prop) (W : World) => Below w14.heap.size w14 W) d W → (∀ j, d j → d' j) → Below W.heap.size W W' → (fun (_ : Nat → Prop) (W : World) => Below w14.heap.size w14 W) d' W' := fun _ _ _ _ h _ b => Below.next h b
    have St : ∀ xc ∈ [(⟨some 0, 116, none, fun v _ => v = .pointer (some ⟨g16, 4, none⟩)⟩ : Cl), ⟨some 1, 117, none, fun v _ => v = .slice (some ⟨gt, 0, none⟩) pn' tc⟩, ⟨some 2, 118, none, fun v _ => v = .int .i64 (at_ : Int)⟩, ⟨some 3, 119, none, fun v _ => v = .slice PA' pn' pc'⟩, ⟨some 4, 120, none, fun v _ => v = .int .i64 (pn' : Int)⟩, ⟨some 5, 121, none, fun v _ => v = .int .i64 (j : Int)⟩, ⟨some 6, 122, none, fun v _ => v = .int .i64 (at_ : Int)⟩, ⟨some 7, 123, none, fun v _ => v = .int .i64 (p_ : Int)⟩, ⟨some 8, 124, none, fun v _ => v = .pointer (some ⟨gt, j * 32, none⟩)⟩, ⟨some 9, 125, none, fun v _ => v = .pointer (some ⟨gt, j * 32 + p_, none⟩)⟩, ⟨some 10, 126, none, fun v _ => v = .int .u8 (xb.toNat : Int)⟩, ⟨some 11, 127, none, fun v _ => v = .int .u8 (b.toNat : Int)⟩, ⟨some 12, 128, none, fun v _ => v = .int .u8 ((xb ^^^ b).toNat : Int)⟩, ⟨some 13, 129, none, fun v _ => v = .pointer (some ⟨gt, j * 32, none⟩)⟩, ⟨some 14, 130, none, fun v _ => v = .pointer (some ⟨gt, j * 32 + p_, none⟩)⟩], Lasts xc := AllC.mem ⟨lastsV0 _ _ _ _, lastsV0 _ _ _ _, lastsV0 _ _ _ _, lastsV0 _ _ _ _, lastsV0 _ _ _ _, lastsV0 _ _ _ _, lastsV0 _ _ _ _, lastsV0 _ _ _ _, lastsV0 _ _ _ _, lastsV0 _ _ _ _, lastsV0 _ _ _ _, lastsV0 _ _ _ _, lastsV0 _ _ _ _, lastsV0 _ _ _ _, lastsV0 _ _ _ _, trivial⟩
    refine wp_region_lastlyR 15 _ (Inv [116, 117, 118, 119, 120, 121, 122, 123, 124, 125, 126, 127, 128, 129, 130] a0 (fun (_ : Nat → Prop) (W : World) => Below w14.heap.size w14 W) (lst St)) (by kernel_rfl) (by kernel_rfl) rfl rfl (fun d hcl hw j hj => ?_) rfl (Inv.start (Below.refl _ _).drew ⟨nofun, nofun, nofun, nofun, nofun, nofun, nofun, nofun, nofun, nofun, nofun, nofun, nofun, nofun, nofun, trivial⟩) ?_ ?_
    · have r12 := hw 12 rfl
      have r14 := hw 14 rfl
      have r7 := hcl 14 _ 7 rfl rfl r14
      have r13 := hcl 14 _ 13 rfl rfl r14
      have r1 := hcl 13 _ 1 rfl rfl r13
      have r5 := hcl 13 _ 5 rfl rfl r13
      have r2 := hcl 5 _ 2 rfl rfl r5
      have r4 := hcl 5 _ 4 rfl rfl r5
      have r3 := hcl 4 _ 3 rfl rfl r4
      have r0 := hcl 1 _ 0 rfl rfl r1
      have r6 := hcl 7 _ 6 rfl rfl r7
      have r10 := hcl 12 _ 10 rfl rfl r12
      have r11 := hcl 12 _ 11 rfl rfl r12
      have r9 := hcl 10 _ 9 rfl rfl r10
      have r8 := hcl 9 _ 8 rfl rfl r9
      match j, hj with
      | 0, _ => exact r0
      | 1, _ => exact r1
      | 2, _ => exact r2
      | 3, _ => exact r3
      | 4, _ => exact r4
      | 5, _ => exact r5
      | 6, _ => exact r6
      | 7, _ => exact r7
      | 8, _ => exact r8
      | 9, _ => exact r9
      | 10, _ => exact r10
      | 11, _ => exact r11
      | 12, _ => exact r12
      | 13, _ => exact r13
      | 14, _ => exact r14
      | j + 15, h => exact absurd h (by omega)
    · clear HA0
      refine ⟨?_, ?_, ?_, ?_, ?_, ?_, ?_, ?_, ?_, ?_, ?_, ?_, ?_, ?_, ?_, trivial⟩
      · refine stepB rfl rfl (by decide) (by rw [hz]; decide) rfl rfl (by kernel_rfl) St SG fun d a W hF hG hH hn hcl hw => ?_
        have q16 := (hF.same 16 (by decide)).trans e16
        exact ⟨.pointer (some ⟨g16, 4, none⟩), W, by clear hF hG hH hn hcl hw; generalize a.eval = ρ at *; go_simp, Below.refl _ _, rfl⟩
      · refine stepB rfl rfl (by decide) (by rw [hz]; decide) rfl rfl (by kernel_rfl) St SG fun d a W hF hG hH hn hcl hw => ?_
        have q116 : a.eval (.tmp 116) = .pointer (some ⟨g16, 4, none⟩) := hH.at_ (i := 0) rfl (hw 0 rfl) id
        have cc_ := cell_kept hG C4.out
        exact ⟨.slice (some ⟨gt, 0, none⟩) pn' tc, W, by clear hF hG hH hn hcl hw; generalize a.eval = ρ at *; go_simp, Below.refl _ _, rfl⟩
      · refine stepB rfl rfl (by decide) (by rw [hz]; decide) rfl rfl (by kernel_rfl) St SG fun d a W hF hG hH hn hcl hw => ?_
        have q3 := (hF.same 3 (by decide)).trans e3
        exact ⟨.int .i64 (at_ : Int), W, by clear hF hG hH hn hcl hw; generalize a.eval = ρ at *; go_simp, Below.refl _ _, rfl⟩
      · refine stepB rfl rfl (by decide) (by rw [hz]; decide) rfl rfl (by kernel_rfl) St SG fun d a W hF hG hH hn hcl hw => ?_
        have q18 := (hF.same 18 (by decide)).trans e18
        exact ⟨.slice PA' pn' pc', W, by clear hF hG hH hn hcl hw; generalize a.eval = ρ at *; go_simp, Below.refl _ _, rfl⟩
      · refine stepB rfl rfl (by decide) (by rw [hz]; decide) rfl rfl (by kernel_rfl) St SG fun d a W hF hG hH hn hcl hw => ?_
        have q119 : a.eval (.tmp 119) = .slice PA' pn' pc' := hH.at_ (i := 3) rfl (hw 3 rfl) id
        exact ⟨.int .i64 (pn' : Int), W, by clear hF hG hH hn hcl hw; generalize a.eval = ρ at *; go_simp, Below.refl _ _, rfl⟩
      · refine stepB rfl rfl (by decide) (by rw [hz]; decide) rfl rfl (by kernel_rfl) St SG fun d a W hF hG hH hn hcl hw => ?_
        have q118 : a.eval (.tmp 118) = .int .i64 (at_ : Int) := hH.at_ (i := 2) rfl (hw 2 rfl) id
        have q120 : a.eval (.tmp 120) = .int .i64 (pn' : Int) := hH.at_ (i := 4) rfl (hw 4 rfl) id
        exact ⟨.int .i64 (j : Int), W, by clear hF hG hH hn hcl hw; generalize a.eval = ρ at *; go_simp, Below.refl _ _, rfl⟩
      · refine stepB rfl rfl (by decide) (by rw [hz]; decide) rfl rfl (by kernel_rfl) St SG fun d a W hF hG hH hn hcl hw => ?_
        have q3 := (hF.same 3 (by decide)).trans e3
        exact ⟨.int .i64 (at_ : Int), W, by clear hF hG hH hn hcl hw; generalize a.eval = ρ at *; go_simp, Below.refl _ _, rfl⟩
      · refine stepB rfl rfl (by decide) (by rw [hz]; decide) rfl rfl (by kernel_rfl) St SG fun d a W hF hG hH hn hcl hw => ?_
        have q122 : a.eval (.tmp 122) = .int .i64 (at_ : Int) := hH.at_ (i := 6) rfl (hw 6 rfl) id
        have qc32 : a.eval (.const (.int .i64 32)) = .int .i64 32 := rfl
        exact ⟨.int .i64 (p_ : Int), W, by clear hF hG hH hn hcl hw; generalize a.eval = ρ at *; go_simp, Below.refl _ _, rfl⟩
      · refine stepB rfl rfl (by decide) (by rw [hz]; decide) rfl rfl (by kernel_rfl) St SG fun d a W hF hG hH hn hcl hw => ?_
        have q117 : a.eval (.tmp 117) = .slice (some ⟨gt, 0, none⟩) pn' tc := hH.at_ (i := 1) rfl (hw 1 rfl) id
        have q121 : a.eval (.tmp 121) = .int .i64 (j : Int) := hH.at_ (i := 5) rfl (hw 5 rfl) id
        refine ⟨.pointer (some ⟨gt, j * 32, none⟩), W, ?_, Below.refl _ _, ?_⟩
        · exact IXH _ _ W _ _ rfl q117 q121
        · rfl
      · refine stepB rfl rfl (by decide) (by rw [hz]; decide) rfl rfl (by kernel_rfl) St SG fun d a W hF hG hH hn hcl hw => ?_
        have q123 : a.eval (.tmp 123) = .int .i64 (p_ : Int) := hH.at_ (i := 7) rfl (hw 7 rfl) id
        have q124 : a.eval (.tmp 124) = .pointer (some ⟨gt, j * 32, none⟩) := hH.at_ (i := 8) rfl (hw 8 rfl) id
        exact ⟨.pointer (some ⟨gt, j * 32 + p_, none⟩), W, by clear hF hG hH hn hcl hw; generalize a.eval = ρ at *; go_simp, Below.refl _ _, rfl⟩
      · refine stepB rfl rfl (by decide) (by rw [hz]; decide) rfl rfl (by kernel_rfl) St SG fun d a W hF hG hH hn hcl hw => ?_
        have q125 : a.eval (.tmp 125) = .pointer (some ⟨gt, j * 32 + p_, none⟩) := hH.at_ (i := 9) rfl (hw 9 rfl) id
        have qc_ := cell_kept hG hcc_
        exact ⟨.int .u8 (xb.toNat : Int), W, by clear hF hG hH hn hcl hw; generalize a.eval = ρ at *; go_simp, Below.refl _ _, rfl⟩
      · refine stepB rfl rfl (by decide) (by rw [hz]; decide) rfl rfl (by kernel_rfl) St SG fun d a W hF hG hH hn hcl hw => ?_
        have q4 := (hF.same 4 (by decide)).trans e4
        exact ⟨.int .u8 (b.toNat : Int), W, by clear hF hG hH hn hcl hw; generalize a.eval = ρ at *; go_simp, Below.refl _ _, rfl⟩
      · refine stepB rfl rfl (by decide) (by rw [hz]; decide) rfl rfl (by kernel_rfl) St SG fun d a W hF hG hH hn hcl hw => ?_
        have q126 : a.eval (.tmp 126) = .int .u8 (xb.toNat : Int) := hH.at_ (i := 10) rfl (hw 10 rfl) id
        have q127 : a.eval (.tmp 127) = .int .u8 (b.toNat : Int) := hH.at_ (i := 11) rfl (hw 11 rfl) id
        have qx_ := hxb
        exact ⟨.int .u8 ((xb ^^^ b).toNat : Int), W, by clear hF hG hH hn hcl hw; generalize a.eval = ρ at *; go_simp, Below.refl _ _, rfl⟩
      · refine stepB rfl rfl (by decide) (by rw [hz]; decide) rfl rfl (by kernel_rfl) St SG fun d a W hF hG hH hn hcl hw => ?_
        have q117 : a.eval (.tmp 117) = .slice (some ⟨gt, 0, none⟩) pn' tc := hH.at_ (i := 1) rfl (hw 1 rfl) id
        have q121 : a.eval (.tmp 121) = .int .i64 (j : Int) := hH.at_ (i := 5) rfl (hw 5 rfl) id
        refine ⟨.pointer (some ⟨gt, j * 32, none⟩), W, ?_, Below.refl _ _, ?_⟩
        · exact IXH _ _ W _ _ rfl q117 q121
        · rfl
      · refine stepB rfl rfl (by decide) (by rw [hz]; decide) rfl rfl (by kernel_rfl) St SG fun d a W hF hG hH hn hcl hw => ?_
        have q123 : a.eval (.tmp 123) = .int .i64 (p_ : Int) := hH.at_ (i := 7) rfl (hw 7 rfl) id
        have q129 : a.eval (.tmp 129) = .pointer (some ⟨gt, j * 32, none⟩) := hH.at_ (i := 13) rfl (hw 13 rfl) id
        exact ⟨.pointer (some ⟨gt, j * 32 + p_, none⟩), W, by clear hF hG hH hn hcl hw; generalize a.eval = ρ at *; go_simp, Below.refl _ _, rfl⟩
    · intro d a W ⟨hF, hB, hH⟩ hall
      have k128 : a.eval (.tmp 128) = .int .u8 ((xb ^^^ b).toNat : Int) := hH.at_ (i := 12) rfl (hall 12 (by decide)) id
      have k130 : a.eval (.tmp 130) = .pointer (some ⟨gt, j * 32 + p_, none⟩) := hH.at_ (i := 14) rfl (hall 14 (by decide)) id
      clear hH hall
      rw [hF.shape (by rw [hz]; decide)]
      clear hF
      simp only [List.foldl]
      generalize a.eval (.tmp 116) = z116, a.eval (.tmp 117) = z117, a.eval (.tmp 118) = z118, a.eval (.tmp 119) = z119, a.eval (.tmp 120) = z120, a.eval (.tmp 121) = z121, a.eval (.tmp 122) = z122, a.eval (.tmp 123) = z123, a.eval (.tmp 124) = z124, a.eval (.tmp 125) = z125, a.eval (.tmp 126) = z126, a.eval (.tmp 127) = z127, a.eval (.tmp 128) = z128, a.eval (.tmp 129) = z129, a.eval (.tmp 130) = z130 at *
      subst k128
      subst k130
      rw [HA0.out]
      simp only [Act.put, List.setIfInBounds_toArray, List.set_cons_zero, List.set_cons_succ]
      clear hz HA0 St SG e3 e4 e16 e18
      clear a a0
      have cc := cell_kept hB hcc_
      have cf := HFZ.out W hB
      refine wp_skips (w' := W.setCell ⟨gt, j * 32 + p_, none⟩ (.int .u8 ((xb ^^^ b).toNat : Int))) (by go_simp) ?_
      dsimp only [Act.put]
      have hT9 := HTN.out W hB
      have X15 : BoxC (W.setCell ⟨gt, j * 32 + p_, none⟩ (.int .u8 ((xb ^^^ b).toNat : Int))) g16 A' m' c' index m n (some ⟨gt, 0, none⟩) pn' tc := ⟨(Below.heap_setCell W ⟨gt, j * 32 + p_, none⟩ _ g16 (by show g16 ≠ gt; omega)).trans (X14.next hB).row⟩
      have S15 : Below w5.heap.size w5 (W.setCell ⟨gt, j * 32 + p_, none⟩ (.int .u8 ((xb ^^^ b).toNat : Int))) := (S14.trans (hB.mono S14.size)).setCell (p := ⟨gt, j * 32 + p_, none⟩) (by show _ ≤ gt; have := HG16.out; omega) _
      generalize W.setCell ⟨gt, j * 32 + p_, none⟩ (.int .u8 ((xb ^^^ b).toNat : Int)) = w15 at *
      have hk15 := hk5.next S15
      clear cc cf hB HTN HFZ IXH X14 S14 hcc_ hxb r1 r2 r3 r4 p0 p1 j0 j1' vnz vnn jl pl hgt
      have hto2 := turnO_length V at_ b
      rw [HPN.out] at hto2
      have hs15 : Hs w15 (some ⟨gt, 0, none⟩) (turnO V at_ b) := by
        obtain ⟨A1, c1, e, _, h⟩ := hT9.toHs
        simp only [Value.slice.injEq] at e
        rw [← e.1] at h
        exact h
      have htc : pn' ≤ tc := by
        obtain ⟨A1, c1, e, hc, h⟩ := hT9.toHs
        simp only [Value.slice.injEq] at e
        rw [hto2] at hc
        omega
      have f1415 : BoxH w15 g14 root := BoxA.next f14 S15
      have hR15 := hRD.below S15
      have hq3 := fun PA9 pc9 W (hR : Runs W A' D) (h : Hs W PA9 (turnO V at_ b)) (hpc9 : (turnO V at_ b).length ≤ pc9) (kon : Kon W) => HAC.out (turnO V at_ b) PA9 ((turnO V at_ b).length) pc9 W A' m' c' HDL.out hR hc' h (by rfl) hpc9 (by rw [hto2]; omega) kon
      rw [E3.out, hto2] at hq3
      have HQ3 := Lib.hid (hq3 (some ⟨gt, 0, none⟩) tc w15 hR15 hs15 htc hk15)
      clear hq3 hT9
      go_upto_region 21 with (first
        | ((with_reducible refine wpList_load_if (o := ⟨some 134, _, _, _, _, _⟩) ?_ 30 (.tmp 14) ?_ (hashV root) ?_ ?_); rfl; rfl; exact (BoxH.load_ f1415 HROOT.out))
        | ((with_reducible refine wpList_load_if (o := ⟨some 137, _, _, _, _, _⟩) ?_ 43 (.tmp 16) ?_ (claimV A' m' c' index m n (some ⟨gt, 0, none⟩) pn' tc) ?_ ?_); rfl; rfl; exact X15.load_)
        | (go_at_call 23; refine HQ3.out.mono ?_; rintro e w16 ⟨rfl, b16⟩))
      have hk16 := hk15.next b16
      have S16 : Below w5.heap.size w5 w16 := S15.trans (b16.mono S15.size)
      have X16 : BoxC w16 g16 A' m' c' index m n (some ⟨gt, 0, none⟩) pn' tc := X15.next b16
      have hs16 := hs15.next b16
      have hto3 := hto2
      clear X15 f1415 hR15 hs15 S15 b16 hk15 HQ3 hto2
      go_upto_region 22 with (first
        | (go_at_call 18; refine (constants_any _).mono ?_; rintro e w17 ⟨rfl, b17⟩)
        | (refine wpList_newW rfl (.tmp 19) (.tmp 142) rfl rfl rfl ?_))
      have yA0 := withW_box w17
      have bw := withW_below w17
      obtain ⟨wA, hW⟩ : ∃ wA, withW w17 = wA := ⟨_, rfl⟩
      change Code.wp _ _ _ _ (withW w17)
      rw [hW] at yA0 bw ⊢
      have b18 := Below.on b17 bw
      have SA : Below w5.heap.size w5 wA := S16.trans (b18.mono S16.size)
      have hkA := hk16.next b18
      have hsA := hs16.next b18
      have hR1A := hR5.below SA
      have hR3A := hRD.below SA
      have z5 := X16.next b18
      have z8 := f8.next SA
      have BB := Below.on BB5 SA
      have yA : BoxW wA w17.heap.size := yA0
      have HFD := Lib.hid (HFDx.out m' (some ⟨gt, 0, none⟩) pn' tc HDL.out HPN.out htc)
      have HFT := Lib.hid (HFTx.out m' (some ⟨gt, 0, none⟩) pn' tc HDL.out HPN.out htc)
      have HLV3 := Lib.hid (fun W (h : Runs W A' D) => HLV.out W A' m' c' HDL.out h)
      have HL3 := Lib.hid (HL3x.out.trans HDL.out)
      rw [HPN.out] at HFD
      generalize w17.heap.size = g18 at *
      generalize g11 + 1 = g8 at *
      generalize g16 = g5 at *
      clear yA0 bw hW b17 b18 hk16 hs16 S16 X16 SA HFDx HFTx HLV HL3x hR5 hRD hsV hO5 f14 f8 hk5 BB5 c80 HAC
      have C50 := Lib.hid z5.c0
      have C51 := Lib.hid z5.c1
      have C52 := Lib.hid z5.c2
      have C53 := Lib.hid z5.c3
      have C54 := Lib.hid z5.c4
      have C80 := Lib.hid z8.c0
      have C81 := Lib.hid z8.c1
      refine wp_name fun a0 ha0 => ?_
      have e16 : a0.eval (.tmp 16) = .pointer (some ⟨g5, 0, none⟩) := by rw [ha0]; rfl
      have e12 : a0.eval (.tmp 12) = .pointer (some ⟨g8, 0, none⟩) := by rw [ha0]; rfl
      have e19 : a0.eval (.tmp 19) = .pointer (some ⟨g18, 0, none⟩) := by rw [ha0]; rfl
      have hz : a0.tmps.size = 191 := by rw [ha0]; rfl
      have HA0 := Lib.hid ha0
      clear ha0
      have SG : ∀ (d d' : Nat → Prop) (W W' : World), (fun (_ : Nat → Prop) (W : World) => Below wA.heap.size wA W) d W → (∀ j, d j → d' j) → Below W.heap.size W W' → (fun (_ : Nat → Prop) (W : World) => Below wA.heap.size wA W) d' W' := fun _ _ _ _ h _ b => Below.next h b
      have St : ∀ xc ∈ [(⟨some 0, 144, none, fun v _ => v = wordsV⟩ : Cl), ⟨some 1, 145, none, fun v _ => v = .pointer (some ⟨g5, 2, none⟩)⟩, ⟨some 2, 146, none, fun v _ => v = .int .i64 (m : Int)⟩, ⟨some 3, 147, none, fun v _ => v = .pointer (some ⟨g5, 1, none⟩)⟩, ⟨some 4, 148, none, fun v _ => v = .int .i64 index⟩, ⟨some 5, 149, none, fun v _ => v = .pointer (some ⟨g5, 0, none⟩)⟩, ⟨some 6, 150, none, fun v _ => v = .slice A' m' c'⟩, ⟨some 7, 151, some 10, fun v W => OwnStrs W wA.heap.size v L3⟩, ⟨some 8, 152, none, fun v _ => v = .pointer (some ⟨g5, 4, none⟩)⟩, ⟨some 9, 153, none, fun v _ => v = .slice (some ⟨gt, 0, none⟩) pn' tc⟩, ⟨some 10, 154, none, fun v _ => v = .tuple #[hashV h, .int .i64 (pn' : Int), .bool true]⟩, ⟨some 11, 143, none, fun v _ => v = .tuple #[hashV h, .int .i64 (pn' : Int), .bool true]⟩, ⟨some 12, 155, none, fun v _ => v = hashV h⟩, ⟨some 13, 156, none, fun v _ => v = .int .i64 (pn' : Int)⟩, ⟨some 14, 157, none, fun v _ => v = .bool true⟩, ⟨some 15, 20, some 16, fun v W => ∃ g, v = .pointer (some ⟨g, 0, none⟩) ∧ wA.heap.size ≤ g ∧ ∃ m, BoxA W g 30 .u8 m ∧ m.length = 32⟩, ⟨some 16, 20, none, fun v W => ∃ g, v = .pointer (some ⟨g, 0, none⟩) ∧ wA.heap.size ≤ g ∧ BoxH W g h⟩, ⟨some 17, 21, none, fun v _ => v = .int .i64 (pn' : Int)⟩, ⟨some 18, 22, none, fun v _ => v = .bool true⟩], Lasts xc := AllC.mem ⟨lastsV0 _ _ _ _, lastsV0 _ _ _ _, lastsV0 _ _ _ _, lastsV0 _ _ _ _, lastsV0 _ _ _ _, lastsV0 _ _ _ _, lastsV0 _ _ _ _, (fun _ _ _ h b => h.next b), lastsV0 _ _ _ _, lastsV0 _ _ _ _, lastsV0 _ _ _ _, lastsV0 _ _ _ _, lastsV0 _ _ _ _, lastsV0 _ _ _ _, lastsV0 _ _ _ _, (fun _ _ _ h b => by obtain ⟨g, e, h1, m, h2, h3⟩ := h; exact ⟨g, e, h1, m, h2.next b, h3⟩), (fun _ _ _ h b => by obtain ⟨g, e, h1, h2⟩ := h; exact ⟨g, e, h1, BoxA.next h2 b⟩), lastsV0 _ _ _ _, lastsV0 _ _ _ _, trivial⟩
      refine wp_region_steps (Inv [144, 145, 146, 147, 148, 149, 150, 151, 152, 153, 154, 143, 155, 156, 157, 20, 21, 22] a0 (fun (_ : Nat → Prop) (W : World) => Below wA.heap.size wA W) (lst St)) (by kernel_rfl) (by kernel_rfl) (Inv.start (Below.refl _ _).drew ⟨nofun, nofun, nofun, nofun, nofun, nofun, nofun, nofun, nofun, nofun, nofun, nofun, nofun, nofun, nofun, nofun, nofun, nofun, nofun, trivial⟩) ?_ ?_
      · clear HA0
        refine ⟨?_, ?_, ?_, ?_, ?_, ?_, ?_, ?_, ?_, ?_, ?_, ?_, ?_, ?_, ?_, ?_, ?_, ?_, ?_, trivial⟩
        · refine stepB rfl rfl (by decide) (by rw [hz]; decide) rfl rfl (by kernel_rfl) St SG fun d a W hF hG hH hn hcl hw => ?_
          have q19 := (hF.same 19 (by decide)).trans e19
          refine ⟨wordsV, W, ?_, Below.refl _ _, ?_⟩
          · exact exec_load rfl (by rw [q19]; exact BoxW.load (BoxA.next yA hG))
          · rfl
        · refine stepB rfl rfl (by decide) (by rw [hz]; decide) rfl rfl (by kernel_rfl) St SG fun d a W hF hG hH hn hcl hw => ?_
          have q16 := (hF.same 16 (by decide)).trans e16
          exact ⟨.pointer (some ⟨g5, 2, none⟩), W, by clear hF hG hH hn hcl hw; generalize a.eval = ρ at *; go_simp, Below.refl _ _, rfl⟩
        · refine stepB rfl rfl (by decide) (by rw [hz]; decide) rfl rfl (by kernel_rfl) St SG fun d a W hF hG hH hn hcl hw => ?_
          have q145 : a.eval (.tmp 145) = .pointer (some ⟨g5, 2, none⟩) := hH.at_ (i := 1) rfl (hw 1 rfl) id
          have cc0 := cell_kept hG C52.out
          exact ⟨.int .i64 (m : Int), W, by clear hF hG hH hn hcl hw; generalize a.eval = ρ at *; go_simp, Below.refl _ _, rfl⟩
        · refine stepB rfl rfl (by decide) (by rw [hz]; decide) rfl rfl (by kernel_rfl) St SG fun d a W hF hG hH hn hcl hw => ?_
          have q16 := (hF.same 16 (by decide)).trans e16
          exact ⟨.pointer (some ⟨g5, 1, none⟩), W, by clear hF hG hH hn hcl hw; generalize a.eval = ρ at *; go_simp, Below.refl _ _, rfl⟩
        · refine stepB rfl rfl (by decide) (by rw [hz]; decide) rfl rfl (by kernel_rfl) St SG fun d a W hF hG hH hn hcl hw => ?_
          have q147 : a.eval (.tmp 147) = .pointer (some ⟨g5, 1, none⟩) := hH.at_ (i := 3) rfl (hw 3 rfl) id
          have cc0 := cell_kept hG C51.out
          exact ⟨.int .i64 index, W, by clear hF hG hH hn hcl hw; generalize a.eval = ρ at *; go_simp, Below.refl _ _, rfl⟩
        · refine stepB rfl rfl (by decide) (by rw [hz]; decide) rfl rfl (by kernel_rfl) St SG fun d a W hF hG hH hn hcl hw => ?_
          have q16 := (hF.same 16 (by decide)).trans e16
          exact ⟨.pointer (some ⟨g5, 0, none⟩), W, by clear hF hG hH hn hcl hw; generalize a.eval = ρ at *; go_simp, Below.refl _ _, rfl⟩
        · refine stepB rfl rfl (by decide) (by rw [hz]; decide) rfl rfl (by kernel_rfl) St SG fun d a W hF hG hH hn hcl hw => ?_
          have q149 : a.eval (.tmp 149) = .pointer (some ⟨g5, 0, none⟩) := hH.at_ (i := 5) rfl (hw 5 rfl) id
          have cc0 := cell_kept hG C50.out
          exact ⟨.slice A' m' c', W, by clear hF hG hH hn hcl hw; generalize a.eval = ρ at *; go_simp, Below.refl _ _, rfl⟩
        · refine stepC rfl rfl (by decide) (by rw [hz]; decide) rfl rfl (by kernel_rfl) St SG fun d a W hF hG hH hn hcl hw => ?_
          have q150 : a.eval (.tmp 150) = .slice A' m' c' := hH.at_ (i := 6) rfl (hw 6 rfl) id
          have qf : a.eval (.func 49) = .func (.func 49) #[] #[] := rfl
          refine ⟨49, #[.slice A' m' c'], ?_, ?_⟩
          · clear hF hG hH hn hcl hw
            generalize a.eval = ρ at *
            go_simp
          · refine (HLV3.out W (hR3A.below hG)).mono ?_; rintro e W' ⟨v, rfl, hO, b⟩; exact ⟨v, rfl, b, hO.mono (by have := hG.size; omega)⟩
        · refine stepB rfl rfl (by decide) (by rw [hz]; decide) rfl rfl (by kernel_rfl) St SG fun d a W hF hG hH hn hcl hw => ?_
          have q16 := (hF.same 16 (by decide)).trans e16
          exact ⟨.pointer (some ⟨g5, 4, none⟩), W, by clear hF hG hH hn hcl hw; generalize a.eval = ρ at *; go_simp, Below.refl _ _, rfl⟩
        · refine stepB rfl rfl (by decide) (by rw [hz]; decide) rfl rfl (by kernel_rfl) St SG fun d a W hF hG hH hn hcl hw => ?_
          have q152 : a.eval (.tmp 152) = .pointer (some ⟨g5, 4, none⟩) := hH.at_ (i := 8) rfl (hw 8 rfl) id
          have cc0 := cell_kept hG C54.out
          exact ⟨.slice (some ⟨gt, 0, none⟩) pn' tc, W, by clear hF hG hH hn hcl hw; generalize a.eval = ρ at *; go_simp, Below.refl _ _, rfl⟩
        · refine stepC rfl rfl (by decide) (by rw [hz]; decide) rfl rfl (by kernel_rfl) St SG fun d a W hF hG hH hn hcl hw => ?_
          have q144 : a.eval (.tmp 144) = wordsV := hH.at_ (i := 0) rfl (hw 0 rfl) id
          have q146 : a.eval (.tmp 146) = .int .i64 (m : Int) := hH.at_ (i := 2) rfl (hw 2 rfl) id
          have q148 : a.eval (.tmp 148) = .int .i64 index := hH.at_ (i := 4) rfl (hw 4 rfl) id
          have q151 : OwnStrs W wA.heap.size (a.eval (.tmp 151)) L3 := hH.at_ (i := 7) rfl (hw 7 rfl) hn
          have q153 : a.eval (.tmp 153) = .slice (some ⟨gt, 0, none⟩) pn' tc := hH.at_ (i := 9) rfl (hw 9 rfl) id
          have qf : a.eval (.func 42) = .func (.func 42) #[] #[] := rfl
          obtain ⟨A9, c9, q151, hc9, hS9⟩ := q151.toStrs
          rw [HL3.out] at q151 hc9
          refine ⟨42, #[wordsV, .int .i64 (m : Int), .int .i64 index, .slice A9 m' c9, .slice (some ⟨gt, 0, none⟩) pn' tc], ?_, ?_⟩
          · clear hF hG hH hn hcl hw
            generalize a.eval = ρ at *
            go_simp
          · refine (HFD.out A9 c9 W hc9 hS9 (hsA.next hG)).mono ?_; rintro e W' ⟨rfl, b⟩; exact ⟨_, rfl, b, rfl⟩
        · refine stepB rfl rfl (by decide) (by rw [hz]; decide) rfl rfl (by kernel_rfl) St SG fun d a W hF hG hH hn hcl hw => ?_
          have q154 : a.eval (.tmp 154) = .tuple #[hashV h, .int .i64 (pn' : Int), .bool true] := hH.at_ (i := 10) rfl (hw 10 rfl) id
          exact ⟨.tuple #[hashV h, .int .i64 (pn' : Int), .bool true], W, by clear hF hG hH hn hcl hw; generalize a.eval = ρ at *; go_simp, Below.refl _ _, rfl⟩
        · refine stepB rfl rfl (by decide) (by rw [hz]; decide) rfl rfl (by kernel_rfl) St SG fun d a W hF hG hH hn hcl hw => ?_
          have q143 : a.eval (.tmp 143) = .tuple #[hashV h, .int .i64 (pn' : Int), .bool true] := hH.at_ (i := 11) rfl (hw 11 rfl) id
          exact ⟨hashV h, W, by clear hF hG hH hn hcl hw; generalize a.eval = ρ at *; go_simp, Below.refl _ _, rfl⟩
        · refine stepB rfl rfl (by decide) (by rw [hz]; decide) rfl rfl (by kernel_rfl) St SG fun d a W hF hG hH hn hcl hw => ?_
          have q143 : a.eval (.tmp 143) = .tuple #[hashV h, .int .i64 (pn' : Int), .bool true] := hH.at_ (i := 11) rfl (hw 11 rfl) id
          exact ⟨.int .i64 (pn' : Int), W, by clear hF hG hH hn hcl hw; generalize a.eval = ρ at *; go_simp, Below.refl _ _, rfl⟩
        · refine stepB rfl rfl (by decide) (by rw [hz]; decide) rfl rfl (by kernel_rfl) St SG fun d a W hF hG hH hn hcl hw => ?_
          have q143 : a.eval (.tmp 143) = .tuple #[hashV h, .int .i64 (pn' : Int), .bool true] := hH.at_ (i := 11) rfl (hw 11 rfl) id
          exact ⟨.bool true, W, by clear hF hG hH hn hcl hw; generalize a.eval = ρ at *; go_simp, Below.refl _ _, rfl⟩
        · refine stepB rfl rfl (by decide) (by rw [hz]; decide) rfl rfl (by kernel_rfl) St SG fun d a W hF hG hH hn hcl hw => ?_
          refine ⟨.pointer (some ⟨W.heap.size, 0, none⟩), W.alloc (.cells (ints .u8 (List.replicate 32 0)) 30), ?_, Below.new1 W _, ?_⟩
          · (clear hF hG hH hn hcl hw; generalize a.eval = ρ at *; go_simp; rfl)
          · exact ⟨_, rfl, hG.size, _, BoxA.new W _ _ _ _ rfl, by simp⟩
        · refine stepRow 20 (.tmp 155) 30 rfl rfl rfl rfl rfl wA.heap.size (AllC.mem ⟨.inr (.inr (.inl fun _ _ _ _ _ _ _ h => h)), .inr (.inr (.inl fun _ _ _ _ _ _ _ h => h)), .inr (.inr (.inl fun _ _ _ _ _ _ _ h => h)), .inr (.inr (.inl fun _ _ _ _ _ _ _ h => h)), .inr (.inr (.inl fun _ _ _ _ _ _ _ h => h)), .inr (.inr (.inl fun _ _ _ _ _ _ _ h => h)), .inr (.inr (.inl fun _ _ _ _ _ _ _ h => h)), .inr (.inr (.inr fun d hcl hw => hcl 11 _ 10 rfl rfl (hcl 12 _ 11 rfl rfl (hw 12 rfl)))), .inr (.inr (.inl fun _ _ _ _ _ _ _ h => h)), .inr (.inr (.inl fun _ _ _ _ _ _ _ h => h)), .inr (.inr (.inl fun _ _ _ _ _ _ _ h => h)), .inr (.inr (.inl fun _ _ _ _ _ _ _ h => h)), .inr (.inr (.inl fun _ _ _ _ _ _ _ h => h)), .inr (.inr (.inl fun _ _ _ _ _ _ _ h => h)), .inr (.inr (.inl fun _ _ _ _ _ _ _ h => h)), .inr (.inl rfl), .inl rfl, .inr (.inr (.inl fun _ _ _ _ _ _ _ h => h)), .inr (.inr (.inl fun _ _ _ _ _ _ _ h => h)), trivial⟩) (fun _ _ _ _ _ hg h _ => below_setRow h hg _) fun d a W hF hG hH hn hcl hw => ?_
          have q20 : ∃ g, a.eval (.tmp 20) = .pointer (some ⟨g, 0, none⟩) ∧ wA.heap.size ≤ g ∧ ∃ m, BoxA W g 30 .u8 m ∧ m.length = 32 := hH.at_ (i := 15) rfl (hw 15 rfl) hn
          have q155 : a.eval (.tmp 155) = hashV h := hH.at_ (i := 12) rfl (hw 12 rfl) id
          obtain ⟨g, q20, hg, mm, hx, hml⟩ := q20
          exact ⟨g, ints .u8 (nums h), ints .u8 mm, q20, hg, by rw [q155, hashV_eq], hx, by rw [ints_size, nums_length, HH.out]; exact szHash, by rw [ints_size, ints_size, nums_length, hml, HH.out], ints_one _ _, g, rfl, hg, BoxA.setRow hx⟩
        · refine stepB rfl rfl (by decide) (by rw [hz]; decide) rfl rfl (by kernel_rfl) St SG fun d a W hF hG hH hn hcl hw => ?_
          have q156 : a.eval (.tmp 156) = .int .i64 (pn' : Int) := hH.at_ (i := 13) rfl (hw 13 rfl) id
          exact ⟨.int .i64 (pn' : Int), W, by clear hF hG hH hn hcl hw; generalize a.eval = ρ at *; go_simp, Below.refl _ _, rfl⟩
        · refine stepB rfl rfl (by decide) (by rw [hz]; decide) rfl rfl (by kernel_rfl) St SG fun d a W hF hG hH hn hcl hw => ?_
          have q157 : a.eval (.tmp 157) = .bool true := hH.at_ (i := 14) rfl (hw 14 rfl) id
          exact ⟨.bool true, W, by clear hF hG hH hn hcl hw; generalize a.eval = ρ at *; go_simp, Below.refl _ _, rfl⟩
      · intro d a W ⟨hF, hB, hH⟩ hall
        have k21 : a.eval (.tmp 21) = .int .i64 (pn' : Int) := hH.at_ (i := 17) rfl (hall 17 (by decide)) id
        have k22 : a.eval (.tmp 22) = .bool true := hH.at_ (i := 18) rfl (hall 18 (by decide)) id
        have s16 : ∃ g, a.eval (.tmp 20) = .pointer (some ⟨g, 0, none⟩) ∧ wA.heap.size ≤ g ∧ BoxH W g h := hH.at_ (i := 16) rfl (hall 16 (by decide)) id
        clear hH hall
        rw [hF.shape (by rw [hz]; decide)]
        clear hF
        simp only [List.foldl]
        generalize a.eval (.tmp 144) = z144, a.eval (.tmp 145) = z145, a.eval (.tmp 146) = z146, a.eval (.tmp 147) = z147, a.eval (.tmp 148) = z148, a.eval (.tmp 149) = z149, a.eval (.tmp 150) = z150, a.eval (.tmp 151) = z151, a.eval (.tmp 152) = z152, a.eval (.tmp 153) = z153, a.eval (.tmp 154) = z154, a.eval (.tmp 143) = z143, a.eval (.tmp 155) = z155, a.eval (.tmp 156) = z156, a.eval (.tmp 157) = z157, a.eval (.tmp 20) = z20, a.eval (.tmp 21) = z21, a.eval (.tmp 22) = z22 at *
        subst k21
        subst k22
        rw [HA0.out]
        simp only [Act.put, List.setIfInBounds_toArray, List.set_cons_zero, List.set_cons_succ]
        clear hz HA0 St SG e16 e12 e19
        clear a a0
        obtain ⟨g19, rfl, hg19, y19⟩ := s16
        have BB1 := Below.on BB hB
        have yB : BoxW W g18 := BoxA.next yA hB
        have v5 := z5.next hB
        have v8 := z8.next hB
        have hkB := hkA.next hB
        have hsB := hsA.next hB
        have hR1B := hR1A.below hB
        have hR3B := hR3A.below hB
        clear C50 C51 C52 C53 C54 C80 C81
        have C50 := Lib.hid v5.c0
        have C51 := Lib.hid v5.c1
        have C52 := Lib.hid v5.c2
        have C53 := Lib.hid v5.c3
        have C54 := Lib.hid v5.c4
        have C80 := Lib.hid v8.c0
        have C81 := Lib.hid v8.c1
        have l5 := v5.lt
        have l8 := v8.lt
        have l18 := BoxA.lt yB
        have l19 := BoxA.lt y19
        clear hB hg19 yA hkA hsA hR1A hR3A z5 z8 BB HFD
        generalize W = wB at *
        go_upto_region 23 with (fail)
        refine wp_name fun a0 ha0 => ?_
        have e16 : a0.eval (.tmp 16) = .pointer (some ⟨g5, 0, none⟩) := by rw [ha0]; rfl
        have e12 : a0.eval (.tmp 12) = .pointer (some ⟨g8, 0, none⟩) := by rw [ha0]; rfl
        have e19 : a0.eval (.tmp 19) = .pointer (some ⟨g18, 0, none⟩) := by rw [ha0]; rfl
        have hz : a0.tmps.size = 191 := by rw [ha0]; rfl
        have HA0 := Lib.hid ha0
        clear ha0
        have SG : ∀ (d d' : Nat → Prop) (W W' : World), (fun (_ : Nat → Prop) (W : World) => Below wB.heap.size wB W) d W → (∀ j, d j → d' j) → Below W.heap.size W W' → (fun (_ : Nat → Prop) (W : World) => Below wB.heap.size wB W) d' W' := fun _ _ _ _ h _ b => Below.next h b
        have St : ∀ xc ∈ [(⟨some 0, 158, none, fun v _ => v = wordsV⟩ : Cl), ⟨some 1, 159, none, fun v _ => v = .pointer (some ⟨g8, 0, none⟩)⟩, ⟨some 2, 160, none, fun v _ => v = .int .i64 (n : Int)⟩, ⟨some 3, 161, none, fun v _ => v = .pointer (some ⟨g8, 1, none⟩)⟩, ⟨some 4, 162, none, fun v _ => v = .slice A1 m c1⟩, ⟨some 5, 163, none, fun v W => OwnStrs W wB.heap.size v MT⟩, ⟨some 6, 164, none, fun v _ => v = wordsV⟩, ⟨some 7, 165, none, fun v _ => v = .pointer (some ⟨g5, 2, none⟩)⟩, ⟨some 8, 166, none, fun v _ => v = .int .i64 (m : Int)⟩, ⟨some 9, 167, none, fun v _ => v = .pointer (some ⟨g5, 1, none⟩)⟩, ⟨some 10, 168, none, fun v _ => v = .int .i64 index⟩, ⟨some 11, 169, none, fun v _ => v = .pointer (some ⟨g5, 0, none⟩)⟩, ⟨some 12, 170, none, fun v _ => v = .slice A' m' c'⟩, ⟨some 13, 171, none, fun v W => OwnStrs W wB.heap.size v L3⟩, ⟨some 14, 172, none, fun v _ => v = .pointer (some ⟨g5, 4, none⟩)⟩, ⟨some 15, 173, none, fun v _ => v = .slice (some ⟨gt, 0, none⟩) pn' tc⟩, ⟨some 16, 174, none, fun v W => OwnStrs W wB.heap.size v FT⟩], Lasts xc := AllC.mem ⟨lastsV0 _ _ _ _, lastsV0 _ _ _ _, lastsV0 _ _ _ _, lastsV0 _ _ _ _, lastsV0 _ _ _ _, (fun _ _ _ h b => h.next b), lastsV0 _ _ _ _, lastsV0 _ _ _ _, lastsV0 _ _ _ _, lastsV0 _ _ _ _, lastsV0 _ _ _ _, lastsV0 _ _ _ _, lastsV0 _ _ _ _, (fun _ _ _ h b => h.next b), lastsV0 _ _ _ _, lastsV0 _ _ _ _, (fun _ _ _ h b => h.next b), trivial⟩
        refine wp_region_lastly2 17 _ _ (Inv [158, 159, 160, 161, 162, 163, 164, 165, 166, 167, 168, 169, 170, 171, 172, 173, 174] a0 (fun (_ : Nat → Prop) (W : World) => Below wB.heap.size wB W) (lst St)) (by kernel_rfl) (by kernel_rfl) rfl rfl rfl (fun d hcl hw j hj => ?_) (by kernel_rfl) rfl rfl (Inv.start (Below.refl _ _).drew ⟨nofun, nofun, nofun, nofun, nofun, nofun, nofun, nofun, nofun, nofun, nofun, nofun, nofun, nofun, nofun, nofun, nofun, trivial⟩) ?_ ?_
        · have r5 := hw 5 rfl
          have r16 := hw 16 rfl
          have r6 := hcl 16 _ 6 rfl rfl r16
          have r8 := hcl 16 _ 8 rfl rfl r16
          have r10 := hcl 16 _ 10 rfl rfl r16
          have r13 := hcl 16 _ 13 rfl rfl r16
          have r15 := hcl 16 _ 15 rfl rfl r16
          have r14 := hcl 15 _ 14 rfl rfl r15
          have r12 := hcl 13 _ 12 rfl rfl r13
          have r11 := hcl 12 _ 11 rfl rfl r12
          have r9 := hcl 10 _ 9 rfl rfl r10
          have r7 := hcl 8 _ 7 rfl rfl r8
          have r0 := hcl 5 _ 0 rfl rfl r5
          have r2 := hcl 5 _ 2 rfl rfl r5
          have r4 := hcl 5 _ 4 rfl rfl r5
          have r3 := hcl 4 _ 3 rfl rfl r4
          have r1 := hcl 2 _ 1 rfl rfl r2
          match j, hj with
          | 0, _ => exact r0
          | 1, _ => exact r1
          | 2, _ => exact r2
          | 3, _ => exact r3
          | 4, _ => exact r4
          | 5, _ => exact r5
          | 6, _ => exact r6
          | 7, _ => exact r7
          | 8, _ => exact r8
          | 9, _ => exact r9
          | 10, _ => exact r10
          | 11, _ => exact r11
          | 12, _ => exact r12
          | 13, _ => exact r13
          | 14, _ => exact r14
          | 15, _ => exact r15
          | 16, _ => exact r16
          | j + 17, h => exact absurd h (by omega)
        · clear HA0
          refine ⟨?_, ?_, ?_, ?_, ?_, ?_, ?_, ?_, ?_, ?_, ?_, ?_, ?_, ?_, ?_, ?_, ?_, trivial⟩
          · refine stepB rfl rfl (by decide) (by rw [hz]; decide) rfl rfl (by kernel_rfl) St SG fun d a W hF hG hH hn hcl hw => ?_
            have q19 := (hF.same 19 (by decide)).trans e19
            refine ⟨wordsV, W, ?_, Below.refl _ _, ?_⟩
            · exact exec_load rfl (by rw [q19]; exact BoxW.load (BoxA.next yB hG))
            · rfl
          · refine stepB rfl rfl (by decide) (by rw [hz]; decide) rfl rfl (by kernel_rfl) St SG fun d a W hF hG hH hn hcl hw => ?_
            have q12 := (hF.same 12 (by decide)).trans e12
            exact ⟨.pointer (some ⟨g8, 0, none⟩), W, by clear hF hG hH hn hcl hw; generalize a.eval = ρ at *; go_simp, Below.refl _ _, rfl⟩
          · refine stepB rfl rfl (by decide) (by rw [hz]; decide) rfl rfl (by kernel_rfl) St SG fun d a W hF hG hH hn hcl hw => ?_
            have q159 : a.eval (.tmp 159) = .pointer (some ⟨g8, 0, none⟩) := hH.at_ (i := 1) rfl (hw 1 rfl) id
            have cc0 := cell_kept hG C80.out
            exact ⟨.int .i64 (n : Int), W, by clear hF hG hH hn hcl hw; generalize a.eval = ρ at *; go_simp, Below.refl _ _, rfl⟩
          · refine stepB rfl rfl (by decide) (by rw [hz]; decide) rfl rfl (by kernel_rfl) St SG fun d a W hF hG hH hn hcl hw => ?_
            have q12 := (hF.same 12 (by decide)).trans e12
            exact ⟨.pointer (some ⟨g8, 1, none⟩), W, by clear hF hG hH hn hcl hw; generalize a.eval = ρ at *; go_simp, Below.refl _ _, rfl⟩
          · refine stepB rfl rfl (by decide) (by rw [hz]; decide) rfl rfl (by kernel_rfl) St SG fun d a W hF hG hH hn hcl hw => ?_
            have q161 : a.eval (.tmp 161) = .pointer (some ⟨g8, 1, none⟩) := hH.at_ (i := 3) rfl (hw 3 rfl) id
            have cc0 := cell_kept hG C81.out
            exact ⟨.slice A1 m c1, W, by clear hF hG hH hn hcl hw; generalize a.eval = ρ at *; go_simp, Below.refl _ _, rfl⟩
          · refine stepC rfl rfl (by decide) (by rw [hz]; decide) rfl rfl (by kernel_rfl) St SG fun d a W hF hG hH hn hcl hw => ?_
            have q158 : a.eval (.tmp 158) = wordsV := hH.at_ (i := 0) rfl (hw 0 rfl) id
            have q160 : a.eval (.tmp 160) = .int .i64 (n : Int) := hH.at_ (i := 2) rfl (hw 2 rfl) id
            have q162 : a.eval (.tmp 162) = .slice A1 m c1 := hH.at_ (i := 4) rfl (hw 4 rfl) id
            have qf : a.eval (.func 44) = .func (.func 44) #[] #[] := rfl
            refine ⟨44, #[wordsV, .int .i64 (n : Int), .slice A1 m c1], ?_, ?_⟩
            · clear hF hG hH hn hcl hw
              generalize a.eval = ρ at *
              go_simp
            · refine (HMT.out W A1 c1 (hR1B.below hG)).mono ?_; rintro e W' ⟨v, rfl, hO, b⟩; exact ⟨v, rfl, b, hO.mono (by have := hG.size; omega)⟩
          · refine stepB rfl rfl (by decide) (by rw [hz]; decide) rfl rfl (by kernel_rfl) St SG fun d a W hF hG hH hn hcl hw => ?_
            have q19 := (hF.same 19 (by decide)).trans e19
            refine ⟨wordsV, W, ?_, Below.refl _ _, ?_⟩
            · exact exec_load rfl (by rw [q19]; exact BoxW.load (BoxA.next yB hG))
            · rfl
          · refine stepB rfl rfl (by decide) (by rw [hz]; decide) rfl rfl (by kernel_rfl) St SG fun d a W hF hG hH hn hcl hw => ?_
            have q16 := (hF.same 16 (by decide)).trans e16
            exact ⟨.pointer (some ⟨g5, 2, none⟩), W, by clear hF hG hH hn hcl hw; generalize a.eval = ρ at *; go_simp, Below.refl _ _, rfl⟩
          · refine stepB rfl rfl (by decide) (by rw [hz]; decide) rfl rfl (by kernel_rfl) St SG fun d a W hF hG hH hn hcl hw => ?_
            have q165 : a.eval (.tmp 165) = .pointer (some ⟨g5, 2, none⟩) := hH.at_ (i := 7) rfl (hw 7 rfl) id
            have cc0 := cell_kept hG C52.out
            exact ⟨.int .i64 (m : Int), W, by clear hF hG hH hn hcl hw; generalize a.eval = ρ at *; go_simp, Below.refl _ _, rfl⟩
          · refine stepB rfl rfl (by decide) (by rw [hz]; decide) rfl rfl (by kernel_rfl) St SG fun d a W hF hG hH hn hcl hw => ?_
            have q16 := (hF.same 16 (by decide)).trans e16
            exact ⟨.pointer (some ⟨g5, 1, none⟩), W, by clear hF hG hH hn hcl hw; generalize a.eval = ρ at *; go_simp, Below.refl _ _, rfl⟩
          · refine stepB rfl rfl (by decide) (by rw [hz]; decide) rfl rfl (by kernel_rfl) St SG fun d a W hF hG hH hn hcl hw => ?_
            have q167 : a.eval (.tmp 167) = .pointer (some ⟨g5, 1, none⟩) := hH.at_ (i := 9) rfl (hw 9 rfl) id
            have cc0 := cell_kept hG C51.out
            exact ⟨.int .i64 index, W, by clear hF hG hH hn hcl hw; generalize a.eval = ρ at *; go_simp, Below.refl _ _, rfl⟩
          · refine stepB rfl rfl (by decide) (by rw [hz]; decide) rfl rfl (by kernel_rfl) St SG fun d a W hF hG hH hn hcl hw => ?_
            have q16 := (hF.same 16 (by decide)).trans e16
            exact ⟨.pointer (some ⟨g5, 0, none⟩), W, by clear hF hG hH hn hcl hw; generalize a.eval = ρ at *; go_simp, Below.refl _ _, rfl⟩
          · refine stepB rfl rfl (by decide) (by rw [hz]; decide) rfl rfl (by kernel_rfl) St SG fun d a W hF hG hH hn hcl hw => ?_
            have q169 : a.eval (.tmp 169) = .pointer (some ⟨g5, 0, none⟩) := hH.at_ (i := 11) rfl (hw 11 rfl) id
            have cc0 := cell_kept hG C50.out
            exact ⟨.slice A' m' c', W, by clear hF hG hH hn hcl hw; generalize a.eval = ρ at *; go_simp, Below.refl _ _, rfl⟩
          · refine stepC rfl rfl (by decide) (by rw [hz]; decide) rfl rfl (by kernel_rfl) St SG fun d a W hF hG hH hn hcl hw => ?_
            have q170 : a.eval (.tmp 170) = .slice A' m' c' := hH.at_ (i := 12) rfl (hw 12 rfl) id
            have qf : a.eval (.func 49) = .func (.func 49) #[] #[] := rfl
            refine ⟨49, #[.slice A' m' c'], ?_, ?_⟩
            · clear hF hG hH hn hcl hw
              generalize a.eval = ρ at *
              go_simp
            · refine (HLV3.out W (hR3B.below hG)).mono ?_; rintro e W' ⟨v, rfl, hO, b⟩; exact ⟨v, rfl, b, hO.mono (by have := hG.size; omega)⟩
          · refine stepB rfl rfl (by decide) (by rw [hz]; decide) rfl rfl (by kernel_rfl) St SG fun d a W hF hG hH hn hcl hw => ?_
            have q16 := (hF.same 16 (by decide)).trans e16
            exact ⟨.pointer (some ⟨g5, 4, none⟩), W, by clear hF hG hH hn hcl hw; generalize a.eval = ρ at *; go_simp, Below.refl _ _, rfl⟩
          · refine stepB rfl rfl (by decide) (by rw [hz]; decide) rfl rfl (by kernel_rfl) St SG fun d a W hF hG hH hn hcl hw => ?_
            have q172 : a.eval (.tmp 172) = .pointer (some ⟨g5, 4, none⟩) := hH.at_ (i := 14) rfl (hw 14 rfl) id
            have cc0 := cell_kept hG C54.out
            exact ⟨.slice (some ⟨gt, 0, none⟩) pn' tc, W, by clear hF hG hH hn hcl hw; generalize a.eval = ρ at *; go_simp, Below.refl _ _, rfl⟩
          · refine stepC rfl rfl (by decide) (by rw [hz]; decide) rfl rfl (by kernel_rfl) St SG fun d a W hF hG hH hn hcl hw => ?_
            have q164 : a.eval (.tmp 164) = wordsV := hH.at_ (i := 6) rfl (hw 6 rfl) id
            have q166 : a.eval (.tmp 166) = .int .i64 (m : Int) := hH.at_ (i := 8) rfl (hw 8 rfl) id
            have q168 : a.eval (.tmp 168) = .int .i64 index := hH.at_ (i := 10) rfl (hw 10 rfl) id
            have q171 : OwnStrs W wB.heap.size (a.eval (.tmp 171)) L3 := hH.at_ (i := 13) rfl (hw 13 rfl) id
            have q173 : a.eval (.tmp 173) = .slice (some ⟨gt, 0, none⟩) pn' tc := hH.at_ (i := 15) rfl (hw 15 rfl) id
            have qf : a.eval (.func 45) = .func (.func 45) #[] #[] := rfl
            obtain ⟨A9, c9, q171, hc9, hS9⟩ := q171.toStrs
            rw [HL3.out] at q171 hc9
            refine ⟨45, #[wordsV, .int .i64 (m : Int), .int .i64 index, .slice A9 m' c9, .slice (some ⟨gt, 0, none⟩) pn' tc], ?_, ?_⟩
            · clear hF hG hH hn hcl hw
              generalize a.eval = ρ at *
              go_simp
            · refine (HFT.out A9 c9 W hc9 hS9 (hsB.next hG)).mono ?_; rintro e W' ⟨v, rfl, hO, b⟩; exact ⟨v, rfl, b, hO.mono (by have := hG.size; omega)⟩
        · intro d a W ⟨hF, hB, hH⟩ hall
          have k163 : OwnStrs W wB.heap.size (a.eval (.tmp 163)) MT := hH.at_ (i := 5) rfl (hall 5 (by decide)) id
          have k174 : OwnStrs W wB.heap.size (a.eval (.tmp 174)) FT := hH.at_ (i := 16) rfl (hall 16 (by decide)) id
          clear hH hall
          rw [hF.shape (by rw [hz]; decide)]
          clear hF
          simp only [List.foldl]
          generalize a.eval (.tmp 158) = z158, a.eval (.tmp 159) = z159, a.eval (.tmp 160) = z160, a.eval (.tmp 161) = z161, a.eval (.tmp 162) = z162, a.eval (.tmp 163) = z163, a.eval (.tmp 164) = z164, a.eval (.tmp 165) = z165, a.eval (.tmp 166) = z166, a.eval (.tmp 167) = z167, a.eval (.tmp 168) = z168, a.eval (.tmp 169) = z169, a.eval (.tmp 170) = z170, a.eval (.tmp 171) = z171, a.eval (.tmp 172) = z172, a.eval (.tmp 173) = z173, a.eval (.tmp 174) = z174 at *
          rw [HA0.out]
          simp only [Act.put, List.setIfInBounds_toArray, List.set_cons_zero, List.set_cons_succ]
          clear hz HA0 St SG e16 e12 e19
          clear a a0
          refine wp_append_strs (.tmp 163) (.tmp 174) rfl wB.heap.size wB.heap.size _ _ MT FT rfl rfl k163 k174 LM LF hB.size (fun z23 wC hOC bC => ?_)
          refine wp_yields (v := z23) (by rfl) ?_
          dsimp only [Act.put]
          have BC := hB.trans bC
          have sC := BC.size
          have yC : BoxW wC g18 := BoxA.next yB BC
          have u19 : BoxH wC g19 h := BoxA.next y19 BC
          have u5 := v5.next BC
          have u8 := v8.next BC
          have hkC := hkB.next BC
          have BB2 := Below.on BB1 BC
          have hbz : 0 < wB.heap.size := hkB.1
          clear C50 C51 C52 C53 C54 C80 C81
          have C50 := Lib.hid u5.c0
          have C51 := Lib.hid u5.c1
          have C52 := Lib.hid u5.c2
          have C53 := Lib.hid u5.c3
          have C54 := Lib.hid u5.c4
          have bs := BB1.size
          obtain ⟨bb, hbb⟩ : ∃ k, wB.heap.size = k := ⟨_, rfl⟩
          rw [hbb] at bs sC hOC l5 l8 l18 l19 hbz
          have BS := Lib.hid bs
          clear bs hbb
          clear k163 k174 hB bC BC yB y19 v5 v8 u8 hkB hsB hR1B hR3B BB1 HMT HFT
          go_upto_region 24 with (fail)
          refine wp_name fun a0 ha0 => ?_
          have e16 : a0.eval (.tmp 16) = .pointer (some ⟨g5, 0, none⟩) := by rw [ha0]; rfl
          have e19 : a0.eval (.tmp 19) = .pointer (some ⟨g18, 0, none⟩) := by rw [ha0]; rfl
          have e23 : a0.eval (.tmp 23) = z23 := by rw [ha0]; rfl
          have e20 : a0.eval (.tmp 20) = .pointer (some ⟨g19, 0, none⟩) := by rw [ha0]; rfl
          have hz : a0.tmps.size = 191 := by rw [ha0]; rfl
          have HA0 := Lib.hid ha0
          clear ha0
          have SG : ∀ (d d' : Nat → Prop) (W W' : World), (GRow bb 10 wC z23 (MT ++ FT)) d W → (∀ j, d j → d' j) → Below W.heap.size W W' → (GRow bb 10 wC z23 (MT ++ FT)) d' W' := fun _ _ _ _ h _hm b => GRow.next sC h _hm b
          have St : ∀ xc ∈ [(⟨some 0, 176, none, fun v _ => v = wordsV⟩ : Cl), ⟨some 1, 177, none, fun v _ => v = z23⟩, ⟨some 2, 178, none, fun v _ => v = wordsV⟩, ⟨some 3, 179, none, fun v _ => v = .pointer (some ⟨g5, 3, none⟩)⟩, ⟨some 4, 180, none, fun v _ => v = .int .i64 n⟩, ⟨some 5, 181, none, fun v _ => v = .pointer (some ⟨g5, 2, none⟩)⟩, ⟨some 6, 182, none, fun v _ => v = .int .i64 (m : Int)⟩, ⟨some 7, 183, none, fun v _ => v = hashV h⟩, ⟨some 8, 184, none, fun v _ => v = .string ⟨zt.toArray⟩⟩, ⟨some 9, 185, some 10, fun v W => OwnStrs W wC.heap.size v [zt]⟩, ⟨some 10, 186, none, fun v W => OwnStrs W bb v (MT ++ FT ++ [zt])⟩, ⟨some 11, 187, none, fun v _ => v = .bool true⟩, ⟨some 12, 188, none, fun v _ => v = .bool true⟩, ⟨some 13, 189, none, fun v _ => v = .bool true⟩, ⟨some 14, 190, none, fun v _ => v = .bool true⟩, ⟨some 15, 10, none, fun v _ => v = .bool true⟩], Lasts xc := AllC.mem ⟨lastsV0 _ _ _ _, lastsV0 _ _ _ _, lastsV0 _ _ _ _, lastsV0 _ _ _ _, lastsV0 _ _ _ _, lastsV0 _ _ _ _, lastsV0 _ _ _ _, lastsV0 _ _ _ _, lastsV0 _ _ _ _, (fun _ _ _ h b => h.next b), (fun _ _ _ h b => h.next b), lastsV0 _ _ _ _, lastsV0 _ _ _ _, lastsV0 _ _ _ _, lastsV0 _ _ _ _, lastsV0 _ _ _ _, trivial⟩
          refine wp_region_guards (Inv [176, 177, 178, 179, 180, 181, 182, 183, 184, 185, 186, 187, 188, 189, 190, 10] a0 (GRow bb 10 wC z23 (MT ++ FT)) (lst St)) (by kernel_rfl) (by kernel_rfl) (Inv.start ⟨⟨(Below.refl _ _).drew, Nat.le_refl _⟩, fun _ => hOC.next ((Below.refl _ _).drew)⟩ ⟨nofun, nofun, nofun, nofun, nofun, nofun, nofun, nofun, nofun, nofun, nofun, nofun, nofun, nofun, nofun, nofun, trivial⟩) ?_ ?_
          · clear HA0
            refine ⟨?_, ?_, ?_, ?_, ?_, ?_, ?_, ?_, ?_, ?_, ?_, ?_, ?_, ?_, ?_, ?_, trivial⟩
            · refine StepG.of ?_
              refine stepB rfl rfl (by decide) (by rw [hz]; decide) rfl rfl (by kernel_rfl) St SG fun d a W hF hG hH hn hcl hw => ?_
              have q19 := (hF.same 19 (by decide)).trans e19
              refine ⟨wordsV, W, ?_, Below.refl _ _, ?_⟩
              · exact exec_load rfl (by rw [q19]; exact BoxW.load (BoxA.low yC (by omega) hG.1.1))
              · rfl
            · refine StepG.of ?_
              refine stepB rfl rfl (by decide) (by rw [hz]; decide) rfl rfl (by kernel_rfl) St SG fun d a W hF hG hH hn hcl hw => ?_
              have q23 := (hF.same 23 (by decide)).trans e23
              exact ⟨z23, W, by clear hF hG hH hn hcl hw; generalize a.eval = ρ at *; go_simp, Below.refl _ _, rfl⟩
            · refine StepG.of ?_
              refine stepB rfl rfl (by decide) (by rw [hz]; decide) rfl rfl (by kernel_rfl) St SG fun d a W hF hG hH hn hcl hw => ?_
              have q19 := (hF.same 19 (by decide)).trans e19
              refine ⟨wordsV, W, ?_, Below.refl _ _, ?_⟩
              · exact exec_load rfl (by rw [q19]; exact BoxW.load (BoxA.low yC (by omega) hG.1.1))
              · rfl
            · refine StepG.of ?_
              refine stepB rfl rfl (by decide) (by rw [hz]; decide) rfl rfl (by kernel_rfl) St SG fun d a W hF hG hH hn hcl hw => ?_
              have q16 := (hF.same 16 (by decide)).trans e16
              exact ⟨.pointer (some ⟨g5, 3, none⟩), W, by clear hF hG hH hn hcl hw; generalize a.eval = ρ at *; go_simp, Below.refl _ _, rfl⟩
            · refine StepG.of ?_
              refine stepB rfl rfl (by decide) (by rw [hz]; decide) rfl rfl (by kernel_rfl) St SG fun d a W hF hG hH hn hcl hw => ?_
              have q179 : a.eval (.tmp 179) = .pointer (some ⟨g5, 3, none⟩) := hH.at_ (i := 3) rfl (hw 3 rfl) id
              have cc0 := cell_low C53.out (by show _ < _; omega) hG.1.1
              exact ⟨.int .i64 n, W, by clear hF hG hH hn hcl hw; generalize a.eval = ρ at *; go_simp, Below.refl _ _, rfl⟩
            · refine StepG.of ?_
              refine stepB rfl rfl (by decide) (by rw [hz]; decide) rfl rfl (by kernel_rfl) St SG fun d a W hF hG hH hn hcl hw => ?_
              have q16 := (hF.same 16 (by decide)).trans e16
              exact ⟨.pointer (some ⟨g5, 2, none⟩), W, by clear hF hG hH hn hcl hw; generalize a.eval = ρ at *; go_simp, Below.refl _ _, rfl⟩
            · refine StepG.of ?_
              refine stepB rfl rfl (by decide) (by rw [hz]; decide) rfl rfl (by kernel_rfl) St SG fun d a W hF hG hH hn hcl hw => ?_
              have q181 : a.eval (.tmp 181) = .pointer (some ⟨g5, 2, none⟩) := hH.at_ (i := 5) rfl (hw 5 rfl) id
              have cc0 := cell_low C52.out (by show _ < _; omega) hG.1.1
              exact ⟨.int .i64 (m : Int), W, by clear hF hG hH hn hcl hw; generalize a.eval = ρ at *; go_simp, Below.refl _ _, rfl⟩
            · refine StepG.of ?_
              refine stepB rfl rfl (by decide) (by rw [hz]; decide) rfl rfl (by kernel_rfl) St SG fun d a W hF hG hH hn hcl hw => ?_
              have q20 := (hF.same 20 (by decide)).trans e20
              refine ⟨hashV h, W, ?_, Below.refl _ _, ?_⟩
              · exact exec_load rfl (by rw [q20]; exact BoxH.load_ (BoxA.low u19 (by omega) hG.1.1) HH.out)
              · rfl
            · refine StepG.of ?_
              refine stepC rfl rfl (by decide) (by rw [hz]; decide) rfl rfl (by kernel_rfl) St SG fun d a W hF hG hH hn hcl hw => ?_
              have q178 : a.eval (.tmp 178) = wordsV := hH.at_ (i := 2) rfl (hw 2 rfl) id
              have q180 : a.eval (.tmp 180) = .int .i64 n := hH.at_ (i := 4) rfl (hw 4 rfl) id
              have q182 : a.eval (.tmp 182) = .int .i64 (m : Int) := hH.at_ (i := 6) rfl (hw 6 rfl) id
              have q183 : a.eval (.tmp 183) = hashV h := hH.at_ (i := 7) rfl (hw 7 rfl) id
              have qf : a.eval (.func 47) = .func (.func 47) #[] #[] := rfl
              refine ⟨47, #[wordsV, .int .i64 n, .int .i64 (m : Int), hashV h], ?_, ?_⟩
              · clear hF hG hH hn hcl hw
                generalize a.eval = ρ at *
                go_simp
              · refine (HMX.out W).mono ?_; rintro e W' ⟨rfl, b⟩; exact ⟨_, rfl, b, rfl⟩
            · refine StepG.of ?_
              refine stepB rfl rfl (by decide) (by rw [hz]; decide) rfl rfl (by kernel_rfl) St SG fun d a W hF hG hH hn hcl hw => ?_
              have q184 : a.eval (.tmp 184) = .string ⟨zt.toArray⟩ := hH.at_ (i := 8) rfl (hw 8 rfl) id
              refine ⟨.slice (some ⟨W.heap.size, 0, none⟩) 1 1, W.alloc (.cells #[.string ⟨zt.toArray⟩] 9), ?_, Below.new1 W _, ?_⟩
              · clear hF hG hH hn hcl hw
                generalize a.eval = ρ at *
                go_simp
              · exact OwnStrs.one W _ _ hG.1.2
            · refine StepG.of ?_
              refine stepA3 rfl rfl (by decide) (by rw [hz]; decide) rfl rfl (by kernel_rfl) bb (AllC.mem ⟨.inr (.inr (.inl fun _ _ _ h _ => h)), .inr (.inr (.inl fun _ _ _ h _ => h)), .inr (.inr (.inl fun _ _ _ h _ => h)), .inr (.inr (.inl fun _ _ _ h _ => h)), .inr (.inr (.inl fun _ _ _ h _ => h)), .inr (.inr (.inl fun _ _ _ h _ => h)), .inr (.inr (.inl fun _ _ _ h _ => h)), .inr (.inr (.inl fun _ _ _ h _ => h)), .inr (.inr (.inl fun _ _ _ h _ => h)), .inr (.inl rfl), .inl rfl, .inr (.inr (.inl fun _ _ _ h _ => h)), .inr (.inr (.inl fun _ _ _ h _ => h)), .inr (.inr (.inl fun _ _ _ h _ => h)), .inr (.inr (.inl fun _ _ _ h _ => h)), .inr (.inr (.inl fun _ _ _ h _ => h)), trivial⟩) (fun _ _ _ _ h hm hk b => h.done hm hk b) fun d a W hF hG hH hn hcl hw => ?_
              have q177 : a.eval (.tmp 177) = z23 := hH.at_ (i := 1) rfl (hw 1 rfl) id
              have q185 : OwnStrs W wC.heap.size (a.eval (.tmp 185)) [zt] := hH.at_ (i := 9) rfl (hw 9 rfl) hn
              have hO := hG.2 hn
              exact exec_append_strs2 (.tmp 177) (.tmp 185) rfl bb wC.heap.size W _ _ (MT ++ FT) [zt] rfl rfl (by rw [q177]; exact hO) q185 LMF (by simp) (by have := hG.1.2; omega)
            · refine StepG.of ?_
              refine stepC rfl rfl (by decide) (by rw [hz]; decide) rfl rfl (by kernel_rfl) St SG fun d a W hF hG hH hn hcl hw => ?_
              have q176 : a.eval (.tmp 176) = wordsV := hH.at_ (i := 0) rfl (hw 0 rfl) id
              have q186 : OwnStrs W bb (a.eval (.tmp 186)) (MT ++ FT ++ [zt]) := hH.at_ (i := 10) rfl (hw 10 rfl) id
              have qf : a.eval (.func 46) = .func (.func 46) #[] #[] := rfl
              obtain ⟨A9, c9, q186, hS9, _⟩ := q186.slice
              refine ⟨46, #[wordsV, .slice A9 (MT ++ FT ++ [zt]).length c9], ?_, ?_⟩
              · clear hF hG hH hn hcl hw
                generalize a.eval = ρ at *
                go_simp
              · refine (HCC.out A9 c9 W hS9).mono ?_; rintro e W' ⟨rfl, b⟩; exact ⟨_, rfl, b, rfl⟩
            · refine StepG.of ?_
              refine stepB rfl rfl (by decide) (by rw [hz]; decide) rfl rfl (by kernel_rfl) St SG fun d a W hF hG hH hn hcl hw => ?_
              have q187 : a.eval (.tmp 187) = .bool true := hH.at_ (i := 11) rfl (hw 11 rfl) id
              exact ⟨.bool true, W, by clear hF hG hH hn hcl hw; generalize a.eval = ρ at *; go_simp, Below.refl _ _, rfl⟩
            · refine StepG.on rfl (fun d a W hI hw => yielded_of rfl (hI.2.2.at_ (i := 12) rfl (hw 12 rfl) id)) ?_
              refine stepC rfl rfl (by decide) (by rw [hz]; decide) rfl rfl (by kernel_rfl) St SG fun d a W hF hG hH hn hcl hw => ?_
              have qf : a.eval (.func 17) = .func (.func 17) #[] #[] := rfl
              refine ⟨17, #[], ?_, ?_⟩
              · clear hF hG hH hn hcl hw
                generalize a.eval = ρ at *
                go_simp
              · refine (HA.out W (hkC.low hbz hG.1.1)).mono ?_; rintro e W' ⟨rfl, b⟩; exact ⟨_, rfl, b, rfl⟩
            · refine StepG.of ?_
              refine stepB rfl rfl (by decide) (by rw [hz]; decide) rfl rfl (by kernel_rfl) St SG fun d a W hF hG hH hn hcl hw => ?_
              have q188 : a.eval (.tmp 188) = .bool true := hH.at_ (i := 12) rfl (hw 12 rfl) id
              have q189 : a.eval (.tmp 189) = .bool true := hH.at_ (i := 13) rfl (hw 13 rfl) id
              have qk1 : a.eval (.const (.bool false)) = .bool false := rfl
              exact ⟨.bool true, W, by clear hF hG hH hn hcl hw; generalize a.eval = ρ at *; go_simp, Below.refl _ _, rfl⟩
            · refine StepG.of ?_
              refine stepB rfl rfl (by decide) (by rw [hz]; decide) rfl rfl (by kernel_rfl) St SG fun d a W hF hG hH hn hcl hw => ?_
              have q190 : a.eval (.tmp 190) = .bool true := hH.at_ (i := 14) rfl (hw 14 rfl) id
              exact ⟨.bool true, W, by clear hF hG hH hn hcl hw; generalize a.eval = ρ at *; go_simp, Below.refl _ _, rfl⟩
          · intro d a W ⟨hF, hB, hH⟩ hall
            have k10 : a.eval (.tmp 10) = .bool true := hH.at_ (i := 15) rfl (hall 15 (by decide)) id
            clear hH hall
            rw [hF.shape (by rw [hz]; decide)]
            clear hF
            simp only [List.foldl]
            generalize a.eval (.tmp 176) = z176, a.eval (.tmp 177) = z177, a.eval (.tmp 178) = z178, a.eval (.tmp 179) = z179, a.eval (.tmp 180) = z180, a.eval (.tmp 181) = z181, a.eval (.tmp 182) = z182, a.eval (.tmp 183) = z183, a.eval (.tmp 184) = z184, a.eval (.tmp 185) = z185, a.eval (.tmp 186) = z186, a.eval (.tmp 187) = z187, a.eval (.tmp 188) = z188, a.eval (.tmp 189) = z189, a.eval (.tmp 190) = z190, a.eval (.tmp 10) = z10 at *
            subst k10
            rw [HA0.out]
            simp only [Act.put, List.setIfInBounds_toArray, List.set_cons_zero, List.set_cons_succ]
            clear hz HA0 St SG e16 e19 e23 e20
            clear a a0
            go_wp2_with (fail)
            go_ret
            exact ⟨rfl, Below.trans BB2 (hB.1.1.mono BS.out)⟩
theorem proofLoses_any (ts : List UInt8) (lo hi at_ z : Int) (A : Option Addr) (c : Nat) (w : World) (hT : Tags w A ts) (hk : Kon w) (hat : at_ ≤ 9223372036854775807) (z0 : 0 ≤ z) (z1 : z ≤ 255) :
    Calls Tryd.prog 13 #[.slice A ts.length c, .int .i64 lo, .int .i64 hi, .int .i64 at_, .int .u8 z] w fun e w' => e = .returned (.bool true) ∧ Below w.heap.size w w' := by
  obtain ⟨b, rfl⟩ : ∃ b : UInt8, z = (b.toNat : Int) := ⟨z.toNat.toUInt8, by
    have : (z.toNat.toUInt8).toNat = z.toNat % 256 := rfl
    rw [this]; omega⟩
  by_cases hn : ts.length = 0 ∨ 60 < ts.length
  · exact loses_none A lo hi at_ b _ c w hk hn
  have h1 : 1 ≤ ts.length := by omega
  have h60 : ts.length ≤ 60 := by omega
  by_cases hr : 0 ≤ lo ∧ lo < hi ∧ hi ≤ ts.length ∧ 0 ≤ at_
  · obtain ⟨l0, l1, l2, l3⟩ := hr
    obtain ⟨q, rfl⟩ : ∃ q : Nat, at_ = q := ⟨at_.toNat, by omega⟩
    by_cases hv : (outO ts lo hi).length = 0
    · exact loses_short ts A lo hi q b _ c w rfl h1 h60 hT hk l0 l1 l2 hat hv
    have hv1 : 1 ≤ (outO ts lo hi).length := by omega
    by_cases hb : b = 0
    · exact loses_calm ts A lo hi q b _ c w rfl h1 h60 hT hk l0 l1 l2 hat hv1 (.inl hb)
    cases e : acceptM (rootO ts) lo hi (cutO ts lo hi) (fromM lo (ofR ts) : Nat) (ofR ts).length ts.length (turnO (outO ts lo hi) q b) with
    | false => exact loses_calm ts A lo hi q b _ c w rfl h1 h60 hT hk l0 l1 l2 hat hv1 (.inr ⟨hb, e⟩)
    | true =>
      have h32 := outO_h32 ts lo hi
      obtain ⟨_, _, _, _, h, hh, hf, hcl⟩ := exact_other h1 h60 (turnO_h32 h32 q b) e (fun ⟨_, _, _, _, h⟩ => turnO_ne h32 hv1 q hb h)
      rw [Int.toNat_natCast] at hf hcl
      rw [turnO_length] at hf
      exact loses_clash ts A lo hi q b _ c w rfl h1 h60 hT hk l0 l1 l2 hat hv1 hb e h hh hf hcl
  · exact loses_bad ts A lo hi at_ b _ c w rfl h1 h60 hT hk (by omega)
end Go.Proofs.YtcocengpekndjaaDoor
