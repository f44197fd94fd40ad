/- The walk over the reference's MapRoot. -/
import Derived.Test.YtcocengpekndjaaDoorPrTree
import Derived.Test.YtcocengpekndjaaDoorPrRLeaves
import Derived.Test.YtcocengpekndjaaDoorPrLeaf
import Derived.Test.YtcocengpekndjaaDoorPrRange
import Derived.Test.YtcocengpekndjaaDoorPrFresh
namespace Go.Proofs.YtcocengpekndjaaDoor
open Go.RowKit
set_option maxRecDepth 100000 in
set_option maxHeartbeats 4000000 in
theorem rmaproot_any (T : Int) (R : List Rn) (A : Option Addr) (m c : Nat) (w : World) (hm : R.length = m) (h0 : 0 ≤ T) (h1 : T < 9223372036854775808) (hm5 : m ≤ 5000) (hR : Runs w A R) (hf : ∀ x ∈ R, Fit x) : Calls Tryd.prog 39 #[wordsV, .agg #[.int .i64 T, .slice A m c]] w fun e w' => e = .returned (hashV (sealM T m (topM sha (R.map lvM)))) ∧ Below w.heap.size w w' := by
  have hlv := fun W (h : Runs W A R) => rleaves_any R A m c W hm h hf (by omega)
  have htl : (R.map textM).length = m := by rw [List.length_map, hm]
  have htr := fun A9 c9 W hc (h : Strs W A9 (R.map textM)) => rtree_any (R.map textM) A9 m c9 W htl hm5 hc (fun s hs => by obtain ⟨x, _, rfl⟩ := List.mem_map.1 hs; rw [textM_length]; omega) h
  have e := tree_text R
  rw [e] at htr
  have hx : (topM sha (R.map lvM)).length = 32 := by rw [← e]; exact treeM_length sha sha_length _
  have hmp := fun W => rmap_any T m (topM sha (R.map lvM)) W h0 h1 (by omega) (by omega) hx
  have hy : (sealM T m (topM sha (R.map lvM))).length = 32 := sha_length _
  generalize sealM T m (topM sha (R.map lvM)) = y at *
  generalize topM sha (R.map lvM) = x at *
  generalize R.map textM = L at *
  have HLV := Lib.hid hlv
  have HTR := Lib.hid htr
  have HMP := Lib.hid hmp
  have HY := Lib.hid hy
  have HL := Lib.hid htl
  obtain ⟨w0, hW0⟩ : ∃ w0, World.alloc (World.alloc (w.alloc (.cells (ints .u32 wordsL) 27)) (.cells #[.int .i64 T, .slice A m c] 69)) (.cells (ints .u8 (List.replicate 32 0)) 30) = w0 := ⟨_, rfl⟩
  have B0 : Below w.heap.size w w0 := hW0 ▸ Below.on (Below.on (Below.new1 _ _) (Below.new1 _ _)) (Below.new1 _ _)
  have y2 : BoxW w0 w.heap.size := hW0 ▸ ((BoxW.new w).next (Below.new1 _ _)).next (Below.new1 _ _)
  have x3 : BoxM w0 (w.heap.size + 1) T (.slice A m c) := by
    have := (BoxM.new (w.alloc (.cells (ints .u32 wordsL) 27)) T (.slice A m c)).next (Below.new1 _ (.cells (ints .u8 (List.replicate 32 0)) 30))
    rw [World.size_alloc] at this; exact hW0 ▸ this
  have x4 : BoxA w0 (w.heap.size + 1 + 1) 30 .u8 (List.replicate 32 0) := by
    have := BoxA.new ((w.alloc (.cells (ints .u32 wordsL) 27)).alloc (.cells #[.int .i64 T, .slice A m c] 69)) 30 .u8 (List.replicate 32 0) _ rfl
    rw [World.size_alloc, World.size_alloc] at this; exact hW0 ▸ this
  have c30 := x3.c0
  have c31 := x3.c1
  have hR0 := hR.below B0
  have HW := Lib.hid hW0
  clear hlv htr hmp hy htl e hx hW0 hR hf hm
  go_enter Tryd.func39, Tryd.ntmps39
  go_upto_region 1 with (fail)
  change Code.wp _ _ _ _ (World.alloc (World.alloc (w.alloc (.cells (ints .u32 wordsL) 27)) (.cells #[.int .i64 T, .slice A m c] 69)) (.cells (ints .u8 (List.replicate 32 0)) 30))
  rw [HW.out]
  clear HW
  refine wp_name fun a0 ha0 => ?_
  have e2 : a0.eval (.tmp 2) = .pointer (some ⟨w.heap.size, 0, none⟩) := by rw [ha0]; rfl
  have e3 : a0.eval (.tmp 3) = .pointer (some ⟨w.heap.size + 1, 0, none⟩) := by rw [ha0]; rfl
  have e4 : a0.eval (.tmp 4) = .pointer (some ⟨w.heap.size + 1 + 1, 0, none⟩) := by rw [ha0]; rfl
  have hz : a0.tmps.size = 17 := by rw [ha0]; rfl
  have HA0 := Lib.hid ha0
  clear ha0
  have SG : ∀ (d d' : Nat → Prop) (W W' : World), (fun (_ : Nat → Prop) (W : World) => Below w0.heap.size w0 W) d W → (∀ j, d j → d' j) → Below W.heap.size W W' → (fun (_ : Nat → Prop) (W : World) => Below w0.heap.size w0 W) d' W' := fun _ _ _ _ h _ b => Below.next h b
  refine wp_region_lastlyR 12 _ (Inv [5, 6, 7, 8, 9, 10, 11, 12, 13, 14, 15, 16] a0 (fun (_ : Nat → Prop) (W : World) => Below w0.heap.size w0 W) [(⟨some 0, 5, none, fun v _ => v = wordsV⟩ : Cl), ⟨some 1, 6, none, fun v _ => v = .pointer (some ⟨w.heap.size + 1, 0, none⟩)⟩, ⟨some 2, 7, none, fun v _ => v = .int .i64 T⟩, ⟨some 3, 8, none, fun v _ => v = .pointer (some ⟨w.heap.size + 1, 1, none⟩)⟩, ⟨some 4, 9, none, fun v _ => v = .slice A m c⟩, ⟨some 5, 10, none, fun v _ => v = .int .i64 (m : Int)⟩, ⟨some 6, 11, none, fun v _ => v = wordsV⟩, ⟨some 7, 12, none, fun v _ => v = .pointer (some ⟨w.heap.size + 1, 1, none⟩)⟩, ⟨some 8, 13, none, fun v _ => v = .slice A m c⟩, ⟨some 9, 14, none, fun v W => OwnStrs W w0.heap.size v L⟩, ⟨some 10, 15, none, fun v _ => v = hashV x⟩, ⟨some 11, 16, none, fun v _ => v = hashV y⟩]) (by kernel_rfl) (by kernel_rfl) rfl rfl (fun d hcl hw j hj => ?_) rfl (Inv.start (Below.refl _ _).drew ⟨nofun, nofun, nofun, nofun, nofun, nofun, nofun, nofun, nofun, nofun, nofun, nofun, trivial⟩) ?_ ?_
  · have r11 := hw 11 rfl
    have r0 := hcl 11 _ 0 rfl rfl r11
    have r2 := hcl 11 _ 2 rfl rfl r11
    have r5 := hcl 11 _ 5 rfl rfl r11
    have r10 := hcl 11 _ 10 rfl rfl r11
    have r6 := hcl 10 _ 6 rfl rfl r10
    have r9 := hcl 10 _ 9 rfl rfl r10
    have r8 := hcl 9 _ 8 rfl rfl r9
    have r7 := hcl 8 _ 7 rfl rfl r8
    have r4 := hcl 5 _ 4 rfl rfl r5
    have r3 := hcl 4 _ 3 rfl rfl r4
    have r1 := hcl 2 _ 1 rfl rfl r2
    match j, hj with
    | 0, _ => exact r0
    | 1, _ => exact r1
    | 2, _ => exact r2
    | 3, _ => exact r3
    | 4, _ => exact r4
    | 5, _ => exact r5
    | 6, _ => exact r6
    | 7, _ => exact r7
    | 8, _ => exact r8
    | 9, _ => exact r9
    | 10, _ => exact r10
    | 11, _ => exact r11
    | j + 12, h => exact absurd h (by omega)
  · have St : ∀ xc ∈ [(⟨some 0, 5, none, fun v _ => v = wordsV⟩ : Cl), ⟨some 1, 6, none, fun v _ => v = .pointer (some ⟨w.heap.size + 1, 0, none⟩)⟩, ⟨some 2, 7, none, fun v _ => v = .int .i64 T⟩, ⟨some 3, 8, none, fun v _ => v = .pointer (some ⟨w.heap.size + 1, 1, none⟩)⟩, ⟨some 4, 9, none, fun v _ => v = .slice A m c⟩, ⟨some 5, 10, none, fun v _ => v = .int .i64 (m : Int)⟩, ⟨some 6, 11, none, fun v _ => v = wordsV⟩, ⟨some 7, 12, none, fun v _ => v = .pointer (some ⟨w.heap.size + 1, 1, none⟩)⟩, ⟨some 8, 13, none, fun v _ => v = .slice A m c⟩, ⟨some 9, 14, none, fun v W => OwnStrs W w0.heap.size v L⟩, ⟨some 10, 15, none, fun v _ => v = hashV x⟩, ⟨some 11, 16, none, fun v _ => v = hashV y⟩], Lasts xc := AllC.mem ⟨lastsV0 _ _ _ _, lastsV0 _ _ _ _, lastsV0 _ _ _ _, lastsV0 _ _ _ _, lastsV0 _ _ _ _, lastsV0 _ _ _ _, lastsV0 _ _ _ _, lastsV0 _ _ _ _, lastsV0 _ _ _ _, (fun _ _ _ h b => h.next b), lastsV0 _ _ _ _, lastsV0 _ _ _ _, trivial⟩
    clear HA0
    refine ⟨?_, ?_, ?_, ?_, ?_, ?_, ?_, ?_, ?_, ?_, ?_, ?_, trivial⟩
    · refine stepB rfl rfl (by decide) (by rw [hz]; decide) rfl rfl (by kernel_rfl) St SG fun d a W hF hG hH hn hcl hw => ?_
      have q2 := (hF.same 2 (by decide)).trans e2
      refine ⟨wordsV, W, ?_, Below.refl _ _, ?_⟩
      · exact exec_load rfl (by rw [q2]; exact BoxW.load (BoxA.next y2 hG))
      · rfl
    · refine stepB rfl rfl (by decide) (by rw [hz]; decide) rfl rfl (by kernel_rfl) St SG fun d a W hF hG hH hn hcl hw => ?_
      have q3 := (hF.same 3 (by decide)).trans e3
      exact ⟨.pointer (some ⟨w.heap.size + 1, 0, none⟩), W, by clear hF hG hH hn hcl hw; generalize a.eval = ρ at *; go_simp, Below.refl _ _, rfl⟩
    · refine stepB rfl rfl (by decide) (by rw [hz]; decide) rfl rfl (by kernel_rfl) St SG fun d a W hF hG hH hn hcl hw => ?_
      have q6 : a.eval (.tmp 6) = .pointer (some ⟨w.heap.size + 1, 0, none⟩) := hH.at_ (i := 1) rfl (hw 1 rfl) id
      have cc := cell_kept hG c30
      clear c30 c31
      exact ⟨.int .i64 T, W, by clear hF hG hH hn hcl hw; generalize a.eval = ρ at *; go_simp, Below.refl _ _, rfl⟩
    · refine stepB rfl rfl (by decide) (by rw [hz]; decide) rfl rfl (by kernel_rfl) St SG fun d a W hF hG hH hn hcl hw => ?_
      have q3 := (hF.same 3 (by decide)).trans e3
      exact ⟨.pointer (some ⟨w.heap.size + 1, 1, none⟩), W, by clear hF hG hH hn hcl hw; generalize a.eval = ρ at *; go_simp, Below.refl _ _, rfl⟩
    · refine stepB rfl rfl (by decide) (by rw [hz]; decide) rfl rfl (by kernel_rfl) St SG fun d a W hF hG hH hn hcl hw => ?_
      have q8 : a.eval (.tmp 8) = .pointer (some ⟨w.heap.size + 1, 1, none⟩) := hH.at_ (i := 3) rfl (hw 3 rfl) id
      have cc := cell_kept hG c31
      clear c30 c31
      exact ⟨.slice A m c, W, by clear hF hG hH hn hcl hw; generalize a.eval = ρ at *; go_simp, Below.refl _ _, rfl⟩
    · refine stepB rfl rfl (by decide) (by rw [hz]; decide) rfl rfl (by kernel_rfl) St SG fun d a W hF hG hH hn hcl hw => ?_
      have q9 : a.eval (.tmp 9) = .slice A m c := hH.at_ (i := 4) rfl (hw 4 rfl) id
      exact ⟨.int .i64 (m : Int), W, by clear hF hG hH hn hcl hw; generalize a.eval = ρ at *; go_simp, Below.refl _ _, rfl⟩
    · refine stepB rfl rfl (by decide) (by rw [hz]; decide) rfl rfl (by kernel_rfl) St SG fun d a W hF hG hH hn hcl hw => ?_
      have q2 := (hF.same 2 (by decide)).trans e2
      refine ⟨wordsV, W, ?_, Below.refl _ _, ?_⟩
      · exact exec_load rfl (by rw [q2]; exact BoxW.load (BoxA.next y2 hG))
      · rfl
    · refine stepB rfl rfl (by decide) (by rw [hz]; decide) rfl rfl (by kernel_rfl) St SG fun d a W hF hG hH hn hcl hw => ?_
      have q3 := (hF.same 3 (by decide)).trans e3
      exact ⟨.pointer (some ⟨w.heap.size + 1, 1, none⟩), W, by clear hF hG hH hn hcl hw; generalize a.eval = ρ at *; go_simp, Below.refl _ _, rfl⟩
    · refine stepB rfl rfl (by decide) (by rw [hz]; decide) rfl rfl (by kernel_rfl) St SG fun d a W hF hG hH hn hcl hw => ?_
      have q12 : a.eval (.tmp 12) = .pointer (some ⟨w.heap.size + 1, 1, none⟩) := hH.at_ (i := 7) rfl (hw 7 rfl) id
      have cc := cell_kept hG c31
      clear c30 c31
      exact ⟨.slice A m c, W, by clear hF hG hH hn hcl hw; generalize a.eval = ρ at *; go_simp, Below.refl _ _, rfl⟩
    · refine stepC rfl rfl (by decide) (by rw [hz]; decide) rfl rfl (by kernel_rfl) St SG fun d a W hF hG hH hn hcl hw => ?_
      have q13 : a.eval (.tmp 13) = .slice A m c := hH.at_ (i := 8) rfl (hw 8 rfl) id
      have qf : a.eval (.func 49) = .func (.func 49) #[] #[] := rfl
      refine ⟨49, #[.slice A m c], ?_, ?_⟩
      · clear hF hG hH hn hcl hw
        generalize a.eval = ρ at *
        go_simp
      · refine (HLV.out W (hR0.below hG)).mono ?_; rintro e W' ⟨v, rfl, hO, b⟩; exact ⟨v, rfl, b, hO.mono (by have := hG.size; omega)⟩
    · refine stepC rfl rfl (by decide) (by rw [hz]; decide) rfl rfl (by kernel_rfl) St SG fun d a W hF hG hH hn hcl hw => ?_
      have q11 : a.eval (.tmp 11) = wordsV := hH.at_ (i := 6) rfl (hw 6 rfl) id
      have q14 : OwnStrs W w0.heap.size (a.eval (.tmp 14)) L := hH.at_ (i := 9) rfl (hw 9 rfl) id
      have qf : a.eval (.func 33) = .func (.func 33) #[] #[] := rfl
      obtain ⟨A9, c9, q14, hc9, hS9⟩ := q14.toStrs
      rw [HL.out] at q14 hc9
      refine ⟨33, #[wordsV, .slice A9 m c9], ?_, ?_⟩
      · clear hF hG hH hn hcl hw
        generalize a.eval = ρ at *
        go_simp
      · refine (HTR.out A9 c9 W hc9 hS9).mono ?_; rintro e W' ⟨rfl, b⟩; exact ⟨_, rfl, b, rfl⟩
    · refine stepC rfl rfl (by decide) (by rw [hz]; decide) rfl rfl (by kernel_rfl) St SG fun d a W hF hG hH hn hcl hw => ?_
      have q5 : a.eval (.tmp 5) = wordsV := hH.at_ (i := 0) rfl (hw 0 rfl) id
      have q7 : a.eval (.tmp 7) = .int .i64 T := hH.at_ (i := 2) rfl (hw 2 rfl) id
      have q10 : a.eval (.tmp 10) = .int .i64 (m : Int) := hH.at_ (i := 5) rfl (hw 5 rfl) id
      have q15 : a.eval (.tmp 15) = hashV x := hH.at_ (i := 10) rfl (hw 10 rfl) id
      have qf : a.eval (.func 61) = .func (.func 61) #[] #[] := rfl
      refine ⟨61, #[wordsV, .int .i64 T, .int .i64 (m : Int), hashV x], ?_, ?_⟩
      · clear hF hG hH hn hcl hw
        generalize a.eval = ρ at *
        go_simp
      · refine (HMP.out W).mono ?_; rintro e W' ⟨rfl, b⟩; exact ⟨_, rfl, b, rfl⟩
  · intro d a W ⟨hF, hB, hH⟩ hall
    have k16 : a.eval (.tmp 16) = hashV y := hH.at_ (i := 11) rfl (hall 11 (by decide)) id
    clear hH hall
    rw [hF.shape (by rw [hz]; decide)]
    clear hF
    simp only [List.foldl]
    generalize a.eval (.tmp 5) = z5 at *
    generalize a.eval (.tmp 6) = z6 at *
    generalize a.eval (.tmp 7) = z7 at *
    generalize a.eval (.tmp 8) = z8 at *
    generalize a.eval (.tmp 9) = z9 at *
    generalize a.eval (.tmp 10) = z10 at *
    generalize a.eval (.tmp 11) = z11 at *
    generalize a.eval (.tmp 12) = z12 at *
    generalize a.eval (.tmp 13) = z13 at *
    generalize a.eval (.tmp 14) = z14 at *
    generalize a.eval (.tmp 15) = z15 at *
    generalize a.eval (.tmp 16) = z16 at *
    subst k16
    rw [HA0.out]
    simp only [Act.put, List.setIfInBounds_toArray, List.set_cons_zero, List.set_cons_succ]
    clear hz HA0 SG e2 e3 e4
    clear a a0
    refine wp_storeH (.tmp 4) (.tmp 16) rfl (w.heap.size + 1 + 1) y rfl rfl (x4.next hB) (by simp) HY.out ?_
    have y6 : BoxH (W.setRow (w.heap.size + 1 + 1) (ints .u8 (nums y))) (w.heap.size + 1 + 1) y := (x4.next hB).setRow
    have b6 := below_setRow (Below.on B0 hB) (show w.heap.size ≤ w.heap.size + 1 + 1 by omega) (ints .u8 (nums y))
    generalize World.setRow W (w.heap.size + 1 + 1) (ints .u8 (nums y)) = W6 at *
    dsimp only [Act.put]
    go_wp2_with (fail)
    exact bodyPost_ret (v := hashV y) (results_hash rfl _ (w.heap.size + 1 + 1) _ rfl y6 HY.out) rfl ⟨rfl, b6⟩
end Go.Proofs.YtcocengpekndjaaDoor
