/- The walks over the reference's MapText and MapTexts. -/
import Derived.Test.YtcocengpekndjaaDoorPrTexts
import Derived.Test.YtcocengpekndjaaDoorPrRLeaves
import Derived.Test.YtcocengpekndjaaDoorPrTree
import Derived.Test.YtcocengpekndjaaDoorPrLeaf
import Derived.Test.YtcocengpekndjaaDoorPrRange
import Derived.Test.YtcocengpekndjaaDoorPrFresh
namespace Go.Proofs.YtcocengpekndjaaDoor
open Go.RowKit
theorem sealT_length (size count : Int) (h : Bs) (hh : h.length = 32) : (sealT size count h).length = 49 := by simp [sealT, eightM_length, hh]
set_option maxRecDepth 100000 in
set_option maxHeartbeats 4000000 in
theorem rmaptext_any (size count : Int) (h : Bs) (w : World) (h0 : 0 ≤ size) (h1 : size < 9223372036854775808) (h2 : 0 ≤ count) (h3 : count < 9223372036854775808) (hh : h.length = 32) : Calls Tryd.prog 47 #[wordsV, .int .i64 size, .int .i64 count, hashV h] w fun e w' => e = .returned (.string ⟨(sealT size count h).toArray⟩) ∧ Below w.heap.size w w' := by
  have a0 := fun W => s_add (P := Tryd.prog) [2] (eightM size) W (by simp [eightM_length])
  have a1 := fun W => s_add (P := Tryd.prog) (2 :: eightM size) (eightM count) W (by simp [eightM_length])
  have a2 := fun W => s_add (P := Tryd.prog) (2 :: (eightM size ++ eightM count)) h W (by simp [eightM_length, hh])
  simp only [List.cons_append, List.append_assoc] at a1 a2
  have n1 := fun W => eight_any size W h0 h1
  have n2 := fun W => eight_any count W h2 h3
  have he : sealT size count h = 2 :: (eightM size ++ (eightM count ++ h)) := by unfold sealT; rw [List.append_assoc]
  rw [he]
  generalize eightM size = ss at *
  generalize eightM count = sc at *
  have N1 := Lib.hid n1
  have N2 := Lib.hid n2
  have A0 := Lib.hid a0
  have A1 := Lib.hid a1
  have A2 := Lib.hid a2
  have HH := Lib.hid hh
  clear n1 n2 a0 a1 a2 hh he
  go_enter Tryd.func47, Tryd.ntmps47
  go_upto_region 1 with (fail)
  obtain ⟨w0, hW0⟩ : ∃ w0, World.alloc (w.alloc (.cells (ints .u32 wordsL) 27)) (.cells (cellsB h).toArray 30) = w0 := ⟨_, rfl⟩
  have B0 : Below w.heap.size w w0 := hW0 ▸ Below.on (Below.new1 _ _) (Below.new1 _ _)
  have x5 : BoxH w0 (w.heap.size + 1) h := by
    have := BoxH.new (w.alloc (.cells (ints .u32 wordsL) 27)) h
    rw [World.size_alloc] at this; exact hW0 ▸ this
  change Code.wp _ _ _ _ (World.alloc (w.alloc (.cells (ints .u32 wordsL) 27)) (.cells (cellsB h).toArray 30))
  rw [hW0]
  clear hW0
  refine wp_name fun a0 ha0 => ?_
  have e1 : a0.eval (.tmp 1) = .int .i64 size := by rw [ha0]; rfl
  have e2 : a0.eval (.tmp 2) = .int .i64 count := by rw [ha0]; rfl
  have e7 : a0.eval (.tmp 7) = .pointer (some ⟨w.heap.size + 1, 0, none⟩) := by rw [ha0]; rfl
  have hz : a0.tmps.size = 18 := by rw [ha0]; rfl
  have HA0 := Lib.hid ha0
  clear ha0
  have SG : ∀ (d d' : Nat → Prop) (W W' : World), (fun (_ : Nat → Prop) (W : World) => Below w0.heap.size w0 W) d W → (∀ j, d j → d' j) → Below W.heap.size W W' → (fun (_ : Nat → Prop) (W : World) => Below w0.heap.size w0 W) d' W' := fun _ _ _ _ h _ b => Below.next h b
  refine wp_region_steps (Inv [9, 10, 11, 12, 13, 14, 15, 16, 17, 8] a0 (fun (_ : Nat → Prop) (W : World) => Below w0.heap.size w0 W) [(⟨some 0, 9, none, fun v _ => v = .int .i64 size⟩ : Cl), ⟨some 1, 10, none, fun v _ => v = .string ⟨ss.toArray⟩⟩, ⟨some 2, 11, none, fun v _ => v = .string ⟨(2 :: ss).toArray⟩⟩, ⟨some 3, 12, none, fun v _ => v = .int .i64 count⟩, ⟨some 4, 13, none, fun v _ => v = .string ⟨sc.toArray⟩⟩, ⟨some 5, 14, none, fun v _ => v = .string ⟨(2 :: (ss ++ sc)).toArray⟩⟩, ⟨some 6, 15, none, fun v _ => v = .slice (some ⟨w.heap.size + 1, 0, none⟩) 32 32⟩, ⟨some 7, 16, none, fun v _ => v = .string ⟨h.toArray⟩⟩, ⟨some 8, 17, none, fun v _ => v = .string ⟨(2 :: (ss ++ (sc ++ h))).toArray⟩⟩, ⟨some 9, 8, none, fun v _ => v = .string ⟨(2 :: (ss ++ (sc ++ h))).toArray⟩⟩]) (by kernel_rfl) (by kernel_rfl) (Inv.start (Below.refl _ _).drew ⟨nofun, nofun, nofun, nofun, nofun, nofun, nofun, nofun, nofun, nofun, trivial⟩) ?_ ?_
  · have St : ∀ xc ∈ [(⟨some 0, 9, none, fun v _ => v = .int .i64 size⟩ : Cl), ⟨some 1, 10, none, fun v _ => v = .string ⟨ss.toArray⟩⟩, ⟨some 2, 11, none, fun v _ => v = .string ⟨(2 :: ss).toArray⟩⟩, ⟨some 3, 12, none, fun v _ => v = .int .i64 count⟩, ⟨some 4, 13, none, fun v _ => v = .string ⟨sc.toArray⟩⟩, ⟨some 5, 14, none, fun v _ => v = .string ⟨(2 :: (ss ++ sc)).toArray⟩⟩, ⟨some 6, 15, none, fun v _ => v = .slice (some ⟨w.heap.size + 1, 0, none⟩) 32 32⟩, ⟨some 7, 16, none, fun v _ => v = .string ⟨h.toArray⟩⟩, ⟨some 8, 17, none, fun v _ => v = .string ⟨(2 :: (ss ++ (sc ++ h))).toArray⟩⟩, ⟨some 9, 8, none, fun v _ => v = .string ⟨(2 :: (ss ++ (sc ++ h))).toArray⟩⟩], Lasts xc := AllC.mem ⟨lastsV0 _ _ _ _, lastsV0 _ _ _ _, lastsV0 _ _ _ _, lastsV0 _ _ _ _, lastsV0 _ _ _ _, lastsV0 _ _ _ _, lastsV0 _ _ _ _, lastsV0 _ _ _ _, lastsV0 _ _ _ _, lastsV0 _ _ _ _, trivial⟩
    clear HA0
    refine ⟨?_, ?_, ?_, ?_, ?_, ?_, ?_, ?_, ?_, ?_, trivial⟩
    · refine stepB rfl rfl (by decide) (by rw [hz]; decide) rfl rfl (by kernel_rfl) St SG fun d a W hF hG hH hn hcl hw => ?_
      have q1 := (hF.same 1 (by decide)).trans e1
      exact ⟨.int .i64 size, W, by clear hF hG hH hn hcl hw; generalize a.eval = ρ at *; go_simp, Below.refl _ _, rfl⟩
    · refine stepC rfl rfl (by decide) (by rw [hz]; decide) rfl rfl (by kernel_rfl) St SG fun d a W hF hG hH hn hcl hw => ?_
      have q9 : a.eval (.tmp 9) = .int .i64 size := hH.at_ (i := 0) rfl (hw 0 rfl) id
      have qf : a.eval (.func 59) = .func (.func 59) #[] #[] := rfl
      refine ⟨59, #[.int .i64 size], ?_, ?_⟩
      · clear hF hG hH hn hcl hw
        generalize a.eval = ρ at *
        go_simp
      · refine (N1.out W).mono ?_; rintro e W' ⟨rfl, b⟩; exact ⟨_, rfl, b, rfl⟩
    · refine stepB rfl rfl (by decide) (by rw [hz]; decide) rfl rfl (by kernel_rfl) St SG fun d a W hF hG hH hn hcl hw => ?_
      have q10 : a.eval (.tmp 10) = .string ⟨ss.toArray⟩ := hH.at_ (i := 1) rfl (hw 1 rfl) id
      have qs : a.eval (.const (.string ⟨#[2]⟩)) = .string ⟨#[2]⟩ := rfl
      have r := A0.out W
      exact ⟨.string ⟨(2 :: ss).toArray⟩, W, by clear hF hG hH hn hcl hw; generalize a.eval = ρ at *; go_simp, Below.refl _ _, rfl⟩
    · refine stepB rfl rfl (by decide) (by rw [hz]; decide) rfl rfl (by kernel_rfl) St SG fun d a W hF hG hH hn hcl hw => ?_
      have q2 := (hF.same 2 (by decide)).trans e2
      exact ⟨.int .i64 count, W, by clear hF hG hH hn hcl hw; generalize a.eval = ρ at *; go_simp, Below.refl _ _, rfl⟩
    · refine stepC rfl rfl (by decide) (by rw [hz]; decide) rfl rfl (by kernel_rfl) St SG fun d a W hF hG hH hn hcl hw => ?_
      have q12 : a.eval (.tmp 12) = .int .i64 count := hH.at_ (i := 3) rfl (hw 3 rfl) id
      have qf : a.eval (.func 59) = .func (.func 59) #[] #[] := rfl
      refine ⟨59, #[.int .i64 count], ?_, ?_⟩
      · clear hF hG hH hn hcl hw
        generalize a.eval = ρ at *
        go_simp
      · refine (N2.out W).mono ?_; rintro e W' ⟨rfl, b⟩; exact ⟨_, rfl, b, rfl⟩
    · refine stepB rfl rfl (by decide) (by rw [hz]; decide) rfl rfl (by kernel_rfl) St SG fun d a W hF hG hH hn hcl hw => ?_
      have q11 : a.eval (.tmp 11) = .string ⟨(2 :: ss).toArray⟩ := hH.at_ (i := 2) rfl (hw 2 rfl) id
      have q13 : a.eval (.tmp 13) = .string ⟨sc.toArray⟩ := hH.at_ (i := 4) rfl (hw 4 rfl) id
      have r := A1.out W
      exact ⟨.string ⟨(2 :: (ss ++ sc)).toArray⟩, W, by clear hF hG hH hn hcl hw; generalize a.eval = ρ at *; go_simp, Below.refl _ _, rfl⟩
    · refine stepB rfl rfl (by decide) (by rw [hz]; decide) rfl rfl (by kernel_rfl) St SG fun d a W hF hG hH hn hcl hw => ?_
      have q7 := (hF.same 7 (by decide)).trans e7
      exact ⟨.slice (some ⟨w.heap.size + 1, 0, none⟩) 32 32, W, by clear hF hG hH hn hcl hw; generalize a.eval = ρ at *; go_simp, Below.refl _ _, rfl⟩
    · refine stepB rfl rfl (by decide) (by rw [hz]; decide) rfl rfl (by kernel_rfl) St SG fun d a W hF hG hH hn hcl hw => ?_
      have q15 : a.eval (.tmp 15) = .slice (some ⟨w.heap.size + 1, 0, none⟩) 32 32 := hH.at_ (i := 6) rfl (hw 6 rfl) id
      have r := BoxH.text (x5.next hG) HH.out 32
      exact ⟨.string ⟨h.toArray⟩, W, by clear hF hG hH hn hcl hw; generalize a.eval = ρ at *; go_simp, Below.refl _ _, rfl⟩
    · refine stepB rfl rfl (by decide) (by rw [hz]; decide) rfl rfl (by kernel_rfl) St SG fun d a W hF hG hH hn hcl hw => ?_
      have q14 : a.eval (.tmp 14) = .string ⟨(2 :: (ss ++ sc)).toArray⟩ := hH.at_ (i := 5) rfl (hw 5 rfl) id
      have q16 : a.eval (.tmp 16) = .string ⟨h.toArray⟩ := hH.at_ (i := 7) rfl (hw 7 rfl) id
      have r := A2.out W
      exact ⟨.string ⟨(2 :: (ss ++ (sc ++ h))).toArray⟩, W, by clear hF hG hH hn hcl hw; generalize a.eval = ρ at *; go_simp, Below.refl _ _, rfl⟩
    · refine stepB rfl rfl (by decide) (by rw [hz]; decide) rfl rfl (by kernel_rfl) St SG fun d a W hF hG hH hn hcl hw => ?_
      have q17 : a.eval (.tmp 17) = .string ⟨(2 :: (ss ++ (sc ++ h))).toArray⟩ := hH.at_ (i := 8) rfl (hw 8 rfl) id
      exact ⟨.string ⟨(2 :: (ss ++ (sc ++ h))).toArray⟩, W, by clear hF hG hH hn hcl hw; generalize a.eval = ρ at *; go_simp, Below.refl _ _, rfl⟩
  · intro d a W ⟨hF, hB, hH⟩ hall
    have k8 : a.eval (.tmp 8) = .string ⟨(2 :: (ss ++ (sc ++ h))).toArray⟩ := hH.at_ (i := 9) rfl (hall 9 (by decide)) id
    clear hH hall
    rw [hF.shape (by rw [hz]; decide)]
    clear hF
    simp only [List.foldl]
    generalize a.eval (.tmp 9) = z9 at *
    generalize a.eval (.tmp 10) = z10 at *
    generalize a.eval (.tmp 11) = z11 at *
    generalize a.eval (.tmp 12) = z12 at *
    generalize a.eval (.tmp 13) = z13 at *
    generalize a.eval (.tmp 14) = z14 at *
    generalize a.eval (.tmp 15) = z15 at *
    generalize a.eval (.tmp 16) = z16 at *
    generalize a.eval (.tmp 17) = z17 at *
    generalize a.eval (.tmp 8) = z8 at *
    subst k8
    rw [HA0.out]
    simp only [Act.put, List.setIfInBounds_toArray, List.set_cons_zero, List.set_cons_succ]
    clear hz HA0 SG e1 e2 e7
    clear a a0
    go_wp2_with (fail)
    go_ret
    exact ⟨rfl, Below.on B0 hB⟩
set_option maxRecDepth 100000 in
set_option maxHeartbeats 4000000 in
theorem rmaptexts_any (T : Int) (R : List Rn) (A : Option Addr) (m c : Nat) (w : World) (hm : R.length = m) (h0 : 0 ≤ T) (h1 : T < 9223372036854775808) (hm5 : m ≤ 5000) (hR : Runs w A R) (hf : ∀ x ∈ R, Fit x) : Calls Tryd.prog 44 #[wordsV, .int .i64 T, .slice A m c] w fun e w' => ∃ v, e = .returned v ∧ OwnStrs w' w.heap.size v (mapT T R) ∧ Below w.heap.size w w' := by
  unfold mapT
  have hin : ∀ s ∈ R.map textM, s.length ≤ 90000 := fun s hs => by obtain ⟨x, _, rfl⟩ := List.mem_map.1 hs; rw [textM_length]; omega
  have hlv := fun W (h : Runs W A R) => rleaves_any R A m c W hm h hf (by omega)
  have htl : (R.map textM).length = m := by rw [List.length_map, hm]
  have htr := fun A9 c9 W hc (h : Strs W A9 (R.map textM)) => rtree_any (R.map textM) A9 m c9 W htl hm5 hc hin h
  have htt := fun A9 c9 W hc (h : Strs W A9 (R.map textM)) => rtexts_any (R.map textM) A9 m c9 W htl hm5 hc hin h
  have hx : (treeM sha (R.map textM)).length = 32 := treeM_length sha sha_length _
  have tl := treeT_len m (R.map textM) (by omega)
  have hmp := fun W => rmaptext_any T m (treeM sha (R.map textM)) W h0 h1 (by omega) (by omega) hx
  rw [hm]
  generalize sealT T m (treeM sha (R.map textM)) = z at *
  generalize treeM sha (R.map textM) = x at *
  generalize treeT sha (R.map textM) = TT at *
  generalize R.map textM = L at *
  have HLV := Lib.hid hlv
  have HTR := Lib.hid htr
  have HTT := Lib.hid htt
  have HMP := Lib.hid hmp
  have HX := Lib.hid hx
  have HL := Lib.hid htl
  have TL : TT.length ≤ 100000 := by omega
  obtain ⟨w0, hW0⟩ : ∃ w0, w.alloc (.cells (ints .u32 wordsL) 27) = w0 := ⟨_, rfl⟩
  have B0 : Below w.heap.size w w0 := hW0 ▸ Below.new1 _ _
  have y2 : BoxW w0 w.heap.size := hW0 ▸ BoxW.new w
  have hR0 := hR.below B0
  have HW := Lib.hid hW0
  clear hlv htr htt hmp htl hx hW0 hR hf hm hin tl
  go_enter Tryd.func44, Tryd.ntmps44
  go_upto_region 1 with (fail)
  change Code.wp _ _ _ _ (w.alloc (.cells (ints .u32 wordsL) 27))
  rw [HW.out]
  clear HW
  refine wp_name fun a0 ha0 => ?_
  have e1 : a0.eval (.tmp 1) = .int .i64 T := by rw [ha0]; rfl
  have e2 : a0.eval (.tmp 2) = .slice A m c := by rw [ha0]; rfl
  have e3 : a0.eval (.tmp 3) = .pointer (some ⟨w.heap.size, 0, none⟩) := by rw [ha0]; rfl
  have hz : a0.tmps.size = 24 := by rw [ha0]; rfl
  have HA0 := Lib.hid ha0
  clear ha0
  have SG : ∀ (d d' : Nat → Prop) (W W' : World), (fun (_ : Nat → Prop) (W : World) => Below w0.heap.size w0 W) d W → (∀ j, d j → d' j) → Below W.heap.size W W' → (fun (_ : Nat → Prop) (W : World) => Below w0.heap.size w0 W) d' W' := fun _ _ _ _ h _ b => Below.next h b
  refine wp_region_lastlyR 5 _ (Inv [8, 9, 10, 11, 7] a0 (fun (_ : Nat → Prop) (W : World) => Below w0.heap.size w0 W) [(⟨some 0, 8, none, fun v _ => v = wordsV⟩ : Cl), ⟨some 1, 9, none, fun v _ => v = .slice A m c⟩, ⟨some 2, 10, none, fun v W => OwnStrs W w0.heap.size v L⟩, ⟨some 3, 11, none, fun v _ => v = hashV x⟩, ⟨some 4, 7, none, fun v W => ∃ g, v = .pointer (some ⟨g, 0, none⟩) ∧ w0.heap.size ≤ g ∧ ∃ m, BoxA W g 30 .u8 m ∧ m.length = 32⟩]) (by kernel_rfl) (by kernel_rfl) rfl rfl (fun d hcl hw j hj => ?_) rfl (Inv.start (Below.refl _ _).drew ⟨nofun, nofun, nofun, nofun, nofun, trivial⟩) ?_ ?_
  · have r4 := hw 4 rfl
    have r3 := hw 3 rfl
    have r0 := hcl 3 _ 0 rfl rfl r3
    have r2 := hcl 3 _ 2 rfl rfl r3
    have r1 := hcl 2 _ 1 rfl rfl r2
    match j, hj with
    | 0, _ => exact r0
    | 1, _ => exact r1
    | 2, _ => exact r2
    | 3, _ => exact r3
    | 4, _ => exact r4
    | j + 5, h => exact absurd h (by omega)
  · have St : ∀ xc ∈ [(⟨some 0, 8, none, fun v _ => v = wordsV⟩ : Cl), ⟨some 1, 9, none, fun v _ => v = .slice A m c⟩, ⟨some 2, 10, none, fun v W => OwnStrs W w0.heap.size v L⟩, ⟨some 3, 11, none, fun v _ => v = hashV x⟩, ⟨some 4, 7, none, fun v W => ∃ g, v = .pointer (some ⟨g, 0, none⟩) ∧ w0.heap.size ≤ g ∧ ∃ m, BoxA W g 30 .u8 m ∧ m.length = 32⟩], Lasts xc := AllC.mem ⟨lastsV0 _ _ _ _, lastsV0 _ _ _ _, (fun _ _ _ h b => h.next b), lastsV0 _ _ _ _, (fun _ _ _ h b => by obtain ⟨g, e, h1, m, h2, h3⟩ := h; exact ⟨g, e, h1, m, h2.next b, h3⟩), trivial⟩
    clear HA0
    refine ⟨?_, ?_, ?_, ?_, ?_, trivial⟩
    · refine stepB rfl rfl (by decide) (by rw [hz]; decide) rfl rfl (by kernel_rfl) St SG fun d a W hF hG hH hn hcl hw => ?_
      have q3 := (hF.same 3 (by decide)).trans e3
      refine ⟨wordsV, W, ?_, Below.refl _ _, ?_⟩
      · exact exec_load rfl (by rw [q3]; exact BoxW.load (BoxA.next y2 hG))
      · rfl
    · refine stepB rfl rfl (by decide) (by rw [hz]; decide) rfl rfl (by kernel_rfl) St SG fun d a W hF hG hH hn hcl hw => ?_
      have q2 := (hF.same 2 (by decide)).trans e2
      exact ⟨.slice A m c, W, by clear hF hG hH hn hcl hw; generalize a.eval = ρ at *; go_simp, Below.refl _ _, rfl⟩
    · refine stepC rfl rfl (by decide) (by rw [hz]; decide) rfl rfl (by kernel_rfl) St SG fun d a W hF hG hH hn hcl hw => ?_
      have q9 : a.eval (.tmp 9) = .slice A m c := hH.at_ (i := 1) rfl (hw 1 rfl) id
      have qf : a.eval (.func 49) = .func (.func 49) #[] #[] := rfl
      refine ⟨49, #[.slice A m c], ?_, ?_⟩
      · clear hF hG hH hn hcl hw
        generalize a.eval = ρ at *
        go_simp
      · refine (HLV.out W (hR0.below hG)).mono ?_; rintro e W' ⟨v, rfl, hO, b⟩; exact ⟨v, rfl, b, hO.mono (by have := hG.size; omega)⟩
    · refine stepC rfl rfl (by decide) (by rw [hz]; decide) rfl rfl (by kernel_rfl) St SG fun d a W hF hG hH hn hcl hw => ?_
      have q8 : a.eval (.tmp 8) = wordsV := hH.at_ (i := 0) rfl (hw 0 rfl) id
      have q10 : OwnStrs W w0.heap.size (a.eval (.tmp 10)) L := hH.at_ (i := 2) rfl (hw 2 rfl) id
      have qf : a.eval (.func 33) = .func (.func 33) #[] #[] := rfl
      obtain ⟨A9, c9, q10, hc9, hS9⟩ := q10.toStrs
      rw [HL.out] at q10 hc9
      refine ⟨33, #[wordsV, .slice A9 m c9], ?_, ?_⟩
      · clear hF hG hH hn hcl hw
        generalize a.eval = ρ at *
        go_simp
      · refine (HTR.out A9 c9 W hc9 hS9).mono ?_; rintro e W' ⟨rfl, b⟩; exact ⟨_, rfl, b, rfl⟩
    · refine stepB rfl rfl (by decide) (by rw [hz]; decide) rfl rfl (by kernel_rfl) St SG fun d a W hF hG hH hn hcl hw => ?_
      refine ⟨.pointer (some ⟨W.heap.size, 0, none⟩), W.alloc (.cells (ints .u8 (List.replicate 32 0)) 30), ?_, Below.new1 W _, ?_⟩
      · (clear hF hG hH hn hcl hw; generalize a.eval = ρ at *; go_simp; rfl)
      · exact ⟨_, rfl, hG.size, _, BoxA.new W _ _ _ _ rfl, by simp⟩
  · intro d a W ⟨hF, hB, hH⟩ hall
    have k11 : a.eval (.tmp 11) = hashV x := hH.at_ (i := 3) rfl (hall 3 (by decide)) id
    have k7 : ∃ g, a.eval (.tmp 7) = .pointer (some ⟨g, 0, none⟩) ∧ w0.heap.size ≤ g ∧ ∃ m, BoxA W g 30 .u8 m ∧ m.length = 32 := hH.at_ (i := 4) rfl (hall 4 (by decide)) id
    clear hH hall
    rw [hF.shape (by rw [hz]; decide)]
    clear hF
    simp only [List.foldl]
    generalize a.eval (.tmp 8) = z8 at *
    generalize a.eval (.tmp 9) = z9 at *
    generalize a.eval (.tmp 10) = z10 at *
    generalize a.eval (.tmp 11) = z11 at *
    generalize a.eval (.tmp 7) = z7 at *
    subst k11
    rw [HA0.out]
    simp only [Act.put, List.setIfInBounds_toArray, List.set_cons_zero, List.set_cons_succ]
    clear hz HA0 SG e1 e2 e3
    clear a a0
    obtain ⟨g7, rfl, hg7, mm, x7, hmm⟩ := k7
    refine wp_storeH (.tmp 7) (.tmp 11) rfl g7 x rfl rfl x7 hmm HX.out ?_
    have y7 : BoxH (W.setRow g7 (ints .u8 (nums x))) g7 x := x7.setRow
    have hB1 := below_setRow hB hg7 (ints .u8 (nums x))
    generalize World.setRow W g7 (ints .u8 (nums x)) = w1 at *
    dsimp only [Act.put]
    have BB := Below.on B0 hB1
    have z2 : BoxW w1 w.heap.size := BoxA.next y2 hB1
    have hR1 := hR0.below hB1
    clear hR0 y2 hB B0 HTR x7 hmm hB1
    go_upto_region 2 with (fail)
    refine wp_name fun a0 ha0 => ?_
    have e1 : a0.eval (.tmp 1) = .int .i64 T := by rw [ha0]; rfl
    have e2 : a0.eval (.tmp 2) = .slice A m c := by rw [ha0]; rfl
    have e3 : a0.eval (.tmp 3) = .pointer (some ⟨w.heap.size, 0, none⟩) := by rw [ha0]; rfl
    have e7 : a0.eval (.tmp 7) = .pointer (some ⟨g7, 0, none⟩) := by rw [ha0]; rfl
    have hz : a0.tmps.size = 24 := by rw [ha0]; rfl
    have HA0 := Lib.hid ha0
    clear ha0
    have SG : ∀ (d d' : Nat → Prop) (W W' : World), (fun (_ : Nat → Prop) (W : World) => Below w1.heap.size w1 W) d W → (∀ j, d j → d' j) → Below W.heap.size W W' → (fun (_ : Nat → Prop) (W : World) => Below w1.heap.size w1 W) d' W' := fun _ _ _ _ h _ b => Below.next h b
    refine wp_region_lastly2 11 _ _ (Inv [12, 13, 14, 15, 16, 17, 18, 19, 20, 21, 22] a0 (fun (_ : Nat → Prop) (W : World) => Below w1.heap.size w1 W) [(⟨some 0, 12, none, fun v _ => v = wordsV⟩ : Cl), ⟨some 1, 13, none, fun v _ => v = .slice A m c⟩, ⟨some 2, 14, none, fun v W => OwnStrs W w1.heap.size v L⟩, ⟨some 3, 15, none, fun v W => OwnStrs W w1.heap.size v TT⟩, ⟨some 4, 16, none, fun v _ => v = wordsV⟩, ⟨some 5, 17, none, fun v _ => v = .int .i64 T⟩, ⟨some 6, 18, none, fun v _ => v = .slice A m c⟩, ⟨some 7, 19, none, fun v _ => v = .int .i64 (m : Int)⟩, ⟨some 8, 20, none, fun v _ => v = hashV x⟩, ⟨some 9, 21, none, fun v _ => v = .string ⟨z.toArray⟩⟩, ⟨some 10, 22, none, fun v W => OwnStrs W w1.heap.size v [z]⟩]) (by kernel_rfl) (by kernel_rfl) rfl rfl rfl (fun d hcl hw j hj => ?_) (by kernel_rfl) rfl rfl (Inv.start (Below.refl _ _).drew ⟨nofun, nofun, nofun, nofun, nofun, nofun, nofun, nofun, nofun, nofun, nofun, trivial⟩) ?_ ?_
    · have r3 := hw 3 rfl
      have r10 := hw 10 rfl
      have r9 := hcl 10 _ 9 rfl rfl r10
      have r4 := hcl 9 _ 4 rfl rfl r9
      have r5 := hcl 9 _ 5 rfl rfl r9
      have r7 := hcl 9 _ 7 rfl rfl r9
      have r8 := hcl 9 _ 8 rfl rfl r9
      have r6 := hcl 7 _ 6 rfl rfl r7
      have r0 := hcl 3 _ 0 rfl rfl r3
      have r2 := hcl 3 _ 2 rfl rfl r3
      have r1 := hcl 2 _ 1 rfl rfl r2
      match j, hj with
      | 0, _ => exact r0
      | 1, _ => exact r1
      | 2, _ => exact r2
      | 3, _ => exact r3
      | 4, _ => exact r4
      | 5, _ => exact r5
      | 6, _ => exact r6
      | 7, _ => exact r7
      | 8, _ => exact r8
      | 9, _ => exact r9
      | 10, _ => exact r10
      | j + 11, h => exact absurd h (by omega)
    · have St : ∀ xc ∈ [(⟨some 0, 12, none, fun v _ => v = wordsV⟩ : Cl), ⟨some 1, 13, none, fun v _ => v = .slice A m c⟩, ⟨some 2, 14, none, fun v W => OwnStrs W w1.heap.size v L⟩, ⟨some 3, 15, none, fun v W => OwnStrs W w1.heap.size v TT⟩, ⟨some 4, 16, none, fun v _ => v = wordsV⟩, ⟨some 5, 17, none, fun v _ => v = .int .i64 T⟩, ⟨some 6, 18, none, fun v _ => v = .slice A m c⟩, ⟨some 7, 19, none, fun v _ => v = .int .i64 (m : Int)⟩, ⟨some 8, 20, none, fun v _ => v = hashV x⟩, ⟨some 9, 21, none, fun v _ => v = .string ⟨z.toArray⟩⟩, ⟨some 10, 22, none, fun v W => OwnStrs W w1.heap.size v [z]⟩], Lasts xc := AllC.mem ⟨lastsV0 _ _ _ _, lastsV0 _ _ _ _, (fun _ _ _ h b => h.next b), (fun _ _ _ h b => h.next b), lastsV0 _ _ _ _, lastsV0 _ _ _ _, lastsV0 _ _ _ _, lastsV0 _ _ _ _, lastsV0 _ _ _ _, lastsV0 _ _ _ _, (fun _ _ _ h b => h.next b), trivial⟩
      clear HA0
      refine ⟨?_, ?_, ?_, ?_, ?_, ?_, ?_, ?_, ?_, ?_, ?_, trivial⟩
      · refine stepB rfl rfl (by decide) (by rw [hz]; decide) rfl rfl (by kernel_rfl) St SG fun d a W hF hG hH hn hcl hw => ?_
        have q3 := (hF.same 3 (by decide)).trans e3
        refine ⟨wordsV, W, ?_, Below.refl _ _, ?_⟩
        · exact exec_load rfl (by rw [q3]; exact BoxW.load (BoxA.next z2 hG))
        · rfl
      · refine stepB rfl rfl (by decide) (by rw [hz]; decide) rfl rfl (by kernel_rfl) St SG fun d a W hF hG hH hn hcl hw => ?_
        have q2 := (hF.same 2 (by decide)).trans e2
        exact ⟨.slice A m c, W, by clear hF hG hH hn hcl hw; generalize a.eval = ρ at *; go_simp, Below.refl _ _, rfl⟩
      · refine stepC rfl rfl (by decide) (by rw [hz]; decide) rfl rfl (by kernel_rfl) St SG fun d a W hF hG hH hn hcl hw => ?_
        have q13 : a.eval (.tmp 13) = .slice A m c := hH.at_ (i := 1) rfl (hw 1 rfl) id
        have qf : a.eval (.func 49) = .func (.func 49) #[] #[] := rfl
        refine ⟨49, #[.slice A m c], ?_, ?_⟩
        · clear hF hG hH hn hcl hw
          generalize a.eval = ρ at *
          go_simp
        · refine (HLV.out W (hR1.below hG)).mono ?_; rintro e W' ⟨v, rfl, hO, b⟩; exact ⟨v, rfl, b, hO.mono (by have := hG.size; omega)⟩
      · refine stepC rfl rfl (by decide) (by rw [hz]; decide) rfl rfl (by kernel_rfl) St SG fun d a W hF hG hH hn hcl hw => ?_
        have q12 : a.eval (.tmp 12) = wordsV := hH.at_ (i := 0) rfl (hw 0 rfl) id
        have q14 : OwnStrs W w1.heap.size (a.eval (.tmp 14)) L := hH.at_ (i := 2) rfl (hw 2 rfl) id
        have qf : a.eval (.func 50) = .func (.func 50) #[] #[] := rfl
        obtain ⟨A9, c9, q14, hc9, hS9⟩ := q14.toStrs
        rw [HL.out] at q14 hc9
        refine ⟨50, #[wordsV, .slice A9 m c9], ?_, ?_⟩
        · clear hF hG hH hn hcl hw
          generalize a.eval = ρ at *
          go_simp
        · refine (HTT.out A9 c9 W hc9 hS9).mono ?_; rintro e W' ⟨v, rfl, hO, b⟩; exact ⟨v, rfl, b, hO.mono (by have := hG.size; omega)⟩
      · refine stepB rfl rfl (by decide) (by rw [hz]; decide) rfl rfl (by kernel_rfl) St SG fun d a W hF hG hH hn hcl hw => ?_
        have q3 := (hF.same 3 (by decide)).trans e3
        refine ⟨wordsV, W, ?_, Below.refl _ _, ?_⟩
        · exact exec_load rfl (by rw [q3]; exact BoxW.load (BoxA.next z2 hG))
        · rfl
      · refine stepB rfl rfl (by decide) (by rw [hz]; decide) rfl rfl (by kernel_rfl) St SG fun d a W hF hG hH hn hcl hw => ?_
        have q1 := (hF.same 1 (by decide)).trans e1
        exact ⟨.int .i64 T, W, by clear hF hG hH hn hcl hw; generalize a.eval = ρ at *; go_simp, Below.refl _ _, rfl⟩
      · refine stepB rfl rfl (by decide) (by rw [hz]; decide) rfl rfl (by kernel_rfl) St SG fun d a W hF hG hH hn hcl hw => ?_
        have q2 := (hF.same 2 (by decide)).trans e2
        exact ⟨.slice A m c, W, by clear hF hG hH hn hcl hw; generalize a.eval = ρ at *; go_simp, Below.refl _ _, rfl⟩
      · refine stepB rfl rfl (by decide) (by rw [hz]; decide) rfl rfl (by kernel_rfl) St SG fun d a W hF hG hH hn hcl hw => ?_
        have q18 : a.eval (.tmp 18) = .slice A m c := hH.at_ (i := 6) rfl (hw 6 rfl) id
        exact ⟨.int .i64 (m : Int), W, by clear hF hG hH hn hcl hw; generalize a.eval = ρ at *; go_simp, Below.refl _ _, rfl⟩
      · refine stepB rfl rfl (by decide) (by rw [hz]; decide) rfl rfl (by kernel_rfl) St SG fun d a W hF hG hH hn hcl hw => ?_
        have q7 := (hF.same 7 (by decide)).trans e7
        refine ⟨hashV x, W, ?_, Below.refl _ _, ?_⟩
        · exact exec_load rfl (by rw [q7]; exact BoxH.load_ (BoxA.next y7 hG) HX.out)
        · rfl
      · refine stepC rfl rfl (by decide) (by rw [hz]; decide) rfl rfl (by kernel_rfl) St SG fun d a W hF hG hH hn hcl hw => ?_
        have q16 : a.eval (.tmp 16) = wordsV := hH.at_ (i := 4) rfl (hw 4 rfl) id
        have q17 : a.eval (.tmp 17) = .int .i64 T := hH.at_ (i := 5) rfl (hw 5 rfl) id
        have q19 : a.eval (.tmp 19) = .int .i64 (m : Int) := hH.at_ (i := 7) rfl (hw 7 rfl) id
        have q20 : a.eval (.tmp 20) = hashV x := hH.at_ (i := 8) rfl (hw 8 rfl) id
        have qf : a.eval (.func 47) = .func (.func 47) #[] #[] := rfl
        refine ⟨47, #[wordsV, .int .i64 T, .int .i64 (m : Int), hashV x], ?_, ?_⟩
        · clear hF hG hH hn hcl hw
          generalize a.eval = ρ at *
          go_simp
        · refine (HMP.out W).mono ?_; rintro e W' ⟨rfl, b⟩; exact ⟨_, rfl, b, rfl⟩
      · refine stepB rfl rfl (by decide) (by rw [hz]; decide) rfl rfl (by kernel_rfl) St SG fun d a W hF hG hH hn hcl hw => ?_
        have q21 : a.eval (.tmp 21) = .string ⟨z.toArray⟩ := hH.at_ (i := 9) rfl (hw 9 rfl) id
        refine ⟨.slice (some ⟨W.heap.size, 0, none⟩) 1 1, W.alloc (.cells #[.string ⟨z.toArray⟩] 9), ?_, Below.new1 W _, ?_⟩
        · clear hF hG hH hn hcl hw
          generalize a.eval = ρ at *
          go_simp
        · exact OwnStrs.one W _ _ hG.size
    · intro d a W ⟨hF, hB, hH⟩ hall
      have k15 : OwnStrs W w1.heap.size (a.eval (.tmp 15)) TT := hH.at_ (i := 3) rfl (hall 3 (by decide)) id
      have k22 : OwnStrs W w1.heap.size (a.eval (.tmp 22)) [z] := hH.at_ (i := 10) rfl (hall 10 (by decide)) id
      clear hH hall
      rw [hF.shape (by rw [hz]; decide)]
      clear hF
      simp only [List.foldl]
      generalize a.eval (.tmp 12) = z12 at *
      generalize a.eval (.tmp 13) = z13 at *
      generalize a.eval (.tmp 14) = z14 at *
      generalize a.eval (.tmp 15) = z15 at *
      generalize a.eval (.tmp 16) = z16 at *
      generalize a.eval (.tmp 17) = z17 at *
      generalize a.eval (.tmp 18) = z18 at *
      generalize a.eval (.tmp 19) = z19 at *
      generalize a.eval (.tmp 20) = z20 at *
      generalize a.eval (.tmp 21) = z21 at *
      generalize a.eval (.tmp 22) = z22 at *
      rw [HA0.out]
      simp only [Act.put, List.setIfInBounds_toArray, List.set_cons_zero, List.set_cons_succ]
      clear hz HA0 SG e1 e2 e3 e7
      clear a a0
      refine wp_append_strs (.tmp 15) (.tmp 22) rfl w1.heap.size w1.heap.size _ _ TT [z] rfl rfl k15 k22 TL (by simp) hB.size (fun z8 w3 hO b3 => ?_)
      refine wp_yields (v := z8) (by rfl) ?_
      dsimp only [Act.put]
      go_wp2_with (fail)
      go_ret
      exact ⟨z8, rfl, hO.mono BB.size, Below.on BB (hB.trans b3)⟩
end Go.Proofs.YtcocengpekndjaaDoor
