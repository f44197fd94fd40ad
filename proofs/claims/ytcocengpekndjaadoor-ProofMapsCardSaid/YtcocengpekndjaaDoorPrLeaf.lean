/- The walks over the reference's Leaf and Map. -/
import Derived.Test.YtcocengpekndjaaDoorPrStep
namespace Go.Proofs.YtcocengpekndjaaDoor
open Go.RowKit
set_option maxRecDepth 100000 in
set_option maxHeartbeats 1000000 in
theorem rleaf_any (x : Rn) (w : World) (h0 : 0 ≤ x.lo) (h1 : x.lo < 9223372036854775808) (h2 : 0 ≤ x.hi) (h3 : x.hi < 9223372036854775808) (h4 : 0 ≤ x.tag) (h5 : x.tag < 256) : Calls Tryd.prog 43 #[encR x] w fun e w' => e = .returned (.string ⟨(textM x).toArray⟩) ∧ Below w.heap.size w w' := by
  obtain ⟨lo, hi, tag⟩ := x
  simp only at h0 h1 h2 h3 h4 h5
  have ht : textM ⟨lo, hi, tag⟩ = eightM lo ++ eightM hi ++ [tag.toNat.toUInt8] := by unfold textM; rw [show tag % 256 = tag from by omega]
  rw [ht]
  unfold encR
  have a0 := fun W => s_add (P := Tryd.prog) (eightM lo) (eightM hi) W (by simp [eightM_length])
  have a1 := fun W => s_add (P := Tryd.prog) (eightM lo ++ eightM hi) [tag.toNat.toUInt8] W (by simp [eightM_length])
  have n1 := fun W => eight_any lo W h0 h1
  have n2 := fun W => eight_any hi W h2 h3
  generalize eightM lo = sl at *
  generalize eightM hi = sh at *
  have N1 := Lib.hid n1
  have N2 := Lib.hid n2
  have A0 := Lib.hid a0
  have A1 := Lib.hid a1
  clear n1 n2 ht a0 a1
  go_enter Tryd.func43, Tryd.ntmps43
  go_upto_region 1 with (fail)
  obtain ⟨w0, hW0⟩ : ∃ w0, World.alloc w (.cells #[.int .i64 lo, .int .i64 hi, .int .i64 tag] 34) = w0 := ⟨_, rfl⟩
  have B0 : Below w.heap.size w w0 := hW0 ▸ Below.new1 _ _
  have hh : w0.heap[w.heap.size]? = some (.cells #[.int .i64 lo, .int .i64 hi, .int .i64 tag] 34 (0, 0)) := hW0 ▸ heap_alloc_new w _
  change Code.wp _ _ _ _ (World.alloc w (.cells #[.int .i64 lo, .int .i64 hi, .int .i64 tag] 34))
  rw [hW0]
  have c0 : w0.cell? ⟨w.heap.size, 0, none⟩ = some (.int .i64 lo) := (cell_of_row w0 _ 0 _ _ _ hh).trans rfl
  have c1 : w0.cell? ⟨w.heap.size, 1, none⟩ = some (.int .i64 hi) := (cell_of_row w0 _ 1 _ _ _ hh).trans rfl
  have c2 : w0.cell? ⟨w.heap.size, 2, none⟩ = some (.int .i64 tag) := (cell_of_row w0 _ 2 _ _ _ hh).trans rfl
  have l0 : w.heap.size < w0.heap.size := (Array.getElem?_eq_some_iff.1 hh).1
  clear hW0 hh
  refine wp_name fun a0 ha0 => ?_
  have e1 : a0.eval (.tmp 1) = .pointer (some ⟨w.heap.size, 0, none⟩) := by rw [ha0]; rfl
  have hz : a0.tmps.size = 16 := by rw [ha0]; rfl
  have HA0 := Lib.hid ha0
  clear ha0
  have SG : ∀ (d d' : Nat → Prop) (W W' : World), (fun (_ : Nat → Prop) (W : World) => Below w0.heap.size w0 W) d W → (∀ j, d j → d' j) → Below W.heap.size W W' → (fun (_ : Nat → Prop) (W : World) => Below w0.heap.size w0 W) d' W' := fun _ _ _ _ h _ b => Below.next h b
  refine wp_region_steps (Inv [3, 4, 5, 6, 7, 8, 9, 10, 11, 12, 13, 14, 15, 2] a0 (fun (_ : Nat → Prop) (W : World) => Below w0.heap.size w0 W) [(⟨some 0, 3, none, fun v _ => v = .pointer (some ⟨w.heap.size, 0, none⟩)⟩ : Cl), ⟨some 1, 4, none, fun v _ => v = .int .i64 lo⟩, ⟨some 2, 5, none, fun v _ => v = .string ⟨sl.toArray⟩⟩, ⟨some 3, 6, none, fun v _ => v = .pointer (some ⟨w.heap.size, 1, none⟩)⟩, ⟨some 4, 7, none, fun v _ => v = .int .i64 hi⟩, ⟨some 5, 8, none, fun v _ => v = .string ⟨sh.toArray⟩⟩, ⟨some 6, 9, none, fun v _ => v = .string ⟨(sl ++ sh).toArray⟩⟩, ⟨some 7, 10, none, fun v _ => v = .pointer (some ⟨w.heap.size, 2, none⟩)⟩, ⟨some 8, 11, none, fun v _ => v = .int .i64 tag⟩, ⟨some 9, 12, none, fun v _ => v = .int .u8 tag⟩, ⟨some 10, 13, none, One (.int .u8 tag)⟩, ⟨some 11, 14, none, fun v _ => v = .string ⟨[tag.toNat.toUInt8].toArray⟩⟩, ⟨some 12, 15, none, fun v _ => v = .string ⟨(sl ++ sh ++ [tag.toNat.toUInt8]).toArray⟩⟩, ⟨some 13, 2, none, fun v _ => v = .string ⟨(sl ++ sh ++ [tag.toNat.toUInt8]).toArray⟩⟩]) (by kernel_rfl) (by kernel_rfl) (Inv.start (Below.refl _ _).drew ⟨nofun, nofun, nofun, nofun, nofun, nofun, nofun, nofun, nofun, nofun, nofun, nofun, nofun, nofun, trivial⟩) ?_ ?_
  · have St : ∀ xc ∈ [(⟨some 0, 3, none, fun v _ => v = .pointer (some ⟨w.heap.size, 0, none⟩)⟩ : Cl), ⟨some 1, 4, none, fun v _ => v = .int .i64 lo⟩, ⟨some 2, 5, none, fun v _ => v = .string ⟨sl.toArray⟩⟩, ⟨some 3, 6, none, fun v _ => v = .pointer (some ⟨w.heap.size, 1, none⟩)⟩, ⟨some 4, 7, none, fun v _ => v = .int .i64 hi⟩, ⟨some 5, 8, none, fun v _ => v = .string ⟨sh.toArray⟩⟩, ⟨some 6, 9, none, fun v _ => v = .string ⟨(sl ++ sh).toArray⟩⟩, ⟨some 7, 10, none, fun v _ => v = .pointer (some ⟨w.heap.size, 2, none⟩)⟩, ⟨some 8, 11, none, fun v _ => v = .int .i64 tag⟩, ⟨some 9, 12, none, fun v _ => v = .int .u8 tag⟩, ⟨some 10, 13, none, One (.int .u8 tag)⟩, ⟨some 11, 14, none, fun v _ => v = .string ⟨[tag.toNat.toUInt8].toArray⟩⟩, ⟨some 12, 15, none, fun v _ => v = .string ⟨(sl ++ sh ++ [tag.toNat.toUInt8]).toArray⟩⟩, ⟨some 13, 2, none, fun v _ => v = .string ⟨(sl ++ sh ++ [tag.toNat.toUInt8]).toArray⟩⟩], Lasts xc := AllC.mem ⟨lastsV0 _ _ _ _, lastsV0 _ _ _ _, lastsV0 _ _ _ _, lastsV0 _ _ _ _, lastsV0 _ _ _ _, lastsV0 _ _ _ _, lastsV0 _ _ _ _, lastsV0 _ _ _ _, lastsV0 _ _ _ _, lastsV0 _ _ _ _, lastsOne _ _ _ _, lastsV0 _ _ _ _, lastsV0 _ _ _ _, lastsV0 _ _ _ _, trivial⟩
    clear HA0
    refine ⟨?_, ?_, ?_, ?_, ?_, ?_, ?_, ?_, ?_, ?_, ?_, ?_, ?_, ?_, trivial⟩
    · refine stepB rfl rfl (by decide) (by rw [hz]; decide) rfl rfl (by kernel_rfl) St SG fun d a W hF hG hH hn hcl hw => ?_
      have q1 := (hF.same 1 (by decide)).trans e1
      refine ⟨.pointer (some ⟨w.heap.size, 0, none⟩), W, ?_, Below.refl _ _, ?_⟩
      · clear hF hG hH hn hcl hw
        generalize a.eval = ρ at *
        go_simp
      · rfl
    · refine stepB rfl rfl (by decide) (by rw [hz]; decide) rfl rfl (by kernel_rfl) St SG fun d a W hF hG hH hn hcl hw => ?_
      have q3 : a.eval (.tmp 3) = .pointer (some ⟨w.heap.size, 0, none⟩) := hH.at_ (i := 0) rfl (hw 0 rfl) id
      have c := cell_kept hG c0
      clear c0 c1 c2
      refine ⟨.int .i64 lo, W, ?_, Below.refl _ _, ?_⟩
      · clear hF hG hH hn hcl hw
        generalize a.eval = ρ at *
        go_simp
      · rfl
    · refine stepC rfl rfl (by decide) (by rw [hz]; decide) rfl rfl (by kernel_rfl) St SG fun d a W hF hG hH hn hcl hw => ?_
      have q4 : a.eval (.tmp 4) = .int .i64 lo := hH.at_ (i := 1) rfl (hw 1 rfl) id
      have qf : a.eval (.func 59) = .func (.func 59) #[] #[] := rfl
      refine ⟨59, #[.int .i64 lo], ?_, ?_⟩
      · clear hF hG hH hn hcl hw
        generalize a.eval = ρ at *
        go_simp
      · refine (N1.out W).mono ?_; rintro e W' ⟨rfl, b⟩; exact ⟨_, rfl, b, rfl⟩
    · refine stepB rfl rfl (by decide) (by rw [hz]; decide) rfl rfl (by kernel_rfl) St SG fun d a W hF hG hH hn hcl hw => ?_
      have q1 := (hF.same 1 (by decide)).trans e1
      refine ⟨.pointer (some ⟨w.heap.size, 1, none⟩), W, ?_, Below.refl _ _, ?_⟩
      · clear hF hG hH hn hcl hw
        generalize a.eval = ρ at *
        go_simp
      · rfl
    · refine stepB rfl rfl (by decide) (by rw [hz]; decide) rfl rfl (by kernel_rfl) St SG fun d a W hF hG hH hn hcl hw => ?_
      have q6 : a.eval (.tmp 6) = .pointer (some ⟨w.heap.size, 1, none⟩) := hH.at_ (i := 3) rfl (hw 3 rfl) id
      have c := cell_kept hG c1
      clear c0 c1 c2
      refine ⟨.int .i64 hi, W, ?_, Below.refl _ _, ?_⟩
      · clear hF hG hH hn hcl hw
        generalize a.eval = ρ at *
        go_simp
      · rfl
    · refine stepC rfl rfl (by decide) (by rw [hz]; decide) rfl rfl (by kernel_rfl) St SG fun d a W hF hG hH hn hcl hw => ?_
      have q7 : a.eval (.tmp 7) = .int .i64 hi := hH.at_ (i := 4) rfl (hw 4 rfl) id
      have qf : a.eval (.func 59) = .func (.func 59) #[] #[] := rfl
      refine ⟨59, #[.int .i64 hi], ?_, ?_⟩
      · clear hF hG hH hn hcl hw
        generalize a.eval = ρ at *
        go_simp
      · refine (N2.out W).mono ?_; rintro e W' ⟨rfl, b⟩; exact ⟨_, rfl, b, rfl⟩
    · refine stepB rfl rfl (by decide) (by rw [hz]; decide) rfl rfl (by kernel_rfl) St SG fun d a W hF hG hH hn hcl hw => ?_
      have q5 : a.eval (.tmp 5) = .string ⟨sl.toArray⟩ := hH.at_ (i := 2) rfl (hw 2 rfl) id
      have q8 : a.eval (.tmp 8) = .string ⟨sh.toArray⟩ := hH.at_ (i := 5) rfl (hw 5 rfl) id
      have r := A0.out W
      refine ⟨.string ⟨(sl ++ sh).toArray⟩, W, ?_, Below.refl _ _, ?_⟩
      · clear hF hG hH hn hcl hw
        generalize a.eval = ρ at *
        go_simp
      · rfl
    · refine stepB rfl rfl (by decide) (by rw [hz]; decide) rfl rfl (by kernel_rfl) St SG fun d a W hF hG hH hn hcl hw => ?_
      have q1 := (hF.same 1 (by decide)).trans e1
      refine ⟨.pointer (some ⟨w.heap.size, 2, none⟩), W, ?_, Below.refl _ _, ?_⟩
      · clear hF hG hH hn hcl hw
        generalize a.eval = ρ at *
        go_simp
      · rfl
    · refine stepB rfl rfl (by decide) (by rw [hz]; decide) rfl rfl (by kernel_rfl) St SG fun d a W hF hG hH hn hcl hw => ?_
      have q10 : a.eval (.tmp 10) = .pointer (some ⟨w.heap.size, 2, none⟩) := hH.at_ (i := 7) rfl (hw 7 rfl) id
      have c := cell_kept hG c2
      clear c0 c1 c2
      refine ⟨.int .i64 tag, W, ?_, Below.refl _ _, ?_⟩
      · clear hF hG hH hn hcl hw
        generalize a.eval = ρ at *
        go_simp
      · rfl
    · refine stepB rfl rfl (by decide) (by rw [hz]; decide) rfl rfl (by kernel_rfl) St SG fun d a W hF hG hH hn hcl hw => ?_
      have q11 : a.eval (.tmp 11) = .int .i64 tag := hH.at_ (i := 8) rfl (hw 8 rfl) id
      have m : IntKind.u8.wrap tag = tag := by rw [IntKind.wrap_u8']; omega
      refine ⟨.int .u8 tag, W, ?_, Below.refl _ _, ?_⟩
      · clear hF hG hH hn hcl hw
        generalize a.eval = ρ at *
        go_simp
      · rfl
    · refine stepB rfl rfl (by decide) (by rw [hz]; decide) rfl rfl (by kernel_rfl) St SG fun d a W hF hG hH hn hcl hw => ?_
      have q12 : a.eval (.tmp 12) = .int .u8 tag := hH.at_ (i := 9) rfl (hw 9 rfl) id
      refine ⟨.slice (some ⟨W.heap.size, 0, none⟩) 1 1, W.alloc (.cells #[.int .u8 tag] 5), ?_, Below.new1 W _, ?_⟩
      · clear hF hG hH hn hcl hw
        generalize a.eval = ρ at *
        go_simp
      · exact ⟨_, _, rfl, cell_one_new W _ _ 0 _ rfl⟩
    · refine stepB rfl rfl (by decide) (by rw [hz]; decide) rfl rfl (by kernel_rfl) St SG fun d a W hF hG hH hn hcl hw => ?_
      have q13 : One (.int .u8 tag) (a.eval (.tmp 13)) W := hH.at_ (i := 10) rfl (hw 10 rfl) id
      have r := q13.text h4 h5
      clear q13
      refine ⟨.string ⟨[tag.toNat.toUInt8].toArray⟩, W, ?_, Below.refl _ _, ?_⟩
      · clear hF hG hH hn hcl hw
        generalize a.eval = ρ at *
        go_simp
      · rfl
    · refine stepB rfl rfl (by decide) (by rw [hz]; decide) rfl rfl (by kernel_rfl) St SG fun d a W hF hG hH hn hcl hw => ?_
      have q9 : a.eval (.tmp 9) = .string ⟨(sl ++ sh).toArray⟩ := hH.at_ (i := 6) rfl (hw 6 rfl) id
      have q14 : a.eval (.tmp 14) = .string ⟨[tag.toNat.toUInt8].toArray⟩ := hH.at_ (i := 11) rfl (hw 11 rfl) id
      have r := A1.out W
      refine ⟨.string ⟨(sl ++ sh ++ [tag.toNat.toUInt8]).toArray⟩, W, ?_, Below.refl _ _, ?_⟩
      · clear hF hG hH hn hcl hw
        generalize a.eval = ρ at *
        go_simp
      · rfl
    · refine stepB rfl rfl (by decide) (by rw [hz]; decide) rfl rfl (by kernel_rfl) St SG fun d a W hF hG hH hn hcl hw => ?_
      have q15 : a.eval (.tmp 15) = .string ⟨(sl ++ sh ++ [tag.toNat.toUInt8]).toArray⟩ := hH.at_ (i := 12) rfl (hw 12 rfl) id
      refine ⟨.string ⟨(sl ++ sh ++ [tag.toNat.toUInt8]).toArray⟩, W, ?_, Below.refl _ _, ?_⟩
      · clear hF hG hH hn hcl hw
        generalize a.eval = ρ at *
        go_simp
      · rfl
  · intro d a W ⟨hF, hB, hH⟩ hall
    have k2 : a.eval (.tmp 2) = .string ⟨(sl ++ sh ++ [tag.toNat.toUInt8]).toArray⟩ := hH.at_ (i := 13) rfl (hall 13 (by decide)) id
    clear hH hall
    rw [hF.shape (by rw [hz]; decide)]
    clear hF
    simp only [List.foldl]
    generalize a.eval (.tmp 3) = z3 at *
    generalize a.eval (.tmp 4) = z4 at *
    generalize a.eval (.tmp 5) = z5 at *
    generalize a.eval (.tmp 6) = z6 at *
    generalize a.eval (.tmp 7) = z7 at *
    generalize a.eval (.tmp 8) = z8 at *
    generalize a.eval (.tmp 9) = z9 at *
    generalize a.eval (.tmp 10) = z10 at *
    generalize a.eval (.tmp 11) = z11 at *
    generalize a.eval (.tmp 12) = z12 at *
    generalize a.eval (.tmp 13) = z13 at *
    generalize a.eval (.tmp 14) = z14 at *
    generalize a.eval (.tmp 15) = z15 at *
    generalize a.eval (.tmp 2) = z2 at *
    subst k2
    rw [HA0.out]
    simp only [Act.put, List.setIfInBounds_toArray, List.set_cons_zero, List.set_cons_succ]
    clear hz HA0 SG e1
    clear a a0
    go_wp2_with (fail)
    go_ret
    exact ⟨rfl, Below.on B0 hB⟩
set_option maxRecDepth 100000 in
set_option maxHeartbeats 2000000 in
theorem rmap_any (size count : Int) (h : Bs) (w : World) (h0 : 0 ≤ size) (h1 : size < 9223372036854775808) (h2 : 0 ≤ count) (h3 : count < 9223372036854775808) (hh : h.length = 32) : Calls Tryd.prog 61 #[wordsV, .int .i64 size, .int .i64 count, hashV h] w fun e w' => e = .returned (hashV (sealM size count h)) ∧ Below w.heap.size w w' := by
  have a0 := fun W => s_add (P := Tryd.prog) [2] (eightM size) W (by simp [eightM_length])
  have a1 := fun W => s_add (P := Tryd.prog) (2 :: eightM size) (eightM count) W (by simp [eightM_length])
  have a2 := fun W => s_add (P := Tryd.prog) (2 :: (eightM size ++ eightM count)) h W (by simp [eightM_length, hh])
  simp only [List.cons_append, List.append_assoc] at a1 a2
  have n1 := fun W => eight_any size W h0 h1
  have n2 := fun W => eight_any count W h2 h3
  have hs := fun (W : World) => rsum_any (2 :: (eightM size ++ (eightM count ++ h))) W (by simp [eightM_length, hh])
  have hl : (sealM size count h).length = 32 := sha_length _
  have he : sha (2 :: (eightM size ++ (eightM count ++ h))) = sealM size count h := by unfold sealM; rw [List.append_assoc]
  rw [he] at hs
  generalize sealM size count h = x at *
  generalize eightM size = ss at *
  generalize eightM count = sc at *
  have N1 := Lib.hid n1
  have N2 := Lib.hid n2
  have A0 := Lib.hid a0
  have A1 := Lib.hid a1
  have A2 := Lib.hid a2
  have HS := Lib.hid hs
  have HL := Lib.hid hl
  have HH := Lib.hid hh
  clear n1 n2 a0 a1 a2 hs hl hh he
  go_enter Tryd.func61, Tryd.ntmps61
  go_upto_region 1 with (fail)
  obtain ⟨w0, hW0⟩ : ∃ w0, World.alloc (World.alloc (w.alloc (.cells (ints .u32 wordsL) 27)) (.cells (cellsB h).toArray 30)) (.cells (ints .u8 (List.replicate 32 0)) 30) = w0 := ⟨_, rfl⟩
  have B0 : Below w.heap.size w w0 := hW0 ▸ Below.on (Below.on (Below.new1 _ _) (Below.new1 _ _)) (Below.new1 _ _)
  have y4 : BoxW w0 w.heap.size := hW0 ▸ ((BoxW.new w).next (Below.new1 _ _)).next (Below.new1 _ _)
  have x5 : BoxH w0 (w.heap.size + 1) h := by
    have := (BoxH.new (w.alloc (.cells (ints .u32 wordsL) 27)) h).next (Below.new1 _ (.cells (ints .u8 (List.replicate 32 0)) 30))
    rw [World.size_alloc] at this; exact hW0 ▸ this
  have x6 : BoxA w0 (w.heap.size + 1 + 1) 30 .u8 (List.replicate 32 0) := by
    have := BoxA.new ((w.alloc (.cells (ints .u32 wordsL) 27)).alloc (.cells (cellsB h).toArray 30)) 30 .u8 (List.replicate 32 0) _ rfl
    rw [World.size_alloc, World.size_alloc] at this; exact hW0 ▸ this
  change Code.wp _ _ _ _ (World.alloc (World.alloc (w.alloc (.cells (ints .u32 wordsL) 27)) (.cells (cellsB h).toArray 30)) (.cells (ints .u8 (List.replicate 32 0)) 30))
  rw [hW0]
  clear hW0
  refine wp_name fun a0 ha0 => ?_
  have e1 : a0.eval (.tmp 1) = .int .i64 size := by rw [ha0]; rfl
  have e2 : a0.eval (.tmp 2) = .int .i64 count := by rw [ha0]; rfl
  have e4 : a0.eval (.tmp 4) = .pointer (some ⟨w.heap.size, 0, none⟩) := by rw [ha0]; rfl
  have e7 : a0.eval (.tmp 7) = .pointer (some ⟨w.heap.size + 1, 0, none⟩) := by rw [ha0]; rfl
  have e8 : a0.eval (.tmp 8) = .pointer (some ⟨w.heap.size + 1 + 1, 0, none⟩) := by rw [ha0]; rfl
  have hz : a0.tmps.size = 20 := by rw [ha0]; rfl
  have HA0 := Lib.hid ha0
  clear ha0
  have SG : ∀ (d d' : Nat → Prop) (W W' : World), (fun (_ : Nat → Prop) (W : World) => Below w0.heap.size w0 W) d W → (∀ j, d j → d' j) → Below W.heap.size W W' → (fun (_ : Nat → Prop) (W : World) => Below w0.heap.size w0 W) d' W' := fun _ _ _ _ h _ b => Below.next h b
  refine wp_region_lastly 11 _ (Inv [9, 10, 11, 12, 13, 14, 15, 16, 17, 18, 19] a0 (fun (_ : Nat → Prop) (W : World) => Below w0.heap.size w0 W) [(⟨some 0, 9, none, fun v _ => v = wordsV⟩ : Cl), ⟨some 1, 10, none, fun v _ => v = .int .i64 size⟩, ⟨some 2, 11, none, fun v _ => v = .string ⟨ss.toArray⟩⟩, ⟨some 3, 12, none, fun v _ => v = .string ⟨(2 :: ss).toArray⟩⟩, ⟨some 4, 13, none, fun v _ => v = .int .i64 count⟩, ⟨some 5, 14, none, fun v _ => v = .string ⟨sc.toArray⟩⟩, ⟨some 6, 15, none, fun v _ => v = .string ⟨(2 :: (ss ++ sc)).toArray⟩⟩, ⟨some 7, 16, none, fun v _ => v = .slice (some ⟨w.heap.size + 1, 0, none⟩) 32 32⟩, ⟨some 8, 17, none, fun v _ => v = .string ⟨h.toArray⟩⟩, ⟨some 9, 18, none, fun v _ => v = .string ⟨(2 :: (ss ++ (sc ++ h))).toArray⟩⟩, ⟨some 10, 19, none, fun v _ => v = hashV x⟩]) (by kernel_rfl) (by kernel_rfl) rfl rfl (by kernel_rfl) rfl (Inv.start (Below.refl _ _).drew ⟨nofun, nofun, nofun, nofun, nofun, nofun, nofun, nofun, nofun, nofun, nofun, trivial⟩) ?_ ?_
  · have St : ∀ xc ∈ [(⟨some 0, 9, none, fun v _ => v = wordsV⟩ : Cl), ⟨some 1, 10, none, fun v _ => v = .int .i64 size⟩, ⟨some 2, 11, none, fun v _ => v = .string ⟨ss.toArray⟩⟩, ⟨some 3, 12, none, fun v _ => v = .string ⟨(2 :: ss).toArray⟩⟩, ⟨some 4, 13, none, fun v _ => v = .int .i64 count⟩, ⟨some 5, 14, none, fun v _ => v = .string ⟨sc.toArray⟩⟩, ⟨some 6, 15, none, fun v _ => v = .string ⟨(2 :: (ss ++ sc)).toArray⟩⟩, ⟨some 7, 16, none, fun v _ => v = .slice (some ⟨w.heap.size + 1, 0, none⟩) 32 32⟩, ⟨some 8, 17, none, fun v _ => v = .string ⟨h.toArray⟩⟩, ⟨some 9, 18, none, fun v _ => v = .string ⟨(2 :: (ss ++ (sc ++ h))).toArray⟩⟩, ⟨some 10, 19, none, fun v _ => v = hashV x⟩], Lasts xc := AllC.mem ⟨lastsV0 _ _ _ _, lastsV0 _ _ _ _, lastsV0 _ _ _ _, lastsV0 _ _ _ _, lastsV0 _ _ _ _, lastsV0 _ _ _ _, lastsV0 _ _ _ _, lastsV0 _ _ _ _, lastsV0 _ _ _ _, lastsV0 _ _ _ _, lastsV0 _ _ _ _, trivial⟩
    clear HA0
    refine ⟨?_, ?_, ?_, ?_, ?_, ?_, ?_, ?_, ?_, ?_, ?_, trivial⟩
    · refine stepB rfl rfl (by decide) (by rw [hz]; decide) rfl rfl (by kernel_rfl) St SG fun d a W hF hG hH hn hcl hw => ?_
      have q4 := (hF.same 4 (by decide)).trans e4
      refine ⟨wordsV, W, ?_, Below.refl _ _, ?_⟩
      · exact exec_load rfl (by rw [q4]; exact BoxW.load (BoxA.next y4 hG))
      · rfl
    · refine stepB rfl rfl (by decide) (by rw [hz]; decide) rfl rfl (by kernel_rfl) St SG fun d a W hF hG hH hn hcl hw => ?_
      have q1 := (hF.same 1 (by decide)).trans e1
      refine ⟨.int .i64 size, W, ?_, Below.refl _ _, ?_⟩
      · clear hF hG hH hn hcl hw
        generalize a.eval = ρ at *
        go_simp
      · rfl
    · refine stepC rfl rfl (by decide) (by rw [hz]; decide) rfl rfl (by kernel_rfl) St SG fun d a W hF hG hH hn hcl hw => ?_
      have q10 : a.eval (.tmp 10) = .int .i64 size := hH.at_ (i := 1) rfl (hw 1 rfl) id
      have qf : a.eval (.func 59) = .func (.func 59) #[] #[] := rfl
      refine ⟨59, #[.int .i64 size], ?_, ?_⟩
      · clear hF hG hH hn hcl hw
        generalize a.eval = ρ at *
        go_simp
      · refine (N1.out W).mono ?_; rintro e W' ⟨rfl, b⟩; exact ⟨_, rfl, b, rfl⟩
    · refine stepB rfl rfl (by decide) (by rw [hz]; decide) rfl rfl (by kernel_rfl) St SG fun d a W hF hG hH hn hcl hw => ?_
      have q11 : a.eval (.tmp 11) = .string ⟨ss.toArray⟩ := hH.at_ (i := 2) rfl (hw 2 rfl) id
      have qs : a.eval (.const (.string ⟨#[2]⟩)) = .string ⟨#[2]⟩ := rfl
      have r := A0.out W
      refine ⟨.string ⟨(2 :: ss).toArray⟩, W, ?_, Below.refl _ _, ?_⟩
      · clear hF hG hH hn hcl hw
        generalize a.eval = ρ at *
        go_simp
      · rfl
    · refine stepB rfl rfl (by decide) (by rw [hz]; decide) rfl rfl (by kernel_rfl) St SG fun d a W hF hG hH hn hcl hw => ?_
      have q2 := (hF.same 2 (by decide)).trans e2
      refine ⟨.int .i64 count, W, ?_, Below.refl _ _, ?_⟩
      · clear hF hG hH hn hcl hw
        generalize a.eval = ρ at *
        go_simp
      · rfl
    · refine stepC rfl rfl (by decide) (by rw [hz]; decide) rfl rfl (by kernel_rfl) St SG fun d a W hF hG hH hn hcl hw => ?_
      have q13 : a.eval (.tmp 13) = .int .i64 count := hH.at_ (i := 4) rfl (hw 4 rfl) id
      have qf : a.eval (.func 59) = .func (.func 59) #[] #[] := rfl
      refine ⟨59, #[.int .i64 count], ?_, ?_⟩
      · clear hF hG hH hn hcl hw
        generalize a.eval = ρ at *
        go_simp
      · refine (N2.out W).mono ?_; rintro e W' ⟨rfl, b⟩; exact ⟨_, rfl, b, rfl⟩
    · refine stepB rfl rfl (by decide) (by rw [hz]; decide) rfl rfl (by kernel_rfl) St SG fun d a W hF hG hH hn hcl hw => ?_
      have q12 : a.eval (.tmp 12) = .string ⟨(2 :: ss).toArray⟩ := hH.at_ (i := 3) rfl (hw 3 rfl) id
      have q14 : a.eval (.tmp 14) = .string ⟨sc.toArray⟩ := hH.at_ (i := 5) rfl (hw 5 rfl) id
      have r := A1.out W
      refine ⟨.string ⟨(2 :: (ss ++ sc)).toArray⟩, W, ?_, Below.refl _ _, ?_⟩
      · clear hF hG hH hn hcl hw
        generalize a.eval = ρ at *
        go_simp
      · rfl
    · refine stepB rfl rfl (by decide) (by rw [hz]; decide) rfl rfl (by kernel_rfl) St SG fun d a W hF hG hH hn hcl hw => ?_
      have q7 := (hF.same 7 (by decide)).trans e7
      refine ⟨.slice (some ⟨w.heap.size + 1, 0, none⟩) 32 32, W, ?_, Below.refl _ _, ?_⟩
      · clear hF hG hH hn hcl hw
        generalize a.eval = ρ at *
        go_simp
      · rfl
    · refine stepB rfl rfl (by decide) (by rw [hz]; decide) rfl rfl (by kernel_rfl) St SG fun d a W hF hG hH hn hcl hw => ?_
      have q16 : a.eval (.tmp 16) = .slice (some ⟨w.heap.size + 1, 0, none⟩) 32 32 := hH.at_ (i := 7) rfl (hw 7 rfl) id
      have r := BoxH.text (x5.next hG) HH.out 32
      refine ⟨.string ⟨h.toArray⟩, W, ?_, Below.refl _ _, ?_⟩
      · clear hF hG hH hn hcl hw
        generalize a.eval = ρ at *
        go_simp
      · rfl
    · refine stepB rfl rfl (by decide) (by rw [hz]; decide) rfl rfl (by kernel_rfl) St SG fun d a W hF hG hH hn hcl hw => ?_
      have q15 : a.eval (.tmp 15) = .string ⟨(2 :: (ss ++ sc)).toArray⟩ := hH.at_ (i := 6) rfl (hw 6 rfl) id
      have q17 : a.eval (.tmp 17) = .string ⟨h.toArray⟩ := hH.at_ (i := 8) rfl (hw 8 rfl) id
      have r := A2.out W
      refine ⟨.string ⟨(2 :: (ss ++ (sc ++ h))).toArray⟩, W, ?_, Below.refl _ _, ?_⟩
      · clear hF hG hH hn hcl hw
        generalize a.eval = ρ at *
        go_simp
      · rfl
    · refine stepC rfl rfl (by decide) (by rw [hz]; decide) rfl rfl (by kernel_rfl) St SG fun d a W hF hG hH hn hcl hw => ?_
      have q9 : a.eval (.tmp 9) = wordsV := hH.at_ (i := 0) rfl (hw 0 rfl) id
      have q18 : a.eval (.tmp 18) = .string ⟨(2 :: (ss ++ (sc ++ h))).toArray⟩ := hH.at_ (i := 9) rfl (hw 9 rfl) id
      have qf : a.eval (.func 20) = .func (.func 20) #[] #[] := rfl
      refine ⟨20, #[wordsV, .string ⟨(2 :: (ss ++ (sc ++ h))).toArray⟩], ?_, ?_⟩
      · clear hF hG hH hn hcl hw
        generalize a.eval = ρ at *
        go_simp
      · refine (HS.out W).mono ?_; rintro e W' ⟨rfl, b⟩; exact ⟨_, rfl, b, rfl⟩
  · intro d a W ⟨hF, hB, hH⟩ hall
    have k19 : a.eval (.tmp 19) = hashV x := hH.at_ (i := 10) rfl (hall 10 (by decide)) id
    clear hH hall
    rw [hF.shape (by rw [hz]; decide)]
    clear hF
    simp only [List.foldl]
    generalize a.eval (.tmp 9) = z9 at *
    generalize a.eval (.tmp 10) = z10 at *
    generalize a.eval (.tmp 11) = z11 at *
    generalize a.eval (.tmp 12) = z12 at *
    generalize a.eval (.tmp 13) = z13 at *
    generalize a.eval (.tmp 14) = z14 at *
    generalize a.eval (.tmp 15) = z15 at *
    generalize a.eval (.tmp 16) = z16 at *
    generalize a.eval (.tmp 17) = z17 at *
    generalize a.eval (.tmp 18) = z18 at *
    generalize a.eval (.tmp 19) = z19 at *
    subst k19
    rw [HA0.out]
    simp only [Act.put, List.setIfInBounds_toArray, List.set_cons_zero, List.set_cons_succ]
    clear hz HA0 SG e1 e2 e4 e7 e8
    clear a a0
    refine wp_storeH (.tmp 8) (.tmp 19) rfl (w.heap.size + 1 + 1) x rfl rfl (x6.next hB) rfl HL.out ?_
    have y6 : BoxH (W.setRow (w.heap.size + 1 + 1) (ints .u8 (nums x))) (w.heap.size + 1 + 1) x := (x6.next hB).setRow
    have b6 := below_setRow (Below.on B0 hB) (show w.heap.size ≤ w.heap.size + 1 + 1 by omega) (ints .u8 (nums x))
    generalize World.setRow W (w.heap.size + 1 + 1) (ints .u8 (nums x)) = W6 at *
    dsimp only [Act.put]
    go_wp2_with (fail)
    exact bodyPost_ret (v := hashV x) (results_hash rfl _ (w.heap.size + 1 + 1) _ rfl y6 HL.out) rfl ⟨rfl, b6⟩
end Go.Proofs.YtcocengpekndjaaDoor
