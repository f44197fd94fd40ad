/- The walk over SpanApplies. -/
import Derived.Test.YtfmplibjhohpgaaSpChOwn
import Derived.Test.YtfmplibjhohpgaaSpApply
import Derived.Test.YtfmplibjhohpgaaSpRefApply
import Derived.Test.YtfmplibjhohpgaaSpPlayed
import Derived.Test.YtfmplibjhohpgaaSpBuilt
namespace Go.Proofs.Ytfmplibjhohpgaa
open Go.RowKit Go.Shelf
set_option maxRecDepth 100000 in
set_option maxHeartbeats 400000 in
theorem applies_many (w : World) (size : Int) (A : Option Addr) (m c : Nat) (B : Option Addr) (n d : Nat) (hl : ¬ (m : Int) ≤ 60) :
    Calls Try.prog 12 #[.int .i64 size, .slice A m c, .slice B n d] w (FromsPost w) := by
  have HL := Lib.hid hl
  clear hl
  go_enter Try.func12, Try.ntmps12
  go_wp2_with (fail)
  go_at_call 29
  refine (lfew_no _ A m c (by have := HL.out; omega)).mono ?_
  rintro e w' ⟨rfl, rfl⟩
  go_wp2_with (fail)
  go_at_call 18
  refine (awake_any _).mono ?_
  rintro e wz ⟨rfl, bz⟩
  go_wp2_with (fail)
  go_ret
  exact ⟨rfl, bz⟩
set_option maxRecDepth 100000 in
set_option maxHeartbeats 400000 in
theorem applies_long (w : World) (size : Int) (A : Option Addr) (m c : Nat) (B : Option Addr) (n d : Nat) (hl : (m : Int) ≤ 60) (h : 60 < (n : Int)) :
    Calls Try.prog 12 #[.int .i64 size, .slice A m c, .slice B n d] w (FromsPost w) := by
  have HL := Lib.hid hl
  clear hl
  go_enter Try.func12, Try.ntmps12
  go_wp2_with (fail)
  go_at_call 29
  refine (lfew_yes _ A m c (by have := HL.out; omega)).mono ?_
  rintro e w' ⟨rfl, rfl⟩
  go_wp2_with (fail)
  go_at_call 18
  refine (awake_any _).mono ?_
  rintro e wz ⟨rfl, bz⟩
  go_wp2_with (fail)
  go_ret
  exact ⟨rfl, bz⟩
set_option maxRecDepth 100000 in
set_option maxHeartbeats 4000000 in
theorem applies_some (w : World) (size : Int) (A : Option Addr) (l : List Ac) (m c : Nat) (b : Addr) (k : List Ch) (n d : Nat) (hm : l.length = m) (hA : Acts w A l) (hlc : m ≤ c) (hl : (m : Int) ≤ 60) (hn : k.length = n) (hk : Chs w (some b) k) (hnd : n ≤ d) (h60 : ¬ 60 < (n : Int)) :
    Calls Try.prog 12 #[.int .i64 size, .slice A m c, .slice (some b) n d] w (FromsPost w) := by
  obtain ⟨i0, hi0, hz0, hz1, hz2⟩ := info_parts infoCh
  have hM := moreL_good l (newR_good size)
  have hpl : ∀ W, Below w.heap.size w W → Calls Try.prog 37 #[.int .i64 size, .slice A m c] W (DoPost W (moreL (newR size).2 l)) := fun W hW => played_any W size A l m c hm (hA.below hW) hlc (by omega)
  generalize moreL (newR size).2 l = M at *
  obtain ⟨R, hR⟩ : ∃ R, applyTop M k = R := ⟨_, rfl⟩
  have HPL := Lib.hid hpl
  have HM := Lib.hid hM
  have HL := Lib.hid hl
  have HR := Lib.hid hR
  have HN := Lib.hid hn
  have HK := Lib.hid hk
  clear hpl hM hl hA hm hR hn hk
  go_enter Try.func12, Try.ntmps12
  go_wp2_with (fail)
  go_at_call 29
  refine (lfew_yes _ A m c (by have := HL.out; omega)).mono ?_
  rintro e w' ⟨rfl, rfl⟩
  go_wp2_with (fail)
  go_at_call 37
  refine (HPL.out _ (Below.refl _ _)).mono ?_
  rintro e w1 ⟨p, Q, f, rfl, hp, hQ, hf, b1⟩
  go_upto_region 4 with (fail)
  obtain ⟨wb, hwb⟩ : ∃ wb, (w1.alloc (.cells #[.pointer p] 26)).alloc (.cells #[.int .i64 (Tr.total M), .slice Q M.length f] 31) = wb := ⟨_, rfl⟩
  have y0 : Boxed wb w1.heap.size 26 (.pointer p) := hwb ▸ bx_next (Boxed.new w1 _ _) (Below.alloc1 _ _)
  have z0 : BoxM wb (w1.heap.size + 1) (Tr.total M) (.slice Q M.length f) := by
    have := BoxM.new (w1.alloc (.cells #[.pointer p] 26)) (Tr.total M) (.slice Q M.length f)
    rw [World.size_alloc] at this; exact hwb ▸ this
  have db : Below w1.heap.size w1 wb := hwb ▸ Below.alloc2 w1 _ _
  have hB0 := Below.next b1 db
  have hp0 := hp.below db
  have hQ0 := hQ.below db
  have hK0 := HK.out.below hB0
  rw [hwb]
  clear hwb db b1 hp hQ
  have HE := Lib.hid (OwnChs.empty wb)
  have hLr : Hid (∀ j u, (cellsCh k)[j]? = some u → (wb.alloc (.cells #[] 74)).cell? (b.add j) = some u) := cells_of_chs (hK0.below (Below.alloc1 wb _))
  have hLn : Hid ((cellsCh k).length = n * 4) := by show _ = _; rw [cellsCh_length, HN.out]
  go_wp2_with (at_builtin; (refine wpList_append_own _ rfl _ _ 68 rfl wb.heap.size 74 i0 (.agg #[.int .i64 0, .int .i64 0, .int .i64 0, .int .i64 0]) 4 32 Try.underlying68 hi0 hz0 hz1 hz2 rfl (by decide) _ _ _ rfl HE.out b n d (cellsCh k) rfl hLn.out hLr.out (cellsCh_one k) (by unfold maxLen; omega) (by omega) (by rw [World.size_alloc]; omega) ?_); intro v' w2 hown hgrow hnn; have hBx : Below wb.heap.size wb w2 := Below.grown_ hgrow; have hO := OwnChs.of_empty HN.out hown; obtain ⟨I, g, rfl, hig, hI⟩ := hO.chs; have c7 := (bx_next y0 hBx).cell)
  rw [HN.out] at hig
  rw [HN.out]
  clear hO hown hgrow hnn HE hLr hLn
  have y1 := bx_next y0 hBx
  have z1 := z0.next hBx
  have B1 := Below.next hB0 hBx
  have p1 := hp0.below hBx
  have r1 := hQ0.below hBx
  have k1 := hK0.below hBx
  clear hBx y0 z0 hB0 hp0 hQ0 hK0
  have hap := apply_any w2 p I k g M HM.out p1 hI (by rw [HN.out]; exact hig) (by rw [HN.out]; omega)
  rw [HR.out, HN.out] at hap
  have HAP := Lib.hid hap
  clear hap
  go_at_call 35
  refine HAP.out.mono ?_
  rintro e w3 ⟨p3, rfl, hp3, b3⟩
  have y2 := bx_next y1 b3
  have z2 := z1.next b3
  have B2 := Below.next B1 b3
  have p2 := p1.below b3
  have r2 := r1.below b3
  have k2 := k1.below b3
  have I2 := hI.below b3
  clear b3 y1 z1 B1 p1 r1 k1 hI c7 HAP
  go_upto_region 6 with (fail)
  generalize hw4 : World.alloc w3 _ = w4
  have d4 : Below w3.heap.size w3 w4 := hw4 ▸ Below.alloc1 w3 _
  have x11 : Boxed w4 w3.heap.size 26 (.pointer p3) := hw4 ▸ Boxed.new w3 _ _
  have y3 := bx_next y2 d4
  have z3 := z2.next d4
  have B3 := Below.next B2 d4
  have q3 := hp3.below d4
  have p3' := p2.below d4
  have r3 := r2.below d4
  have k3 := k2.below d4
  have I3 := I2.below d4
  clear hw4 d4 y2 z2 B2 hp3 p2 r2 k2 I2
  have c7 := y3.cell
  have c80 := z3.c0
  have c81 := z3.c1
  have hra := rapply_any w4 Q f (some b) k d M HM.out r3 hf k3 (by rw [HN.out]; exact hnd) (by rw [HN.out]; omega)
  rw [HR.out, HN.out] at hra
  have HRA := Lib.hid hra
  clear hra
  go_wp2_with (fail)
  go_at_call 45
  refine HRA.out.mono ?_
  rintro e w5 ⟨Q5, f5, rfl, r5, hf5, b5⟩
  have x12 := bx_next x11 b5
  have y4 := bx_next y3 b5
  have z4 := z3.next b5
  have B4 := Below.next B3 b5
  have q4 := q3.below b5
  have p4 := p3'.below b5
  have r4 := r3.below b5
  have k4 := k3.below b5
  have I4 := I3.below b5
  clear b5 x11 y3 z3 B3 q3 p3' r3 k3 I3 c7 c80 c81 HRA
  go_upto_region 7 with (fail)
  generalize hw6 : World.alloc w5 _ = w6
  have d6 : Below w5.heap.size w5 w6 := hw6 ▸ Below.alloc1 w5 _
  have u13 : BoxM w6 w5.heap.size (Tr.total R.2) (.slice Q5 R.2.length f5) := hw6 ▸ BoxM.new w5 _ _
  have u11 := bx_next x12 d6
  have u7 := bx_next y4 d6
  have u8 := z4.next d6
  have uB := Below.next B4 d6
  have uq := q4.below d6
  have up := p4.below d6
  have ur := r4.below d6
  have us := r5.below d6
  have uk := k4.below d6
  have uI := I4.below d6
  clear hw6 d6 x12 y4 z4 B4 q4 p4 r4 r5 k4 I4
  have c11 := u11.cell
  have c130 := u13.c0
  have c131 := u13.c1
  have he : (R.1 == R.1) = true := by simp
  go_wp2_with (fail)
  go_at_call 21
  refine (same_any w6 p3 R.2 Q5 f5 uq us.1 hf5).mono ?_
  rintro e w7 ⟨rfl, b7⟩
  have v7 := bx_next u7 b7
  have v8 := u8.next b7
  have vB := Below.next uB b7
  have vp := up.below b7
  have vr := ur.below b7
  have vk := uk.below b7
  have vI := uI.below b7
  clear b7 u13 u11 u7 u8 uB uq up ur us uk uI c11 c130 c131
  have c7 := v7.cell
  have c80 := v8.c0
  have c81 := v8.c1
  go_wp2_with (fail)
  go_at_call 21
  refine (same_any w7 p M Q f vp vr.1 hf).mono ?_
  rintro e w8 ⟨rfl, b8⟩
  have sB := Below.next vB b8
  have HCH := Lib.hid (changed_same k I (some b) g d w8 (vI.below b8) (vk.below b8) (by rw [HN.out]; exact hig) (by rw [HN.out]; exact hnd) (by rw [HN.out]; omega))
  rw [HN.out] at HCH
  clear b8 v7 v8 vB vp vr vk vI c7 c80 c81
  go_wp2_with (fail)
  go_at_call 46
  refine HCH.out.mono ?_
  rintro e w9 ⟨rfl, hq⟩
  go_wp2_with (fail)
  go_at_call 18
  refine (awake_any _).mono ?_
  rintro e wz ⟨rfl, bz⟩
  go_wp2_with (fail)
  go_ret
  exact ⟨rfl, Below.next (Below.next sB (hq.below _)) bz⟩
set_option maxRecDepth 100000 in
set_option maxHeartbeats 4000000 in
theorem applies_nil (w : World) (size : Int) (A : Option Addr) (l : List Ac) (m c : Nat) (k : List Ch) (n d : Nat) (hm : l.length = m) (hA : Acts w A l) (hlc : m ≤ c) (hl : (m : Int) ≤ 60) (hn : k.length = n) (hk : Chs w none k) (hnd : n ≤ d) (h60 : ¬ 60 < (n : Int)) (hn0 : n = 0) (hd0 : d = 0) :
    Calls Try.prog 12 #[.int .i64 size, .slice A m c, .slice none n d] w (FromsPost w) := by
  obtain ⟨i0, hi0, hz0, hz1, hz2⟩ := info_parts infoCh
  have hM := moreL_good l (newR_good size)
  have hpl : ∀ W, Below w.heap.size w W → Calls Try.prog 37 #[.int .i64 size, .slice A m c] W (DoPost W (moreL (newR size).2 l)) := fun W hW => played_any W size A l m c hm (hA.below hW) hlc (by omega)
  generalize moreL (newR size).2 l = M at *
  obtain ⟨R, hR⟩ : ∃ R, applyTop M k = R := ⟨_, rfl⟩
  have HPL := Lib.hid hpl
  have HM := Lib.hid hM
  have HL := Lib.hid hl
  have HR := Lib.hid hR
  have HN := Lib.hid hn
  have HK := Lib.hid hk
  clear hpl hM hl hA hm hR hn hk
  go_enter Try.func12, Try.ntmps12
  go_wp2_with (fail)
  go_at_call 29
  refine (lfew_yes _ A m c (by have := HL.out; omega)).mono ?_
  rintro e w' ⟨rfl, rfl⟩
  go_wp2_with (fail)
  go_at_call 37
  refine (HPL.out _ (Below.refl _ _)).mono ?_
  rintro e w1 ⟨p, Q, f, rfl, hp, hQ, hf, b1⟩
  go_upto_region 4 with (fail)
  obtain ⟨wb, hwb⟩ : ∃ wb, (w1.alloc (.cells #[.pointer p] 26)).alloc (.cells #[.int .i64 (Tr.total M), .slice Q M.length f] 31) = wb := ⟨_, rfl⟩
  have y0 : Boxed wb w1.heap.size 26 (.pointer p) := hwb ▸ bx_next (Boxed.new w1 _ _) (Below.alloc1 _ _)
  have z0 : BoxM wb (w1.heap.size + 1) (Tr.total M) (.slice Q M.length f) := by
    have := BoxM.new (w1.alloc (.cells #[.pointer p] 26)) (Tr.total M) (.slice Q M.length f)
    rw [World.size_alloc] at this; exact hwb ▸ this
  have db : Below w1.heap.size w1 wb := hwb ▸ Below.alloc2 w1 _ _
  have hB0 := Below.next b1 db
  have hp0 := hp.below db
  have hQ0 := hQ.below db
  have hK0 := HK.out.below hB0
  rw [hwb]
  clear hwb db b1 hp hQ
  subst hn0 hd0
  have hBx : Below wb.heap.size wb (wb.alloc (.cells #[] 74)) := Below.alloc1 wb _
  have hk0 : k = [] := List.eq_nil_of_length_eq_zero HN.out
  have hI : Chs (wb.alloc (.cells #[] 74)) (some ⟨wb.heap.size, 0, none⟩) k := .inl hk0
  have hig : (0 : Nat) ≤ 0 := Nat.le_refl _
  have hk0' := Lib.hid hk0
  clear hk0
  have y1 := bx_next y0 hBx
  have z1 := z0.next hBx
  have B1 := Below.next hB0 hBx
  have p1 := hp0.below hBx
  have r1 := hQ0.below hBx
  have k1 := hK0.below hBx
  clear hBx y0 z0 hB0 hp0 hQ0 hK0
  have c7 := y1.cell
  have hap := apply_any (wb.alloc (.cells #[] 74)) p (some ⟨wb.heap.size, 0, none⟩) k 0 M HM.out p1 hI (by rw [HN.out]; exact hig) (by rw [HN.out]; omega)
  rw [HR.out, HN.out] at hap
  have HAP := Lib.hid hap
  clear hap
  go_wp2_with (fail)
  go_at_call 35
  refine HAP.out.mono ?_
  rintro e w3 ⟨p3, rfl, hp3, b3⟩
  have y2 := bx_next y1 b3
  have z2 := z1.next b3
  have B2 := Below.next B1 b3
  have p2 := p1.below b3
  have r2 := r1.below b3
  have k2 := k1.below b3
  have I2 := hI.below b3
  clear b3 y1 z1 B1 p1 r1 k1 hI c7 HAP
  go_upto_region 6 with (fail)
  generalize hw4 : World.alloc w3 _ = w4
  have d4 : Below w3.heap.size w3 w4 := hw4 ▸ Below.alloc1 w3 _
  have x11 : Boxed w4 w3.heap.size 26 (.pointer p3) := hw4 ▸ Boxed.new w3 _ _
  have y3 := bx_next y2 d4
  have z3 := z2.next d4
  have B3 := Below.next B2 d4
  have q3 := hp3.below d4
  have p3' := p2.below d4
  have r3 := r2.below d4
  have k3 := k2.below d4
  have I3 := I2.below d4
  clear hw4 d4 y2 z2 B2 hp3 p2 r2 k2 I2
  have c7 := y3.cell
  have c80 := z3.c0
  have c81 := z3.c1
  have hra := rapply_any w4 Q f none k 0 M HM.out r3 hf k3 (by rw [HN.out]; exact Nat.le_refl _) (by rw [HN.out]; omega)
  rw [HR.out, HN.out] at hra
  have HRA := Lib.hid hra
  clear hra
  go_wp2_with (fail)
  go_at_call 45
  refine HRA.out.mono ?_
  rintro e w5 ⟨Q5, f5, rfl, r5, hf5, b5⟩
  have x12 := bx_next x11 b5
  have y4 := bx_next y3 b5
  have z4 := z3.next b5
  have B4 := Below.next B3 b5
  have q4 := q3.below b5
  have p4 := p3'.below b5
  have r4 := r3.below b5
  have k4 := k3.below b5
  have I4 := I3.below b5
  clear b5 x11 y3 z3 B3 q3 p3' r3 k3 I3 c7 c80 c81 HRA
  go_upto_region 7 with (fail)
  generalize hw6 : World.alloc w5 _ = w6
  have d6 : Below w5.heap.size w5 w6 := hw6 ▸ Below.alloc1 w5 _
  have u13 : BoxM w6 w5.heap.size (Tr.total R.2) (.slice Q5 R.2.length f5) := hw6 ▸ BoxM.new w5 _ _
  have u11 := bx_next x12 d6
  have u7 := bx_next y4 d6
  have u8 := z4.next d6
  have uB := Below.next B4 d6
  have uq := q4.below d6
  have up := p4.below d6
  have ur := r4.below d6
  have us := r5.below d6
  have uk := k4.below d6
  have uI := I4.below d6
  clear hw6 d6 x12 y4 z4 B4 q4 p4 r4 r5 k4 I4
  have c11 := u11.cell
  have c130 := u13.c0
  have c131 := u13.c1
  have he : (R.1 == R.1) = true := by simp
  go_wp2_with (fail)
  go_at_call 21
  refine (same_any w6 p3 R.2 Q5 f5 uq us.1 hf5).mono ?_
  rintro e w7 ⟨rfl, b7⟩
  have v7 := bx_next u7 b7
  have v8 := u8.next b7
  have vB := Below.next uB b7
  have vp := up.below b7
  have vr := ur.below b7
  have vk := uk.below b7
  have vI := uI.below b7
  clear b7 u13 u11 u7 u8 uB uq up ur us uk uI c11 c130 c131
  have c7 := v7.cell
  have c80 := v8.c0
  have c81 := v8.c1
  go_wp2_with (fail)
  go_at_call 21
  refine (same_any w7 p M Q f vp vr.1 hf).mono ?_
  rintro e w8 ⟨rfl, b8⟩
  have sB := Below.next vB b8
  have HCH := Lib.hid (changed_same k (some ⟨wb.heap.size, 0, none⟩) none 0 0 w8 (vI.below b8) (vk.below b8) (by rw [HN.out]; exact hig) (by rw [HN.out]; exact Nat.le_refl _) (by rw [HN.out]; omega))
  rw [HN.out] at HCH
  clear b8 v7 v8 vB vp vr vk vI c7 c80 c81
  go_wp2_with (fail)
  go_at_call 46
  refine HCH.out.mono ?_
  rintro e w9 ⟨rfl, hq⟩
  go_wp2_with (fail)
  go_at_call 18
  refine (awake_any _).mono ?_
  rintro e wz ⟨rfl, bz⟩
  go_wp2_with (fail)
  go_ret
  exact ⟨rfl, Below.next (Below.next sB (hq.below _)) bz⟩
/-- SpanApplies answers true. -/
theorem spanApplies_any (w : World) (size : Int) (A : Option Addr) (l : List Ac) (c : Nat) (B : Option Addr) (k : List Ch) (d : Nat) (hA : Acts w A l) (hlc : l.length ≤ c) (hk : Chs w B k) (hkd : k.length ≤ d) (hB : B = none → d = 0 ∧ k = []) :
    Calls Try.prog 12 #[.int .i64 size, .slice A l.length c, .slice B k.length d] w (FromsPost w) := by
  by_cases h : (l.length : Int) ≤ 60
  · by_cases h2 : 60 < (k.length : Int)
    · exact applies_long w size A _ c B _ d h h2
    · cases B with
      | none =>
        obtain ⟨rfl, rfl⟩ := hB rfl
        exact applies_nil w size A l _ c [] 0 0 rfl hA hlc h rfl (.inl rfl) (Nat.le_refl _) (by decide) rfl rfl
      | some b => exact applies_some w size A l _ c b k _ d rfl hA hlc h rfl hk hkd h2
  · exact applies_many w size A _ c B _ d h
end Go.Proofs.Ytfmplibjhohpgaa
