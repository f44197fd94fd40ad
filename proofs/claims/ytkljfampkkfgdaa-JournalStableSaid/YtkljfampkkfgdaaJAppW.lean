/- The journal layer: the walk over write, an Append. -/
import Derived.Test.YtkljfampkkfgdaaJCheckW
namespace Go.Proofs.Ytkljfampkkfgdaa
open Go.RowKit
section
variable {W0 W : World} {wb N n : Nat} {X : Wd}
set_option maxRecDepth 100000 in
set_option maxHeartbeats 500000 in
/-- An Append that is refused. -/
theorem app_none (h : WdAt W0 W wb X) (kd : Int) (hk2 : (kd.tmod 8 == 2) = false) (hk3 : (kd.tmod 8 == 3) = false) (hsm : X.recs.length ≤ 100 ∧ ∀ x ∈ X.st :: X.recs, x.length ≤ 1000000) (T : Bs) (Nn : Int) (A : Option Addr) (kn kc : Nat) (k : Int) (k0 : k ≠ 0) (k70 : k ≠ 70)
    (hrf : ∀ w, WdAt W0 w wb X → Calls Try.prog 79 #[.pointer (some ⟨wb, 0, none⟩), .int .i64 (T.length : Nat), .int .i64 1024, .int .i64 (wrap64 ((usedM (X.st :: X.recs) : Nat) + unitsW (T.length : Nat)))] w fun e w' => e = .returned (.int .i64 k) ∧ w' = w)
    (hc : ∀ w jp, Below W.heap.size W w → w.cell? ⟨wb, 1, none⟩ = some jp → Calls Try.prog 16 #[jp, .string ⟨T.toArray⟩] w fun e w' => e = .returned (.int .i64 k) ∧ WdAt W0 w' wb X ∧ Kp (NewK wb W w) w w') :
    Calls Try.prog 69 #[.pointer (some ⟨wb, 0, none⟩), .agg #[.int .u8 kd, .string ⟨T.toArray⟩, .int .i64 Nn, .slice A kn kc]] W fun e w' => e = .returned (.bool true) ∧ WdAt W0 w' wb X := by
  obtain ⟨w1, hw1⟩ : ∃ w1, W.alloc (.cells #[.int .u8 kd, .string ⟨T.toArray⟩, .int .i64 Nn, .slice A kn kc] 70) = w1 := ⟨_, rfl⟩
  have hB1 : Below W.heap.size W w1 := hw1 ▸ Below.new1 _ _
  have hr1 : w1.heap[W.heap.size]? = some (.cells #[.int .u8 kd, .string ⟨T.toArray⟩, .int .i64 Nn, .slice A kn kc] 70 (0, 0)) := hw1 ▸ heap_alloc_new W _
  have g0 : w1.cell? ⟨W.heap.size, 0, none⟩ = some (.int .u8 kd) := (cell_of_row w1 _ 0 _ _ _ hr1).trans rfl
  have g1 : w1.cell? ⟨W.heap.size, 1, none⟩ = some (.string ⟨T.toArray⟩) := (cell_of_row w1 _ 1 _ _ _ hr1).trans rfl
  have h1 := h.next hB1
  obtain ⟨jp, k1, hdu, -⟩ := h1.jp
  have HS1 := Lib.hid (show W.heap.size < w1.heap.size from block_lt_of_cell g0)
  have hst := fun w (h : WdAt W0 w wb X) => settle_no h k k0 k70
  have H1 := Lib.hid h1
  have HDU := Lib.hid hdu
  have HRF := Lib.hid fun w (b : Below w1.heap.size w1 w) => hrf w (h1.next b)
  have HC := Lib.hid fun w (b : Below w1.heap.size w1 w) => hc w jp (Below.next hB1 b) (cell_kept b k1)
  have HST := Lib.hid hst
  have HUN := Lib.hid runits_all
  obtain ⟨RA, rc, AA, ac, CA, cc, -, -, k13, -, -, s3, -, -, t3, -, -, -, -, -, k12, -, -, -, -⟩ := h1.rows
  have HUS := Lib.hid fun w (b : Below w1.heap.size w1 w) => used_any w X.st CA X.recs X.recs.length cc (s3.next b) rfl (by omega) hsm.2
  have kk3 : (k == 70) = false := by simpa using k70
  clear hr1 h h1 hB1 hst hrf hc hdu k0 k70 s3 t3 hsm
  generalize durO X.J = du at *
  generalize usedM (X.st :: X.recs) = ux at *
  go_enter Try.func69, Try.ntmps69
  go_upto_region 23 with (first
    | (go_at_call 19; refine HDU.out.mono ?_; rintro x w2 ⟨rfl, hw2⟩; obtain rfl := hw2.symm))
  go_quiet (first
    | (go_at_call 17; exact Calls.quiet_of_same (HUN.out _ _))
    | (go_at_call 70; exact Calls.quiet_of_same (HUS.out _ (Below.drawn w1 _ _)))
    | (go_at_call 79; exact Calls.quiet_of_same (HRF.out _ (Below.drawn w1 _ _))))
  go_upto_region 24 with (fail)
  have HB2 := Lib.hid (Below.drawn w1 nq w1.heap.size)
  generalize w1.drewN nq = w2 at *
  have k1' := cell_kept HB2.out k1
  have g1' := cell_kept HB2.out g1
  have HC2 := Lib.hid (HC.out _ (Below.next HB2.out (Below.drawn w2 1 _)))
  have HS2 := Lib.hid (show W.heap.size < w2.drew.heap.size from Nat.lt_of_lt_of_le HS1.out (Below.next HB2.out (Below.drawn w2 1 _)).size)
  go_region_held3 (fun w => w.cell? ⟨wb, 1, none⟩ = some jp ∧ w.cell? ⟨W.heap.size, 1, none⟩ = some (.string ⟨T.toArray⟩)) (first | exact ⟨k1', g1'⟩ | exact hcs) (first
    | (go_at_call 16; refine HC2.out.mono ?_; rintro x w3 ⟨rfl, h3, q3⟩
       have hcs := And.intro (q3.cell (p := ⟨wb, 1, none⟩) k1' (.inl rfl)) (q3.cell (p := ⟨W.heap.size, 1, none⟩) g1' (.inr ⟨Nat.le_refl _, HS2.out⟩))))
  all_goals
    clear hcs
    go_wp2_with (first
      | (go_at_call 80; refine (HST.out _ h3).mono ?_; rintro x w4 ⟨rfl, hw4⟩; obtain rfl := hw4.symm))
    go_ret
    exact ⟨rfl, h3⟩
set_option maxRecDepth 100000 in
set_option maxHeartbeats 500000 in
/-- An Append that is made. -/
theorem app_done (h : WdAt W0 W wb X) (kd : Int) (hk2 : (kd.tmod 8 == 2) = false) (hk3 : (kd.tmod 8 == 3) = false) (hsm : X.recs.length ≤ 100 ∧ ∀ x ∈ X.st :: X.recs, x.length ≤ 1000000) (T : Bs) (Nn : Int) (A : Option Addr) (kn kc : Nat) (D' : Dk) (J' : Jn) (ho : D'.off = false) (hsz : X.m.A.length ≤ 200)
    (hrf : ∀ w, WdAt W0 w wb X → Calls Try.prog 79 #[.pointer (some ⟨wb, 0, none⟩), .int .i64 (T.length : Nat), .int .i64 1024, .int .i64 (wrap64 ((usedM (X.st :: X.recs) : Nat) + unitsW (T.length : Nat)))] w fun e w' => e = .returned (.int .i64 0) ∧ w' = w)
    (hc : ∀ w jp, Below W.heap.size W w → w.cell? ⟨wb, 1, none⟩ = some jp → Calls Try.prog 16 #[jp, .string ⟨T.toArray⟩] w fun e w' => e = .returned (.int .i64 0) ∧ WdAt W0 w' wb { X with D := D', J := some J' } ∧ Kp (NewK wb W w) w w') :
    Calls Try.prog 69 #[.pointer (some ⟨wb, 0, none⟩), .agg #[.int .u8 kd, .string ⟨T.toArray⟩, .int .i64 Nn, .slice A kn kc]] W fun e w' => e = .returned (.bool true) ∧ WdAt W0 w' wb { X with D := D', J := some J', m := addedM X.m T, recs := X.recs ++ [T] } := by
  obtain ⟨w1, hw1⟩ : ∃ w1, W.alloc (.cells #[.int .u8 kd, .string ⟨T.toArray⟩, .int .i64 Nn, .slice A kn kc] 70) = w1 := ⟨_, rfl⟩
  have hB1 : Below W.heap.size W w1 := hw1 ▸ Below.new1 _ _
  have hr1 : w1.heap[W.heap.size]? = some (.cells #[.int .u8 kd, .string ⟨T.toArray⟩, .int .i64 Nn, .slice A kn kc] 70 (0, 0)) := hw1 ▸ heap_alloc_new W _
  have g0 : w1.cell? ⟨W.heap.size, 0, none⟩ = some (.int .u8 kd) := (cell_of_row w1 _ 0 _ _ _ hr1).trans rfl
  have g1 : w1.cell? ⟨W.heap.size, 1, none⟩ = some (.string ⟨T.toArray⟩) := (cell_of_row w1 _ 1 _ _ _ hr1).trans rfl
  have h1 := h.next hB1
  obtain ⟨jp, k1, hdu, -⟩ := h1.jp
  have HNE := Lib.hid (show W.heap.size ≠ wb from fun e => by have := h.wb_lt; omega)
  have HS1 := Lib.hid (show W.heap.size < w1.heap.size from block_lt_of_cell g0)
  have hst := fun w (h : WdAt W0 w wb { X with D := D', J := some J' }) => settle_ok h ho (durO X.J : Nat)
  have H1 := Lib.hid h1
  have HDU := Lib.hid hdu
  have HRF := Lib.hid fun w (b : Below w1.heap.size w1 w) => hrf w (h1.next b)
  have HC := Lib.hid fun w (b : Below w1.heap.size w1 w) => hc w jp (Below.next hB1 b) (cell_kept b k1)
  have HST := Lib.hid hst
  have HUN := Lib.hid runits_all
  obtain ⟨RA, rc, AA, ac, CA, cc, -, -, k13, -, -, s3, -, -, t3, -, -, -, -, -, k12, -, -, -, -⟩ := h1.rows
  have HUS := Lib.hid fun w (b : Below w1.heap.size w1 w) => used_any w X.st CA X.recs X.recs.length cc (s3.next b) rfl (by omega) hsm.2
  clear hr1 h h1 hB1 hst hrf hc hdu ho s3 t3
  generalize durO X.J = du at *
  have HSZ := Lib.hid hsz
  have HSM := Lib.hid hsm.1
  clear hsm hsz
  generalize usedM (X.st :: X.recs) = ux at *
  go_enter Try.func69, Try.ntmps69
  go_upto_region 23 with (first
    | (go_at_call 19; refine HDU.out.mono ?_; rintro x w2 ⟨rfl, hw2⟩; obtain rfl := hw2.symm))
  go_quiet (first
    | (go_at_call 17; exact Calls.quiet_of_same (HUN.out _ _))
    | (go_at_call 70; exact Calls.quiet_of_same (HUS.out _ (Below.drawn w1 _ _)))
    | (go_at_call 79; exact Calls.quiet_of_same (HRF.out _ (Below.drawn w1 _ _))))
  go_upto_region 24 with (fail)
  have HB2 := Lib.hid (Below.drawn w1 nq w1.heap.size)
  generalize w1.drewN nq = w2 at *
  have k1' := cell_kept HB2.out k1
  have g1' := cell_kept HB2.out g1
  have HC2 := Lib.hid (HC.out _ (Below.next HB2.out (Below.drawn w2 1 _)))
  have HS2 := Lib.hid (show W.heap.size < w2.drew.heap.size from Nat.lt_of_lt_of_le HS1.out (Below.next HB2.out (Below.drawn w2 1 _)).size)
  go_region_held3 (fun w => w.cell? ⟨wb, 1, none⟩ = some jp ∧ w.cell? ⟨W.heap.size, 1, none⟩ = some (.string ⟨T.toArray⟩)) (first | exact ⟨k1', g1'⟩ | exact hcs) (first
    | (go_at_call 16; refine HC2.out.mono ?_; rintro x w3 ⟨rfl, h3, q3⟩
       have hcs := And.intro (q3.cell (p := ⟨wb, 1, none⟩) k1' (.inl rfl)) (q3.cell (p := ⟨W.heap.size, 1, none⟩) g1' (.inr ⟨Nat.le_refl _, HS2.out⟩))))
  all_goals
    have g3 := hcs.2
    clear hcs
    go_upto_region 27 with (first
      | (go_at_call 80; refine (HST.out _ h3).mono ?_; rintro x w4 ⟨rfl, hw4⟩; obtain rfl := hw4.symm))
    have h3d : WdAt W0 w3.drew wb { X with D := D', J := some J' } := h3.next (Below.drawn w3 1 _)
    have g3d : w3.drew.cell? ⟨W.heap.size, 1, none⟩ = some (.string ⟨T.toArray⟩) := g3
    obtain ⟨RA4, rc4, AA4, ac4, CA4, cc4, n3, n4, -, -, s4, -, -, t4, -, n2, n5, n6, n7, n8, -, -, -, -, -⟩ := h3d.rows
    simp only at n2 n3 n4 n5 n6 n7 n8 s4
    have hadd := added_any w3.drew X.m T (.slice RA4 X.m.R.length rc4) AA4 X.m.A.length ac4 rfl s4 t4 (by have := HSZ.out; omega) RA4 _ rc4 rfl
    simp only [cellsMd, addedM] at hadd
    have HAD := Lib.hid hadd
    have H3 := Lib.hid h3d
    have G3 := Lib.hid g3d
    have KR := Lib.hid n3
    clear hadd h3d s4 t4 h3 q3
    go_cut [176] from 176 to 185 (fun u wx => u = .pointer (some ⟨wb, 0, none⟩) ∧ WdAt W0 wx wb { X with D := D', J := some J', m := addedM X.m T } ∧ wx.cell? ⟨W.heap.size, 1, none⟩ = some (.string ⟨T.toArray⟩))
    case first =>
      go_region_with (first
        | (go_at_call 81; refine HAD.out.mono ?_; rintro x w6 ⟨v6, rfl, hv6, b6⟩
           obtain ⟨A6, c6, rfl, -, -⟩ := hv6.slice
           rw [List.length_append, List.length_singleton] at hv6
           have h6 := H3.out.next b6
           obtain ⟨RA6, rc6, AA6, ac6, -, -, k3, k4, -, -, -, -, -, -, -, k2, k5, k6, k7, k8, -, -, -, -, -⟩ := h6.rows
           have f2 := h6.f 2
           have f3 := h6.f 3
           have f4 := h6.f 4
           have f5 := h6.f 5
           have f6 := h6.f 6
           have f7 := h6.f 7
           have f8 := h6.f 8
           have G6 := Lib.hid (cell_kept b6 G3.out)
           have H7 := Lib.hid (H3.out.modelA (m' := addedM X.m T) b6 rfl KR.out hv6)))
      all_goals
        go_wp2_with (fail)
        go_meet
        exact ⟨rfl, H7.out, (cell_setCells7 w6 wb (cellsMd (addedM X.m T) (.slice RA4 X.m.R.length rc4) (.slice A6 (X.m.A.length + 1) c6)) W.heap.size 1 HNE.out).trans G6.out⟩
    case rest =>
      obtain ⟨rfl, h7, g7⟩ := hcut
      clear n2 n3 n4 n5 n6 n7 n8 g3 g3d KR G3 H3 HAD
      go_upto_region 29 with (fail)
      obtain ⟨w8, hw8⟩ : ∃ w8, (wc.alloc (.cells #[.string ⟨T.toArray⟩] 9)).drew = w8 := ⟨_, rfl⟩
      have b8 : Below wc.heap.size wc w8 := hw8 ▸ Below.next (Below.new1 wc _) (Below.drawn _ 1 _)
      have s8 : Strs w8 (some ⟨wc.heap.size, 0, none⟩) [T] := hw8 ▸ (Strs.oneS wc T).next (Below.drawn _ 1 _)
      have z8 : w8.heap.size = wc.heap.size + 1 := by rw [← hw8]; simp
      obtain ⟨RA8, rc8, AA8, ac8, CA8, cc8, -, -, n13, -, -, s9, -, -, t9, -, -, -, -, -, -, -, -, -, -⟩ := h7.rows
      simp only at n13 s9
      have f13 := h7.f 13
      have ne1 : ¬ wb = wc.heap.size := fun e => by have := h7.wb_lt; omega
      have ne2 : ¬ wc.heap.size = wb := fun e => ne1 e.symm
      have n13' := cell_kept b8 n13
      have g8' := cell_kept b8 g7
      have hjo := joined_any w8 CA8 (some ⟨wc.heap.size, 0, none⟩) X.recs [T] X.recs.length 1 cc8 1 (s9.next b8) s8 rfl rfl t9 (.inl ⟨_, rfl⟩) (by have := HSM.out; omega) (by decide)
      have HJO := Lib.hid hjo
      have H7 := Lib.hid h7
      have B8 := Lib.hid b8
      have Z8 := Lib.hid z8
      clear hjo h7 b8 s8 z8 s9 t9
      go_cut [187] from 187 to 197 (fun u wx => u = .pointer (some ⟨wb, 0, none⟩) ∧ WdAt W0 wx wb { X with D := D', J := some J', m := addedM X.m T, recs := X.recs ++ [T] })
      case first =>
        go_region_with (first
          | (go_at_call 82; try rw [hw8]
             refine HJO.out.mono ?_; rintro x w9 ⟨v9, rfl, hv9, b9⟩
             obtain ⟨A9, c9, rfl, -, -⟩ := hv9.slice
             rw [List.length_append, List.length_singleton] at hv9
             have B9 := Below.next B8.out b9
             have H9 := Lib.hid (H7.out.setRecs B9 (hv9.mono (by rw [Z8.out]; omega)))
             have fr := (H7.out.next B9).f 13
             obtain ⟨RA9, rc9, AA9, ac9, CA9, cc9, -, -, m13, -, -, -, -, -, -, -, -, -, -, -, -, -, -, -, -⟩ := (H7.out.next B9).rows))
        all_goals
          go_wp2_with (fail)
          go_meet
          exact ⟨rfl, H9.out⟩
      case rest =>
        obtain ⟨rfl, h10⟩ := hcut
        go_wp2_with (fail)
        go_ret
        exact ⟨rfl, h10⟩
set_option maxRecDepth 100000 in
set_option maxHeartbeats 500000 in
/-- An Append during which the power was lost. -/
theorem app_off (h : WdAt W0 W wb X) (kd : Int) (hk2 : (kd.tmod 8 == 2) = false) (hk3 : (kd.tmod 8 == 3) = false) (hsm : X.recs.length ≤ 100 ∧ ∀ x ∈ X.st :: X.recs, x.length ≤ 1000000) (T : Bs) (Nn : Int) (A : Option Addr) (kn kc : Nat) (D' : Dk) (J' : Jn) (hf : X.fused = true) (ho : D'.off = true) (hdd : durO (some J') = durO X.J) (hsz : X.m.A.length ≤ 200)
    (hrf : ∀ w, WdAt W0 w wb X → Calls Try.prog 79 #[.pointer (some ⟨wb, 0, none⟩), .int .i64 (T.length : Nat), .int .i64 1024, .int .i64 (wrap64 ((usedM (X.st :: X.recs) : Nat) + unitsW (T.length : Nat)))] w fun e w' => e = .returned (.int .i64 0) ∧ w' = w)
    (hc : ∀ w jp, Below W.heap.size W w → w.cell? ⟨wb, 1, none⟩ = some jp → Calls Try.prog 16 #[jp, .string ⟨T.toArray⟩] w fun e w' => e = .returned (.int .i64 70) ∧ WdAt W0 w' wb { X with D := D', J := some J' } ∧ Kp (NewK wb W w) w w') :
    Calls Try.prog 69 #[.pointer (some ⟨wb, 0, none⟩), .agg #[.int .u8 kd, .string ⟨T.toArray⟩, .int .i64 Nn, .slice A kn kc]] W fun e w' => e = .returned (.bool true) ∧ WdAt W0 w' wb { X with D := D', J := some J', m := addedM X.m T, broken := true } := by
  obtain ⟨w1, hw1⟩ : ∃ w1, W.alloc (.cells #[.int .u8 kd, .string ⟨T.toArray⟩, .int .i64 Nn, .slice A kn kc] 70) = w1 := ⟨_, rfl⟩
  have hB1 : Below W.heap.size W w1 := hw1 ▸ Below.new1 _ _
  have hr1 : w1.heap[W.heap.size]? = some (.cells #[.int .u8 kd, .string ⟨T.toArray⟩, .int .i64 Nn, .slice A kn kc] 70 (0, 0)) := hw1 ▸ heap_alloc_new W _
  have g0 : w1.cell? ⟨W.heap.size, 0, none⟩ = some (.int .u8 kd) := (cell_of_row w1 _ 0 _ _ _ hr1).trans rfl
  have g1 : w1.cell? ⟨W.heap.size, 1, none⟩ = some (.string ⟨T.toArray⟩) := (cell_of_row w1 _ 1 _ _ _ hr1).trans rfl
  have h1 := h.next hB1
  obtain ⟨jp, k1, hdu, -⟩ := h1.jp
  have HNE := Lib.hid (show W.heap.size ≠ wb from fun e => by have := h.wb_lt; omega)
  have HS1 := Lib.hid (show W.heap.size < w1.heap.size from block_lt_of_cell g0)
  have hst := fun w (h : WdAt W0 w wb { X with D := D', J := some J' }) => settle_off2 h hf ho
  simp only [hdd] at hst
  have H1 := Lib.hid h1
  have HDU := Lib.hid hdu
  have HRF := Lib.hid fun w (b : Below w1.heap.size w1 w) => hrf w (h1.next b)
  have HC := Lib.hid fun w (b : Below w1.heap.size w1 w) => hc w jp (Below.next hB1 b) (cell_kept b k1)
  have HST := Lib.hid hst
  have HUN := Lib.hid runits_all
  obtain ⟨RA, rc, AA, ac, CA, cc, -, -, k13, -, -, s3, -, -, t3, -, -, -, -, -, k12, -, -, -, -⟩ := h1.rows
  have HUS := Lib.hid fun w (b : Below w1.heap.size w1 w) => used_any w X.st CA X.recs X.recs.length cc (s3.next b) rfl (by omega) hsm.2
  clear hr1 h h1 hB1 hst hrf hc hdu ho hf hdd s3 t3
  generalize durO X.J = du at *
  have HSZ := Lib.hid hsz
  have HSM := Lib.hid hsm.1
  clear hsm hsz
  generalize usedM (X.st :: X.recs) = ux at *
  go_enter Try.func69, Try.ntmps69
  go_upto_region 23 with (first
    | (go_at_call 19; refine HDU.out.mono ?_; rintro x w2 ⟨rfl, hw2⟩; obtain rfl := hw2.symm))
  go_quiet (first
    | (go_at_call 17; exact Calls.quiet_of_same (HUN.out _ _))
    | (go_at_call 70; exact Calls.quiet_of_same (HUS.out _ (Below.drawn w1 _ _)))
    | (go_at_call 79; exact Calls.quiet_of_same (HRF.out _ (Below.drawn w1 _ _))))
  go_upto_region 24 with (fail)
  have HB2 := Lib.hid (Below.drawn w1 nq w1.heap.size)
  generalize w1.drewN nq = w2 at *
  have k1' := cell_kept HB2.out k1
  have g1' := cell_kept HB2.out g1
  have HC2 := Lib.hid (HC.out _ (Below.next HB2.out (Below.drawn w2 1 _)))
  have HS2 := Lib.hid (show W.heap.size < w2.drew.heap.size from Nat.lt_of_lt_of_le HS1.out (Below.next HB2.out (Below.drawn w2 1 _)).size)
  go_region_held3 (fun w => w.cell? ⟨wb, 1, none⟩ = some jp ∧ w.cell? ⟨W.heap.size, 1, none⟩ = some (.string ⟨T.toArray⟩)) (first | exact ⟨k1', g1'⟩ | exact hcs) (first
    | (go_at_call 16; refine HC2.out.mono ?_; rintro x w3 ⟨rfl, h3, q3⟩
       have hcs := And.intro (q3.cell (p := ⟨wb, 1, none⟩) k1' (.inl rfl)) (q3.cell (p := ⟨W.heap.size, 1, none⟩) g1' (.inr ⟨Nat.le_refl _, HS2.out⟩))))
  all_goals
    have g3 := hcs.2
    clear hcs
    have f11 := h3.f 11
    have h4 := h3.setBroken true
    have g4 : (w3.setCell ⟨wb, 11, none⟩ (.bool true)).cell? ⟨W.heap.size, 1, none⟩ = some (.string ⟨T.toArray⟩) := (World.cell?_setCell_other _ _ _ _ (fun e => by cases e)).trans g3
    have HS4 := Lib.hid (HST.out _ h3)
    generalize hw4 : w3.setCell ⟨wb, 11, none⟩ (.bool true) = w4 at *
    clear hw4 g3 f11 h3
    go_upto_region 27 with (first
      | (go_at_call 80; refine HS4.out.mono ?_; rintro x w5 ⟨rfl, hw5⟩; obtain rfl := hw5.symm))
    have h3d : WdAt W0 w4.drew wb { X with D := D', J := some J', broken := true } := h4.next (Below.drawn w4 1 _)
    have g3d : w4.drew.cell? ⟨W.heap.size, 1, none⟩ = some (.string ⟨T.toArray⟩) := g4
    obtain ⟨RA4, rc4, AA4, ac4, CA4, cc4, n3, n4, -, -, s4, -, -, t4, -, n2, n5, n6, n7, n8, -, -, -, -, -⟩ := h3d.rows
    simp only at n2 n3 n4 n5 n6 n7 n8 s4
    have hadd := added_any w4.drew X.m T (.slice RA4 X.m.R.length rc4) AA4 X.m.A.length ac4 rfl s4 t4 (by have := HSZ.out; omega) RA4 _ rc4 rfl
    simp only [cellsMd, addedM] at hadd
    have HAD := Lib.hid hadd
    have H3 := Lib.hid h3d
    have G3 := Lib.hid g3d
    have KR := Lib.hid n3
    clear hadd h3d s4 t4 h4 q3
    go_cut [176] from 176 to 185 (fun u wx => u = .pointer (some ⟨wb, 0, none⟩) ∧ WdAt W0 wx wb { X with D := D', J := some J', m := addedM X.m T, broken := true } ∧ wx.cell? ⟨W.heap.size, 1, none⟩ = some (.string ⟨T.toArray⟩))
    case first =>
      go_region_with (first
        | (go_at_call 81; refine HAD.out.mono ?_; rintro x w6 ⟨v6, rfl, hv6, b6⟩
           obtain ⟨A6, c6, rfl, -, -⟩ := hv6.slice
           rw [List.length_append, List.length_singleton] at hv6
           have h6 := H3.out.next b6
           obtain ⟨RA6, rc6, AA6, ac6, -, -, k3, k4, -, -, -, -, -, -, -, k2, k5, k6, k7, k8, -, -, -, -, -⟩ := h6.rows
           have f2 := h6.f 2
           have f3 := h6.f 3
           have f4 := h6.f 4
           have f5 := h6.f 5
           have f6 := h6.f 6
           have f7 := h6.f 7
           have f8 := h6.f 8
           have G6 := Lib.hid (cell_kept b6 G3.out)
           have H7 := Lib.hid (H3.out.modelA (m' := addedM X.m T) b6 rfl KR.out hv6)))
      all_goals
        go_wp2_with (fail)
        go_meet
        exact ⟨rfl, H7.out, (cell_setCells7 w6 wb (cellsMd (addedM X.m T) (.slice RA4 X.m.R.length rc4) (.slice A6 (X.m.A.length + 1) c6)) W.heap.size 1 HNE.out).trans G6.out⟩
    case rest =>
      obtain ⟨rfl, h7, g7⟩ := hcut
      go_wp2_with (fail)
      go_ret
      exact ⟨rfl, h7⟩
theorem write_append (h : WdAt W0 W wb X) (hi : WI N n X) (hn : n < 150) (kd : Int) (hk2 : (kd.tmod 8 == 2) = false) (hk3 : (kd.tmod 8 == 3) = false) (T : Bs) (Nn : Int) (A : Option Addr) (kn kc : Nat) : Calls Try.prog 69 #[.pointer (some ⟨wb, 0, none⟩), .agg #[.int .u8 kd, .string ⟨T.toArray⟩, .int .i64 Nn, .slice A kn kc]] W fun e w' => e = .returned (.bool true) ∧ ∃ X', WdAt W0 w' wb X' ∧ WI N (n + 1) X' := by
  have hlen := hi.ws.len
  have hlow := hi.ws.low
  have hhigh := hi.ws.high
  have hm1 : WI N (n + 1) X := hi.more (by omega) (by omega)
  have hsm := hi.small
  have hsz := hi.sz.2
  have hus := usedM_len (X.st :: X.recs)
  obtain ⟨z, hz⟩ : ∃ z, wrap64 ((usedM (X.st :: X.recs) : Nat) + unitsW (T.length : Nat)) = z := ⟨_, rfl⟩
  have hz2 : T.length ≤ 1024 → z = ((usedM (X.st :: X.recs) + unitsM T.length : Nat) : Int) := fun hT => by
    have h1 := usedM_le (l := X.st :: X.recs) (k := 1000000) hsm.2
    have h2 := unitsM_le T.length
    rw [← hz, unitsW_eq (by omega)]
    rw [List.length_cons] at h1
    have h3 : (X.recs.length + 1) * (1000000 + 1) ≤ 101 * (1000000 + 1) := Nat.mul_le_mul_right _ (by omega)
    exact (IntWalk.wrap64_in _ (by omega)).trans (by omega)
  have hrf : ∀ w, WdAt W0 w wb X → Calls Try.prog 79 #[.pointer (some ⟨wb, 0, none⟩), .int .i64 (T.length : Nat), .int .i64 1024, .int .i64 (wrap64 ((usedM (X.st :: X.recs) : Nat) + unitsW (T.length : Nat)))] w fun e w' => e = .returned (.int .i64 (refM X (T.length : Nat) 1024 z)) ∧ w' = w := fun w h => hz ▸ refused_any h (by omega) (by omega) (T.length : Nat) 1024 _
  cases hJ : X.J with
  | none =>
    refine (app_none h kd hk2 hk3 hsm T Nn A kn kc 1 (by decide) (by decide) (fun w h => refM_none hi hJ _ _ _ ▸ hrf w h) fun w jp b c => ?_).mono fun e w' ⟨q1, q2⟩ => ⟨q1, X, q2, hm1⟩
    obtain ⟨jp', c', hno, -⟩ := h.jp2 b
    rw [c] at c'
    cases c'
    rw [hno hJ]
    exact (append_nil w _).mono fun e w' ⟨q1, q2⟩ => ⟨q1, q2 ▸ h.next b, q2 ▸ Kp.refl _ _⟩
  | some J =>
    have hc : ∀ er D' J', appendM X.D J T = (er, D', J') → ∀ w jp, Below W.heap.size W w → w.cell? ⟨wb, 1, none⟩ = some jp → Calls Try.prog 16 #[jp, .string ⟨T.toArray⟩] w fun e w' => e = .returned (.int .i64 er) ∧ WdAt W0 w' wb { X with D := D', J := some J' } ∧ Kp (NewK wb W w) w w' := fun er D' J' q w jp b c => by
      obtain ⟨jp', c', -, -, hch⟩ := h.jp2 b
      rw [c] at c'
      cases c'
      exact hch J T er D' J' hJ hi.ws.bd (hi.bd J hJ).1 q
    cases hb : X.broken with
    | true =>
      have q := hc _ _ _ (append_no (hi.bad J hJ hb) T)
      rw [wd_same hJ] at q
      exact (app_none h kd hk2 hk3 hsm T Nn A kn kc 72 (by decide) (by decide) (fun w h => refM_broken hi hJ hb _ _ _ ▸ hrf w h) q).mono fun e w' ⟨q1, q2⟩ => ⟨q1, X, q2, hm1⟩
    | false =>
      rcases hi.append hn hJ hb T with ⟨q1, q2⟩ | ⟨q1, q2, q3⟩ | ⟨q1, q2, er, D', J', q3, ⟨rfl, q4, q5⟩ | ⟨rfl, q4, q5, q6, q7⟩⟩
      · have q := hc _ _ _ q2
        rw [wd_same hJ] at q
        have e2 : refM X ((T.length : Nat) : Int) 1024 z = 2 := refM_arg hi hJ hb (by omega)
        exact (app_none h kd hk2 hk3 hsm T Nn A kn kc 2 (by decide) (by decide) (fun w h => e2 ▸ hrf w h) q).mono fun e w' ⟨q1, q2⟩ => ⟨q1, X, q2, hm1⟩
      · have q := hc _ _ _ q3
        rw [wd_same hJ] at q
        have e5 : refM X ((T.length : Nat) : Int) 1024 z = 5 := refM_full hi hJ hb (by omega) (by rw [hz2 q1]; omega)
        exact (app_none h kd hk2 hk3 hsm T Nn A kn kc 5 (by decide) (by decide) (fun w h => e5 ▸ hrf w h) q).mono fun e w' ⟨q1, q2⟩ => ⟨q1, X, q2, hm1⟩
      · have e0 : refM X ((T.length : Nat) : Int) 1024 z = 0 := refM_ok hi hJ hb (by omega) (by rw [hz2 q1]; omega)
        exact (app_done h kd hk2 hk3 hsm T Nn A kn kc D' J' q4 hsz (fun w h => e0 ▸ hrf w h) (hc _ _ _ q3)).mono fun e w' ⟨q1, q2⟩ => ⟨q1, _, q2, q5⟩
      · have hd : durO (some J') = durO X.J := by rw [hi.durO]; exact q6
        have e0 : refM X ((T.length : Nat) : Int) 1024 z = 0 := refM_ok hi hJ hb (by omega) (by rw [hz2 q1]; omega)
        exact (app_off h kd hk2 hk3 hsm T Nn A kn kc D' J' q4 q5 hd hsz (fun w h => e0 ▸ hrf w h) (hc _ _ _ q3)).mono fun e w' ⟨q1, q2⟩ => ⟨q1, _, q2, q7⟩
end
end Go.Proofs.Ytkljfampkkfgdaa
