/- do: an update with an error. do: an update with an error. do, whatever the update: both maps have the same runs. Two variables that hold the program's map and the document's, with the same runs. -/
import Derived.Test.YtfmplibjhohpgaaSpDo
namespace Go.Proofs.Ytfmplibjhohpgaa
section
open Go.RowKit Go.Shelf
set_option maxRecDepth 100000 in
set_option maxHeartbeats 4000000 in
theorem do_swap_err (w : World) (p : Option Addr) (A : Option Addr) (n c : Nat) (x : Ac) (L : List (Int × Int)) (size : Int) (hL : L = [] ∨ Good L) (h : Rep w p L) (hA : RunsT w A (lay 0 L)) (hn : L.length = n) (hnc : n ≤ c) (hsz : Tr.total L = size)
    (hs : x.swap = true) (err : Int) (hN : actR L x = (err, [])) (herr : err ≠ 0) :
    Calls Try.prog 32 #[.agg #[.pointer p], .agg #[.int .i64 size, .slice A n c], .agg #[.bool x.swap, .int .i64 x.lo, .int .i64 x.hi, .int .i64 x.frm, .int .i64 x.to]] w (DoPost w L) := by
  have hup : ∀ W, Below w.heap.size w W → Calls Try.prog 24 #[.agg #[.pointer p], .int .i64 x.lo, .int .i64 x.hi, .int .i64 x.frm, .int .i64 x.to] W fun e w' => ∃ p, e = .returned (.tuple #[.agg #[.pointer p], .int .i64 (swapR L x.lo x.hi x.frm x.to).2.1, .int .i64 err]) ∧ Rep w' p ([] : List (Int × Int)) ∧ Below W.heap.size W w' := fun W hW => by
    have := swap_any W p L x.lo x.hi x.frm x.to (h.below hW)
    unfold actR at hN
    rw [if_pos hs] at hN
    simp only [Prod.mk.injEq] at hN
    refine this.mono fun e w' ⟨p, h1, h2, h3⟩ => ?_
    rw [hN.1] at h1
    rw [hN.2] at h2
    exact ⟨p, h1, h2, h3⟩
  have hre : ∀ W, Below w.heap.size w W → Calls Try.prog 65 #[.agg #[.int .i64 size, .slice A n c], .int .i64 x.lo, .int .i64 x.hi, .int .i64 x.frm, .int .i64 x.to, .bool false] W fun e w' => ∃ A' c', e = .returned (.tuple #[.agg #[.int .i64 (Tr.total ([] : List (Int × Int))), .slice A' ([] : List (Int × Int)).length c'], .int .i64 (swapR L x.lo x.hi x.frm x.to).2.1, .int .i64 err]) ∧ OwnRuns w' W.heap.size (.slice A' ([] : List (Int × Int)).length c') (lay 0 ([] : List (Int × Int))) ∧ ([] : List (Int × Int)).length ≤ c' ∧ Below W.heap.size W w' := fun W hW => by
    have := rswap_any W L size A n c x.lo x.hi x.frm x.to hL (hA.1.below hW) hn hnc hsz
    unfold actR at hN
    rw [if_pos hs] at hN
    simp only [Prod.mk.injEq] at hN
    rw [hN.1, hN.2] at this
    refine this.mono fun e w' ⟨A', c', k, h1, h2, h3, h4, h5⟩ => ?_
    subst h2
    exact ⟨A', c', h1, h3, h4, h5⟩
  generalize (swapR L x.lo x.hi x.frm x.to).2.1 = cnt at *
  have hsame : ∀ W q, Rep W q [] → Calls Try.prog 21 #[.agg #[.pointer q], .agg #[.int .i64 0, .slice none 0 0]] W fun e w' => e = .returned (.bool true) ∧ Below W.heap.size W w' := fun W q hq => same_any W q [] none 0 hq (.inl rfl) (Nat.le_refl _)
  have HSA := Lib.hid hsame
  have he1 : (err != err) = false := by simp
  have he0 : (err != 0) = true := by simpa using herr
  have he0' : (err == 0) = false := by simpa using herr
  clear hsame
  obtain ⟨wa, hwa⟩ : ∃ wa, (((((w.alloc (.cells #[.pointer p] 26)).alloc (.cells #[.int .i64 size, .slice A n c] 31)).alloc (.cells #[.bool x.swap, .int .i64 x.lo, .int .i64 x.hi, .int .i64 x.frm, .int .i64 x.to] 40)).alloc (.cells #[.pointer none] 26)).alloc (.cells #[.int .i64 0, .slice none 0 0] 31)).alloc (.cells #[.pointer p] 26) = wa := ⟨_, rfl⟩
  have e1 : (w.alloc (.cells #[.pointer p] 26)).heap.size = w.heap.size + 1 := World.size_alloc _ _
  have B5 := Below.alloc1 (((((w.alloc (.cells #[.pointer p] 26)).alloc (.cells #[.int .i64 size, .slice A n c] 31)).alloc (.cells #[.bool x.swap, .int .i64 x.lo, .int .i64 x.hi, .int .i64 x.frm, .int .i64 x.to] 40)).alloc (.cells #[.pointer none] 26)).alloc (.cells #[.int .i64 0, .slice none 0 0] 31)) (.cells #[.pointer p] 26)
  have B4 := Below.alloc1 ((((w.alloc (.cells #[.pointer p] 26)).alloc (.cells #[.int .i64 size, .slice A n c] 31)).alloc (.cells #[.bool x.swap, .int .i64 x.lo, .int .i64 x.hi, .int .i64 x.frm, .int .i64 x.to] 40)).alloc (.cells #[.pointer none] 26)) (.cells #[.int .i64 0, .slice none 0 0] 31)
  have B3 := Below.alloc1 (((w.alloc (.cells #[.pointer p] 26)).alloc (.cells #[.int .i64 size, .slice A n c] 31)).alloc (.cells #[.bool x.swap, .int .i64 x.lo, .int .i64 x.hi, .int .i64 x.frm, .int .i64 x.to] 40)) (.cells #[.pointer none] 26)
  have B2 := Below.alloc1 ((w.alloc (.cells #[.pointer p] 26)).alloc (.cells #[.int .i64 size, .slice A n c] 31)) (.cells #[.bool x.swap, .int .i64 x.lo, .int .i64 x.hi, .int .i64 x.frm, .int .i64 x.to] 40)
  have B1 := Below.alloc1 (w.alloc (.cells #[.pointer p] 26)) (.cells #[.int .i64 size, .slice A n c] 31)
  have x3 : Boxed wa w.heap.size 26 (.pointer p) := hwa ▸ bx_next (bx_next (bx_next (bx_next (bx_next (Boxed.new w _ _) B1) B2) B3) B4) B5
  have x4 : BoxM wa (w.heap.size + 1) size (.slice A n c) := by
    have := ((((BoxM.new (w.alloc (.cells #[.pointer p] 26)) size (.slice A n c)).next B2).next B3).next B4).next B5
    simp only [World.size_alloc] at this; exact hwa ▸ this
  have x5 : BoxA wa (w.heap.size + 1 + 1) x := by
    have := (((BoxA.new ((w.alloc (.cells #[.pointer p] 26)).alloc (.cells #[.int .i64 size, .slice A n c] 31)) x).next B3).next B4).next B5
    simp only [World.size_alloc] at this; exact hwa ▸ this
  have x6 : Boxed wa (w.heap.size + 1 + 1 + 1) 26 (.pointer none) := by
    have := bx_next (bx_next (Boxed.new (((w.alloc (.cells #[.pointer p] 26)).alloc (.cells #[.int .i64 size, .slice A n c] 31)).alloc (.cells #[.bool x.swap, .int .i64 x.lo, .int .i64 x.hi, .int .i64 x.frm, .int .i64 x.to] 40)) 26 (.pointer none)) B4) B5
    simp only [World.size_alloc] at this; exact hwa ▸ this
  have x7 : BoxM wa (w.heap.size + 1 + 1 + 1 + 1) 0 (.slice none 0 0) := by
    have := (BoxM.new ((((w.alloc (.cells #[.pointer p] 26)).alloc (.cells #[.int .i64 size, .slice A n c] 31)).alloc (.cells #[.bool x.swap, .int .i64 x.lo, .int .i64 x.hi, .int .i64 x.frm, .int .i64 x.to] 40)).alloc (.cells #[.pointer none] 26)) 0 (.slice none 0 0)).next B5
    simp only [World.size_alloc] at this; exact hwa ▸ this
  have x11 : Boxed wa (w.heap.size + 1 + 1 + 1 + 1 + 1) 26 (.pointer p) := by
    have := Boxed.new (((((w.alloc (.cells #[.pointer p] 26)).alloc (.cells #[.int .i64 size, .slice A n c] 31)).alloc (.cells #[.bool x.swap, .int .i64 x.lo, .int .i64 x.hi, .int .i64 x.frm, .int .i64 x.to] 40)).alloc (.cells #[.pointer none] 26)).alloc (.cells #[.int .i64 0, .slice none 0 0] 31)) 26 (.pointer p)
    simp only [World.size_alloc] at this; exact hwa ▸ this
  have hBa : Below w.heap.size w wa := hwa ▸ Below.next (Below.next (Below.next (Below.next (Below.next (Below.alloc1 _ _) B1) B2) B3) B4) B5
  have HWA := Lib.hid hwa
  have HS := Lib.hid hs
  have HUP := Lib.hid hup
  have HRE := Lib.hid hre
  have HH := Lib.hid h
  have HA := Lib.hid hA
  clear hwa hs hup hre B1 B2 B3 B4 B5 e1 hN h hA
  go_enter Try.func32, Try.ntmps32
  go_upto_region 3 with (fail)
  rw [HWA.out]
  clear HWA
  have c3 := x3.cell
  obtain ⟨a0, a1, a2, a3, a4⟩ := x5.act
  simp only [Nat.zero_add] at a1 a2 a3 a4
  rw [HS.out] at a0
  go_wp2_with (fail)
  go_at_call 24
  refine (HUP.out _ hBa).mono ?_
  rintro e w1 ⟨p1, rfl, hp1, b1⟩
  have hB1 := Below.next hBa b1
  have y3 := bx_next x3 b1
  have y4 := x4.next b1
  have y5 := x5.next b1
  have y6 := bx_next x6 b1
  have y7 := x7.next b1
  have y11 := bx_next x11 b1
  have hsz1 := y11.lt
  clear b1 x3 x4 x5 x6 x7 x11 hBa c3 a0 a1 a2 a3 a4
  have c11 := y11.cell
  have f11 := y11.frozen
  go_upto_region 6 with (fail)
  have z3 : Boxed (w1.setCell ⟨w.heap.size + 1 + 1 + 1 + 1 + 1, 0, none⟩ (.pointer p1)) w.heap.size 26 (.pointer p) := boxed_far y3 (by omega)
  have z4 : BoxM (w1.setCell ⟨w.heap.size + 1 + 1 + 1 + 1 + 1, 0, none⟩ (.pointer p1)) (w.heap.size + 1) size (.slice A n c) := y4.far (by omega) _ _ _
  have z5 : BoxA (w1.setCell ⟨w.heap.size + 1 + 1 + 1 + 1 + 1, 0, none⟩ (.pointer p1)) (w.heap.size + 1 + 1) x := y5.far (by omega) _
  have z6 : Boxed (w1.setCell ⟨w.heap.size + 1 + 1 + 1 + 1 + 1, 0, none⟩ (.pointer p1)) (w.heap.size + 1 + 1 + 1) 26 (.pointer none) := boxed_far y6 (by omega)
  have z7 : BoxM (w1.setCell ⟨w.heap.size + 1 + 1 + 1 + 1 + 1, 0, none⟩ (.pointer p1)) (w.heap.size + 1 + 1 + 1 + 1) 0 (.slice none 0 0) := y7.far (by omega) _ _ _
  have z11 : Boxed (w1.setCell ⟨w.heap.size + 1 + 1 + 1 + 1 + 1, 0, none⟩ (.pointer p1)) (w.heap.size + 1 + 1 + 1 + 1 + 1) 26 (.pointer p1) := y11.set _
  have hB2 : Below w.heap.size w (w1.setCell ⟨w.heap.size + 1 + 1 + 1 + 1 + 1, 0, none⟩ (.pointer p1)) := hB1.setCell (p := ⟨w.heap.size + 1 + 1 + 1 + 1 + 1, 0, none⟩) (show w.heap.size ≤ w.heap.size + 1 + 1 + 1 + 1 + 1 by omega) _
  have hp2 : Rep (w1.setCell ⟨w.heap.size + 1 + 1 + 1 + 1 + 1, 0, none⟩ (.pointer p1)) p1 ([] : List (Int × Int)) := hp1.set_ ⟨_, _, _, y11, by decide⟩ _ _ _
  generalize w1.setCell ⟨w.heap.size + 1 + 1 + 1 + 1 + 1, 0, none⟩ (.pointer p1) = w2 at *
  clear y3 y4 y5 y6 y7 y11 hp1 hB1 c11 f11
  have c40 := z4.c0
  have c41 := z4.c1
  obtain ⟨a0, a1, a2, a3, a4⟩ := z5.act
  simp only [Nat.zero_add] at a1 a2 a3 a4
  rw [HS.out] at a0
  go_wp2_with (fail)
  go_at_call 65
  refine (HRE.out _ hB2).mono ?_
  rintro e w3 ⟨A1, c1, rfl, hR1, hc1, b3⟩
  have hB3 := Below.next hB2 b3
  have s3 := bx_next z3 b3
  have s4 := z4.next b3
  have s5 := z5.next b3
  have s6 := bx_next z6 b3
  have s7 := z7.next b3
  have s11 := bx_next z11 b3
  have hp3 := hp2.below b3
  have z7l := z7.lt
  clear b3 z3 z4 z5 z6 z7 z11 hp2 hB2 c40 c41 a0 a1 a2 a3 a4
  go_upto_region 7 with (fail)
  generalize hw4 : World.alloc w3 _ = w4
  have d4 : Below w3.heap.size w3 w4 := hw4 ▸ Below.alloc1 w3 _
  have x12 : BoxM w4 w3.heap.size (Tr.total ([] : List (Int × Int))) (.slice A1 ([] : List (Int × Int)).length c1) := hw4 ▸ BoxM.new w3 _ _
  have s11l := s11.lt
  have x3 := bx_next s3 d4
  have x4 := s4.next d4
  have x5 := s5.next d4
  have x6 := bx_next s6 d4
  have x7 := s7.next d4
  have x11 := bx_next s11 d4
  have hp4 := hp3.below d4
  have hR4 := hR1.next d4
  have hB4 := Below.next hB3 d4
  clear hw4 d4 s3 s4 s5 s6 s7 s11 hp3 hR1 hB3
  obtain ⟨a0, -, -, -, -⟩ := x5.act
  rw [HS.out] at a0
  have c3 := x3.cell
  have c40 := x4.c0
  have c41 := x4.c1
  have c11 := x11.cell
  have c120 := x12.c0
  have c121 := x12.c1
  have c6 := x6.cell
  have f6 := x6.frozen
  have c70 := x7.c0
  have c71 := x7.c1
  have f70 := x7.frozen 0
  have f71 := x7.frozen 1
  have x12l := x12.lt
  go_wp2_with (fail)
  go_region_with ((go_at_call 21; refine (HSA.out _ p1 (hp4.below (Quiet.below ⟨1, rfl⟩ _))).mono ?_; rintro e w5 ⟨rfl, b5'⟩; have b5 : Below w4.heap.size w4 w5 := Below.of_drew b5'; have t6 := bx_next x6 b5; have t7 := x7.next b5; have t3 := bx_next x3 b5; have t4 := x4.next b5; have t11 := bx_next x11 b5; have c6' := t6.cell; have f6' := t6.frozen; have c70' := t7.c0; have c71' := t7.c1; have f70' := t7.frozen 0; have f71' := t7.frozen 1; have c3' := t3.cell; have c40' := t4.c0; have c41' := t4.c1; have c11' := t11.cell; have t7l := t7.lt))
  all_goals
    go_wp2_with (fail)
    first
      | exact bodyPost_ret (v := .tuple #[.agg #[.pointer p], .agg #[.int .i64 size, .slice A n c], .bool true]) (by simp [results, Try.results32, go_sem, (boxed_far (g := w.heap.size + 1 + 1 + 1 + 1) (i := 1) (x := .slice A n c) (boxed_far (g := w.heap.size + 1 + 1 + 1 + 1) (i := 0) (x := .int .i64 size) (t6.set (.pointer p)) (by omega)) (by omega)).cell, (boxM_set (t7.far (b' := w.heap.size + 1 + 1 + 1) (by omega) 0 none (.pointer p)) size (.slice A n c)).c0, (boxM_set (t7.far (b' := w.heap.size + 1 + 1 + 1) (by omega) 0 none (.pointer p)) size (.slice A n c)).c1]) rfl ⟨p, A, c, by rw [hsz, hn], HH.out.below ((((Below.next hB4 b5).setCell (p := ⟨w.heap.size + 1 + 1 + 1, 0, none⟩) (show w.heap.size ≤ w.heap.size + 1 + 1 + 1 by omega) _).setCell (p := ⟨w.heap.size + 1 + 1 + 1 + 1, 0, none⟩) (show w.heap.size ≤ w.heap.size + 1 + 1 + 1 + 1 by omega) _).setCell (p := ⟨w.heap.size + 1 + 1 + 1 + 1, 1, none⟩) (show w.heap.size ≤ w.heap.size + 1 + 1 + 1 + 1 by omega) _), HA.out.below ((((Below.next hB4 b5).setCell (p := ⟨w.heap.size + 1 + 1 + 1, 0, none⟩) (show w.heap.size ≤ w.heap.size + 1 + 1 + 1 by omega) _).setCell (p := ⟨w.heap.size + 1 + 1 + 1 + 1, 0, none⟩) (show w.heap.size ≤ w.heap.size + 1 + 1 + 1 + 1 by omega) _).setCell (p := ⟨w.heap.size + 1 + 1 + 1 + 1, 1, none⟩) (show w.heap.size ≤ w.heap.size + 1 + 1 + 1 + 1 by omega) _), by rw [hn]; exact hnc, ((((Below.next hB4 b5).setCell (p := ⟨w.heap.size + 1 + 1 + 1, 0, none⟩) (show w.heap.size ≤ w.heap.size + 1 + 1 + 1 by omega) _).setCell (p := ⟨w.heap.size + 1 + 1 + 1 + 1, 0, none⟩) (show w.heap.size ≤ w.heap.size + 1 + 1 + 1 + 1 by omega) _).setCell (p := ⟨w.heap.size + 1 + 1 + 1 + 1, 1, none⟩) (show w.heap.size ≤ w.heap.size + 1 + 1 + 1 + 1 by omega) _)⟩
      | exact bodyPost_ret (v := .tuple #[.agg #[.pointer p], .agg #[.int .i64 size, .slice A n c], .bool true]) (by simp [results, Try.results32, go_sem, ((boxed_far (g := w.heap.size + 1 + 1 + 1 + 1) (i := 1) (x := .slice A n c) (boxed_far (g := w.heap.size + 1 + 1 + 1 + 1) (i := 0) (x := .int .i64 size) t6 (by omega)) (by omega)).set (.pointer p)).cell, ((boxM_set t7 size (.slice A n c)).far (b' := w.heap.size + 1 + 1 + 1) (by omega) 0 none (.pointer p)).c0, ((boxM_set t7 size (.slice A n c)).far (b' := w.heap.size + 1 + 1 + 1) (by omega) 0 none (.pointer p)).c1]) rfl ⟨p, A, c, by rw [hsz, hn], HH.out.below ((((Below.next hB4 b5).setCell (p := ⟨w.heap.size + 1 + 1 + 1 + 1, 0, none⟩) (show w.heap.size ≤ w.heap.size + 1 + 1 + 1 + 1 by omega) _).setCell (p := ⟨w.heap.size + 1 + 1 + 1 + 1, 1, none⟩) (show w.heap.size ≤ w.heap.size + 1 + 1 + 1 + 1 by omega) _).setCell (p := ⟨w.heap.size + 1 + 1 + 1, 0, none⟩) (show w.heap.size ≤ w.heap.size + 1 + 1 + 1 by omega) _), HA.out.below ((((Below.next hB4 b5).setCell (p := ⟨w.heap.size + 1 + 1 + 1 + 1, 0, none⟩) (show w.heap.size ≤ w.heap.size + 1 + 1 + 1 + 1 by omega) _).setCell (p := ⟨w.heap.size + 1 + 1 + 1 + 1, 1, none⟩) (show w.heap.size ≤ w.heap.size + 1 + 1 + 1 + 1 by omega) _).setCell (p := ⟨w.heap.size + 1 + 1 + 1, 0, none⟩) (show w.heap.size ≤ w.heap.size + 1 + 1 + 1 by omega) _), by rw [hn]; exact hnc, ((((Below.next hB4 b5).setCell (p := ⟨w.heap.size + 1 + 1 + 1 + 1, 0, none⟩) (show w.heap.size ≤ w.heap.size + 1 + 1 + 1 + 1 by omega) _).setCell (p := ⟨w.heap.size + 1 + 1 + 1 + 1, 1, none⟩) (show w.heap.size ≤ w.heap.size + 1 + 1 + 1 + 1 by omega) _).setCell (p := ⟨w.heap.size + 1 + 1 + 1, 0, none⟩) (show w.heap.size ≤ w.heap.size + 1 + 1 + 1 by omega) _)⟩
end
section
open Go.RowKit Go.Shelf
set_option maxRecDepth 100000 in
set_option maxHeartbeats 4000000 in
theorem do_set_err (w : World) (p : Option Addr) (A : Option Addr) (n c : Nat) (x : Ac) (L : List (Int × Int)) (size : Int) (hL : L = [] ∨ Good L) (h : Rep w p L) (hA : RunsT w A (lay 0 L)) (hn : L.length = n) (hnc : n ≤ c) (hsz : Tr.total L = size)
    (hs : x.swap = false) (err : Int) (hN : actR L x = (err, [])) (herr : err ≠ 0) :
    Calls Try.prog 32 #[.agg #[.pointer p], .agg #[.int .i64 size, .slice A n c], .agg #[.bool x.swap, .int .i64 x.lo, .int .i64 x.hi, .int .i64 x.frm, .int .i64 x.to]] w (DoPost w L) := by
  have hup : ∀ W, Below w.heap.size w W → Calls Try.prog 25 #[.agg #[.pointer p], .int .i64 x.lo, .int .i64 x.hi, .int .i64 x.to] W fun e w' => ∃ p, e = .returned (.tuple #[.agg #[.pointer p], .int .i64 err]) ∧ Rep w' p ([] : List (Int × Int)) ∧ Below W.heap.size W w' := fun W hW => by
    have := set_any W p L x.lo x.hi x.to (h.below hW)
    unfold actR at hN
    rw [if_neg (by rw [hs]; simp)] at hN
    unfold SetPost at this
    rw [hN] at this
    exact this
  have hre : ∀ W, Below w.heap.size w W → Calls Try.prog 65 #[.agg #[.int .i64 size, .slice A n c], .int .i64 x.lo, .int .i64 x.hi, .int .i64 x.frm, .int .i64 x.to, .bool true] W fun e w' => ∃ A' c' k, e = .returned (.tuple #[.agg #[.int .i64 (Tr.total ([] : List (Int × Int))), .slice A' ([] : List (Int × Int)).length c'], .int .i64 k, .int .i64 err]) ∧ OwnRuns w' W.heap.size (.slice A' ([] : List (Int × Int)).length c') (lay 0 ([] : List (Int × Int))) ∧ ([] : List (Int × Int)).length ≤ c' ∧ Below W.heap.size W w' := fun W hW => by
    have := rset_any W L size A n c x.lo x.hi x.frm x.to hL (hA.1.below hW) hn hnc hsz
    unfold actR at hN
    rw [if_neg (by rw [hs]; simp)] at hN
    rw [hN] at this
    refine this.mono fun e w' ⟨A', c', k, h1, _, h3, h4, h5⟩ => ?_
    exact ⟨A', c', k, h1, h3, h4, h5⟩
  have hsame : ∀ W q, Rep W q [] → Calls Try.prog 21 #[.agg #[.pointer q], .agg #[.int .i64 0, .slice none 0 0]] W fun e w' => e = .returned (.bool true) ∧ Below W.heap.size W w' := fun W q hq => same_any W q [] none 0 hq (.inl rfl) (Nat.le_refl _)
  have HSA := Lib.hid hsame
  have he1 : (err != err) = false := by simp
  have he0 : (err != 0) = true := by simpa using herr
  have he0' : (err == 0) = false := by simpa using herr
  clear hsame
  obtain ⟨wa, hwa⟩ : ∃ wa, (((((w.alloc (.cells #[.pointer p] 26)).alloc (.cells #[.int .i64 size, .slice A n c] 31)).alloc (.cells #[.bool x.swap, .int .i64 x.lo, .int .i64 x.hi, .int .i64 x.frm, .int .i64 x.to] 40)).alloc (.cells #[.pointer none] 26)).alloc (.cells #[.int .i64 0, .slice none 0 0] 31)).alloc (.cells #[.pointer p] 26) = wa := ⟨_, rfl⟩
  have e1 : (w.alloc (.cells #[.pointer p] 26)).heap.size = w.heap.size + 1 := World.size_alloc _ _
  have B5 := Below.alloc1 (((((w.alloc (.cells #[.pointer p] 26)).alloc (.cells #[.int .i64 size, .slice A n c] 31)).alloc (.cells #[.bool x.swap, .int .i64 x.lo, .int .i64 x.hi, .int .i64 x.frm, .int .i64 x.to] 40)).alloc (.cells #[.pointer none] 26)).alloc (.cells #[.int .i64 0, .slice none 0 0] 31)) (.cells #[.pointer p] 26)
  have B4 := Below.alloc1 ((((w.alloc (.cells #[.pointer p] 26)).alloc (.cells #[.int .i64 size, .slice A n c] 31)).alloc (.cells #[.bool x.swap, .int .i64 x.lo, .int .i64 x.hi, .int .i64 x.frm, .int .i64 x.to] 40)).alloc (.cells #[.pointer none] 26)) (.cells #[.int .i64 0, .slice none 0 0] 31)
  have B3 := Below.alloc1 (((w.alloc (.cells #[.pointer p] 26)).alloc (.cells #[.int .i64 size, .slice A n c] 31)).alloc (.cells #[.bool x.swap, .int .i64 x.lo, .int .i64 x.hi, .int .i64 x.frm, .int .i64 x.to] 40)) (.cells #[.pointer none] 26)
  have B2 := Below.alloc1 ((w.alloc (.cells #[.pointer p] 26)).alloc (.cells #[.int .i64 size, .slice A n c] 31)) (.cells #[.bool x.swap, .int .i64 x.lo, .int .i64 x.hi, .int .i64 x.frm, .int .i64 x.to] 40)
  have B1 := Below.alloc1 (w.alloc (.cells #[.pointer p] 26)) (.cells #[.int .i64 size, .slice A n c] 31)
  have x3 : Boxed wa w.heap.size 26 (.pointer p) := hwa ▸ bx_next (bx_next (bx_next (bx_next (bx_next (Boxed.new w _ _) B1) B2) B3) B4) B5
  have x4 : BoxM wa (w.heap.size + 1) size (.slice A n c) := by
    have := ((((BoxM.new (w.alloc (.cells #[.pointer p] 26)) size (.slice A n c)).next B2).next B3).next B4).next B5
    simp only [World.size_alloc] at this; exact hwa ▸ this
  have x5 : BoxA wa (w.heap.size + 1 + 1) x := by
    have := (((BoxA.new ((w.alloc (.cells #[.pointer p] 26)).alloc (.cells #[.int .i64 size, .slice A n c] 31)) x).next B3).next B4).next B5
    simp only [World.size_alloc] at this; exact hwa ▸ this
  have x6 : Boxed wa (w.heap.size + 1 + 1 + 1) 26 (.pointer none) := by
    have := bx_next (bx_next (Boxed.new (((w.alloc (.cells #[.pointer p] 26)).alloc (.cells #[.int .i64 size, .slice A n c] 31)).alloc (.cells #[.bool x.swap, .int .i64 x.lo, .int .i64 x.hi, .int .i64 x.frm, .int .i64 x.to] 40)) 26 (.pointer none)) B4) B5
    simp only [World.size_alloc] at this; exact hwa ▸ this
  have x7 : BoxM wa (w.heap.size + 1 + 1 + 1 + 1) 0 (.slice none 0 0) := by
    have := (BoxM.new ((((w.alloc (.cells #[.pointer p] 26)).alloc (.cells #[.int .i64 size, .slice A n c] 31)).alloc (.cells #[.bool x.swap, .int .i64 x.lo, .int .i64 x.hi, .int .i64 x.frm, .int .i64 x.to] 40)).alloc (.cells #[.pointer none] 26)) 0 (.slice none 0 0)).next B5
    simp only [World.size_alloc] at this; exact hwa ▸ this
  have x11 : Boxed wa (w.heap.size + 1 + 1 + 1 + 1 + 1) 26 (.pointer p) := by
    have := Boxed.new (((((w.alloc (.cells #[.pointer p] 26)).alloc (.cells #[.int .i64 size, .slice A n c] 31)).alloc (.cells #[.bool x.swap, .int .i64 x.lo, .int .i64 x.hi, .int .i64 x.frm, .int .i64 x.to] 40)).alloc (.cells #[.pointer none] 26)).alloc (.cells #[.int .i64 0, .slice none 0 0] 31)) 26 (.pointer p)
    simp only [World.size_alloc] at this; exact hwa ▸ this
  have hBa : Below w.heap.size w wa := hwa ▸ Below.next (Below.next (Below.next (Below.next (Below.next (Below.alloc1 _ _) B1) B2) B3) B4) B5
  have HWA := Lib.hid hwa
  have HS := Lib.hid hs
  have HUP := Lib.hid hup
  have HRE := Lib.hid hre
  have HH := Lib.hid h
  have HA := Lib.hid hA
  clear hwa hs hup hre B1 B2 B3 B4 B5 e1 hN h hA
  go_enter Try.func32, Try.ntmps32
  go_upto_region 3 with (fail)
  rw [HWA.out]
  clear HWA
  have c3 := x3.cell
  obtain ⟨a0, a1, a2, a3, a4⟩ := x5.act
  simp only [Nat.zero_add] at a1 a2 a3 a4
  rw [HS.out] at a0
  go_wp2_with (fail)
  go_at_call 25
  refine (HUP.out _ hBa).mono ?_
  rintro e w1 ⟨p1, rfl, hp1, b1⟩
  have hB1 := Below.next hBa b1
  have y3 := bx_next x3 b1
  have y4 := x4.next b1
  have y5 := x5.next b1
  have y6 := bx_next x6 b1
  have y7 := x7.next b1
  have y11 := bx_next x11 b1
  have hsz1 := y11.lt
  clear b1 x3 x4 x5 x6 x7 x11 hBa c3 a0 a1 a2 a3 a4
  have c11 := y11.cell
  have f11 := y11.frozen
  go_upto_region 6 with (fail)
  have z3 : Boxed (w1.setCell ⟨w.heap.size + 1 + 1 + 1 + 1 + 1, 0, none⟩ (.pointer p1)) w.heap.size 26 (.pointer p) := boxed_far y3 (by omega)
  have z4 : BoxM (w1.setCell ⟨w.heap.size + 1 + 1 + 1 + 1 + 1, 0, none⟩ (.pointer p1)) (w.heap.size + 1) size (.slice A n c) := y4.far (by omega) _ _ _
  have z5 : BoxA (w1.setCell ⟨w.heap.size + 1 + 1 + 1 + 1 + 1, 0, none⟩ (.pointer p1)) (w.heap.size + 1 + 1) x := y5.far (by omega) _
  have z6 : Boxed (w1.setCell ⟨w.heap.size + 1 + 1 + 1 + 1 + 1, 0, none⟩ (.pointer p1)) (w.heap.size + 1 + 1 + 1) 26 (.pointer none) := boxed_far y6 (by omega)
  have z7 : BoxM (w1.setCell ⟨w.heap.size + 1 + 1 + 1 + 1 + 1, 0, none⟩ (.pointer p1)) (w.heap.size + 1 + 1 + 1 + 1) 0 (.slice none 0 0) := y7.far (by omega) _ _ _
  have z11 : Boxed (w1.setCell ⟨w.heap.size + 1 + 1 + 1 + 1 + 1, 0, none⟩ (.pointer p1)) (w.heap.size + 1 + 1 + 1 + 1 + 1) 26 (.pointer p1) := y11.set _
  have hB2 : Below w.heap.size w (w1.setCell ⟨w.heap.size + 1 + 1 + 1 + 1 + 1, 0, none⟩ (.pointer p1)) := hB1.setCell (p := ⟨w.heap.size + 1 + 1 + 1 + 1 + 1, 0, none⟩) (show w.heap.size ≤ w.heap.size + 1 + 1 + 1 + 1 + 1 by omega) _
  have hp2 : Rep (w1.setCell ⟨w.heap.size + 1 + 1 + 1 + 1 + 1, 0, none⟩ (.pointer p1)) p1 ([] : List (Int × Int)) := hp1.set_ ⟨_, _, _, y11, by decide⟩ _ _ _
  generalize w1.setCell ⟨w.heap.size + 1 + 1 + 1 + 1 + 1, 0, none⟩ (.pointer p1) = w2 at *
  clear y3 y4 y5 y6 y7 y11 hp1 hB1 c11 f11
  have c40 := z4.c0
  have c41 := z4.c1
  obtain ⟨a0, a1, a2, a3, a4⟩ := z5.act
  simp only [Nat.zero_add] at a1 a2 a3 a4
  rw [HS.out] at a0
  go_wp2_with (fail)
  go_at_call 65
  refine (HRE.out _ hB2).mono ?_
  rintro e w3 ⟨A1, c1, k, rfl, hR1, hc1, b3⟩
  have hB3 := Below.next hB2 b3
  have s3 := bx_next z3 b3
  have s4 := z4.next b3
  have s5 := z5.next b3
  have s6 := bx_next z6 b3
  have s7 := z7.next b3
  have s11 := bx_next z11 b3
  have hp3 := hp2.below b3
  have z7l := z7.lt
  clear b3 z3 z4 z5 z6 z7 z11 hp2 hB2 c40 c41 a0 a1 a2 a3 a4
  go_upto_region 7 with (fail)
  generalize hw4 : World.alloc w3 _ = w4
  have d4 : Below w3.heap.size w3 w4 := hw4 ▸ Below.alloc1 w3 _
  have x12 : BoxM w4 w3.heap.size (Tr.total ([] : List (Int × Int))) (.slice A1 ([] : List (Int × Int)).length c1) := hw4 ▸ BoxM.new w3 _ _
  have s11l := s11.lt
  have x3 := bx_next s3 d4
  have x4 := s4.next d4
  have x5 := s5.next d4
  have x6 := bx_next s6 d4
  have x7 := s7.next d4
  have x11 := bx_next s11 d4
  have hp4 := hp3.below d4
  have hR4 := hR1.next d4
  have hB4 := Below.next hB3 d4
  clear hw4 d4 s3 s4 s5 s6 s7 s11 hp3 hR1 hB3
  obtain ⟨a0, -, -, -, -⟩ := x5.act
  rw [HS.out] at a0
  have c3 := x3.cell
  have c40 := x4.c0
  have c41 := x4.c1
  have c11 := x11.cell
  have c120 := x12.c0
  have c121 := x12.c1
  have c6 := x6.cell
  have f6 := x6.frozen
  have c70 := x7.c0
  have c71 := x7.c1
  have f70 := x7.frozen 0
  have f71 := x7.frozen 1
  have x12l := x12.lt
  go_wp2_with (fail)
  go_region_with ((go_at_call 21; refine (HSA.out _ p1 (hp4.below (Quiet.below ⟨1, rfl⟩ _))).mono ?_; rintro e w5 ⟨rfl, b5'⟩; have b5 : Below w4.heap.size w4 w5 := Below.of_drew b5'; have t6 := bx_next x6 b5; have t7 := x7.next b5; have t3 := bx_next x3 b5; have t4 := x4.next b5; have t11 := bx_next x11 b5; have c6' := t6.cell; have f6' := t6.frozen; have c70' := t7.c0; have c71' := t7.c1; have f70' := t7.frozen 0; have f71' := t7.frozen 1; have c3' := t3.cell; have c40' := t4.c0; have c41' := t4.c1; have c11' := t11.cell; have t7l := t7.lt))
  all_goals
    go_wp2_with (fail)
    first
      | exact bodyPost_ret (v := .tuple #[.agg #[.pointer p], .agg #[.int .i64 size, .slice A n c], .bool true]) (by simp [results, Try.results32, go_sem, (boxed_far (g := w.heap.size + 1 + 1 + 1 + 1) (i := 1) (x := .slice A n c) (boxed_far (g := w.heap.size + 1 + 1 + 1 + 1) (i := 0) (x := .int .i64 size) (t6.set (.pointer p)) (by omega)) (by omega)).cell, (boxM_set (t7.far (b' := w.heap.size + 1 + 1 + 1) (by omega) 0 none (.pointer p)) size (.slice A n c)).c0, (boxM_set (t7.far (b' := w.heap.size + 1 + 1 + 1) (by omega) 0 none (.pointer p)) size (.slice A n c)).c1]) rfl ⟨p, A, c, by rw [hsz, hn], HH.out.below ((((Below.next hB4 b5).setCell (p := ⟨w.heap.size + 1 + 1 + 1, 0, none⟩) (show w.heap.size ≤ w.heap.size + 1 + 1 + 1 by omega) _).setCell (p := ⟨w.heap.size + 1 + 1 + 1 + 1, 0, none⟩) (show w.heap.size ≤ w.heap.size + 1 + 1 + 1 + 1 by omega) _).setCell (p := ⟨w.heap.size + 1 + 1 + 1 + 1, 1, none⟩) (show w.heap.size ≤ w.heap.size + 1 + 1 + 1 + 1 by omega) _), HA.out.below ((((Below.next hB4 b5).setCell (p := ⟨w.heap.size + 1 + 1 + 1, 0, none⟩) (show w.heap.size ≤ w.heap.size + 1 + 1 + 1 by omega) _).setCell (p := ⟨w.heap.size + 1 + 1 + 1 + 1, 0, none⟩) (show w.heap.size ≤ w.heap.size + 1 + 1 + 1 + 1 by omega) _).setCell (p := ⟨w.heap.size + 1 + 1 + 1 + 1, 1, none⟩) (show w.heap.size ≤ w.heap.size + 1 + 1 + 1 + 1 by omega) _), by rw [hn]; exact hnc, ((((Below.next hB4 b5).setCell (p := ⟨w.heap.size + 1 + 1 + 1, 0, none⟩) (show w.heap.size ≤ w.heap.size + 1 + 1 + 1 by omega) _).setCell (p := ⟨w.heap.size + 1 + 1 + 1 + 1, 0, none⟩) (show w.heap.size ≤ w.heap.size + 1 + 1 + 1 + 1 by omega) _).setCell (p := ⟨w.heap.size + 1 + 1 + 1 + 1, 1, none⟩) (show w.heap.size ≤ w.heap.size + 1 + 1 + 1 + 1 by omega) _)⟩
      | exact bodyPost_ret (v := .tuple #[.agg #[.pointer p], .agg #[.int .i64 size, .slice A n c], .bool true]) (by simp [results, Try.results32, go_sem, ((boxed_far (g := w.heap.size + 1 + 1 + 1 + 1) (i := 1) (x := .slice A n c) (boxed_far (g := w.heap.size + 1 + 1 + 1 + 1) (i := 0) (x := .int .i64 size) t6 (by omega)) (by omega)).set (.pointer p)).cell, ((boxM_set t7 size (.slice A n c)).far (b' := w.heap.size + 1 + 1 + 1) (by omega) 0 none (.pointer p)).c0, ((boxM_set t7 size (.slice A n c)).far (b' := w.heap.size + 1 + 1 + 1) (by omega) 0 none (.pointer p)).c1]) rfl ⟨p, A, c, by rw [hsz, hn], HH.out.below ((((Below.next hB4 b5).setCell (p := ⟨w.heap.size + 1 + 1 + 1 + 1, 0, none⟩) (show w.heap.size ≤ w.heap.size + 1 + 1 + 1 + 1 by omega) _).setCell (p := ⟨w.heap.size + 1 + 1 + 1 + 1, 1, none⟩) (show w.heap.size ≤ w.heap.size + 1 + 1 + 1 + 1 by omega) _).setCell (p := ⟨w.heap.size + 1 + 1 + 1, 0, none⟩) (show w.heap.size ≤ w.heap.size + 1 + 1 + 1 by omega) _), HA.out.below ((((Below.next hB4 b5).setCell (p := ⟨w.heap.size + 1 + 1 + 1 + 1, 0, none⟩) (show w.heap.size ≤ w.heap.size + 1 + 1 + 1 + 1 by omega) _).setCell (p := ⟨w.heap.size + 1 + 1 + 1 + 1, 1, none⟩) (show w.heap.size ≤ w.heap.size + 1 + 1 + 1 + 1 by omega) _).setCell (p := ⟨w.heap.size + 1 + 1 + 1, 0, none⟩) (show w.heap.size ≤ w.heap.size + 1 + 1 + 1 by omega) _), by rw [hn]; exact hnc, ((((Below.next hB4 b5).setCell (p := ⟨w.heap.size + 1 + 1 + 1 + 1, 0, none⟩) (show w.heap.size ≤ w.heap.size + 1 + 1 + 1 + 1 by omega) _).setCell (p := ⟨w.heap.size + 1 + 1 + 1 + 1, 1, none⟩) (show w.heap.size ≤ w.heap.size + 1 + 1 + 1 + 1 by omega) _).setCell (p := ⟨w.heap.size + 1 + 1 + 1, 0, none⟩) (show w.heap.size ≤ w.heap.size + 1 + 1 + 1 by omega) _)⟩
end
section
open Go.RowKit Go.Shelf

theorem do_any (w : World) (p : Option Addr) (A : Option Addr) (c : Nat) (x : Ac) (L : List (Int × Int)) (hL : L = [] ∨ Good L) (h : Rep w p L) (hA : RunsT w A (lay 0 L)) (hnc : L.length ≤ c) :
    Calls Try.prog 32 #[.agg #[.pointer p], .agg #[.int .i64 (Tr.total L), .slice A L.length c], .agg #[.bool x.swap, .int .i64 x.lo, .int .i64 x.hi, .int .i64 x.frm, .int .i64 x.to]] w (DoPost w (actL L x)) := by
  obtain ⟨R, hR⟩ : ∃ R, actR L x = R := ⟨_, rfl⟩
  obtain ⟨err, N⟩ := R
  have hc : (err ≠ 0 ∧ N = []) ∨ err = 0 := by
    by_cases hl : L = []
    · left
      subst hl
      unfold actR swapR setR at hR
      split at hR <;> simp at hR <;> exact ⟨by omega, hR.2⟩
    · have := actR_cases (hL.resolve_left hl) x
      rw [hR] at this
      rcases this with ⟨h1, h2⟩ | ⟨h1, _⟩
      · exact .inl ⟨h1, h2⟩
      · exact .inr h1
  unfold actL
  rw [hR]
  rcases hc with ⟨herr, rfl⟩ | rfl
  · rw [if_neg herr]
    cases hs : x.swap with
    | true => have := do_swap_err w p A L.length c x L _ hL h hA rfl hnc rfl hs err hR herr; rwa [hs] at this
    | false => have := do_set_err w p A L.length c x L _ hL h hA rfl hnc rfl hs err hR herr; rwa [hs] at this
  · rw [if_pos rfl]
    cases hs : x.swap with
    | true => have := do_swap_ok w p A L.length c x L _ hL h hA rfl hnc rfl hs N hR; rwa [hs] at this
    | false => have := do_set_ok w p A L.length c x L _ hL h hA rfl hnc rfl hs N hR; rwa [hs] at this
theorem actL_good {L : List (Int × Int)} (h : L = [] ∨ Good L) (x : Ac) : actL L x = [] ∨ Good (actL L x) := by
  unfold actL
  split
  · exact actR_good h x
  · exact h
end
section
open Go.RowKit Go.Shelf

/-- Two boxes hold both maps, with the runs L. -/
def Both (W : World) (a b : Nat) (L : List (Int × Int)) (p : Option Addr) (A : Option Addr) (c : Nat) : Prop :=
  Boxed W a 26 (.pointer p) ∧ BoxM W b (Tr.total L) (.slice A L.length c) ∧ Rep W p L ∧ RunsT W A (lay 0 L) ∧ L.length ≤ c
theorem Both.next {W W' : World} {a b : Nat} {L : List (Int × Int)} {p A : Option Addr} {c : Nat} (h : Both W a b L p A c) (hB : Below W.heap.size W W') : Both W' a b L p A c :=
  ⟨bx_next h.1 hB, h.2.1.next hB, h.2.2.1.below hB, h.2.2.2.1.below hB, h.2.2.2.2⟩
theorem Both.set {W : World} {a b : Nat} {L : List (Int × Int)} {p A : Option Addr} {c : Nat} (h : Both W a b L p A c) {g : Nat} {cs : Array Value} {t : TypeId} {fr : Nat × Nat} (hg : W.heap[g]? = some (.cells cs t fr)) (h1 : t ≠ 35) (h2 : t ≠ 116) (ha : ¬ a = g) (hb : ¬ b = g) (i : Nat) (v : Value) : Both (W.setCell ⟨g, i, none⟩ v) a b L p A c :=
  ⟨boxed_far h.1 ha, h.2.1.far hb _ _ _, h.2.2.1.set_ ⟨_, _, _, hg, h2⟩ _ _ _, h.2.2.2.1.set hg h1 _ _, h.2.2.2.2⟩
section
variable {W : World} {a b : Nat} {q : Value} {x : Int} {u : Value} {L : List (Int × Int)} {p A : Option Addr} {c : Nat}
variable (ha : Boxed W a 26 q) (hb : BoxM W b x u) (hab : ¬ a = b) (hr : Rep W p L) (hR : RunsT W A (lay 0 L)) (hc : L.length ≤ c)
include ha hb hab hr hR hc
/-- The map is stored, then the document's. -/
theorem both_a : Both (((W.setCell ⟨a, 0, none⟩ (.pointer p)).setCell ⟨b, 0, none⟩ (.int .i64 (Tr.total L))).setCell ⟨b, 1, none⟩ (.slice A L.length c)) a b L p A c := by
  have v1 : BoxM (W.setCell ⟨a, 0, none⟩ (.pointer p)) b x u := hb.far (by omega) _ _ _
  have v2 := boxM_set0 v1 (Tr.total L)
  refine ⟨boxed_far (boxed_far (ha.set (.pointer p)) hab) hab, boxM_set v1 _ _, ?_, ?_, hc⟩
  · exact ((hr.set_ ⟨_, _, _, ha, by decide⟩ _ _ _).set_ ⟨_, _, _, v1, by decide⟩ _ _ _).set_ ⟨_, _, _, v2, by decide⟩ _ _ _
  · exact ((hR.set ha (by decide) _ _).set v1 (by decide) _ _).set v2 (by decide) _ _
/-- The document's map is stored, then the map. -/
theorem both_b : Both (((W.setCell ⟨b, 0, none⟩ (.int .i64 (Tr.total L))).setCell ⟨b, 1, none⟩ (.slice A L.length c)).setCell ⟨a, 0, none⟩ (.pointer p)) a b L p A c := by
  have v2 := boxM_set0 hb (Tr.total L)
  have v3 := boxM_set hb (Tr.total L) (.slice A L.length c)
  have w3 : Boxed ((W.setCell ⟨b, 0, none⟩ (.int .i64 (Tr.total L))).setCell ⟨b, 1, none⟩ (.slice A L.length c)) a 26 q := boxed_far (boxed_far ha hab) hab
  refine ⟨w3.set _, v3.far (by omega) _ _ _, ?_, ?_, hc⟩
  · exact ((hr.set_ ⟨_, _, _, hb, by decide⟩ _ _ _).set_ ⟨_, _, _, v2, by decide⟩ _ _ _).set_ ⟨_, _, _, w3, by decide⟩ _ _ _
  · exact ((hR.set hb (by decide) _ _).set v2 (by decide) _ _).set w3 (by decide) _ _
omit ha hb hab hr hR hc
theorem below_a {n : Nat} {w : World} (hB : Below n w W) (ha : n ≤ a) (hb : n ≤ b) (v1 v2 v3 : Value) : Below n w (((W.setCell ⟨a, 0, none⟩ v1).setCell ⟨b, 0, none⟩ v2).setCell ⟨b, 1, none⟩ v3) :=
  ((hB.setCell (p := ⟨a, 0, none⟩) ha _).setCell (p := ⟨b, 0, none⟩) hb _).setCell (p := ⟨b, 1, none⟩) hb _
theorem below_b {n : Nat} {w : World} (hB : Below n w W) (ha : n ≤ a) (hb : n ≤ b) (v1 v2 v3 : Value) : Below n w (((W.setCell ⟨b, 0, none⟩ v2).setCell ⟨b, 1, none⟩ v3).setCell ⟨a, 0, none⟩ v1) :=
  ((hB.setCell (p := ⟨b, 0, none⟩) hb _).setCell (p := ⟨b, 1, none⟩) hb _).setCell (p := ⟨a, 0, none⟩) ha _
end
/-- do, of an update in a list. -/
theorem do_both (_w : World) {W : World} {a b : Nat} {L : List (Int × Int)} {p A : Option Addr} {c : Nat} (h : Both W a b L p A c) (hL : L = [] ∨ Good L) (x : Ac) {W' : World} (hB : Below W.heap.size W W') :
    Calls Try.prog 32 #[.agg #[.pointer p], .agg #[.int .i64 (Tr.total L), .slice A L.length c], .agg #[.bool x.swap, .int .i64 x.lo, .int .i64 x.hi, .int .i64 x.frm, .int .i64 x.to]] W' (DoPost W' (actL L x)) :=
  do_any W' p A c x L hL (h.2.2.1.below hB) (h.2.2.2.1.below hB) h.2.2.2.2
theorem moreL_good (l : List Ac) : ∀ {L : List (Int × Int)}, (L = [] ∨ Good L) → (moreL L l = [] ∨ Good (moreL L l)) := by
  induction l with
  | nil => exact fun h => h
  | cons x l ih => exact fun h => ih (actL_good h x)
end
end Go.Proofs.Ytfmplibjhohpgaa
