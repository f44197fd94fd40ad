/- The walks over New of the reference and played: both maps after updates. -/
import Derived.Test.YtfmplibjhohpgaaSpDoAny
import Derived.Deep.DeepCutAuto
import Derived.Deep.CutRange
namespace Go.Proofs.Ytfmplibjhohpgaa
open Go.RowKit Go.Shelf

set_option maxRecDepth 100000 in
set_option maxHeartbeats 400000 in
theorem rnew_any (w : World) (size : Int) : Calls Try.prog 31 #[.int .i64 size] w (RFromPost w (newR size)) := by
  by_cases h : 1 ≤ size ∧ size ≤ 1099511627776
  · have e : newR size = (0, [(size, 0)]) := by unfold newR; rw [if_pos h]
    rw [e]
    obtain ⟨h1, h2⟩ := h
    go_enter Try.func31, Try.ntmps31
    go_upto_region 1 with (fail)
    generalize hwa : World.alloc w _ = wa
    have x2 : BoxM wa w.heap.size 0 (.slice none 0 0) := hwa ▸ BoxM.new w _ _
    have hBa : Below w.heap.size w wa := hwa ▸ Below.alloc1 w _
    have sa : wa.heap.size = w.heap.size + 1 := hwa ▸ World.size_alloc w _
    clear hwa
    have c0 := x2.c0
    have c1 := x2.c1
    have f0 := x2.frozen 0
    have f1 := x2.frozen 1
    have l2 := x2.lt
    have key : ∀ W1 : World, W1.heap.size = w.heap.size + 1 → OwnRuns (W1.alloc (.cells #[.int .i64 0, .int .i64 size, .int .i64 0] 35)) (w.heap.size + 1) (.slice (some ⟨w.heap.size + 1, 0, none⟩) 1 1) [⟨0, size, 0⟩] := fun W1 e =>
      ⟨rfl, .inr ⟨w.heap.size + 1, 1, #[.int .i64 0, .int .i64 size, .int .i64 0], rfl, Nat.le_refl _, by rw [← e]; exact heap_alloc_new W1 _, Nat.le_refl _, by unfold maxLen; omega, rfl, rfl⟩⟩
    have y2 := (boxM_set x2 size (.slice (some ⟨w.heap.size + 1, 0, none⟩) 1 1)).next (Below.alloc1 _ (.cells #[.int .i64 0, .int .i64 size, .int .i64 0] 35))
    have s1 : ((wa.setCell ⟨w.heap.size, 0, none⟩ (.int .i64 size)).setCell ⟨w.heap.size, 1, none⟩ (.slice (some ⟨w.heap.size + 1, 0, none⟩) 1 1)).heap.size = w.heap.size + 1 := by simp [World.setCell, sa]
    have k1 := key _ s1
    have hB2 := (hBa.setCell (p := ⟨w.heap.size, 0, none⟩) (Nat.le_refl _) (.int .i64 size)).setCell (p := ⟨w.heap.size, 1, none⟩) (Nat.le_refl _) (.slice (some ⟨w.heap.size + 1, 0, none⟩) 1 1)
    have hB3 := Below.next hB2 (Below.alloc1 _ (.cells #[.int .i64 0, .int .i64 size, .int .i64 0] 35))
    clear key
    go_wp2_with (fail)
    exact bodyPost_ret (v := .tuple #[.agg #[.int .i64 size, .slice (some ⟨w.heap.size + 1, 0, none⟩) 1 1], .int .i64 0]) (by simp [results, Try.results31, go_sem, y2.c0, y2.c1]) rfl ⟨some ⟨w.heap.size + 1, 0, none⟩, 1, by simp [Tr.total], by simpa [lay] using k1.mono (by omega), Nat.le_refl _, hB3⟩
  · have e : newR size = (2, []) := by unfold newR; rw [if_neg h]
    rw [e]
    by_cases h1 : size < 1
    · go_enter Try.func31, Try.ntmps31
      go_wp2_with (fail)
      exact bodyPost_ret (v := .tuple #[.agg #[.int .i64 0, .slice none 0 0], .int .i64 2]) (by simp [results, Try.results31, go_sem]) rfl ⟨none, 0, rfl, World.ownsRow_nil _ _ _ _, Nat.le_refl _, Below.alloc1 _ _⟩
    · have h2 : 1099511627776 < size := by omega
      go_enter Try.func31, Try.ntmps31
      go_wp2_with (fail)
      exact bodyPost_ret (v := .tuple #[.agg #[.int .i64 0, .slice none 0 0], .int .i64 2]) (by simp [results, Try.results31, go_sem]) rfl ⟨none, 0, rfl, World.ownsRow_nil _ _ _ _, Nat.le_refl _, Below.alloc1 _ _⟩
set_option maxRecDepth 100000 in
set_option maxHeartbeats 4000000 in
theorem played_any (w : World) (size : Int) (A : Option Addr) (l : List Ac) (m c : Nat) (hm : l.length = m) (hA : Acts w A l) (hlc : m ≤ c) (hl : (m : Int) ≤ 1000000) :
    Calls Try.prog 37 #[.int .i64 size, .slice A m c] w (DoPost w (moreL (newR size).2 l)) := by
  have hg := newR_good size
  have hne := new_any
  obtain ⟨R, hR⟩ : ∃ R, newR size = R := ⟨_, rfl⟩
  obtain ⟨err, L0⟩ := R
  have hnew : ∀ W, Calls Try.prog 30 #[.int .i64 size] W fun e w' => ∃ p, e = .returned (.tuple #[.agg #[.pointer p], .int .i64 err]) ∧ Rep w' p L0 ∧ Below W.heap.size W w' := fun W => by
    have := new_any W size
    rw [hR] at this; exact this
  have hrnew : ∀ W, Calls Try.prog 31 #[.int .i64 size] W fun e w' => ∃ A c, e = .returned (.tuple #[.agg #[.int .i64 (Tr.total L0), .slice A L0.length c], .int .i64 err]) ∧ OwnRuns w' W.heap.size (.slice A L0.length c) (lay 0 L0) ∧ L0.length ≤ c ∧ Below W.heap.size W w' := fun W => by
    have := rnew_any W size
    rw [hR] at this; exact this
  rw [hR] at hg ⊢
  dsimp only at hg ⊢
  have HG := Lib.hid hg
  have HN := Lib.hid hnew
  have HRN := Lib.hid hrnew
  have HM := Lib.hid hm
  have HA := Lib.hid hA
  have he : (err == err) = true := by simp
  clear hg hnew hrnew hm hA hne hR
  go_enter Try.func37, Try.ntmps37
  go_upto_region 1 with (fail)
  obtain ⟨wa, hwa⟩ : ∃ wa, (w.alloc (.cells #[.pointer none] 26)).alloc (.cells #[.int .i64 0, .slice none 0 0] 31) = wa := ⟨_, rfl⟩
  have x4 : Boxed wa w.heap.size 26 (.pointer none) := hwa ▸ bx_next (Boxed.new w _ _) (Below.alloc1 _ _)
  have x5 : BoxM wa (w.heap.size + 1) 0 (.slice none 0 0) := by
    have := BoxM.new (w.alloc (.cells #[.pointer none] 26)) 0 (.slice none 0 0)
    rw [World.size_alloc] at this; exact hwa ▸ this
  have hBa : Below w.heap.size w wa := hwa ▸ Below.alloc2 w _ _
  rw [hwa]
  clear hwa
  go_wp2_with (fail)
  go_at_call 30
  refine (HN.out _).mono ?_
  rintro e w1 ⟨p, rfl, hp, b1⟩
  have y4 := bx_next x4 b1
  have y5 := x5.next b1
  have hB1 := Below.next hBa b1
  clear b1 x4 x5 hBa
  go_upto_region 2 with (fail)
  generalize hw2 : World.alloc w1 _ = w2
  have d2 : Below w1.heap.size w1 w2 := hw2 ▸ Below.alloc1 w1 _
  have x7 : Boxed w2 w1.heap.size 26 (.pointer p) := hw2 ▸ Boxed.new w1 _ _
  have y5l := y5.lt
  have z4 := bx_next y4 d2
  have z5 := y5.next d2
  have p2 := hp.below d2
  have hB2 := Below.next hB1 d2
  clear hw2 d2 y4 y5 hp hB1
  go_wp2_with (fail)
  go_at_call 31
  refine (HRN.out _).mono ?_
  rintro e w3 ⟨A1, c1, rfl, O3, hc1, b3⟩
  have x7l := x7.lt
  have z7 := bx_next x7 b3
  have t4 := bx_next z4 b3
  have t5 := z5.next b3
  have p3 := p2.below b3
  have h23 := b3.size
  have hB3 := Below.next hB2 b3
  clear b3 x7 z4 z5 p2 hB2
  go_upto_region 3 with (fail)
  generalize hw5 : World.alloc w3 _ = w5
  have d5 : Below w3.heap.size w3 w5 := hw5 ▸ Below.alloc1 w3 _
  have y9 : BoxM w5 w3.heap.size (Tr.total L0) (.slice A1 L0.length c1) := hw5 ▸ BoxM.new w3 _ _
  have T5 : Both w5 w1.heap.size w3.heap.size L0 p A1 c1 := ⟨bx_next z7 d5, y9, p3.below d5, O3.runsT.below d5, hc1⟩
  have u4 := bx_next t4 d5
  have u5 := t5.next d5
  have B5 : Below w.heap.size w w5 := Below.next hB3 d5
  have ne : ¬ w1.heap.size = w3.heap.size := by omega
  clear hw5 d5 z7 p3 O3 y9 hB3 t4 t5
  go_wp2_with (fail)
  go_loopw [11, 12] (fun ok i W => ∃ (j : Nat) (p' A' : Option Addr) (c' : Nat), j ≤ m ∧ i = .int .i64 j ∧ ok = .bool true ∧ Both W w1.heap.size w3.heap.size (moreL L0 (l.take j)) p' A' c' ∧ Boxed W w.heap.size 26 (.pointer none) ∧ BoxM W (w.heap.size + 1) 0 (.slice none 0 0) ∧ Below w.heap.size w W) (fun _ i _ => m - (intOf i).toNat)
  case atStart => exact ⟨0, p, A1, c1, Nat.zero_le _, rfl, rfl, T5, u4, u5, B5⟩
  case round =>
    obtain ⟨j, p', A', c', hj, rfl, rfl, hT, hu4, hu5, hBw⟩ := hrel
    have hML := moreL_good (l.take j) (L := L0) HG.out
    have HML := Lib.hid hML
    clear hML
    have c8 := hT.1.cell
    have f8 := hT.1.frozen
    have c10 := hT.2.1.c0
    have c11 := hT.2.1.c1
    have f10 := hT.2.1.frozen 0
    have f11 := hT.2.1.frozen 1
    have l8 := hT.1.lt
    have l10 := hT.2.1.lt
    by_cases hjm : j < m
    · have k2 : (j : Int) < (m : Int) := by omega
      have hjl : j < l.length := by have := HM.out; omega
      obtain ⟨aa, rfl⟩ : ∃ a, A = some a := by
        rcases HA.out with hh | ⟨a, hh, _⟩
        · rw [hh] at hjl; simp at hjl
        · exact ⟨a, hh⟩
      obtain ⟨hab, g0, g1, g2, g3, g4⟩ := (HA.out.below hBw).at_ hjl
      have hMX : moreL L0 (l.take (j + 1)) = actL (moreL L0 (l.take j)) l[j] := by rw [List.take_succ_eq_append_getElem hjl, moreL_snoc]
      generalize l[j] = X at *
      generalize hMM : moreL L0 (l.take j) = M at *
      have HMX := Lib.hid hMX
      have HT := Lib.hid hT
      clear hMX hMM hT
      go_upto_region 7 with (fail)
      go_region_with ((go_at_call 32; refine (do_both wr HT.out HML.out X (Quiet.below ⟨1, rfl⟩ _)).mono ?_; rintro e w6 ⟨p6, A6, c6, rfl, P6, R6, C6, b6'⟩; have b6 : Below wr.heap.size wr w6 := Below.of_drew b6'; have t8 := bx_next HT.out.1 b6; have t10 := HT.out.2.1.next b6; have d8 := t8.cell; have e8 := t8.frozen; have d10 := t10.c0; have d11 := t10.c1; have e10 := t10.frozen 0; have e11 := t10.frozen 1; have m8 := t8.lt; have m10 := t10.lt; have s4 := bx_next hu4 b6; have s5 := hu5.next b6))
      all_goals
        go_wp2_with (fail)
        first
          | exact ⟨⟨j + 1, p6, A6, c6, by omega, by go_num, rfl, by rw [HMX.out]; exact both_a t8 t10 ne P6 R6 C6, boxed_far (boxed_far (boxed_far s4 (by omega)) (by omega)) (by omega), ((s5.far (by omega) _ _ _).far (by omega) _ _ _).far (by omega) _ _ _, below_a (Below.next hBw b6) (by omega) (by omega) _ _ _⟩, by simp [intOf]; omega⟩
          | exact ⟨⟨j + 1, p6, A6, c6, by omega, by go_num, rfl, by rw [HMX.out]; exact both_b t8 t10 ne P6 R6 C6, boxed_far (boxed_far (boxed_far s4 (by omega)) (by omega)) (by omega), ((s5.far (by omega) _ _ _).far (by omega) _ _ _).far (by omega) _ _ _, below_b (Below.next hBw b6) (by omega) (by omega) _ _ _⟩, by simp [intOf]; omega⟩
          | (go_roundw; case rel => (repeat apply Exists.intro); exact ⟨⟨j + 1, p6, A6, c6, by omega, by go_num, rfl, by rw [HMX.out]; exact both_a t8 t10 ne P6 R6 C6, boxed_far (boxed_far (boxed_far s4 (by omega)) (by omega)) (by omega), ((s5.far (by omega) _ _ _).far (by omega) _ _ _).far (by omega) _ _ _, below_a (Below.next hBw b6) (by omega) (by omega) _ _ _⟩, rfl⟩)
    · obtain rfl : j = m := by omega
      have e1 : l.take j = l := List.take_of_length_le (by have := HM.out; omega)
      obtain ⟨M, hMM⟩ : ∃ M, moreL L0 (l.take j) = M := ⟨_, rfl⟩
      rw [hMM] at hT HML c10 c11
      rw [e1] at hMM
      have HMM := Lib.hid hMM
      clear hMM
      have HT := Lib.hid hT
      clear hT e1
      have v4 := hu4.cell
      have q4 := hu4.frozen
      have v50 := hu5.c0
      have v51 := hu5.c1
      have q50 := hu5.frozen 0
      have q51 := hu5.frozen 1
      have l4 := hu4.lt
      have l5 := hu5.lt
      go_wp2_with (fail)
      go_region
      have n1 : ¬ w.heap.size = w.heap.size + 1 := by omega
      have F := both_a hu4 hu5 n1 HT.out.2.2.1 HT.out.2.2.2.1 HT.out.2.2.2.2
      have FB := below_a (a := w.heap.size) (b := w.heap.size + 1) hBw (Nat.le_refl _) (by omega) (.pointer p') (.int .i64 (Tr.total M)) (.slice A' M.length c')
      have Dd : Below (((wr.setCell ⟨w.heap.size, 0, none⟩ (.pointer p')).setCell ⟨w.heap.size + 1, 0, none⟩ (.int .i64 (Tr.total M))).setCell ⟨w.heap.size + 1, 1, none⟩ (.slice A' M.length c')).heap.size (((wr.setCell ⟨w.heap.size, 0, none⟩ (.pointer p')).setCell ⟨w.heap.size + 1, 0, none⟩ (.int .i64 (Tr.total M))).setCell ⟨w.heap.size + 1, 1, none⟩ (.slice A' M.length c')) (((wr.setCell ⟨w.heap.size, 0, none⟩ (.pointer p')).setCell ⟨w.heap.size + 1, 0, none⟩ (.int .i64 (Tr.total M))).setCell ⟨w.heap.size + 1, 1, none⟩ (.slice A' M.length c')).drew := Quiet.below ⟨1, rfl⟩ _
      have F2 := F.next Dd
      have FB2 := Below.next FB Dd
      generalize (((wr.setCell ⟨w.heap.size, 0, none⟩ (.pointer p')).setCell ⟨w.heap.size + 1, 0, none⟩ (.int .i64 (Tr.total M))).setCell ⟨w.heap.size + 1, 1, none⟩ (.slice A' M.length c')).drew = wf at *
      go_wp2_with (fail)
      exact bodyPost_ret (v := .tuple #[.agg #[.pointer p'], .agg #[.int .i64 (Tr.total M), .slice A' M.length c'], .bool true]) (by simp [results, Try.results37, go_sem, F2.1.cell, F2.2.1.c0, F2.2.1.c1]) rfl (by rw [HMM.out]; exact ⟨p', A', c', rfl, F2.2.2.1, F2.2.2.2.1, F2.2.2.2.2, FB2⟩)
end Go.Proofs.Ytfmplibjhohpgaa
