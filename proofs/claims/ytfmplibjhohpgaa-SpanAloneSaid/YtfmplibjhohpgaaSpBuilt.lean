/- The walk over more: updates of a map. The walks over few and built: a map after updates. -/
import Derived.Test.YtfmplibjhohpgaaSpLaws
namespace Go.Proofs.Ytfmplibjhohpgaa
section
open Go.RowKit Go.Shelf

theorem bx_next {W W' : World} {B : Nat} {t : TypeId} {v : Value} (h : Boxed W B t v) (hB : Below W.heap.size W W') : Boxed W' B t v := (hB.block B h.lt).trans h
theorem cell_far (W : World) (g i : Nat) (v : Value) {p : Addr} (h : ¬ p.block = g) : (W.setCell ⟨g, i, none⟩ v).cell? p = W.cell? p := by
  have := Below.heap_setCell W ⟨g, i, none⟩ v p.block h
  unfold World.cell?
  rw [this]
theorem ActAt.set_far {w : World} {e : Addr} {x : Ac} (h : ActAt w e x) {g i : Nat} (hne : ¬ e.block = g) (v : Value) : ActAt (w.setCell ⟨g, i, none⟩ v) e x :=
  ⟨(cell_far w g i v hne).trans h.1, (cell_far w g i v (p := ⟨e.block, e.off + 1, none⟩) hne).trans h.2.1, (cell_far w g i v (p := ⟨e.block, e.off + 2, none⟩) hne).trans h.2.2.1, (cell_far w g i v (p := ⟨e.block, e.off + 3, none⟩) hne).trans h.2.2.2.1, (cell_far w g i v (p := ⟨e.block, e.off + 4, none⟩) hne).trans h.2.2.2.2⟩
set_option maxRecDepth 100000 in
set_option maxHeartbeats 2000000 in
theorem more_any (w : World) (p : Option Addr) (L : List (Int × Int)) (A : Option Addr) (l : List Ac) (c : Nat) (h : Rep w p L) (hA : Acts w A l) (hlc : l.length ≤ c) (hm : l.length ≤ 1000000) :
    Calls Try.prog 50 #[.agg #[.pointer p], .slice A l.length c] w fun e w' => ∃ q, e = .returned (.agg #[.pointer q]) ∧ Rep w' q (moreL L l) ∧ Below w.heap.size w w' := by
  obtain ⟨n, hn⟩ : ∃ n, l.length = n := ⟨_, rfl⟩
  rw [hn] at hm ⊢
  have hm' : (n : Int) ≤ 1000000 := by omega
  have HN := Lib.hid hn
  have HLC := Lib.hid hlc
  clear hn hlc hm
  go_enter Try.func50, Try.ntmps50
  go_wp2_with (fail)
  go_loopw [5] (fun i wr => ∃ (k : Nat) (q : Option Addr), k ≤ n ∧ i = .int .i64 k ∧ Boxed wr w.heap.size 26 (.pointer q) ∧ Boxed wr (w.heap.size + 1) 26 (.pointer none) ∧ Rep wr q (moreL L (l.take k)) ∧ Below w.heap.size w wr) (fun i _ => n - (intOf i).toNat)
  case atStart => exact ⟨0, p, Nat.zero_le _, rfl, (Boxed.new w _ _).alloc _, by have := Boxed.new (w.alloc (.cells #[.pointer p] 26)) 26 (.pointer none); rwa [World.size_alloc] at this, h.below (Below.alloc2 _ _ _), Below.alloc2 _ _ _⟩
  case round =>
    obtain ⟨k, q, hk, rfl, b2, b4, hq, hB⟩ := hrel
    have c2 := b2.cell
    have f2 := b2.frozen
    have z2 := b2.lt
    have c4 := b4.cell
    have f4 := b4.frozen
    have z4 := b4.lt
    by_cases hlt : k < n
    · have k1 : (k : Int) < (n : Int) := by omega
      have hkL : k < l.length := by have := HN.out; omega
      obtain ⟨a, rfl⟩ : ∃ a, A = some a := by
        rcases hA with hh | ⟨a, hh, _⟩
        · rw [hh] at hkL; simp at hkL
        · exact ⟨a, hh⟩
      obtain ⟨hab, g0, g1, g2, g3, g4⟩ := (hA.below hB).at_ hkL
      have hM : moreL L (l.take (k + 1)) = actL (moreL L (l.take k)) l[k] := by rw [List.take_succ_eq_append_getElem hkL, moreL_snoc]
      generalize l[k] = X at *
      have HM := Lib.hid hM
      clear hM
      generalize hML : moreL L (l.take k) = M at hq HM
      have hsw : ∀ W, Below wr.heap.size wr W → Calls Try.prog 24 #[.agg #[.pointer q], .int .i64 X.lo, .int .i64 X.hi, .int .i64 X.frm, .int .i64 X.to] W (SwapPost W M X.lo X.hi X.frm X.to) := fun W hW => swap_any W q M _ _ _ _ (hq.below hW)
      have hse : ∀ W, Below wr.heap.size wr W → Calls Try.prog 25 #[.agg #[.pointer q], .int .i64 X.lo, .int .i64 X.hi, .int .i64 X.to] W (SetPost W M X.lo X.hi X.to) := fun W hW => set_any W q M _ _ _ (hq.below hW)
      have hac : actL M X = if (actR M X).1 = 0 then (actR M X).2 else M := rfl
      have hk' : k < n := hlt
      generalize hR : actR M X = R at hac
      obtain ⟨err, N⟩ := R
      have HAC := Lib.hid hac
      have HML := Lib.hid hML
      have HSW := Lib.hid hsw
      have HSE := Lib.hid hse
      have HR := Lib.hid hR
      clear hML hsw hse hac hR h
      go_upto_region 5 with (fail)
      generalize hw3 : World.alloc wr _ = w3
      have s3 : w3.heap.size = wr.heap.size + 1 := hw3 ▸ World.size_alloc wr _
      have d3 : Below wr.heap.size wr w3 := hw3 ▸ Below.alloc1 wr _
      have e6 : Boxed w3 wr.heap.size 26 (.pointer q) := hw3 ▸ Boxed.new wr _ _
      have e2 := bx_next b2 d3
      have e4 := bx_next b4 d3
      have eq' := hq.below d3
      have hA3 : ActAt w3 (a.add (k * 5)) X := ActAt.below d3 (by rw [add_block]; exact hab) ⟨g0, g1, g2, g3, g4⟩
      have hB3 : Below w.heap.size w w3 := hw3 ▸ Below.next hB (Below.alloc1 _ _)
      have hab3 : (a.add (k * 5)).block < w3.heap.size := by rw [add_block]; omega
      clear hw3 b2 b4 hq hB c2 f2 c4 f4 g0 g1 g2 g3 g4
      have HA3 := Lib.hid hA3
      obtain ⟨g0, g1, g2, g3, g4⟩ := hA3
      have c2 := e2.cell
      have f6 := e6.frozen
      by_cases hs : X.swap = true
      · rw [hs] at g0
        have hR : ((swapR M X.lo X.hi X.frm X.to).1, (swapR M X.lo X.hi X.frm X.to).2.2) = (err, N) := by have := HR.out; unfold actR at this; rw [if_pos hs] at this; exact this
        go_wp2_with (fail)
        go_region_held3 (fun W => W.cell? ⟨w.heap.size, 0, none⟩ = some (.pointer q) ∧ W.cell? ⟨(a.add (k * 5)).block, (a.add (k * 5)).off + 1, none⟩ = some (.int .i64 X.lo) ∧ W.cell? ⟨(a.add (k * 5)).block, (a.add (k * 5)).off + 2, none⟩ = some (.int .i64 X.hi) ∧ W.cell? ⟨(a.add (k * 5)).block, (a.add (k * 5)).off + 3, none⟩ = some (.int .i64 X.frm) ∧ W.cell? ⟨(a.add (k * 5)).block, (a.add (k * 5)).off + 4, none⟩ = some (.int .i64 X.to))
          (first | (exact ⟨c2, g1, g2, g3, g4⟩) | (exact ⟨k2, k3, k4, k5, k6⟩) | (exact ⟨(boxed_far e24 (by omega)).cell, (A4.set_far (by omega) _).2⟩))
          ((first
            | (go_at_call 24; refine (HSW.out _ (by exact Below.drew (d3))).mono ?_; rintro e w4 ⟨q4, rfl, hq4, hb4'⟩; have hb4 : Below w3.heap.size w3 w4 := Below.of_drew hb4'; have e24 := bx_next e2 hb4; have e44 := bx_next e4 hb4; have e64 := bx_next e6 hb4; have f64 := e64.frozen; have c64 := e64.cell; have k2 := e24.cell; have A4 := ActAt.below hb4 hab3 HA3.out; have k3 := A4.2.1; have k4 := A4.2.2.1; have k5 := A4.2.2.2.1; have k6 := A4.2.2.2.2; have hz4 := e44.lt; have hz6 := e64.lt; have hab4 : ¬ (a.add (k * 5)).block = wr.heap.size := by rw [add_block]; omega)))
        obtain ⟨hR1, hR2⟩ : (swapR M X.lo X.hi X.frm X.to).1 = err ∧ (swapR M X.lo X.hi X.frm X.to).2.2 = N := by simpa using hR
        rw [hR1]
        rw [hR2] at hq4
        have e65 := e64.set (.pointer q4)
        have e25 : Boxed (w4.setCell ⟨wr.heap.size, 0, none⟩ (.pointer q4)) w.heap.size 26 (.pointer q) := boxed_far e24 (by omega)
        have e45 : Boxed (w4.setCell ⟨wr.heap.size, 0, none⟩ (.pointer q4)) (w.heap.size + 1) 26 (.pointer none) := boxed_far e44 (by omega)
        have hq5 : Rep (w4.setCell ⟨wr.heap.size, 0, none⟩ (.pointer q4)) q4 N := hq4.set_ ⟨_, _, _, e64, by decide⟩ _ _ _
        have hqM : Rep (w4.setCell ⟨wr.heap.size, 0, none⟩ (.pointer q4)) q M := (eq'.below hb4).set_ ⟨_, _, _, e64, by decide⟩ _ _ _
        have hB5 : Below w.heap.size w (w4.setCell ⟨wr.heap.size, 0, none⟩ (.pointer q4)) := (Below.next hB3 hb4).setCell (p := ⟨wr.heap.size, 0, none⟩) (show w.heap.size ≤ wr.heap.size by omega) _
        generalize w4.setCell ⟨wr.heap.size, 0, none⟩ (.pointer q4) = w5 at *
        clear hb4 hb4' e24 e44 e64 f64 c64 k2 k3 k4 k5 k6 A4 hq4 HA3 e2 e4 e6 eq' d3 hB3 hab3 f6 c2 g0 g1 g2 g3 g4 hab4 hz4 hz6
        have c6 := e65.cell
        have c2 := e25.cell
        have f2 := e25.frozen
        have z2' := e25.lt
        by_cases he : err = 0
        · have he' : (err == 0) = true := by simpa using he
          go_wp2_with (fail)
          exact ⟨⟨k + 1, q4, by omega, by go_num, e25.set _, boxed_far e45 (by omega), (by rw [HM.out, HAC.out, if_pos he]; exact hq5.set_ ⟨_, _, _, e25, by decide⟩ _ _ _), hB5.setCell (p := ⟨w.heap.size, 0, none⟩) (Nat.le_refl _) _⟩, by simp [intOf]; omega⟩
        · have he' : (err == 0) = false := by simpa using he
          go_wp2_with (fail)
          exact ⟨⟨k + 1, q, by omega, by go_num, e25, e45, (by rw [HM.out, HAC.out, if_neg he]; exact hqM), hB5⟩, by simp [intOf]; omega⟩
      · have hs' : X.swap = false := by simpa using hs
        rw [hs'] at g0
        have hR : setR M X.lo X.hi X.to = (err, N) := by have := HR.out; unfold actR at this; rw [if_neg hs] at this; exact this
        go_wp2_with (fail)
        go_region_held3 (fun W => W.cell? ⟨w.heap.size, 0, none⟩ = some (.pointer q) ∧ W.cell? ⟨(a.add (k * 5)).block, (a.add (k * 5)).off + 1, none⟩ = some (.int .i64 X.lo) ∧ W.cell? ⟨(a.add (k * 5)).block, (a.add (k * 5)).off + 2, none⟩ = some (.int .i64 X.hi) ∧ W.cell? ⟨(a.add (k * 5)).block, (a.add (k * 5)).off + 4, none⟩ = some (.int .i64 X.to))
          (first | (exact ⟨c2, g1, g2, g4⟩) | (exact ⟨k2, k3, k4, k6⟩) | (exact ⟨(boxed_far e24 (by omega)).cell, (A4.set_far (by omega) _).2.1, (A4.set_far (by omega) _).2.2.1, (A4.set_far (by omega) _).2.2.2.2⟩))
          ((first
            | (go_at_call 25; refine (HSE.out _ (by exact Below.drew (d3))).mono ?_; rintro e w4 ⟨q4, rfl, hq4, hb4'⟩; have hb4 : Below w3.heap.size w3 w4 := Below.of_drew hb4'; have e24 := bx_next e2 hb4; have e44 := bx_next e4 hb4; have e64 := bx_next e6 hb4; have f64 := e64.frozen; have c64 := e64.cell; have k2 := e24.cell; have A4 := ActAt.below hb4 hab3 HA3.out; have k3 := A4.2.1; have k4 := A4.2.2.1; have k6 := A4.2.2.2.2; have hz4 := e44.lt; have hz6 := e64.lt; have hab4 : ¬ (a.add (k * 5)).block = wr.heap.size := by rw [add_block]; omega)))
        rw [hR] at hq4
        dsimp only at hq4
        have e65 := e64.set (.pointer q4)
        have e25 : Boxed (w4.setCell ⟨wr.heap.size, 0, none⟩ (.pointer q4)) w.heap.size 26 (.pointer q) := boxed_far e24 (by omega)
        have e45 : Boxed (w4.setCell ⟨wr.heap.size, 0, none⟩ (.pointer q4)) (w.heap.size + 1) 26 (.pointer none) := boxed_far e44 (by omega)
        have hq5 : Rep (w4.setCell ⟨wr.heap.size, 0, none⟩ (.pointer q4)) q4 N := hq4.set_ ⟨_, _, _, e64, by decide⟩ _ _ _
        have hqM : Rep (w4.setCell ⟨wr.heap.size, 0, none⟩ (.pointer q4)) q M := (eq'.below hb4).set_ ⟨_, _, _, e64, by decide⟩ _ _ _
        have hB5 : Below w.heap.size w (w4.setCell ⟨wr.heap.size, 0, none⟩ (.pointer q4)) := (Below.next hB3 hb4).setCell (p := ⟨wr.heap.size, 0, none⟩) (show w.heap.size ≤ wr.heap.size by omega) _
        generalize w4.setCell ⟨wr.heap.size, 0, none⟩ (.pointer q4) = w5 at *
        clear hb4 hb4' e24 e44 e64 f64 c64 k2 k3 k4 k6 A4 hq4 HA3 e2 e4 e6 eq' d3 hB3 hab3 f6 c2 g0 g1 g2 g3 g4 hab4 hz4 hz6
        have c6 := e65.cell
        have c2 := e25.cell
        have f2 := e25.frozen
        have z2' := e25.lt
        by_cases he : err = 0
        · have he' : (err == 0) = true := by simpa using he
          go_wp2_with (fail)
          exact ⟨⟨k + 1, q4, by omega, by go_num, e25.set _, boxed_far e45 (by omega), (by rw [HM.out, HAC.out, if_pos he]; exact hq5.set_ ⟨_, _, _, e25, by decide⟩ _ _ _), hB5.setCell (p := ⟨w.heap.size, 0, none⟩) (Nat.le_refl _) _⟩, by simp [intOf]; omega⟩
        · have he' : (err == 0) = false := by simpa using he
          go_wp2_with (fail)
          exact ⟨⟨k + 1, q, by omega, by go_num, e25, e45, (by rw [HM.out, HAC.out, if_neg he]; exact hqM), hB5⟩, by simp [intOf]; omega⟩
    · obtain rfl : k = n := by omega
      go_wp2_with (fail)
      refine bodyPost_ret (v := .agg #[.pointer q]) (by simp [results, Try.results50, go_sem, (b4.set (.pointer q)).cell]) rfl ⟨q, rfl, ?_, hB.setCell (p := ⟨w.heap.size + 1, 0, none⟩) (show w.heap.size ≤ w.heap.size + 1 by omega) _⟩
      rw [List.take_of_length_le (by have := HN.out; omega)] at hq
      exact hq.set_ ⟨_, _, _, b4, by decide⟩ _ _ _
end
section
open Go.RowKit Go.Shelf

set_option maxHeartbeats 400000 in
theorem lfew_yes (w : World) (A : Option Addr) (n c : Nat) (h : (n : Int) ≤ 60) : Calls Try.prog 29 #[.slice A n c] w fun e w' => e = .returned (.bool true) ∧ w = w' := by
  have h1 : decide ((n : Int) ≤ 60) = true := by simpa using h
  go_enter Try.func29, Try.ntmps29
  go_wp2_with (fail)
  go_ret
  exact ⟨rfl, rfl⟩
set_option maxHeartbeats 400000 in
theorem lfew_no (w : World) (A : Option Addr) (n c : Nat) (h : ¬ (n : Int) ≤ 60) : Calls Try.prog 29 #[.slice A n c] w fun e w' => e = .returned (.bool false) ∧ w = w' := by
  have h1 : decide ((n : Int) ≤ 60) = false := by simpa using h
  go_enter Try.func29, Try.ntmps29
  go_wp2_with (fail)
  go_ret
  exact ⟨rfl, rfl⟩
set_option maxRecDepth 100000 in
set_option maxHeartbeats 2000000 in
theorem built_yes (w : World) (size : Int) (A : Option Addr) (l : List Ac) (c : Nat) (h1 : 1 ≤ size) (h2 : size ≤ 1099511627776) (hA : Acts w A l) (hlc : l.length ≤ c) (hl : (l.length : Int) ≤ 60) :
    Calls Try.prog 22 #[.int .i64 size, .slice A l.length c] w fun e w' => ∃ q, e = .returned (.tuple #[.agg #[.pointer q], .bool true]) ∧ Rep w' q (moreL [(size, 0)] l) ∧ Below w.heap.size w w' := by
  have hnew : Calls Try.prog 30 #[.int .i64 size] (w.alloc (.cells #[.pointer none] 26)) fun e w' => ∃ p, e = .returned (.tuple #[.agg #[.pointer p], .int .i64 0]) ∧ Rep w' p [(size, 0)] ∧ Below (w.alloc (.cells #[.pointer none] 26)).heap.size (w.alloc (.cells #[.pointer none] 26)) w' := by
    have := new_any (w.alloc (.cells #[.pointer none] 26)) size
    rw [show newR size = (0, [(size, 0)]) from by unfold newR; rw [if_pos ⟨h1, h2⟩]] at this
    exact this
  have hmo : ∀ W p, Below w.heap.size w W → Rep W p [(size, 0)] → Calls Try.prog 50 #[.agg #[.pointer p], .slice A l.length c] W fun e w' => ∃ q, e = .returned (.agg #[.pointer q]) ∧ Rep w' q (moreL [(size, 0)] l) ∧ Below W.heap.size W w' := fun W p hB hp => more_any W p _ A l c hp (hA.below hB) hlc (by omega)
  generalize l.length = n at *
  have HN := Lib.hid hnew
  have HM := Lib.hid hmo
  clear hnew hmo
  go_enter Try.func22, Try.ntmps22
  go_wp2_with (fail)
  go_at_call 30
  refine HN.out.mono ?_
  rintro e w1 ⟨p1, rfl, hp1, b1⟩
  have hB1 : Below w.heap.size w w1 := Below.next (Below.alloc1 _ _) b1
  have b4 : Boxed w1 w.heap.size 26 (.pointer none) := bx_next (Boxed.new w _ _) b1
  clear b1
  go_upto_region 2 with (fail)
  generalize hw2 : World.alloc w1 _ = w2
  have b6 : Boxed w2 w1.heap.size 26 (.pointer p1) := hw2 ▸ Boxed.new w1 _ _
  have b4' : Boxed w2 w.heap.size 26 (.pointer none) := hw2 ▸ b4.alloc _
  have hq : Rep w2 p1 [(size, 0)] := hw2 ▸ hp1.below (Below.alloc1 _ _)
  have hB2 : Below w.heap.size w w2 := hw2 ▸ Below.next hB1 (Below.alloc1 _ _)
  clear hw2 b4 hp1 hB1
  go_wp2_with (fail)
  go_at_call 29
  refine (lfew_yes _ A n c hl).mono ?_
  rintro e w' ⟨rfl, rfl⟩
  have c6 := b6.cell
  go_wp2_with (fail)
  go_at_call 50
  refine (HM.out _ p1 hB2 hq).mono ?_
  rintro e w3 ⟨q, rfl, hq3, b3⟩
  have b43 := bx_next b4' b3
  have c4 := b43.cell
  have f4 := b43.frozen
  have hB3 := Below.next hB2 b3
  go_wp2_with (fail)
  exact bodyPost_ret (v := .tuple #[.agg #[.pointer q], .bool true]) (by simp [results, Try.results22, go_sem, (b43.set (.pointer q)).cell]) rfl ⟨q, rfl, hq3.set_ ⟨_, _, _, b43, by decide⟩ _ _ _, hB3.setCell (p := ⟨w.heap.size, 0, none⟩) (Nat.le_refl _) _⟩
set_option maxRecDepth 100000 in
set_option maxHeartbeats 2000000 in
theorem built_size (w : World) (size : Int) (A : Option Addr) (n c : Nat) (h : ¬ (1 ≤ size ∧ size ≤ 1099511627776)) :
    Calls Try.prog 22 #[.int .i64 size, .slice A n c] w fun e w' => ∃ q M, e = .returned (.tuple #[.agg #[.pointer q], .bool false]) ∧ Rep w' q M ∧ Below w.heap.size w w' := by
  have hnew : Calls Try.prog 30 #[.int .i64 size] (w.alloc (.cells #[.pointer none] 26)) fun e w' => ∃ p, e = .returned (.tuple #[.agg #[.pointer p], .int .i64 2]) ∧ Rep w' p [] ∧ Below (w.alloc (.cells #[.pointer none] 26)).heap.size (w.alloc (.cells #[.pointer none] 26)) w' := by
    have := new_any (w.alloc (.cells #[.pointer none] 26)) size
    rw [show newR size = (2, []) from by unfold newR; rw [if_neg h]] at this
    exact this
  have HN := Lib.hid hnew
  clear hnew
  go_enter Try.func22, Try.ntmps22
  go_wp2_with (fail)
  go_at_call 30
  refine HN.out.mono ?_
  rintro e w1 ⟨p1, rfl, hp1, b1⟩
  have hB1 : Below w.heap.size w w1 := Below.next (Below.alloc1 _ _) b1
  have b4 : Boxed w1 w.heap.size 26 (.pointer none) := bx_next (Boxed.new w _ _) b1
  clear b1
  go_upto_region 2 with (fail)
  generalize hw2 : World.alloc w1 _ = w2
  have b6 : Boxed w2 w1.heap.size 26 (.pointer p1) := hw2 ▸ Boxed.new w1 _ _
  have b4' : Boxed w2 w.heap.size 26 (.pointer none) := hw2 ▸ b4.alloc _
  have hq : Rep w2 p1 [] := hw2 ▸ hp1.below (Below.alloc1 _ _)
  have hB2 : Below w.heap.size w w2 := hw2 ▸ Below.next hB1 (Below.alloc1 _ _)
  clear hw2 b4 hp1 hB1
  have c6 := b6.cell
  have c4 := b4'.cell
  have f4 := b4'.frozen
  go_wp2_with (fail)
  exact bodyPost_ret (v := .tuple #[.agg #[.pointer p1], .bool false]) (by simp [results, Try.results22, go_sem, (b4'.set (.pointer p1)).cell]) rfl ⟨p1, _, rfl, hq.set_ ⟨_, _, _, b4', by decide⟩ _ _ _, hB2.setCell (p := ⟨w.heap.size, 0, none⟩) (Nat.le_refl _) _⟩
set_option maxRecDepth 100000 in
set_option maxHeartbeats 2000000 in
theorem built_many (w : World) (size : Int) (A : Option Addr) (n c : Nat) (h1 : 1 ≤ size) (h2 : size ≤ 1099511627776) (hl : ¬ (n : Int) ≤ 60) :
    Calls Try.prog 22 #[.int .i64 size, .slice A n c] w fun e w' => ∃ q M, e = .returned (.tuple #[.agg #[.pointer q], .bool false]) ∧ Rep w' q M ∧ Below w.heap.size w w' := by
  have hnew : Calls Try.prog 30 #[.int .i64 size] (w.alloc (.cells #[.pointer none] 26)) fun e w' => ∃ p, e = .returned (.tuple #[.agg #[.pointer p], .int .i64 0]) ∧ Rep w' p [(size, 0)] ∧ Below (w.alloc (.cells #[.pointer none] 26)).heap.size (w.alloc (.cells #[.pointer none] 26)) w' := by
    have := new_any (w.alloc (.cells #[.pointer none] 26)) size
    rw [show newR size = (0, [(size, 0)]) from by unfold newR; rw [if_pos ⟨h1, h2⟩]] at this
    exact this
  have HN := Lib.hid hnew
  clear hnew
  go_enter Try.func22, Try.ntmps22
  go_wp2_with (fail)
  go_at_call 30
  refine HN.out.mono ?_
  rintro e w1 ⟨p1, rfl, hp1, b1⟩
  have hB1 : Below w.heap.size w w1 := Below.next (Below.alloc1 _ _) b1
  have b4 : Boxed w1 w.heap.size 26 (.pointer none) := bx_next (Boxed.new w _ _) b1
  clear b1
  go_upto_region 2 with (fail)
  generalize hw2 : World.alloc w1 _ = w2
  have b6 : Boxed w2 w1.heap.size 26 (.pointer p1) := hw2 ▸ Boxed.new w1 _ _
  have b4' : Boxed w2 w.heap.size 26 (.pointer none) := hw2 ▸ b4.alloc _
  have hq : Rep w2 p1 [(size, 0)] := hw2 ▸ hp1.below (Below.alloc1 _ _)
  have hB2 : Below w.heap.size w w2 := hw2 ▸ Below.next hB1 (Below.alloc1 _ _)
  clear hw2 b4 hp1 hB1
  go_wp2_with (fail)
  go_at_call 29
  refine (lfew_no _ A n c (by omega)).mono ?_
  rintro e w' ⟨rfl, rfl⟩
  have c6 := b6.cell
  have c4 := b4'.cell
  have f4 := b4'.frozen
  go_wp2_with (fail)
  exact bodyPost_ret (v := .tuple #[.agg #[.pointer p1], .bool false]) (by simp [results, Try.results22, go_sem, (b4'.set (.pointer p1)).cell]) rfl ⟨p1, _, rfl, hq.set_ ⟨_, _, _, b4', by decide⟩ _ _ _, hB2.setCell (p := ⟨w.heap.size, 0, none⟩) (Nat.le_refl _) _⟩
/-- built says no: there is no such map, or there are more than 60 updates. -/
theorem built_no (w : World) (size : Int) (A : Option Addr) (n c : Nat) (h : ¬ ((1 ≤ size ∧ size ≤ 1099511627776) ∧ (n : Int) ≤ 60)) :
    Calls Try.prog 22 #[.int .i64 size, .slice A n c] w fun e w' => ∃ q M, e = .returned (.tuple #[.agg #[.pointer q], .bool false]) ∧ Rep w' q M ∧ Below w.heap.size w w' := by
  by_cases hs : 1 ≤ size ∧ size ≤ 1099511627776
  · exact built_many w size A n c hs.1 hs.2 (fun hl => h ⟨hs, hl⟩)
  · exact built_size w size A n c hs
end
end Go.Proofs.Ytfmplibjhohpgaa
