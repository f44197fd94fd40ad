/- The walks over Alike, Usable and Tag of the reference of span. -/
import Derived.Test.YtfmplibjhohpgaaSpFrom
namespace Go.Proofs.Ytfmplibjhohpgaa
open Go.RowKit

set_option maxHeartbeats 400000 in
theorem rtag_yes (x : Int) (w : World) (h : 0 ≤ x ∧ x < 16) : Calls Try.prog 54 #[.int .i64 x] w fun e w' => e = .returned (.bool true) ∧ w = w' := by
  obtain ⟨h1, h2⟩ := h
  go_enter Try.func54, Try.ntmps54
  go_wp2_with (fail)
  go_ret
  exact ⟨rfl, rfl⟩
set_option maxHeartbeats 400000 in
theorem rtag_no (x : Int) (w : World) (h : x < 0 ∨ 16 ≤ x) : Calls Try.prog 54 #[.int .i64 x] w fun e w' => e = .returned (.bool false) ∧ w = w' := by
  by_cases h0 : 0 ≤ x
  · have h1 : ¬ x < 16 := by omega
    have h2 : decide (x < 16) = false := by simpa using h1
    go_enter Try.func54, Try.ntmps54
    go_wp2_with (fail)
    go_ret
    exact ⟨rfl, rfl⟩
  · have h2 : decide (0 ≤ x) = false := by simpa using h0
    go_enter Try.func54, Try.ntmps54
    go_wp2_with (fail)
    go_ret
    exact ⟨rfl, rfl⟩
set_option maxRecDepth 100000 in
set_option maxHeartbeats 400000 in
theorem usable_any (s : Int) (A : Option Addr) (n c : Nat) (w : World) (_hn : (n : Int) ≤ 1000000) : Calls Try.prog 55 #[.agg #[.int .i64 s, .slice A n c]] w fun e w' => e = .returned (.bool (decide (0 < n))) ∧ Below w.heap.size w w' := by
  go_enter Try.func55, Try.ntmps55
  go_wp2_with (fail)
  go_ret
  exact ⟨rfl, Below.alloc1 _ _⟩
set_option maxRecDepth 100000 in
set_option maxHeartbeats 1000000 in
theorem alike_same (L : List Rn) (A B : Option Addr) (c d : Nat) (w : World) (hA : Runs w A L) (hB : Runs w B L) (hc : L.length ≤ c) (hd : L.length ≤ d) (hm : (L.length : Int) ≤ 1000000) :
    Calls Try.prog 42 #[.slice A L.length c, .slice B L.length d] w fun e w' => e = .returned (.bool true) ∧ Quiet w w' := by
  obtain ⟨n, hn⟩ : ∃ n, L.length = n := ⟨_, rfl⟩
  rw [hn] at hc hd hm ⊢
  have HN := Lib.hid hn
  clear hn
  go_enter Try.func42, Try.ntmps42
  go_wp2_with (fail)
  go_loopw [5] (fun i wr => ∃ k : Nat, k ≤ n ∧ i = .int .i64 k ∧ Quiet w wr) (fun i _ => n - (intOf i).toNat)
  case atStart => exact ⟨0, by omega, rfl, Quiet.refl _⟩
  case round =>
    obtain ⟨k, hk, rfl, q, rfl⟩ := hrel
    by_cases hlt : k < n
    · have hkL : k < L.length := by have := HN.out; omega
      obtain ⟨a, rfl⟩ : ∃ a, A = some a := by
        rcases hA with hh | ⟨a, hh, _⟩
        · rw [hh] at hkL; simp at hkL
        · exact ⟨a, hh⟩
      obtain ⟨b, rfl⟩ : ∃ b, B = some b := by
        rcases hB with hh | ⟨b, hh, _⟩
        · rw [hh] at hkL; simp at hkL
        · exact ⟨b, hh⟩
      obtain ⟨_, f0, f1, f2⟩ := hA.at_ hkL
      obtain ⟨_, g0, g1, g2⟩ := hB.at_ hkL
      generalize L[k] = X at *
      have k0 : (0 : Int) ≤ (k : Int) := by omega
      have k1 : (k : Int) < (n : Int) := by omega
      go_wp2_with (fail)
      go_quiet (fail)
      go_wp2_with (fail)
      go_roundw
      case rel => exact ⟨k + 1, by omega, by go_num, _, rfl⟩
      case measure => simp [intOf]; omega
    · obtain rfl : k = n := by omega
      go_wp2_with (fail)
      go_ret
      exact ⟨rfl, _, rfl⟩
/-- Block b holds the document's map. -/
def BoxM (W : World) (b : Nat) (x : Int) (v : Value) : Prop := W.heap[b]? = some (.cells #[.int .i64 x, v] 31 (0, 0))
theorem BoxM.new (w : World) (x : Int) (v : Value) : BoxM (w.alloc (.cells #[.int .i64 x, v] 31)) w.heap.size x v := heap_alloc_new w _
theorem BoxM.lt {W : World} {b : Nat} {x : Int} {v : Value} (h : BoxM W b x v) : b < W.heap.size := (Array.getElem?_eq_some_iff.1 h).1
theorem BoxM.next {W W' : World} {b : Nat} {x : Int} {v : Value} (h : BoxM W b x v) (hB : Below W.heap.size W W') : BoxM W' b x v := (hB.block b h.lt).trans h
theorem BoxM.c0 {W : World} {b : Nat} {x : Int} {v : Value} (h : BoxM W b x v) : W.cell? ⟨b, 0, none⟩ = some (.int .i64 x) := cell_of_row W b 0 _ _ _ h
theorem BoxM.c1 {W : World} {b : Nat} {x : Int} {v : Value} (h : BoxM W b x v) : W.cell? ⟨b, 1, none⟩ = some v := cell_of_row W b 1 _ _ _ h
theorem BoxM.frozen {W : World} {b : Nat} {x : Int} {v : Value} (h : BoxM W b x v) (i : Nat) : W.frozen? ⟨b, i, none⟩ = false := by unfold BoxM at h; simp [World.frozen?, h]
theorem OwnRuns.runs {w : World} {base : Nat} {v : Value} {L : List Rn} (h : OwnRuns w base v L) : ∃ A c, v = .slice A L.length c ∧ L.length ≤ c ∧ Runs w A L := by
  obtain ⟨h1, h2⟩ := h
  rcases h2 with ⟨h2, h3⟩ | ⟨g, cap, cur, e, hg, hh, hc, _, hs, ht⟩
  · exact ⟨none, 0, by rw [h2, h3], by omega, .inl (List.eq_nil_of_length_eq_zero h3)⟩
  · refine ⟨_, cap, e, hc, .inr ⟨⟨g, 0, none⟩, rfl, (Array.getElem?_eq_some_iff.1 hh).1, fun i hi => ?_⟩⟩
    have key : ∀ j v, (cellsR L)[i * 3 + j]? = some v → j < 3 → w.cell? ⟨g, i * 3 + j, none⟩ = some v := by
      intro j v hv hj
      rw [cell_of_row w g (i * 3 + j) cur _ _ hh]
      rw [← ht, List.getElem?_take, if_pos (by omega)] at hv
      rw [← hv, Array.getElem?_toList]
    have hcell : ∀ (L : List Rn) (i : Nat) (hi : i < L.length), (cellsR L)[i * 3]? = some (.int .i64 L[i].lo) ∧ (cellsR L)[i * 3 + 1]? = some (.int .i64 L[i].hi) ∧ (cellsR L)[i * 3 + 2]? = some (.int .i64 L[i].tag) := by
      intro L
      induction L with
      | nil => intro i hi; simp at hi
      | cons x L ih =>
        intro i hi
        cases i with
        | zero => simp [cellsR]
        | succ i =>
          have := ih i (by simpa using hi)
          have e : cellsR (x :: L) = [.int .i64 x.lo, .int .i64 x.hi, .int .i64 x.tag] ++ cellsR L := by simp [cellsR]
          rw [e, show (i + 1) * 3 = 3 + i * 3 from by omega]
          simp only [List.getElem_cons_succ]
          refine ⟨?_, ?_, ?_⟩
          · rw [List.getElem?_append_right (by simp)]; simpa using this.1
          · rw [List.getElem?_append_right (by simp; omega)]; rw [← this.2.1]; congr 1; simp; omega
          · rw [List.getElem?_append_right (by simp; omega)]; rw [← this.2.2]; congr 1; simp; omega
    obtain ⟨k0, k1, k2⟩ := hcell L i hi
    have ea : (⟨g, 0, none⟩ : Addr).add (i * 3) = ⟨g, i * 3, none⟩ := by
      unfold Addr.add; split
      · rename_i h0; rw [h0]
      · simp
    rw [ea]
    exact ⟨key 0 _ k0 (by omega), key 1 _ k1 (by omega), key 2 _ k2 (by omega)⟩
/-- What Runs returns of the whole map. -/
theorem runsR_all {L : List (Int × Int)} (h : Good L) : runsR L 0 (Tr.total L) 1048576 = (lay 0 L, 0) := by
  have hp := total_pos h.2.1 h.1
  have hr : rangesR L 0 (Tr.total L) = 0 := by unfold rangesR; rw [if_neg h.1, if_neg (by omega)]
  unfold runsR
  rw [if_pos hr, clipL_all h.2.1 (Int.le_refl _) (by omega)]
  have := h.2.2.2.2
  rw [List.take_of_length_le (by rw [lay_length]; omega)]
set_option maxRecDepth 100000 in
set_option maxHeartbeats 2000000 in
theorem same_yes (w : World) (a : Addr) (L : List (Int × Int)) (A : Option Addr) (c n : Nat) (x : Int) (h : Rep w (some a) L) (hn : L.length = n) (hx : Hid (Tr.total L = x)) (hR : Runs w A (lay 0 L)) (hc : n ≤ c) :
    Calls Try.prog 21 #[.agg #[.pointer (some a)], .agg #[.int .i64 x, .slice A n c]] w fun e w' => e = .returned (.bool true) ∧ Below w.heap.size w w' := by
  have g := h.good.1
  obtain ⟨wa, hwa⟩ : ∃ wa, (w.alloc (.cells #[.pointer (some a)] 26)).alloc (.cells #[.int .i64 x, .slice A n c] 31) = wa := ⟨_, rfl⟩
  have hBa : Below w.heap.size w wa := hwa ▸ Below.alloc2 w _ _
  have ba : BoxT wa w.heap.size (.pointer (some a)) := hwa ▸ (BoxT.new w _ _ (by decide)).alloc _
  have ma : BoxM wa (w.heap.size + 1) x (.slice A n c) := by
    have := BoxM.new (w.alloc (.cells #[.pointer (some a)] 26)) x (.slice A n c)
    rw [World.size_alloc] at this; exact hwa ▸ this
  have c0 := ba.cell
  have c1 := ma.c0
  have c2 := ma.c1
  have hn0 : 0 < n := by have := List.length_pos_iff.2 g.1; omega
  have hnm : (n : Int) ≤ 4096 := by have := g.2.2.2.2; omega
  have hsz : ∀ W, Below w.heap.size w W → Calls Try.prog 26 #[.agg #[.pointer (some a)]] W fun e w' => e = .returned (.int .i64 x) ∧ Below W.heap.size W w' := fun W hB => by
    have := size_any W (some a) L (h.below hB); rw [hx.out] at this; exact this
  have hle : ∀ W, Below w.heap.size w W → Calls Try.prog 43 #[.agg #[.pointer (some a)]] W fun e w' => e = .returned (.int .i64 n) ∧ Below W.heap.size W w' := fun W hB => by
    have := len_any W (some a) L (h.below hB); rw [hn] at this; exact this
  have hru : ∀ W, Below w.heap.size w W → Calls Try.prog 33 #[.agg #[.pointer (some a)], .int .i64 0, .int .i64 x, .int .i64 1048576] W fun e w' => ∃ B d, e = .returned (.tuple #[.slice B n d, .int .i64 0]) ∧ n ≤ d ∧ Runs w' B (lay 0 L) ∧ Below W.heap.size W w' := fun W hB => by
    have := runs_any W (some a) L 0 x 1048576 (h.below hB)
    rw [← hx.out, runsR_all g] at this
    rw [← hx.out]
    refine this.mono fun e w' ⟨v, h1, h2, h3⟩ => ?_
    obtain ⟨B, d, h4, h5, h6⟩ := h2.runs
    rw [lay_length, hn] at h4 h5
    exact ⟨B, d, by rw [← h4]; exact h1, h5, h6, h3⟩
  have HSZ := Lib.hid hsz
  have HLE := Lib.hid hle
  have HRU := Lib.hid hru
  have HN := Lib.hid hn
  clear hsz hle hru hn
  go_enter Try.func21, Try.ntmps21
  have HWA := Lib.hid hwa
  clear hwa
  go_upto_region 1 with (fail)
  rw [HWA.out]
  go_region_held3 (fun W => W.cell? ⟨w.heap.size, 0, none⟩ = some (.pointer (some a)) ∧ W.cell? ⟨w.heap.size + 1, 0, none⟩ = some (.int .i64 x) ∧ W.cell? ⟨w.heap.size + 1, 1, none⟩ = some (.slice A n c))
    (first | (exact ⟨c0, c1, c2⟩) | (exact ⟨(ba.next hb1).cell, (ma.next hb1).c0, (ma.next hb1).c1⟩) | (exact ⟨((ba.next hb1).next hb2).cell, ((ma.next hb1).next hb2).c0, ((ma.next hb1).next hb2).c1⟩))
    ((first
      | (go_at_call 26; refine (HSZ.out _ (by exact hBa.drew)).mono ?_; rintro e w1 ⟨rfl, hb1'⟩; have hb1 : Below wa.heap.size wa w1 := Below.of_drew hb1'; have hB1 := Below.next hBa hb1)
      | (go_at_call 43; refine (HLE.out _ hB1).mono ?_; rintro e w2 ⟨rfl, hb2⟩; have hB2 := Below.next hB1 hb2)))
  have ba2 := (ba.next hb1).next hb2
  have ma2 := (ma.next hb1).next hb2
  clear c0 c1 c2 ba ma hb1 hb2 hb1'
  have c0 := ba2.cell
  have c1 := ma2.c0
  have c2 := ma2.c1
  go_wp2_with (fail)
  go_region_held3 (fun W => W.cell? ⟨w.heap.size, 0, none⟩ = some (.pointer (some a)) ∧ W.cell? ⟨w.heap.size + 1, 0, none⟩ = some (.int .i64 x))
    (first | (exact ⟨c0, c1⟩) | (exact ⟨(ba2.next hb3).cell, (ma2.next hb3).c0⟩) | (exact ⟨((ba2.next hb3).next hb4).cell, ((ma2.next hb3).next hb4).c0⟩))
    ((first
      | (go_at_call 26; refine (HSZ.out _ (by exact hB2.drew)).mono ?_; rintro e w3 ⟨rfl, hb3'⟩; have hb3 : Below w2.heap.size w2 w3 := Below.of_drew hb3'; have hB3 := Below.next hB2 hb3)
      | (go_at_call 33; refine (HRU.out _ hB3).mono ?_; rintro e w4 ⟨B, d, rfl, hnd, hRB, hb4⟩; have hB4 := Below.next hB3 hb4)))
  have ba4 := (ba2.next hb3).next hb4
  have ma4 := (ma2.next hb3).next hb4
  clear c0 c1 c2 ba2 ma2 hb3 hb4 hb3'
  have c0 := ma4.c0
  have c1 := ma4.c1
  go_wp2_with (fail)
  go_at_call 55
  refine (usable_any x A n c w4 (by omega)).mono ?_
  rintro e w5 ⟨rfl, hb5⟩
  have ma5 := ma4.next hb5
  clear c0 c1
  have c0 := ma5.c0
  have c1 := ma5.c1
  have hB5 := Below.next hB4 hb5
  have hal := alike_same (lay 0 L) B A d c w5 (hRB.below hb5) (hR.below hB5) (by rw [lay_length, HN.out]; exact hnd) (by rw [lay_length, HN.out]; exact hc) (by rw [lay_length, HN.out]; omega)
  rw [lay_length, HN.out] at hal
  have HAL := Lib.hid hal
  clear hal
  go_wp2_with (fail)
  go_at_call 42
  refine HAL.out.mono ?_
  rintro e w6 ⟨rfl, hq⟩
  go_wp2_with (fail)
  go_ret
  exact ⟨rfl, hB5.trans (hq.below _)⟩
set_option maxRecDepth 100000 in
set_option maxHeartbeats 2000000 in
theorem same_nil (w : World) (A : Option Addr) (c : Nat) :
    Calls Try.prog 21 #[.agg #[.pointer none], .agg #[.int .i64 0, .slice A 0 c]] w fun e w' => e = .returned (.bool true) ∧ Below w.heap.size w w' := by
  have h : Rep w none [] := Rep.none w
  obtain ⟨wa, hwa⟩ : ∃ wa, (w.alloc (.cells #[.pointer none] 26)).alloc (.cells #[.int .i64 0, .slice A 0 c] 31) = wa := ⟨_, rfl⟩
  have hBa : Below w.heap.size w wa := hwa ▸ Below.alloc2 w _ _
  have ba : BoxT wa w.heap.size (.pointer none) := hwa ▸ (BoxT.new w _ _ (by decide)).alloc _
  have ma : BoxM wa (w.heap.size + 1) 0 (.slice A 0 c) := by
    have := BoxM.new (w.alloc (.cells #[.pointer none] 26)) 0 (.slice A 0 c)
    rw [World.size_alloc] at this; exact hwa ▸ this
  have c0 := ba.cell
  have c1 := ma.c0
  have c2 := ma.c1
  have hsz : ∀ W, Below w.heap.size w W → Calls Try.prog 26 #[.agg #[.pointer none]] W fun e w' => e = .returned (.int .i64 0) ∧ Below W.heap.size W w' := fun W hB => size_any W none [] (h.below hB)
  have hle : ∀ W, Below w.heap.size w W → Calls Try.prog 43 #[.agg #[.pointer none]] W fun e w' => e = .returned (.int .i64 0) ∧ Below W.heap.size W w' := fun W hB => len_any W none [] (h.below hB)
  have hru : ∀ W, Below w.heap.size w W → Calls Try.prog 33 #[.agg #[.pointer none], .int .i64 0, .int .i64 0, .int .i64 1048576] W fun e w' => e = .returned (.tuple #[.slice none 0 0, .int .i64 1]) ∧ Below W.heap.size W w' := fun W hB =>
    runs_err W none [] 0 0 1048576 (h.below hB) 1 (by show rangesR [] 0 0 = 1; unfold rangesR; rw [if_pos rfl]) rfl
  have HSZ := Lib.hid hsz
  have HLE := Lib.hid hle
  have HRU := Lib.hid hru
  clear hsz hle hru
  go_enter Try.func21, Try.ntmps21
  have HWA := Lib.hid hwa
  clear hwa
  go_upto_region 1 with (fail)
  rw [HWA.out]
  go_region_held3 (fun W => W.cell? ⟨w.heap.size, 0, none⟩ = some (.pointer none) ∧ W.cell? ⟨w.heap.size + 1, 0, none⟩ = some (.int .i64 0) ∧ W.cell? ⟨w.heap.size + 1, 1, none⟩ = some (.slice A 0 c))
    (first | (exact ⟨c0, c1, c2⟩) | (exact ⟨(ba.next hb1).cell, (ma.next hb1).c0, (ma.next hb1).c1⟩) | (exact ⟨((ba.next hb1).next hb2).cell, ((ma.next hb1).next hb2).c0, ((ma.next hb1).next hb2).c1⟩))
    ((first
      | (go_at_call 26; refine (HSZ.out _ (by exact hBa.drew)).mono ?_; rintro e w1 ⟨rfl, hb1'⟩; have hb1 : Below wa.heap.size wa w1 := Below.of_drew hb1'; have hB1 := Below.next hBa hb1)
      | (go_at_call 43; refine (HLE.out _ hB1).mono ?_; rintro e w2 ⟨rfl, hb2⟩; have hB2 := Below.next hB1 hb2)))
  have ba2 := (ba.next hb1).next hb2
  have ma2 := (ma.next hb1).next hb2
  clear c0 c1 c2 ba ma hb1 hb2 hb1'
  have c0 := ba2.cell
  have c1 := ma2.c0
  have c2 := ma2.c1
  go_wp2_with (fail)
  go_region_held3 (fun W => W.cell? ⟨w.heap.size, 0, none⟩ = some (.pointer none) ∧ W.cell? ⟨w.heap.size + 1, 0, none⟩ = some (.int .i64 0))
    (first | (exact ⟨c0, c1⟩) | (exact ⟨(ba2.next hb3).cell, (ma2.next hb3).c0⟩) | (exact ⟨((ba2.next hb3).next hb4).cell, ((ma2.next hb3).next hb4).c0⟩))
    ((first
      | (go_at_call 26; refine (HSZ.out _ (by exact hB2.drew)).mono ?_; rintro e w3 ⟨rfl, hb3'⟩; have hb3 : Below w2.heap.size w2 w3 := Below.of_drew hb3'; have hB3 := Below.next hB2 hb3)
      | (go_at_call 33; refine (HRU.out _ hB3).mono ?_; rintro e w4 ⟨rfl, hb4⟩; have hB4 := Below.next hB3 hb4)))
  have ma4 := (ma2.next hb3).next hb4
  clear c0 c1 c2 ba2 ma2 hb3 hb4 hb3'
  have c0 := ma4.c0
  have c1 := ma4.c1
  go_wp2_with (fail)
  go_at_call 55
  refine (usable_any 0 A 0 c w4 (by omega)).mono ?_
  rintro e w5 ⟨rfl, hb5⟩
  have hB5 := Below.next hB4 hb5
  go_wp2_with (fail)
  go_ret
  exact ⟨rfl, hB5⟩
/-- same is true of the program's map and the document's with the same runs. -/
theorem same_any (w : World) (p : Option Addr) (L : List (Int × Int)) (A : Option Addr) (c : Nat) (h : Rep w p L) (hR : Runs w A (lay 0 L)) (hc : L.length ≤ c) :
    Calls Try.prog 21 #[.agg #[.pointer p], .agg #[.int .i64 (Tr.total L), .slice A L.length c]] w fun e w' => e = .returned (.bool true) ∧ Below w.heap.size w w' := by
  cases p with
  | none =>
    obtain rfl := h.nil_iff.1 rfl
    exact same_nil w A c
  | some a => exact same_yes w a L A c L.length _ h rfl rfl hR hc
end Go.Proofs.Ytfmplibjhohpgaa
