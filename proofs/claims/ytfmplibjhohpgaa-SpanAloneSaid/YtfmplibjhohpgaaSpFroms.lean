/- The walk over awake. The walk over SpanFroms. -/
import Derived.Test.YtfmplibjhohpgaaSpRfrom
namespace Go.Proofs.Ytfmplibjhohpgaa
section
open Go.RowKit

theorem awake_new (w : World) : Calls Try.prog 30 #[.int .i64 10] w fun e w' => ∃ p, e = .returned (.tuple #[.agg #[.pointer p], .int .i64 0]) ∧ Rep w' p [(10, 0)] ∧ Below w.heap.size w w' := by
  have e : newR 10 = (0, [(10, 0)]) := by decide
  have := new_any w 10
  rwa [e] at this
theorem awake_set (w : World) (p : Option Addr) (h : Rep w p [(10, 0)]) : Calls Try.prog 25 #[.agg #[.pointer p], .int .i64 2, .int .i64 5, .int .i64 1] w fun e w' => ∃ p, e = .returned (.tuple #[.agg #[.pointer p], .int .i64 0]) ∧ Rep w' p [(2, 0), (3, 1), (5, 0)] ∧ Below w.heap.size w w' := by
  have e : setR [(10, 0)] 2 5 1 = (0, [(2, 0), (3, 1), (5, 0)]) := by decide
  have := set_any w p [(10, 0)] 2 5 1 h
  unfold SetPost at this
  rwa [e] at this
theorem awake_count (w : World) (p : Option Addr) (h : Rep w p [(2, 0), (3, 1), (5, 0)]) : Calls Try.prog 28 #[.agg #[.pointer p], .int .i64 0, .int .i64 4, .int .i64 1] w fun e w' => e = .returned (.tuple #[.int .i64 2, .int .i64 0]) ∧ Below w.heap.size w w' := by
  have e : countR [(2, 0), (3, 1), (5, 0)] 0 4 1 = (2, 0) := by decide
  have := count_any w p _ 0 4 1 h
  rwa [e] at this
theorem awake_find (w : World) (p : Option Addr) (h : Rep w p [(2, 0), (3, 1), (5, 0)]) : Calls Try.prog 27 #[.agg #[.pointer p], .int .i64 1, .int .i64 2] w fun e w' => e = .returned (.tuple #[.int .i64 4, .bool true]) ∧ Below w.heap.size w w' := by
  have e : findR [(2, 0), (3, 1), (5, 0)] 1 2 = (4, true) := by decide
  have := find_any w p _ 1 2 h
  unfold FindPost at this
  rwa [e] at this
theorem awake_len (w : World) (p : Option Addr) (h : Rep w p [(2, 0), (3, 1), (5, 0)]) : Calls Try.prog 43 #[.agg #[.pointer p]] w fun e w' => e = .returned (.int .i64 3) ∧ Below w.heap.size w w' := len_any w p _ h
set_option maxRecDepth 100000 in
set_option maxHeartbeats 2000000 in
theorem awake_any (w : World) : Calls Try.prog 18 #[] w fun e w' => e = .returned (.bool true) ∧ Below w.heap.size w w' := by
  go_enter Try.func18, Try.ntmps18
  go_wp2_with (fail)
  go_at_call 30
  refine (awake_new _).mono ?_
  rintro e w1 ⟨p1, rfl, h1, b1⟩
  go_wp2_with (fail)
  go_at_call 25
  refine (awake_set _ p1 (h1.below (Below.alloc1 _ _))).mono ?_
  rintro e w2 ⟨p2, rfl, h2, b2⟩
  have hB2 : Below w.heap.size w w2 := Below.next (Below.next b1 (Below.alloc1 _ _)) b2
  clear b1 b2 h1
  go_wp2_with (fail)
  go_at_call 28
  refine (awake_count _ p2 (h2.below (Below.alloc1 _ _))).mono ?_
  rintro e w3 ⟨rfl, b3⟩
  have h3 := (h2.below (Below.alloc1 _ _)).below b3
  have x3 := (BoxT.new w2 (.pointer p2) 26 (by decide)).next b3
  have hB3 : Below w.heap.size w w3 := Below.next (Below.next hB2 (Below.alloc1 _ _)) b3
  have c3 := x3.cell
  have z3 := x3.lt
  clear b3 h2 hB2
  go_wp2_with (fail)
  go_at_call 27
  refine (awake_find _ p2 h3).mono ?_
  rintro e w4 ⟨rfl, b4⟩
  have h4 := h3.below b4
  have x4 := x3.next b4
  have hB4 : Below w.heap.size w w4 := Below.next hB3 b4
  have c4 := x4.cell
  clear b4 h3 hB3 x3 c3 z3
  have z4 := x4.lt
  go_wp2_with (fail)
  go_at_call 43
  refine (awake_len _ p2 h4).mono ?_
  rintro e w5 ⟨rfl, b5⟩
  have hB5 : Below w.heap.size w w5 := Below.next hB4 b5
  go_wp2_with (fail)
  go_ret
  exact ⟨rfl, hB5⟩
end
section
open Go.RowKit

/-- A row of runs of which the tags of the first n can be read and written. -/
def RowI (w : World) (g n : Nat) : Prop := ∃ cur, w.heap[g]? = some (.cells cur 35 (0, 0)) ∧ ∀ j, j < n → ∃ x, cur[j * 3 + 2]? = some (.int .i64 x)
theorem RowI.lt {w : World} {g n : Nat} (h : RowI w g n) : g < w.heap.size := by
  obtain ⟨cur, h, _⟩ := h; exact (Array.getElem?_eq_some_iff.1 h).1
theorem RowI.cell {w : World} {g n : Nat} (h : RowI w g n) {j : Nat} (hj : j < n) : ∃ x, w.cell? ⟨g, j * 3 + 2, none⟩ = some (.int .i64 x) := by
  obtain ⟨cur, h, h2⟩ := h
  obtain ⟨x, hx⟩ := h2 j hj
  exact ⟨x, (cell_of_row w g (j * 3 + 2) cur _ _ h).trans hx⟩
theorem RowI.frozen {w : World} {g n : Nat} (h : RowI w g n) (i : Nat) : w.frozen? ⟨g, i, none⟩ = false := by
  obtain ⟨cur, h, h2⟩ := h; simp [World.frozen?, h]
theorem RowI.next {w w' : World} {g n : Nat} (h : RowI w g n) (hB : Below w.heap.size w w') : RowI w' g n := by
  obtain ⟨cur, h1, h2⟩ := h
  exact ⟨cur, (hB.block g (Array.getElem?_eq_some_iff.1 h1).1).trans h1, h2⟩
theorem RowI.set {w : World} {g n : Nat} (h : RowI w g n) (i : Nat) (x : Int) : RowI (w.setCell ⟨g, i, none⟩ (.int .i64 x)) g n := by
  obtain ⟨cur, h1, h2⟩ := h
  refine ⟨cur.setIfInBounds i (.int .i64 x), by simp [World.setCell, Array.getElem?_modify, h1], fun j hj => ?_⟩
  obtain ⟨y, hy⟩ := h2 j hj
  rw [Array.getElem?_setIfInBounds]
  by_cases hi : i = j * 3 + 2
  · rw [if_pos hi, if_pos (by rw [hi]; exact (Array.getElem?_eq_some_iff.1 hy).1)]; exact ⟨x, rfl⟩
  · rw [if_neg hi]; exact ⟨y, hy⟩
theorem OwnRuns.rowI {w : World} {base : Nat} {v : Value} {L : List Rn} (h : OwnRuns w base v L) : (v = .slice none 0 0 ∧ L = []) ∨ ∃ g c, v = .slice (some ⟨g, 0, none⟩) L.length c ∧ base ≤ g ∧ L.length ≤ c ∧ RowI w g L.length := by
  obtain ⟨h1, h2⟩ := h
  rcases h2 with ⟨h2, h3⟩ | ⟨g, cap, cur, e, hg, hh, hc, _, hs, ht⟩
  · exact .inl ⟨h2, List.eq_nil_of_length_eq_zero h3⟩
  · refine .inr ⟨g, cap, e, hg, hc, cur, hh, fun j hj => ?_⟩
    have key : ∀ (L : List Rn) (j : Nat), j < L.length → ∃ x, (cellsR L)[j * 3 + 2]? = some (.int .i64 x) := by
      intro L
      induction L with
      | nil => intro j hj; simp at hj
      | cons x L ih =>
        intro j hj
        have e : cellsR (x :: L) = [.int .i64 x.lo, .int .i64 x.hi, .int .i64 x.tag] ++ cellsR L := by simp [cellsR]
        rw [e]
        cases j with
        | zero => exact ⟨_, rfl⟩
        | succ j =>
          obtain ⟨y, hy⟩ := ih j (by simpa using hj)
          exact ⟨y, by rw [show (j + 1) * 3 + 2 = (j * 3 + 2) + 3 from by omega]; simpa using hy⟩
    obtain ⟨x, hx⟩ := key L j hj
    rw [← ht, List.getElem?_take, if_pos (by omega)] at hx
    exact ⟨x, by rw [← Array.getElem?_toList]; exact hx⟩
theorem RowI.other {w : World} {g n : Nat} (h : RowI w g n) : Other w g := by
  obtain ⟨cur, h, _⟩ := h; exact ⟨_, _, _, h, by decide⟩
theorem BoxM.far {W : World} {b : Nat} {x : Int} {v : Value} (h : BoxM W b x v) {b' : Nat} (hne : b ≠ b') (off : Nat) (sp : Option Nat) (u : Value) : BoxM (W.setCell ⟨b', off, sp⟩ u) b x v := by
  unfold BoxM at h ⊢
  rw [← h]
  simp only [World.setCell, Array.getElem?_modify]
  rw [if_neg (by omega)]
theorem OwnRuns.next {w w' : World} {base : Nat} {v : Value} {L : List Rn} (h : OwnRuns w base v L) (hB : Below w.heap.size w w') : OwnRuns w' base v L := by
  obtain ⟨h1, h2⟩ := h
  refine ⟨h1, ?_⟩
  rcases h2 with h2 | ⟨g, cap, cur, e, hg, hh, r⟩
  · exact .inl h2
  · exact .inr ⟨g, cap, cur, e, hg, (hB.block g (Array.getElem?_eq_some_iff.1 hh).1).trans hh, r⟩
def FromsPost (w : World) (e : Ending) (w' : World) : Prop := e = .returned (.bool true) ∧ Below w.heap.size w w'
set_option maxRecDepth 100000 in
set_option maxHeartbeats 2000000 in
theorem froms_long (w : World) (size : Int) (A : Option Addr) (n c : Nat) (h : 5000 < (n : Int)) : Calls Try.prog 3 #[.int .i64 size, .slice A n c] w (FromsPost w) := by
  go_enter Try.func3, Try.ntmps3
  go_wp2_with (fail)
  go_at_call 18
  refine (awake_any _).mono ?_
  rintro e w1 ⟨rfl, b1⟩
  go_wp2_with (fail)
  go_ret
  exact ⟨rfl, b1⟩
set_option maxRecDepth 100000 in
set_option maxHeartbeats 2000000 in
theorem froms_some (w : World) (size : Int) (a : Addr) (L : List Rn) (c : Nat) (hR : Runs w (some a) L) (hlc : L.length ≤ c) (hs : ¬ 5000 < (L.length : Int)) : Calls Try.prog 3 #[.int .i64 size, .slice (some a) L.length c] w (FromsPost w) := by
  obtain ⟨i0, hi0, hz0, hz1, hz2⟩ := info_parts infoRun
  obtain ⟨n, hn⟩ : ∃ n, L.length = n := ⟨_, rfl⟩
  rw [hn] at hs ⊢
  have hs' : (n : Int) ≤ 5000 := by omega
  have HN := Lib.hid hn
  have HLC := Lib.hid hlc
  have HR := Lib.hid hR
  clear hn hlc hR
  have HL := Lib.hid (OwnRuns.empty w)
  have hLr : Hid (∀ j u, (cellsR L)[j]? = some u → (w.alloc (.cells #[] 35)).cell? (a.add j) = some u) := cells_of_runs (HR.out.below (Below.alloc1 w _))
  have hLn : Hid ((cellsR L).length = n * 3) := by show _ = _; rw [cellsR_length, HN.out]
  go_enter Try.func3, Try.ntmps3
  go_wp2_with (at_builtin; (refine wpList_append_own _ rfl _ _ 22 rfl w.heap.size 35 i0 (.agg #[.int .i64 0, .int .i64 0, .int .i64 0]) 3 24 Try.underlying22 hi0 hz0 hz1 hz2 rfl (by decide) _ _ _ rfl HL.out a n c (cellsR L) rfl hLn.out hLr.out (cellsR_one L) (by unfold maxLen; omega) (by omega) (by rw [World.size_alloc]; omega) ?_); intro v' w1 hown hgrow hnn; have hBx : Below w.heap.size w w1 := Below.grown_ hgrow; have hO := OwnRuns.of_empty HN.out hown)
  have hg : ∃ g c', v' = .slice (some ⟨g, 0, none⟩) n c' ∧ w.heap.size ≤ g ∧ n ≤ c' ∧ RowI w1 g n := by
    rcases hO.rowI with ⟨h, _⟩ | h
    · exact absurd (show Value.slice (some ⟨w.heap.size, 0, none⟩) 0 0 = Value.slice none 0 0 from (hnn.1 h).1) (by simp)
    · rw [HN.out] at h; exact h
  obtain ⟨g, c', rfl, hg, hgc, hI⟩ := hg
  have hRi := hO.toRuns
  have hR1 := HR.out.below hBx
  clear hO hnn hgrow hown
  have gl := hI.lt
  obtain ⟨r, hr⟩ : ∃ r, fromR size L = r := ⟨_, rfl⟩
  go_at_call 19
  have hf := from_any size L _ c' w1 hRi (by rw [HN.out]; exact hgc) (by rw [HN.out]; omega)
  unfold FromPost at hf
  rw [HN.out, hr] at hf
  refine hf.mono ?_
  clear hf
  rintro e w2 ⟨p, rfl, hp, b2⟩
  go_wp2_with (fail)
  go_at_call 20
  have hf := rfrom_any size L (some a) c (w2.alloc (.cells #[.pointer p] 26)) ((hR1.below b2).below (Below.alloc1 _ _)) HLC.out (by rw [HN.out]; omega)
  unfold RFromPost at hf
  rw [HN.out, hr] at hf
  refine hf.mono ?_
  clear hf
  rintro e w3 ⟨AR, cR, rfl, hOR, hcR, b3⟩
  have x6 := (BoxT.new w2 (.pointer p) 26 (by decide)).next b3
  have hp3 := (hp.below (Below.alloc1 _ _)).below b3
  have hI3 := ((hI.next b2).next (Below.alloc1 w2 (.cells #[.pointer p] 26))).next b3
  have hB3 : Below w.heap.size w w3 := Below.next (Below.next (Below.next hBx b2) (Below.alloc1 _ _)) b3
  have s2 := b2.size
  have s3 := b3.size
  rw [World.size_alloc] at s3 hOR
  clear hp hI b2 b3 hRi hR1 hBx
  go_upto_region 6 with (fail)
  generalize hw4 : World.alloc w3 _ = w4
  have b4 : Below w3.heap.size w3 w4 := hw4 ▸ Below.alloc1 w3 _
  have x8 : BoxM w4 w3.heap.size (Tr.total r.2) (.slice AR r.2.length cR) := hw4 ▸ BoxM.new w3 _ _
  have x6' := x6.next b4
  have hp4 := hp3.below b4
  have hI4 := hI3.next b4
  have hB4 := Below.next hB3 b4
  have hO4 := hOR.next b4
  clear hw4 b4 hp3 hI3 hB3 hOR x6 HL hLr hLn hr
  go_wp2_with (fail)
  go_loopw [10] (fun i wr => ∃ k : Nat, k ≤ n ∧ i = .int .i64 k ∧ BoxT wr w2.heap.size (.pointer p) ∧ BoxM wr w3.heap.size (Tr.total r.2) (.slice AR r.2.length cR) ∧ Rep wr p r.2 ∧ OwnRuns wr (w2.heap.size + 1) (.slice AR r.2.length cR) (lay 0 r.2) ∧ RowI wr g n ∧ Below w.heap.size w wr) (fun i _ => n - (intOf i).toNat)
  case atStart => exact ⟨0, Nat.zero_le _, rfl, x6', x8, hp4, hO4, hI4, hB4⟩
  case round =>
    obtain ⟨k, hk, rfl, y6, y8, hq, hOq, hJ, hBq⟩ := hrel
    by_cases hlt : k < n
    · have k1 : (k : Int) < (n : Int) := by omega
      obtain ⟨x, hx⟩ := hJ.cell hlt
      have gf := hJ.frozen
      have gz := hJ.lt
      go_wp2_with (fail)
      exact ⟨⟨k + 1, by omega, by go_num, y6.far (by omega) _ _ _, y8.far (by omega) _ _ _, hq.set_ hJ.other _ _ _, hOq.set (p := ⟨g, k * 3 + 2, none⟩) (show g < _ by omega) _, hJ.set _ _, hBq.setCell (p := ⟨g, k * 3 + 2, none⟩) hg _⟩, by simp [intOf]; omega⟩
    · obtain rfl : k = n := by omega
      have c6 := y6.cell
      have c8 := y8.c0
      have c9 := y8.c1
      have z6 := y6.lt
      have z8 := y8.lt
      go_wp2_with (fail)
      go_at_call 21
      refine (same_any wr p r.2 AR cR hq hOq.toRuns hcR).mono ?_
      rintro e w5 ⟨rfl, b5⟩
      have hB5 := Below.next hBq b5
      go_wp2_with (fail)
      go_at_call 18
      refine (awake_any _).mono ?_
      rintro e w6 ⟨rfl, b6⟩
      have hB6 := Below.next hB5 b6
      go_wp2_with (fail)
      go_ret
      exact ⟨rfl, hB6⟩
set_option maxRecDepth 100000 in
set_option maxHeartbeats 2000000 in
theorem froms_nil (w : World) (size : Int) : Calls Try.prog 3 #[.int .i64 size, .slice none 0 0] w (FromsPost w) := by
  have hr : fromR size [] = (2, []) := by unfold fromR; rw [if_pos (.inr rfl)]
  have HRr := Lib.hid hr
  clear hr
  go_enter Try.func3, Try.ntmps3
  go_wp2_with (fail)
  go_at_call 19
  have hf := from_any size [] (some ⟨w.heap.size, 0, none⟩) 0 (w.alloc (.cells #[] 35)) (.inl rfl) (Nat.le_refl _) (Nat.zero_le _)
  unfold FromPost at hf
  rw [HRr.out] at hf
  refine hf.mono ?_
  clear hf
  rintro e w2 ⟨p, rfl, hp, b2⟩
  obtain rfl := hp.nil_iff.2 rfl
  have hB2 : Below w.heap.size w w2 := Below.next (Below.alloc1 w _) b2
  clear b2
  go_wp2_with (fail)
  go_at_call 20
  have hf := rfrom_any size [] none 0 (w2.alloc (.cells #[.pointer none] 26)) (.inl rfl) (Nat.le_refl _) (Nat.zero_le _)
  unfold RFromPost at hf
  rw [HRr.out] at hf
  refine hf.mono ?_
  clear hf
  rintro e w3 ⟨AR, cR, rfl, hOR, hcR, b3⟩
  have x6 := (BoxT.new w2 (.pointer none) 26 (by decide)).next b3
  have hB3 : Below w.heap.size w w3 := Below.next (Below.next hB2 (Below.alloc1 _ _)) b3
  clear b3 hOR
  go_upto_region 6 with (fail)
  generalize hw4 : World.alloc w3 _ = w4
  have b4 : Below w3.heap.size w3 w4 := hw4 ▸ Below.alloc1 w3 _
  have x8 : BoxM w4 w3.heap.size 0 (.slice AR 0 cR) := hw4 ▸ BoxM.new w3 _ _
  have x6' := x6.next b4
  have hB4 := Below.next hB3 b4
  clear hw4 b4 hB3 x6
  have c6 := x6'.cell
  have c8 := x8.c0
  have c9 := x8.c1
  have z6 := x6'.lt
  have z8 := x8.lt
  go_wp2_with (fail)
  go_loopw [10] (fun i wr => i = .int .i64 0 ∧ wr = w4) (fun _ _ => 0)
  case atStart => exact ⟨rfl, rfl⟩
  case round =>
    obtain ⟨rfl, rfl⟩ := hrel
    go_wp2_with (fail)
    go_at_call 21
    refine (same_any wr none [] AR cR (Rep.none _) (.inl rfl) (Nat.zero_le _)).mono ?_
    rintro e w5 ⟨rfl, b5⟩
    have hB5 := Below.next hB4 b5
    go_wp2_with (fail)
    go_at_call 18
    refine (awake_any _).mono ?_
    rintro e w6 ⟨rfl, b6⟩
    have hB6 := Below.next hB5 b6
    go_wp2_with (fail)
    go_ret
    exact ⟨rfl, hB6⟩
/-- SpanFroms answers true, whatever its arguments. -/
theorem froms_any (w : World) (size : Int) (A : Option Addr) (L : List Rn) (c : Nat) (hA : A = none → c = 0 ∧ L = []) (hR : Runs w A L) (hlc : L.length ≤ c) : Calls Try.prog 3 #[.int .i64 size, .slice A L.length c] w (FromsPost w) := by
  by_cases h : 5000 < (L.length : Int)
  · exact froms_long w size A L.length c h
  · cases A with
    | none => obtain ⟨rfl, rfl⟩ := hA rfl; exact froms_nil w size
    | some a => exact froms_some w size a L c hR hlc h
end
end Go.Proofs.Ytfmplibjhohpgaa
