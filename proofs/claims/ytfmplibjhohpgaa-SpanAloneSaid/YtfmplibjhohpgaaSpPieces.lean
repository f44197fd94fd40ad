/- The walk over SpanPieces. -/
import Derived.Test.YtfmplibjhohpgaaSpBuilt
import Derived.Test.YtfmplibjhohpgaaSpOpenA
namespace Go.Proofs.Ytfmplibjhohpgaa
open Go.RowKit Go.Shelf

/-- The box of an update. -/
def BoxA (W : World) (b : Nat) (x : Ac) : Prop := W.heap[b]? = some (.cells #[.bool x.swap, .int .i64 x.lo, .int .i64 x.hi, .int .i64 x.frm, .int .i64 x.to] 40 (0, 0))
theorem BoxA.new (w : World) (x : Ac) : BoxA (w.alloc (.cells #[.bool x.swap, .int .i64 x.lo, .int .i64 x.hi, .int .i64 x.frm, .int .i64 x.to] 40)) w.heap.size x := heap_alloc_new w _
theorem BoxA.lt {W : World} {b : Nat} {x : Ac} (h : BoxA W b x) : b < W.heap.size := (Array.getElem?_eq_some_iff.1 h).1
theorem BoxA.next {W W' : World} {b : Nat} {x : Ac} (h : BoxA W b x) (hB : Below W.heap.size W W') : BoxA W' b x := (hB.block b h.lt).trans h
theorem BoxA.act {W : World} {b : Nat} {x : Ac} (h : BoxA W b x) : ActAt W ⟨b, 0, none⟩ x :=
  ⟨cell_of_row W b 0 _ _ _ h, cell_of_row W b 1 _ _ _ h, cell_of_row W b 2 _ _ _ h, cell_of_row W b 3 _ _ _ h, cell_of_row W b 4 _ _ _ h⟩
theorem BoxA.far {W : World} {b : Nat} {x : Ac} (h : BoxA W b x) {g i : Nat} (hne : ¬ b = g) (v : Value) : BoxA (W.setCell ⟨g, i, none⟩ v) b x :=
  (Below.heap_setCell W ⟨g, i, none⟩ v b hne).trans h
theorem get_in {W : World} {q : Option Addr} {M : List (Int × Int)} {at_ : Int} (h : Rep W q M) (g : Good M) (h0 : 0 ≤ at_) (h1 : at_ < Tr.total M) :
    Calls Try.prog 23 #[.agg #[.pointer q], .int .i64 at_] W fun e w' => e = .returned (.tuple #[.int .i64 (atL M at_), .int .i64 0]) ∧ Below W.heap.size W w' := by
  have := get_any W q M at_ h
  rw [show getR M at_ = (atL M at_, 0) from by unfold getR; rw [if_neg g.1, if_neg (by omega)]] at this
  exact this
theorem size_nil {W : World} {q : Option Addr} (h : Rep W q []) : Calls Try.prog 26 #[.agg #[.pointer q]] W fun e w' => e = .returned (.int .i64 0) ∧ Below W.heap.size W w' := size_any W q [] h
theorem swapR_count {L : List (Int × Int)} {lo hi from_ to : Int} (h : (swapR L lo hi from_ to).1 ≠ 0) : (swapR L lo hi from_ to).2.1 = 0 := by
  unfold swapR at h ⊢
  split
  · rfl
  · split
    · rfl
    · split
      · rfl
      · split
        · rfl
        · rename_i h1 h2 h3 h4
          rw [if_neg h1, if_neg h2, if_neg h3, if_neg h4] at h
          exact (h rfl).elim
set_option maxRecDepth 100000 in
set_option maxHeartbeats 2000000 in
theorem pieces_no (w : World) (size : Int) (A : Option Addr) (n c : Nat) (x : Ac) (at_ : Int) (h : ¬ ((1 ≤ size ∧ size ≤ 1099511627776) ∧ (n : Int) ≤ 60)) :
    Calls Try.prog 4 #[.int .i64 size, .slice A n c, .agg #[.bool x.swap, .int .i64 x.lo, .int .i64 x.hi, .int .i64 x.frm, .int .i64 x.to], .int .i64 at_] w (FromsPost w) := by
  have H := Lib.hid h
  clear h
  go_enter Try.func4, Try.ntmps4
  go_wp2_with (fail)
  go_at_call 22
  refine (built_no _ size A n c H.out).mono ?_
  rintro e w1 ⟨q, M, rfl, _, b1⟩
  go_wp2_with (fail)
  go_at_call 18
  refine (awake_any _).mono ?_
  rintro e w2 ⟨rfl, b2⟩
  go_wp2_with (fail)
  go_ret
  exact ⟨rfl, Below.next (Below.next (Below.next (Below.alloc1 _ _) b1) (Below.alloc1 _ _)) b2⟩
set_option maxRecDepth 100000 in
set_option maxHeartbeats 2000000 in
theorem pieces_at (w : World) (size : Int) (A : Option Addr) (l : List Ac) (c : Nat) (x : Ac) (at_ : Int) (h1 : 1 ≤ size) (h2 : size ≤ 1099511627776) (hA : Acts w A l) (hlc : l.length ≤ c) (hl : (l.length : Int) ≤ 60) (h : at_ < 0 ∨ (0 ≤ at_ ∧ size ≤ at_)) :
    Calls Try.prog 4 #[.int .i64 size, .slice A l.length c, .agg #[.bool x.swap, .int .i64 x.lo, .int .i64 x.hi, .int .i64 x.frm, .int .i64 x.to], .int .i64 at_] w (FromsPost w) := by
  have hbu : ∀ W, Below w.heap.size w W → Calls Try.prog 22 #[.int .i64 size, .slice A l.length c] W fun e w' => ∃ q, e = .returned (.tuple #[.agg #[.pointer q], .bool true]) ∧ Rep w' q (moreL [(size, 0)] l) ∧ Below W.heap.size W w' := fun W hB => built_yes W size A l c h1 h2 (hA.below hB) hlc hl
  generalize l.length = n at *
  have HBU := Lib.hid hbu
  clear hbu hA
  go_enter Try.func4, Try.ntmps4
  go_wp2_with (fail)
  go_at_call 22
  refine (HBU.out _ (Below.alloc1 _ _)).mono ?_
  rintro e w1 ⟨q, rfl, _, b1⟩
  rcases h with h | ⟨h0, h⟩
  · go_wp2_with (fail)
    go_at_call 18
    refine (awake_any _).mono ?_
    rintro e w2 ⟨rfl, b2⟩
    go_wp2_with (fail)
    go_ret
    exact ⟨rfl, Below.next (Below.next (Below.next (Below.alloc1 _ _) b1) (Below.alloc1 _ _)) b2⟩
  · go_wp2_with (fail)
    go_at_call 18
    refine (awake_any _).mono ?_
    rintro e w2 ⟨rfl, b2⟩
    go_wp2_with (fail)
    go_ret
    exact ⟨rfl, Below.next (Below.next (Below.next (Below.alloc1 _ _) b1) (Below.alloc1 _ _)) b2⟩
set_option maxRecDepth 100000 in
set_option maxHeartbeats 4000000 in
theorem pieces_swap_err (w : World) (size : Int) (A : Option Addr) (l : List Ac) (c : Nat) (x : Ac) (at_ : Int) (h1 : 1 ≤ size) (h2 : size ≤ 1099511627776) (hA : Acts w A l) (hlc : l.length ≤ c) (hl : (l.length : Int) ≤ 60) (h0 : 0 ≤ at_) (h3 : at_ < size)
    (hs : x.swap = true) (M : List (Int × Int)) (hM : moreL [(size, 0)] l = M) (gM : Good M) (tM : Tr.total M = size) (err : Int) (hN : actR M x = (err, [])) (herr : err ≠ 0) :
    Calls Try.prog 4 #[.int .i64 size, .slice A l.length c, .agg #[.bool x.swap, .int .i64 x.lo, .int .i64 x.hi, .int .i64 x.frm, .int .i64 x.to], .int .i64 at_] w (FromsPost w) := by
  have hbu : ∀ W, Below w.heap.size w W → Calls Try.prog 22 #[.int .i64 size, .slice A l.length c] W fun e w' => ∃ q, e = .returned (.tuple #[.agg #[.pointer q], .bool true]) ∧ Rep w' q M ∧ Below W.heap.size W w' := fun W hB => by
    have := built_yes W size A l c h1 h2 (hA.below hB) hlc hl
    rw [hM] at this; exact this
  have hup : ∀ W q, Rep W q M → Calls Try.prog 24 #[.agg #[.pointer q], .int .i64 x.lo, .int .i64 x.hi, .int .i64 x.frm, .int .i64 x.to] W fun e w' => ∃ p k, e = .returned (.tuple #[.agg #[.pointer p], .int .i64 k, .int .i64 err]) ∧ (k = 0) ∧ Rep w' p [] ∧ Below W.heap.size W w' := fun W q hq => by
    have := swap_any W q M x.lo x.hi x.frm x.to hq
    unfold actR at hN
    rw [if_pos hs] at hN
    simp only [Prod.mk.injEq] at hN
    refine this.mono fun e w' ⟨p, h1, h2, h3⟩ => ?_
    rw [hN.1] at h1
    rw [hN.2] at h2
    exact ⟨p, _, h1, swapR_count (by rw [hN.1]; exact herr), h2, h3⟩
  have hge : ∀ W q, Rep W q M → Calls Try.prog 23 #[.agg #[.pointer q], .int .i64 at_] W fun e w' => e = .returned (.tuple #[.int .i64 (atL M at_), .int .i64 0]) ∧ Below W.heap.size W w' := fun W q hq => by
    have := get_in hq gM h0 (by rw [tM]; exact h3)
    exact this
  generalize l.length = n at *
  have HS := Lib.hid hs
  clear hs
  have HBU := Lib.hid hbu
  have HUP := Lib.hid hup
  have HGE := Lib.hid hge
  clear hbu hup hge hA hM hN
  go_enter Try.func4, Try.ntmps4
  go_upto_region 1 with (fail)
  generalize hwa : World.alloc w _ = wa
  have xa : BoxA wa w.heap.size x := hwa ▸ BoxA.new w x
  have hBa : Below w.heap.size w wa := hwa ▸ Below.alloc1 w _
  clear hwa
  go_wp2_with (fail)
  go_at_call 22
  refine (HBU.out _ hBa).mono ?_
  rintro e w1 ⟨q, rfl, hq, b1⟩
  have x1 := xa.next b1
  have hB1 := Below.next hBa b1
  clear b1 xa hBa
  go_upto_region 2 with (fail)
  generalize hw2 : World.alloc w1 _ = w2
  have d2 : Below w1.heap.size w1 w2 := hw2 ▸ Below.alloc1 w1 _
  have y2 : Boxed w2 w1.heap.size 26 (.pointer q) := hw2 ▸ Boxed.new w1 _ _
  have x2 := x1.next d2
  have q2 := hq.below d2
  have hB2 := Below.next hB1 d2
  have x1l := x1.lt
  clear hw2 d2 x1 hq hB1
  have c9 := y2.cell
  go_wp2_with (fail)
  go_at_call 23
  refine (HGE.out _ q q2).mono ?_
  rintro e w3 ⟨rfl, b3⟩
  have x3 := x2.next b3
  have q3 := q2.below b3
  have y3 := bx_next y2 b3
  have hB3 := Below.next hB2 b3
  clear b3 x2 q2 y2 hB2 c9
  have c9 := y3.cell
  go_upto_region 6 with (fail)
  generalize hw4 : World.alloc w3 _ = w4
  have d4 : Below w3.heap.size w3 w4 := hw4 ▸ Below.alloc1 w3 _
  have z4 : Boxed w4 w3.heap.size 26 (.pointer q) := hw4 ▸ Boxed.new w3 _ _
  have x4 := x3.next d4
  have q4 := q3.below d4
  have y4 := bx_next y3 d4
  have hB4 := Below.next hB3 d4
  have x3l := x3.lt
  have y3l := y3.lt
  clear hw4 d4 x3 q3 y3 hB3 c9
  have c9 := y4.cell
  obtain ⟨a0, a1, a2, a3, a4⟩ := x4.act
  simp only [Nat.zero_add] at a1 a2 a3 a4
  rw [HS.out] at a0
  go_wp2_with (fail)
  go_at_call 24
  refine (HUP.out _ q q4).mono ?_
  rintro e w5 ⟨p, k, rfl, rfl, hp, b5⟩
  have x5 := x4.next b5
  have q5 := q4.below b5
  have y5 := bx_next y4 b5
  have z5 := bx_next z4 b5
  have hB5 := Below.next hB4 b5
  have y5l := y5.lt
  have z5l := z5.lt
  clear b5 x4 q4 y4 z4 hB4 c9 a0 a1 a2 a3 a4
  have c13 := z5.cell
  have f13 := z5.frozen
  go_upto_region 11 with (fail)
  have x6 : BoxA (w5.setCell ⟨w3.heap.size, 0, none⟩ (.pointer p)) w.heap.size x := x5.far (by omega) _
  have q6 : Rep (w5.setCell ⟨w3.heap.size, 0, none⟩ (.pointer p)) q M := q5.set_ ⟨_, _, _, z5, by decide⟩ _ _ _
  have p6 : Rep (w5.setCell ⟨w3.heap.size, 0, none⟩ (.pointer p)) p [] := hp.set_ ⟨_, _, _, z5, by decide⟩ _ _ _
  have y6 : Boxed (w5.setCell ⟨w3.heap.size, 0, none⟩ (.pointer p)) w1.heap.size 26 (.pointer q) := boxed_far y5 (by omega)
  have z6 : Boxed (w5.setCell ⟨w3.heap.size, 0, none⟩ (.pointer p)) w3.heap.size 26 (.pointer p) := z5.set _
  have hB6 : Below w.heap.size w (w5.setCell ⟨w3.heap.size, 0, none⟩ (.pointer p)) := hB5.setCell (p := ⟨w3.heap.size, 0, none⟩) (show w.heap.size ≤ w3.heap.size by omega) _
  generalize w5.setCell ⟨w3.heap.size, 0, none⟩ (.pointer p) = w6 at *
  clear x5 q5 y5 z5 hB5 c13 f13 hp
  have c13 := z6.cell
  have he : (err != 0) = true := by simpa using herr
  go_wp2_with (fail)
  go_at_call 26
  refine (size_nil p6).mono ?_
  rintro e w7 ⟨rfl, b7⟩
  have hB7 := Below.next hB6 b7
  go_wp2_with (fail)
  go_at_call 18
  refine (awake_any _).mono ?_
  rintro e w8 ⟨rfl, b8⟩
  have hB8 := Below.next hB7 b8
  go_wp2_with (fail)
  go_ret
  exact ⟨rfl, hB8⟩
set_option maxRecDepth 100000 in
set_option maxHeartbeats 4000000 in
theorem pieces_set_err (w : World) (size : Int) (A : Option Addr) (l : List Ac) (c : Nat) (x : Ac) (at_ : Int) (h1 : 1 ≤ size) (h2 : size ≤ 1099511627776) (hA : Acts w A l) (hlc : l.length ≤ c) (hl : (l.length : Int) ≤ 60) (h0 : 0 ≤ at_) (h3 : at_ < size)
    (hs : x.swap = false) (M : List (Int × Int)) (hM : moreL [(size, 0)] l = M) (gM : Good M) (tM : Tr.total M = size) (err : Int) (hN : actR M x = (err, [])) (herr : err ≠ 0) :
    Calls Try.prog 4 #[.int .i64 size, .slice A l.length c, .agg #[.bool x.swap, .int .i64 x.lo, .int .i64 x.hi, .int .i64 x.frm, .int .i64 x.to], .int .i64 at_] w (FromsPost w) := by
  have hbu : ∀ W, Below w.heap.size w W → Calls Try.prog 22 #[.int .i64 size, .slice A l.length c] W fun e w' => ∃ q, e = .returned (.tuple #[.agg #[.pointer q], .bool true]) ∧ Rep w' q M ∧ Below W.heap.size W w' := fun W hB => by
    have := built_yes W size A l c h1 h2 (hA.below hB) hlc hl
    rw [hM] at this; exact this
  have hup : ∀ W q, Rep W q M → Calls Try.prog 25 #[.agg #[.pointer q], .int .i64 x.lo, .int .i64 x.hi, .int .i64 x.to] W fun e w' => ∃ p, e = .returned (.tuple #[.agg #[.pointer p], .int .i64 err]) ∧ Rep w' p [] ∧ Below W.heap.size W w' := fun W q hq => by
    have := set_any W q M x.lo x.hi x.to hq
    unfold actR at hN
    rw [if_neg (by rw [hs]; simp)] at hN
    unfold SetPost at this
    rw [hN] at this
    exact this
  have hge : ∀ W q, Rep W q M → Calls Try.prog 23 #[.agg #[.pointer q], .int .i64 at_] W fun e w' => e = .returned (.tuple #[.int .i64 (atL M at_), .int .i64 0]) ∧ Below W.heap.size W w' := fun W q hq => by
    have := get_in hq gM h0 (by rw [tM]; exact h3)
    exact this
  generalize l.length = n at *
  have HS := Lib.hid hs
  clear hs
  have HBU := Lib.hid hbu
  have HUP := Lib.hid hup
  have HGE := Lib.hid hge
  clear hbu hup hge hA hM hN
  go_enter Try.func4, Try.ntmps4
  go_upto_region 1 with (fail)
  generalize hwa : World.alloc w _ = wa
  have xa : BoxA wa w.heap.size x := hwa ▸ BoxA.new w x
  have hBa : Below w.heap.size w wa := hwa ▸ Below.alloc1 w _
  clear hwa
  go_wp2_with (fail)
  go_at_call 22
  refine (HBU.out _ hBa).mono ?_
  rintro e w1 ⟨q, rfl, hq, b1⟩
  have x1 := xa.next b1
  have hB1 := Below.next hBa b1
  clear b1 xa hBa
  go_upto_region 2 with (fail)
  generalize hw2 : World.alloc w1 _ = w2
  have d2 : Below w1.heap.size w1 w2 := hw2 ▸ Below.alloc1 w1 _
  have y2 : Boxed w2 w1.heap.size 26 (.pointer q) := hw2 ▸ Boxed.new w1 _ _
  have x2 := x1.next d2
  have q2 := hq.below d2
  have hB2 := Below.next hB1 d2
  have x1l := x1.lt
  clear hw2 d2 x1 hq hB1
  have c9 := y2.cell
  go_wp2_with (fail)
  go_at_call 23
  refine (HGE.out _ q q2).mono ?_
  rintro e w3 ⟨rfl, b3⟩
  have x3 := x2.next b3
  have q3 := q2.below b3
  have y3 := bx_next y2 b3
  have hB3 := Below.next hB2 b3
  clear b3 x2 q2 y2 hB2 c9
  have c9 := y3.cell
  go_upto_region 6 with (fail)
  generalize hw4 : World.alloc w3 _ = w4
  have d4 : Below w3.heap.size w3 w4 := hw4 ▸ Below.alloc1 w3 _
  have z4 : Boxed w4 w3.heap.size 26 (.pointer q) := hw4 ▸ Boxed.new w3 _ _
  have x4 := x3.next d4
  have q4 := q3.below d4
  have y4 := bx_next y3 d4
  have hB4 := Below.next hB3 d4
  have x3l := x3.lt
  have y3l := y3.lt
  clear hw4 d4 x3 q3 y3 hB3 c9
  have c9 := y4.cell
  obtain ⟨a0, a1, a2, a3, a4⟩ := x4.act
  simp only [Nat.zero_add] at a1 a2 a3 a4
  rw [HS.out] at a0
  go_wp2_with (fail)
  go_at_call 25
  refine (HUP.out _ q q4).mono ?_
  rintro e w5 ⟨p, rfl, hp, b5⟩
  have x5 := x4.next b5
  have q5 := q4.below b5
  have y5 := bx_next y4 b5
  have z5 := bx_next z4 b5
  have hB5 := Below.next hB4 b5
  have y5l := y5.lt
  have z5l := z5.lt
  clear b5 x4 q4 y4 z4 hB4 c9 a0 a1 a2 a3 a4
  have c13 := z5.cell
  have f13 := z5.frozen
  go_upto_region 11 with (fail)
  have x6 : BoxA (w5.setCell ⟨w3.heap.size, 0, none⟩ (.pointer p)) w.heap.size x := x5.far (by omega) _
  have q6 : Rep (w5.setCell ⟨w3.heap.size, 0, none⟩ (.pointer p)) q M := q5.set_ ⟨_, _, _, z5, by decide⟩ _ _ _
  have p6 : Rep (w5.setCell ⟨w3.heap.size, 0, none⟩ (.pointer p)) p [] := hp.set_ ⟨_, _, _, z5, by decide⟩ _ _ _
  have y6 : Boxed (w5.setCell ⟨w3.heap.size, 0, none⟩ (.pointer p)) w1.heap.size 26 (.pointer q) := boxed_far y5 (by omega)
  have z6 : Boxed (w5.setCell ⟨w3.heap.size, 0, none⟩ (.pointer p)) w3.heap.size 26 (.pointer p) := z5.set _
  have hB6 : Below w.heap.size w (w5.setCell ⟨w3.heap.size, 0, none⟩ (.pointer p)) := hB5.setCell (p := ⟨w3.heap.size, 0, none⟩) (show w.heap.size ≤ w3.heap.size by omega) _
  generalize w5.setCell ⟨w3.heap.size, 0, none⟩ (.pointer p) = w6 at *
  clear x5 q5 y5 z5 hB5 c13 f13 hp
  have c13 := z6.cell
  have he : (err != 0) = true := by simpa using herr
  go_wp2_with (fail)
  go_at_call 26
  refine (size_nil p6).mono ?_
  rintro e w7 ⟨rfl, b7⟩
  have hB7 := Below.next hB6 b7
  go_wp2_with (fail)
  go_at_call 18
  refine (awake_any _).mono ?_
  rintro e w8 ⟨rfl, b8⟩
  have hB8 := Below.next hB7 b8
  go_wp2_with (fail)
  go_ret
  exact ⟨rfl, hB8⟩
end Go.Proofs.Ytfmplibjhohpgaa
