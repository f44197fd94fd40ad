/- The walk over SpanFinds. -/
import Derived.Test.YtfmplibjhohpgaaSpPieces
namespace Go.Proofs.Ytfmplibjhohpgaa
open Go.RowKit Go.Shelf

/-- What a map is asked. -/
structure Qy where
  at_ : Int
  lo : Int
  hi : Int
  most : Int
  tag : Int
  k : Int
/-- The box of a query. -/
def BoxQ (W : World) (b : Nat) (x : Qy) : Prop := W.heap[b]? = some (.cells #[.int .i64 x.at_, .int .i64 x.lo, .int .i64 x.hi, .int .i64 x.most, .int .i64 x.tag, .int .i64 x.k] 51 (0, 0))
theorem BoxQ.new (w : World) (x : Qy) : BoxQ (w.alloc (.cells #[.int .i64 x.at_, .int .i64 x.lo, .int .i64 x.hi, .int .i64 x.most, .int .i64 x.tag, .int .i64 x.k] 51)) w.heap.size x := heap_alloc_new w _
theorem BoxQ.lt {W : World} {b : Nat} {x : Qy} (h : BoxQ W b x) : b < W.heap.size := (Array.getElem?_eq_some_iff.1 h).1
theorem BoxQ.next {W W' : World} {b : Nat} {x : Qy} (h : BoxQ W b x) (hB : Below W.heap.size W W') : BoxQ W' b x := (hB.block b h.lt).trans h
theorem BoxQ.c0 {W : World} {b : Nat} {x : Qy} (h : BoxQ W b x) : W.cell? ⟨b, 0, none⟩ = some (.int .i64 x.at_) := cell_of_row W b 0 _ _ _ h
theorem BoxQ.c1 {W : World} {b : Nat} {x : Qy} (h : BoxQ W b x) : W.cell? ⟨b, 1, none⟩ = some (.int .i64 x.lo) := cell_of_row W b 1 _ _ _ h
theorem BoxQ.c2 {W : World} {b : Nat} {x : Qy} (h : BoxQ W b x) : W.cell? ⟨b, 2, none⟩ = some (.int .i64 x.hi) := cell_of_row W b 2 _ _ _ h
theorem BoxQ.c3 {W : World} {b : Nat} {x : Qy} (h : BoxQ W b x) : W.cell? ⟨b, 3, none⟩ = some (.int .i64 x.most) := cell_of_row W b 3 _ _ _ h
theorem BoxQ.c4 {W : World} {b : Nat} {x : Qy} (h : BoxQ W b x) : W.cell? ⟨b, 4, none⟩ = some (.int .i64 x.tag) := cell_of_row W b 4 _ _ _ h
theorem BoxQ.c5 {W : World} {b : Nat} {x : Qy} (h : BoxQ W b x) : W.cell? ⟨b, 5, none⟩ = some (.int .i64 x.k) := cell_of_row W b 5 _ _ _ h
/-- What calls of one map answer. -/
def Gets (M : List (Int × Int)) (at_ tag : Int) : Prop := ∀ W q, Rep W q M → Calls Try.prog 23 #[.agg #[.pointer q], .int .i64 at_] W fun e w' => e = .returned (.tuple #[.int .i64 tag, .int .i64 0]) ∧ Below W.heap.size W w'
def Counts (M : List (Int × Int)) (lo hi tag n err : Int) : Prop := ∀ W q, Rep W q M → Calls Try.prog 28 #[.agg #[.pointer q], .int .i64 lo, .int .i64 hi, .int .i64 tag] W fun e w' => e = .returned (.tuple #[.int .i64 n, .int .i64 err]) ∧ Below W.heap.size W w'
def Findsx (M : List (Int × Int)) (tag k p : Int) (ok : Bool) : Prop := ∀ W q, Rep W q M → Calls Try.prog 27 #[.agg #[.pointer q], .int .i64 tag, .int .i64 k] W fun e w' => e = .returned (.tuple #[.int .i64 p, .bool ok]) ∧ Below W.heap.size W w'
theorem gets_of {M : List (Int × Int)} (g : Good M) {at_ : Int} (h0 : 0 ≤ at_) (h1 : at_ < Tr.total M) : Gets M at_ (atL M at_) := fun _ _ hq => get_in hq g h0 h1
theorem counts_of {M : List (Int × Int)} (g : Good M) {hi tag : Int} (h0 : 0 ≤ hi) (h1 : hi ≤ Tr.total M) (ht : 0 ≤ tag ∧ tag < 16) : Counts M 0 hi tag (upTo M tag hi) 0 := fun W q hq => by
  have := count_any W q M 0 hi tag hq
  have e : countR M 0 hi tag = (upTo M tag hi, 0) := by
    unfold countR
    rw [show rangesR M 0 hi = 0 from by unfold rangesR; rw [if_neg g.1, if_neg (by omega)], if_pos rfl, if_neg (by omega)]
    unfold upTo
    rw [takeP_zero]
    simp [Tr.totalOf]
  rw [e] at this; exact this
theorem counts_bad {M : List (Int × Int)} (g : Good M) {hi tag : Int} (h0 : 0 ≤ hi) (h1 : hi ≤ Tr.total M) (ht : ¬ (0 ≤ tag ∧ tag < 16)) : Counts M 0 hi tag 0 2 := fun W q hq => by
  have := count_any W q M 0 hi tag hq
  have e : countR M 0 hi tag = (0, 2) := by
    unfold countR
    rw [show rangesR M 0 hi = 0 from by unfold rangesR; rw [if_neg g.1, if_neg (by omega)], if_pos rfl, if_pos (by omega)]
  rw [e] at this; exact this
theorem finds_of {M : List (Int × Int)} {tag k p : Int} {ok : Bool} (h : findR M tag k = (p, ok)) : Findsx M tag k p ok := fun W q hq => by
  have := find_any W q M tag k hq
  unfold FindPost at this
  rw [h] at this; exact this
abbrev queryV (x : Qy) : Value := .agg #[.int .i64 x.at_, .int .i64 x.lo, .int .i64 x.hi, .int .i64 x.most, .int .i64 x.tag, .int .i64 x.k]
set_option maxRecDepth 100000 in
set_option maxHeartbeats 2000000 in
theorem finds_no (w : World) (size : Int) (A : Option Addr) (n c : Nat) (x : Qy) (h : ¬ ((1 ≤ size ∧ size ≤ 1099511627776) ∧ (n : Int) ≤ 60)) :
    Calls Try.prog 5 #[.int .i64 size, .slice A n c, queryV x] w (FromsPost w) := by
  have H := Lib.hid h
  clear h
  go_enter Try.func5, Try.ntmps5
  go_wp2_with (fail)
  go_at_call 22
  refine (built_no _ size A n c H.out).mono ?_
  rintro e w1 ⟨q, M, rfl, _, b1⟩
  go_wp2_with (fail)
  go_at_call 18
  refine (awake_any _).mono ?_
  rintro e w2 ⟨rfl, b2⟩
  go_wp2_with (fail)
  go_ret
  exact ⟨rfl, Below.next (Below.next (Below.next (Below.alloc1 _ _) b1) (Below.alloc1 _ _)) b2⟩
/-- A third of the questions: none, or the inverse. -/
def Third (M : List (Int × Int)) (size at_ : Int) : Prop := at_ < 0 ∨ (0 ≤ at_ ∧ size ≤ at_) ∨ (0 ≤ at_ ∧ at_ < size ∧ ∃ tg kk, Gets M at_ tg ∧ Counts M 0 at_ tg kk 0 ∧ Findsx M tg kk at_ true)
set_option maxRecDepth 100000 in
set_option maxHeartbeats 4000000 in
theorem finds_found (w : World) (size : Int) (A : Option Addr) (l : List Ac) (c : Nat) (x : Qy) (h1 : 1 ≤ size) (h2 : size ≤ 1099511627776) (hA : Acts w A l) (hlc : l.length ≤ c) (hl : (l.length : Int) ≤ 60)
    (M : List (Int × Int)) (hM : moreL [(size, 0)] l = M) (hT : Third M size x.at_) (p : Int) (hf : Findsx M x.tag x.k p true) (hg : Gets M p x.tag) (hc : Counts M 0 p x.tag x.k 0) :
    Calls Try.prog 5 #[.int .i64 size, .slice A l.length c, queryV x] w (FromsPost w) := by
  have hbu : ∀ W, Below w.heap.size w W → Calls Try.prog 22 #[.int .i64 size, .slice A l.length c] W fun e w' => ∃ q, e = .returned (.tuple #[.agg #[.pointer q], .bool true]) ∧ Rep w' q M ∧ Below W.heap.size W w' := fun W hB => by
    have := built_yes W size A l c h1 h2 (hA.below hB) hlc hl
    rw [hM] at this; exact this
  generalize l.length = n at *
  have HBU := Lib.hid hbu
  have HT := Lib.hid hT
  clear hbu hA hM hT
  have HF := Lib.hid hf
  have HG := Lib.hid hg
  have HC := Lib.hid hc
  clear hf hg hc
  go_enter Try.func5, Try.ntmps5
  go_upto_region 1 with (fail)
  generalize hwa : World.alloc w _ = wa
  have xa : BoxQ wa w.heap.size x := hwa ▸ BoxQ.new w x
  have hBa : Below w.heap.size w wa := hwa ▸ Below.alloc1 w _
  clear hwa
  go_wp2_with (fail)
  go_at_call 22
  refine (HBU.out _ hBa).mono ?_
  rintro e w1 ⟨q, rfl, hq, b1⟩
  have x1 := xa.next b1
  have hB1 := Below.next hBa b1
  clear b1 xa hBa
  go_upto_region 2 with (fail)
  generalize hw2 : World.alloc w1 _ = w2
  have d2 : Below w1.heap.size w1 w2 := hw2 ▸ Below.alloc1 w1 _
  have y2 : Boxed w2 w1.heap.size 26 (.pointer q) := hw2 ▸ Boxed.new w1 _ _
  have x2 := x1.next d2
  have q2 := hq.below d2
  have hB2 := Below.next hB1 d2
  clear hw2 d2 x1 hq hB1
  have c7 := y2.cell
  have a0 := x2.c0
  have a4 := x2.c4
  have a5 := x2.c5
  go_wp2_with (fail)
  go_at_call 27
  refine (HF.out _ q q2).mono ?_
  rintro e w3 ⟨rfl, b3⟩
  have x3 := x2.next b3
  have q3 := q2.below b3
  have y3 := bx_next y2 b3
  have hB3 := Below.next hB2 b3
  clear b3 x2 q2 y2 hB2 c7 a0 a4 a5
  have c7 := y3.cell
  have a0 := x3.c0
  have a4 := x3.c4
  have a5 := x3.c5
  go_wp2_with (fail)
  go_at_call 23
  refine (HG.out _ q q3).mono ?_
  rintro e w4 ⟨rfl, b4⟩
  have x4 := x3.next b4
  have q4 := q3.below b4
  have y4 := bx_next y3 b4
  have hB4 := Below.next hB3 b4
  clear b4 x3 q3 y3 hB3 c7 a0 a4 a5
  have c7 := y4.cell
  have a0 := x4.c0
  have a4 := x4.c4
  have a5 := x4.c5
  go_wp2_with (fail)
  go_at_call 28
  refine (HC.out _ q q4).mono ?_
  rintro e w5 ⟨rfl, b5⟩
  have x5 := x4.next b5
  have q5 := q4.below b5
  have y5 := bx_next y4 b5
  have hB5 := Below.next hB4 b5
  clear b5 x4 q4 y4 hB4 c7 a0 a4 a5
  have c7 := y5.cell
  have a0 := x5.c0
  have a4 := x5.c4
  have a5 := x5.c5
  rcases HT.out with h | ⟨h0, h⟩ | ⟨h0, h, tg, kk, g1, g2, g3⟩
  · go_wp2_with (fail)
    go_at_call 18
    refine (awake_any _).mono ?_
    rintro e wz ⟨rfl, bz⟩
    go_wp2_with (fail)
    go_ret
    exact ⟨rfl, Below.next hB5 bz⟩
  · go_wp2_with (fail)
    go_at_call 18
    refine (awake_any _).mono ?_
    rintro e wz ⟨rfl, bz⟩
    go_wp2_with (fail)
    go_ret
    exact ⟨rfl, Below.next hB5 bz⟩
  · have G1 := Lib.hid g1
    have G2 := Lib.hid g2
    have G3 := Lib.hid g3
    clear g1 g2 g3
    go_wp2_with (fail)
    go_at_call 23
    refine (G1.out _ q q5).mono ?_
    rintro e w6 ⟨rfl, b6⟩
    have x6 := x5.next b6
    have q6 := q5.below b6
    have y6 := bx_next y5 b6
    have hB6 := Below.next hB5 b6
    clear b6 x5 q5 y5 hB5 c7 a0 a4 a5
    have c7 := y6.cell
    have a0 := x6.c0
    have a4 := x6.c4
    have a5 := x6.c5
    go_wp2_with (fail)
    go_at_call 28
    refine (G2.out _ q q6).mono ?_
    rintro e w7 ⟨rfl, b7⟩
    have x7 := x6.next b7
    have q7 := q6.below b7
    have y7 := bx_next y6 b7
    have hB7 := Below.next hB6 b7
    clear b7 x6 q6 y6 hB6 c7 a0 a4 a5
    have c7 := y7.cell
    have a0 := x7.c0
    have a4 := x7.c4
    have a5 := x7.c5
    go_wp2_with (fail)
    go_at_call 27
    refine (G3.out _ q q7).mono ?_
    rintro e w8 ⟨rfl, b8⟩
    have x8 := x7.next b8
    have q8 := q7.below b8
    have y8 := bx_next y7 b8
    have hB8 := Below.next hB7 b8
    clear b8 x7 q7 y7 hB7 c7 a0 a4 a5
    have c7 := y8.cell
    have a0 := x8.c0
    have a4 := x8.c4
    have a5 := x8.c5
    go_wp2_with (fail)
    go_at_call 18
    refine (awake_any _).mono ?_
    rintro e wz ⟨rfl, bz⟩
    go_wp2_with (fail)
    go_ret
    exact ⟨rfl, Below.next hB8 bz⟩
set_option maxRecDepth 100000 in
set_option maxHeartbeats 4000000 in
theorem finds_bad (w : World) (size : Int) (A : Option Addr) (l : List Ac) (c : Nat) (x : Qy) (h1 : 1 ≤ size) (h2 : size ≤ 1099511627776) (hA : Acts w A l) (hlc : l.length ≤ c) (hl : (l.length : Int) ≤ 60)
    (M : List (Int × Int)) (hM : moreL [(size, 0)] l = M) (hT : Third M size x.at_) (hf : Findsx M x.tag x.k 0 false) (hc : Counts M 0 size x.tag 0 2) :
    Calls Try.prog 5 #[.int .i64 size, .slice A l.length c, queryV x] w (FromsPost w) := by
  have hbu : ∀ W, Below w.heap.size w W → Calls Try.prog 22 #[.int .i64 size, .slice A l.length c] W fun e w' => ∃ q, e = .returned (.tuple #[.agg #[.pointer q], .bool true]) ∧ Rep w' q M ∧ Below W.heap.size W w' := fun W hB => by
    have := built_yes W size A l c h1 h2 (hA.below hB) hlc hl
    rw [hM] at this; exact this
  generalize l.length = n at *
  have HBU := Lib.hid hbu
  have HT := Lib.hid hT
  clear hbu hA hM hT
  have HF := Lib.hid hf
  have HC := Lib.hid hc
  clear hf hc
  go_enter Try.func5, Try.ntmps5
  go_upto_region 1 with (fail)
  generalize hwa : World.alloc w _ = wa
  have xa : BoxQ wa w.heap.size x := hwa ▸ BoxQ.new w x
  have hBa : Below w.heap.size w wa := hwa ▸ Below.alloc1 w _
  clear hwa
  go_wp2_with (fail)
  go_at_call 22
  refine (HBU.out _ hBa).mono ?_
  rintro e w1 ⟨q, rfl, hq, b1⟩
  have x1 := xa.next b1
  have hB1 := Below.next hBa b1
  clear b1 xa hBa
  go_upto_region 2 with (fail)
  generalize hw2 : World.alloc w1 _ = w2
  have d2 : Below w1.heap.size w1 w2 := hw2 ▸ Below.alloc1 w1 _
  have y2 : Boxed w2 w1.heap.size 26 (.pointer q) := hw2 ▸ Boxed.new w1 _ _
  have x2 := x1.next d2
  have q2 := hq.below d2
  have hB2 := Below.next hB1 d2
  clear hw2 d2 x1 hq hB1
  have c7 := y2.cell
  have a0 := x2.c0
  have a4 := x2.c4
  have a5 := x2.c5
  go_wp2_with (fail)
  go_at_call 27
  refine (HF.out _ q q2).mono ?_
  rintro e w3 ⟨rfl, b3⟩
  have x3 := x2.next b3
  have q3 := q2.below b3
  have y3 := bx_next y2 b3
  have hB3 := Below.next hB2 b3
  clear b3 x2 q2 y2 hB2 c7 a0 a4 a5
  have c7 := y3.cell
  have a0 := x3.c0
  have a4 := x3.c4
  have a5 := x3.c5
  go_wp2_with (fail)
  go_at_call 28
  refine (HC.out _ q q3).mono ?_
  rintro e w4 ⟨rfl, b4⟩
  have x4 := x3.next b4
  have q4 := q3.below b4
  have y4 := bx_next y3 b4
  have hB4 := Below.next hB3 b4
  clear b4 x3 q3 y3 hB3 c7 a0 a4 a5
  have c7 := y4.cell
  have a0 := x4.c0
  have a4 := x4.c4
  have a5 := x4.c5
  rcases HT.out with h | ⟨h0, h⟩ | ⟨h0, h, tg, kk, g1, g2, g3⟩
  · go_wp2_with (fail)
    go_at_call 18
    refine (awake_any _).mono ?_
    rintro e wz ⟨rfl, bz⟩
    go_wp2_with (fail)
    go_ret
    exact ⟨rfl, Below.next hB4 bz⟩
  · go_wp2_with (fail)
    go_at_call 18
    refine (awake_any _).mono ?_
    rintro e wz ⟨rfl, bz⟩
    go_wp2_with (fail)
    go_ret
    exact ⟨rfl, Below.next hB4 bz⟩
  · have G1 := Lib.hid g1
    have G2 := Lib.hid g2
    have G3 := Lib.hid g3
    clear g1 g2 g3
    go_wp2_with (fail)
    go_at_call 23
    refine (G1.out _ q q4).mono ?_
    rintro e w5 ⟨rfl, b5⟩
    have x5 := x4.next b5
    have q5 := q4.below b5
    have y5 := bx_next y4 b5
    have hB5 := Below.next hB4 b5
    clear b5 x4 q4 y4 hB4 c7 a0 a4 a5
    have c7 := y5.cell
    have a0 := x5.c0
    have a4 := x5.c4
    have a5 := x5.c5
    go_wp2_with (fail)
    go_at_call 28
    refine (G2.out _ q q5).mono ?_
    rintro e w6 ⟨rfl, b6⟩
    have x6 := x5.next b6
    have q6 := q5.below b6
    have y6 := bx_next y5 b6
    have hB6 := Below.next hB5 b6
    clear b6 x5 q5 y5 hB5 c7 a0 a4 a5
    have c7 := y6.cell
    have a0 := x6.c0
    have a4 := x6.c4
    have a5 := x6.c5
    go_wp2_with (fail)
    go_at_call 27
    refine (G3.out _ q q6).mono ?_
    rintro e w7 ⟨rfl, b7⟩
    have x7 := x6.next b7
    have q7 := q6.below b7
    have y7 := bx_next y6 b7
    have hB7 := Below.next hB6 b7
    clear b7 x6 q6 y6 hB6 c7 a0 a4 a5
    have c7 := y7.cell
    have a0 := x7.c0
    have a4 := x7.c4
    have a5 := x7.c5
    go_wp2_with (fail)
    go_at_call 18
    refine (awake_any _).mono ?_
    rintro e wz ⟨rfl, bz⟩
    go_wp2_with (fail)
    go_ret
    exact ⟨rfl, Below.next hB7 bz⟩
set_option maxRecDepth 100000 in
set_option maxHeartbeats 4000000 in
theorem finds_neg (w : World) (size : Int) (A : Option Addr) (l : List Ac) (c : Nat) (x : Qy) (h1 : 1 ≤ size) (h2 : size ≤ 1099511627776) (hA : Acts w A l) (hlc : l.length ≤ c) (hl : (l.length : Int) ≤ 60)
    (M : List (Int × Int)) (hM : moreL [(size, 0)] l = M) (hT : Third M size x.at_) (hf : Findsx M x.tag x.k 0 false) (n : Int) (hc : Counts M 0 size x.tag n 0) (hk : x.k < 0) :
    Calls Try.prog 5 #[.int .i64 size, .slice A l.length c, queryV x] w (FromsPost w) := by
  have hbu : ∀ W, Below w.heap.size w W → Calls Try.prog 22 #[.int .i64 size, .slice A l.length c] W fun e w' => ∃ q, e = .returned (.tuple #[.agg #[.pointer q], .bool true]) ∧ Rep w' q M ∧ Below W.heap.size W w' := fun W hB => by
    have := built_yes W size A l c h1 h2 (hA.below hB) hlc hl
    rw [hM] at this; exact this
  generalize l.length = nn at *
  have HBU := Lib.hid hbu
  have HT := Lib.hid hT
  clear hbu hA hM hT
  have HF := Lib.hid hf
  have HC := Lib.hid hc
  clear hf hc
  go_enter Try.func5, Try.ntmps5
  go_upto_region 1 with (fail)
  generalize hwa : World.alloc w _ = wa
  have xa : BoxQ wa w.heap.size x := hwa ▸ BoxQ.new w x
  have hBa : Below w.heap.size w wa := hwa ▸ Below.alloc1 w _
  clear hwa
  go_wp2_with (fail)
  go_at_call 22
  refine (HBU.out _ hBa).mono ?_
  rintro e w1 ⟨q, rfl, hq, b1⟩
  have x1 := xa.next b1
  have hB1 := Below.next hBa b1
  clear b1 xa hBa
  go_upto_region 2 with (fail)
  generalize hw2 : World.alloc w1 _ = w2
  have d2 : Below w1.heap.size w1 w2 := hw2 ▸ Below.alloc1 w1 _
  have y2 : Boxed w2 w1.heap.size 26 (.pointer q) := hw2 ▸ Boxed.new w1 _ _
  have x2 := x1.next d2
  have q2 := hq.below d2
  have hB2 := Below.next hB1 d2
  clear hw2 d2 x1 hq hB1
  have c7 := y2.cell
  have a0 := x2.c0
  have a4 := x2.c4
  have a5 := x2.c5
  go_wp2_with (fail)
  go_at_call 27
  refine (HF.out _ q q2).mono ?_
  rintro e w3 ⟨rfl, b3⟩
  have x3 := x2.next b3
  have q3 := q2.below b3
  have y3 := bx_next y2 b3
  have hB3 := Below.next hB2 b3
  clear b3 x2 q2 y2 hB2 c7 a0 a4 a5
  have c7 := y3.cell
  have a0 := x3.c0
  have a4 := x3.c4
  have a5 := x3.c5
  go_wp2_with (fail)
  go_at_call 28
  refine (HC.out _ q q3).mono ?_
  rintro e w4 ⟨rfl, b4⟩
  have x4 := x3.next b4
  have q4 := q3.below b4
  have y4 := bx_next y3 b4
  have hB4 := Below.next hB3 b4
  clear b4 x3 q3 y3 hB3 c7 a0 a4 a5
  have c7 := y4.cell
  have a0 := x4.c0
  have a4 := x4.c4
  have a5 := x4.c5
  rcases HT.out with h | ⟨h0, h⟩ | ⟨h0, h, tg, kk, g1, g2, g3⟩
  · go_wp2_with (fail)
    go_at_call 18
    refine (awake_any _).mono ?_
    rintro e wz ⟨rfl, bz⟩
    go_wp2_with (fail)
    go_ret
    exact ⟨rfl, Below.next hB4 bz⟩
  · go_wp2_with (fail)
    go_at_call 18
    refine (awake_any _).mono ?_
    rintro e wz ⟨rfl, bz⟩
    go_wp2_with (fail)
    go_ret
    exact ⟨rfl, Below.next hB4 bz⟩
  · have G1 := Lib.hid g1
    have G2 := Lib.hid g2
    have G3 := Lib.hid g3
    clear g1 g2 g3
    go_wp2_with (fail)
    go_at_call 23
    refine (G1.out _ q q4).mono ?_
    rintro e w5 ⟨rfl, b5⟩
    have x5 := x4.next b5
    have q5 := q4.below b5
    have y5 := bx_next y4 b5
    have hB5 := Below.next hB4 b5
    clear b5 x4 q4 y4 hB4 c7 a0 a4 a5
    have c7 := y5.cell
    have a0 := x5.c0
    have a4 := x5.c4
    have a5 := x5.c5
    go_wp2_with (fail)
    go_at_call 28
    refine (G2.out _ q q5).mono ?_
    rintro e w6 ⟨rfl, b6⟩
    have x6 := x5.next b6
    have q6 := q5.below b6
    have y6 := bx_next y5 b6
    have hB6 := Below.next hB5 b6
    clear b6 x5 q5 y5 hB5 c7 a0 a4 a5
    have c7 := y6.cell
    have a0 := x6.c0
    have a4 := x6.c4
    have a5 := x6.c5
    go_wp2_with (fail)
    go_at_call 27
    refine (G3.out _ q q6).mono ?_
    rintro e w7 ⟨rfl, b7⟩
    have x7 := x6.next b7
    have q7 := q6.below b7
    have y7 := bx_next y6 b7
    have hB7 := Below.next hB6 b7
    clear b7 x6 q6 y6 hB6 c7 a0 a4 a5
    have c7 := y7.cell
    have a0 := x7.c0
    have a4 := x7.c4
    have a5 := x7.c5
    go_wp2_with (fail)
    go_at_call 18
    refine (awake_any _).mono ?_
    rintro e wz ⟨rfl, bz⟩
    go_wp2_with (fail)
    go_ret
    exact ⟨rfl, Below.next hB7 bz⟩
set_option maxRecDepth 100000 in
set_option maxHeartbeats 4000000 in
theorem finds_many (w : World) (size : Int) (A : Option Addr) (l : List Ac) (c : Nat) (x : Qy) (h1 : 1 ≤ size) (h2 : size ≤ 1099511627776) (hA : Acts w A l) (hlc : l.length ≤ c) (hl : (l.length : Int) ≤ 60)
    (M : List (Int × Int)) (hM : moreL [(size, 0)] l = M) (hT : Third M size x.at_) (hf : Findsx M x.tag x.k 0 false) (n : Int) (hc : Counts M 0 size x.tag n 0) (hk : 0 ≤ x.k) (hkn : n ≤ x.k) :
    Calls Try.prog 5 #[.int .i64 size, .slice A l.length c, queryV x] w (FromsPost w) := by
  have hbu : ∀ W, Below w.heap.size w W → Calls Try.prog 22 #[.int .i64 size, .slice A l.length c] W fun e w' => ∃ q, e = .returned (.tuple #[.agg #[.pointer q], .bool true]) ∧ Rep w' q M ∧ Below W.heap.size W w' := fun W hB => by
    have := built_yes W size A l c h1 h2 (hA.below hB) hlc hl
    rw [hM] at this; exact this
  generalize l.length = nn at *
  have HBU := Lib.hid hbu
  have HT := Lib.hid hT
  clear hbu hA hM hT
  have HF := Lib.hid hf
  have HC := Lib.hid hc
  clear hf hc
  go_enter Try.func5, Try.ntmps5
  go_upto_region 1 with (fail)
  generalize hwa : World.alloc w _ = wa
  have xa : BoxQ wa w.heap.size x := hwa ▸ BoxQ.new w x
  have hBa : Below w.heap.size w wa := hwa ▸ Below.alloc1 w _
  clear hwa
  go_wp2_with (fail)
  go_at_call 22
  refine (HBU.out _ hBa).mono ?_
  rintro e w1 ⟨q, rfl, hq, b1⟩
  have x1 := xa.next b1
  have hB1 := Below.next hBa b1
  clear b1 xa hBa
  go_upto_region 2 with (fail)
  generalize hw2 : World.alloc w1 _ = w2
  have d2 : Below w1.heap.size w1 w2 := hw2 ▸ Below.alloc1 w1 _
  have y2 : Boxed w2 w1.heap.size 26 (.pointer q) := hw2 ▸ Boxed.new w1 _ _
  have x2 := x1.next d2
  have q2 := hq.below d2
  have hB2 := Below.next hB1 d2
  clear hw2 d2 x1 hq hB1
  have c7 := y2.cell
  have a0 := x2.c0
  have a4 := x2.c4
  have a5 := x2.c5
  go_wp2_with (fail)
  go_at_call 27
  refine (HF.out _ q q2).mono ?_
  rintro e w3 ⟨rfl, b3⟩
  have x3 := x2.next b3
  have q3 := q2.below b3
  have y3 := bx_next y2 b3
  have hB3 := Below.next hB2 b3
  clear b3 x2 q2 y2 hB2 c7 a0 a4 a5
  have c7 := y3.cell
  have a0 := x3.c0
  have a4 := x3.c4
  have a5 := x3.c5
  go_wp2_with (fail)
  go_at_call 28
  refine (HC.out _ q q3).mono ?_
  rintro e w4 ⟨rfl, b4⟩
  have x4 := x3.next b4
  have q4 := q3.below b4
  have y4 := bx_next y3 b4
  have hB4 := Below.next hB3 b4
  clear b4 x3 q3 y3 hB3 c7 a0 a4 a5
  have c7 := y4.cell
  have a0 := x4.c0
  have a4 := x4.c4
  have a5 := x4.c5
  rcases HT.out with h | ⟨h0, h⟩ | ⟨h0, h, tg, kk, g1, g2, g3⟩
  · go_wp2_with (fail)
    go_at_call 18
    refine (awake_any _).mono ?_
    rintro e wz ⟨rfl, bz⟩
    go_wp2_with (fail)
    go_ret
    exact ⟨rfl, Below.next hB4 bz⟩
  · go_wp2_with (fail)
    go_at_call 18
    refine (awake_any _).mono ?_
    rintro e wz ⟨rfl, bz⟩
    go_wp2_with (fail)
    go_ret
    exact ⟨rfl, Below.next hB4 bz⟩
  · have G1 := Lib.hid g1
    have G2 := Lib.hid g2
    have G3 := Lib.hid g3
    clear g1 g2 g3
    go_wp2_with (fail)
    go_at_call 23
    refine (G1.out _ q q4).mono ?_
    rintro e w5 ⟨rfl, b5⟩
    have x5 := x4.next b5
    have q5 := q4.below b5
    have y5 := bx_next y4 b5
    have hB5 := Below.next hB4 b5
    clear b5 x4 q4 y4 hB4 c7 a0 a4 a5
    have c7 := y5.cell
    have a0 := x5.c0
    have a4 := x5.c4
    have a5 := x5.c5
    go_wp2_with (fail)
    go_at_call 28
    refine (G2.out _ q q5).mono ?_
    rintro e w6 ⟨rfl, b6⟩
    have x6 := x5.next b6
    have q6 := q5.below b6
    have y6 := bx_next y5 b6
    have hB6 := Below.next hB5 b6
    clear b6 x5 q5 y5 hB5 c7 a0 a4 a5
    have c7 := y6.cell
    have a0 := x6.c0
    have a4 := x6.c4
    have a5 := x6.c5
    go_wp2_with (fail)
    go_at_call 27
    refine (G3.out _ q q6).mono ?_
    rintro e w7 ⟨rfl, b7⟩
    have x7 := x6.next b7
    have q7 := q6.below b7
    have y7 := bx_next y6 b7
    have hB7 := Below.next hB6 b7
    clear b7 x6 q6 y6 hB6 c7 a0 a4 a5
    have c7 := y7.cell
    have a0 := x7.c0
    have a4 := x7.c4
    have a5 := x7.c5
    go_wp2_with (fail)
    go_at_call 18
    refine (awake_any _).mono ?_
    rintro e wz ⟨rfl, bz⟩
    go_wp2_with (fail)
    go_ret
    exact ⟨rfl, Below.next hB7 bz⟩
/-- SpanFinds answers true. -/
theorem spanFinds_any (w : World) (size : Int) (A : Option Addr) (l : List Ac) (c : Nat) (x : Qy) (hA : Acts w A l) (hlc : l.length ≤ c) :
    Calls Try.prog 5 #[.int .i64 size, .slice A l.length c, queryV x] w (FromsPost w) := by
  by_cases h : (1 ≤ size ∧ size ≤ 1099511627776) ∧ (l.length : Int) ≤ 60
  · obtain ⟨⟨h1, h2⟩, hl⟩ := h
    obtain ⟨gM, tM⟩ := bltL_facts h1 h2 l
    generalize hM : moreL [(size, 0)] l = M at *
    have ho := gM.2.1
    have hT : Third M size x.at_ := by
      by_cases a0 : x.at_ < 0
      · exact .inl a0
      by_cases a1 : size ≤ x.at_
      · exact .inr (.inl ⟨by omega, a1⟩)
      have ht := atL_tag ho (q := x.at_) (by omega)
      refine .inr (.inr ⟨by omega, by omega, _, _, gets_of gM (by omega) (by omega), counts_of gM (by omega) (by omega) ht, finds_of ?_⟩)
      unfold findR
      have n0 := totalOf_nonneg (takeP_ok ho x.at_) (atL M x.at_)
      have := findL_at (a := 0) ho (q := x.at_) (by omega) (by omega)
      unfold upTo
      rw [if_neg (by omega), this, Int.zero_add]
    obtain ⟨R, hR⟩ : ∃ R, findR M x.tag x.k = R := ⟨_, rfl⟩
    obtain ⟨p, ok⟩ := R
    have hf := finds_of hR
    unfold findR at hR
    cases ok with
    | true =>
      by_cases hk : x.k < 0
      · rw [if_pos hk] at hR; simp at hR
      rw [if_neg hk] at hR
      obtain ⟨f1, f2, f3, f4⟩ := findL_found x.tag ho (by omega) hR
      simp only [Int.sub_zero] at f2 f3 f4
      have ht := atL_tag ho f2
      rw [f3] at ht
      have hg := gets_of gM f1 f2
      rw [f3] at hg
      have hc := counts_of gM f1 (by omega) ht
      unfold upTo at hc
      rw [f4] at hc
      exact finds_found w size A l c x h1 h2 hA hlc hl M hM hT p hf hg hc
    | false =>
      by_cases ht : 0 ≤ x.tag ∧ x.tag < 16
      · have hc := counts_of gM (hi := size) (by omega) (by omega) ht
        by_cases hk : x.k < 0
        · rw [if_pos hk] at hR
          simp only [Prod.mk.injEq, and_true] at hR
          subst hR
          exact finds_neg w size A l c x h1 h2 hA hlc hl M hM hT hf _ hc hk
        · rw [if_neg hk] at hR
          obtain ⟨f1, f2⟩ := findL_not x.tag ho (by omega) hR
          subst f1
          refine finds_many w size A l c x h1 h2 hA hlc hl M hM hT hf _ hc (by omega) ?_
          unfold upTo
          rw [takeP_all ho (by omega)]
          exact f2
      · have hc := counts_bad gM (hi := size) (by omega) (by omega) ht
        have hp : p = 0 := by
          by_cases hk : x.k < 0
          · rw [if_pos hk] at hR
            simp only [Prod.mk.injEq, and_true] at hR
            exact hR.symm
          · rw [if_neg hk] at hR
            exact (findL_not x.tag ho (by omega) hR).1
        subst hp
        exact finds_bad w size A l c x h1 h2 hA hlc hl M hM hT hf hc
  · exact finds_no w size A l.length c x h
end Go.Proofs.Ytfmplibjhohpgaa
