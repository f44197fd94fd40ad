/- The walk over awake. -/
import Derived.Test.YtfmplibjhohpgaaSpRfrom
namespace Go.Proofs.Ytfmplibjhohpgaa
open Go.RowKit

theorem awake_new (w : World) : Calls Try.prog 30 #[.int .i64 10] w fun e w' => ∃ p, e = .returned (.tuple #[.agg #[.pointer p], .int .i64 0]) ∧ Rep w' p [(10, 0)] ∧ Below w.heap.size w w' := by
  have e : newR 10 = (0, [(10, 0)]) := by decide
  have := new_any w 10
  rwa [e] at this
theorem awake_set (w : World) (p : Option Addr) (h : Rep w p [(10, 0)]) : Calls Try.prog 25 #[.agg #[.pointer p], .int .i64 2, .int .i64 5, .int .i64 1] w fun e w' => ∃ p, e = .returned (.tuple #[.agg #[.pointer p], .int .i64 0]) ∧ Rep w' p [(2, 0), (3, 1), (5, 0)] ∧ Below w.heap.size w w' := by
  have e : setR [(10, 0)] 2 5 1 = (0, [(2, 0), (3, 1), (5, 0)]) := by decide
  have := set_any w p [(10, 0)] 2 5 1 h
  unfold SetPost at this
  rwa [e] at this
theorem awake_count (w : World) (p : Option Addr) (h : Rep w p [(2, 0), (3, 1), (5, 0)]) : Calls Try.prog 28 #[.agg #[.pointer p], .int .i64 0, .int .i64 4, .int .i64 1] w fun e w' => e = .returned (.tuple #[.int .i64 2, .int .i64 0]) ∧ Below w.heap.size w w' := by
  have e : countR [(2, 0), (3, 1), (5, 0)] 0 4 1 = (2, 0) := by decide
  have := count_any w p _ 0 4 1 h
  rwa [e] at this
theorem awake_find (w : World) (p : Option Addr) (h : Rep w p [(2, 0), (3, 1), (5, 0)]) : Calls Try.prog 27 #[.agg #[.pointer p], .int .i64 1, .int .i64 2] w fun e w' => e = .returned (.tuple #[.int .i64 4, .bool true]) ∧ Below w.heap.size w w' := by
  have e : findR [(2, 0), (3, 1), (5, 0)] 1 2 = (4, true) := by decide
  have := find_any w p _ 1 2 h
  unfold FindPost at this
  rwa [e] at this
theorem awake_len (w : World) (p : Option Addr) (h : Rep w p [(2, 0), (3, 1), (5, 0)]) : Calls Try.prog 43 #[.agg #[.pointer p]] w fun e w' => e = .returned (.int .i64 3) ∧ Below w.heap.size w w' := len_any w p _ h
set_option maxRecDepth 100000 in
set_option maxHeartbeats 2000000 in
theorem awake_any (w : World) : Calls Try.prog 18 #[] w fun e w' => e = .returned (.bool true) ∧ Below w.heap.size w w' := by
  go_enter Try.func18, Try.ntmps18
  go_wp2_with (fail)
  go_at_call 30
  refine (awake_new _).mono ?_
  rintro e w1 ⟨p1, rfl, h1, b1⟩
  go_wp2_with (fail)
  go_at_call 25
  refine (awake_set _ p1 (h1.below (Below.alloc1 _ _))).mono ?_
  rintro e w2 ⟨p2, rfl, h2, b2⟩
  have hB2 : Below w.heap.size w w2 := Below.next (Below.next b1 (Below.alloc1 _ _)) b2
  clear b1 b2 h1
  go_wp2_with (fail)
  go_at_call 28
  refine (awake_count _ p2 (h2.below (Below.alloc1 _ _))).mono ?_
  rintro e w3 ⟨rfl, b3⟩
  have h3 := (h2.below (Below.alloc1 _ _)).below b3
  have x3 := (BoxT.new w2 (.pointer p2) 26 (by decide)).next b3
  have hB3 : Below w.heap.size w w3 := Below.next (Below.next hB2 (Below.alloc1 _ _)) b3
  have c3 := x3.cell
  have z3 := x3.lt
  clear b3 h2 hB2
  go_wp2_with (fail)
  go_at_call 27
  refine (awake_find _ p2 h3).mono ?_
  rintro e w4 ⟨rfl, b4⟩
  have h4 := h3.below b4
  have x4 := x3.next b4
  have hB4 : Below w.heap.size w w4 := Below.next hB3 b4
  have c4 := x4.cell
  clear b4 h3 hB3 x3 c3 z3
  have z4 := x4.lt
  go_wp2_with (fail)
  go_at_call 43
  refine (awake_len _ p2 h4).mono ?_
  rintro e w5 ⟨rfl, b5⟩
  have hB5 : Below w.heap.size w w5 := Below.next hB4 b5
  go_wp2_with (fail)
  go_ret
  exact ⟨rfl, hB5⟩
end Go.Proofs.Ytfmplibjhohpgaa
