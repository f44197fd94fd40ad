/- The walks over few and built: a map after updates. -/
import Derived.Test.YtfmplibjhohpgaaSpMore
namespace Go.Proofs.Ytfmplibjhohpgaa
open Go.RowKit Go.Shelf

set_option maxHeartbeats 400000 in
theorem lfew_yes (w : World) (A : Option Addr) (n c : Nat) (h : (n : Int) ≤ 60) : Calls Try.prog 29 #[.slice A n c] w fun e w' => e = .returned (.bool true) ∧ w = w' := by
  have h1 : decide ((n : Int) ≤ 60) = true := by simpa using h
  go_enter Try.func29, Try.ntmps29
  go_wp2_with (fail)
  go_ret
  exact ⟨rfl, rfl⟩
set_option maxHeartbeats 400000 in
theorem lfew_no (w : World) (A : Option Addr) (n c : Nat) (h : ¬ (n : Int) ≤ 60) : Calls Try.prog 29 #[.slice A n c] w fun e w' => e = .returned (.bool false) ∧ w = w' := by
  have h1 : decide ((n : Int) ≤ 60) = false := by simpa using h
  go_enter Try.func29, Try.ntmps29
  go_wp2_with (fail)
  go_ret
  exact ⟨rfl, rfl⟩
set_option maxRecDepth 100000 in
set_option maxHeartbeats 2000000 in
theorem built_yes (w : World) (size : Int) (A : Option Addr) (l : List Ac) (c : Nat) (h1 : 1 ≤ size) (h2 : size ≤ 1099511627776) (hA : Acts w A l) (hlc : l.length ≤ c) (hl : (l.length : Int) ≤ 60) :
    Calls Try.prog 22 #[.int .i64 size, .slice A l.length c] w fun e w' => ∃ q, e = .returned (.tuple #[.agg #[.pointer q], .bool true]) ∧ Rep w' q (moreL [(size, 0)] l) ∧ Below w.heap.size w w' := by
  have hnew : Calls Try.prog 30 #[.int .i64 size] (w.alloc (.cells #[.pointer none] 26)) fun e w' => ∃ p, e = .returned (.tuple #[.agg #[.pointer p], .int .i64 0]) ∧ Rep w' p [(size, 0)] ∧ Below (w.alloc (.cells #[.pointer none] 26)).heap.size (w.alloc (.cells #[.pointer none] 26)) w' := by
    have := new_any (w.alloc (.cells #[.pointer none] 26)) size
    rw [show newR size = (0, [(size, 0)]) from by unfold newR; rw [if_pos ⟨h1, h2⟩]] at this
    exact this
  have hmo : ∀ W p, Below w.heap.size w W → Rep W p [(size, 0)] → Calls Try.prog 50 #[.agg #[.pointer p], .slice A l.length c] W fun e w' => ∃ q, e = .returned (.agg #[.pointer q]) ∧ Rep w' q (moreL [(size, 0)] l) ∧ Below W.heap.size W w' := fun W p hB hp => more_any W p _ A l c hp (hA.below hB) hlc (by omega)
  generalize l.length = n at *
  have HN := Lib.hid hnew
  have HM := Lib.hid hmo
  clear hnew hmo
  go_enter Try.func22, Try.ntmps22
  go_wp2_with (fail)
  go_at_call 30
  refine HN.out.mono ?_
  rintro e w1 ⟨p1, rfl, hp1, b1⟩
  have hB1 : Below w.heap.size w w1 := Below.next (Below.alloc1 _ _) b1
  have b4 : Boxed w1 w.heap.size 26 (.pointer none) := bx_next (Boxed.new w _ _) b1
  clear b1
  go_upto_region 2 with (fail)
  generalize hw2 : World.alloc w1 _ = w2
  have b6 : Boxed w2 w1.heap.size 26 (.pointer p1) := hw2 ▸ Boxed.new w1 _ _
  have b4' : Boxed w2 w.heap.size 26 (.pointer none) := hw2 ▸ b4.alloc _
  have hq : Rep w2 p1 [(size, 0)] := hw2 ▸ hp1.below (Below.alloc1 _ _)
  have hB2 : Below w.heap.size w w2 := hw2 ▸ Below.next hB1 (Below.alloc1 _ _)
  clear hw2 b4 hp1 hB1
  go_wp2_with (fail)
  go_at_call 29
  refine (lfew_yes _ A n c hl).mono ?_
  rintro e w' ⟨rfl, rfl⟩
  have c6 := b6.cell
  go_wp2_with (fail)
  go_at_call 50
  refine (HM.out _ p1 hB2 hq).mono ?_
  rintro e w3 ⟨q, rfl, hq3, b3⟩
  have b43 := bx_next b4' b3
  have c4 := b43.cell
  have f4 := b43.frozen
  have hB3 := Below.next hB2 b3
  go_wp2_with (fail)
  exact bodyPost_ret (v := .tuple #[.agg #[.pointer q], .bool true]) (by simp [results, Try.results22, go_sem, (b43.set (.pointer q)).cell]) rfl ⟨q, rfl, hq3.set_ ⟨_, _, _, b43, by decide⟩ _ _ _, hB3.setCell (p := ⟨w.heap.size, 0, none⟩) (Nat.le_refl _) _⟩
set_option maxRecDepth 100000 in
set_option maxHeartbeats 2000000 in
theorem built_size (w : World) (size : Int) (A : Option Addr) (n c : Nat) (h : ¬ (1 ≤ size ∧ size ≤ 1099511627776)) :
    Calls Try.prog 22 #[.int .i64 size, .slice A n c] w fun e w' => ∃ q M, e = .returned (.tuple #[.agg #[.pointer q], .bool false]) ∧ Rep w' q M ∧ Below w.heap.size w w' := by
  have hnew : Calls Try.prog 30 #[.int .i64 size] (w.alloc (.cells #[.pointer none] 26)) fun e w' => ∃ p, e = .returned (.tuple #[.agg #[.pointer p], .int .i64 2]) ∧ Rep w' p [] ∧ Below (w.alloc (.cells #[.pointer none] 26)).heap.size (w.alloc (.cells #[.pointer none] 26)) w' := by
    have := new_any (w.alloc (.cells #[.pointer none] 26)) size
    rw [show newR size = (2, []) from by unfold newR; rw [if_neg h]] at this
    exact this
  have HN := Lib.hid hnew
  clear hnew
  go_enter Try.func22, Try.ntmps22
  go_wp2_with (fail)
  go_at_call 30
  refine HN.out.mono ?_
  rintro e w1 ⟨p1, rfl, hp1, b1⟩
  have hB1 : Below w.heap.size w w1 := Below.next (Below.alloc1 _ _) b1
  have b4 : Boxed w1 w.heap.size 26 (.pointer none) := bx_next (Boxed.new w _ _) b1
  clear b1
  go_upto_region 2 with (fail)
  generalize hw2 : World.alloc w1 _ = w2
  have b6 : Boxed w2 w1.heap.size 26 (.pointer p1) := hw2 ▸ Boxed.new w1 _ _
  have b4' : Boxed w2 w.heap.size 26 (.pointer none) := hw2 ▸ b4.alloc _
  have hq : Rep w2 p1 [] := hw2 ▸ hp1.below (Below.alloc1 _ _)
  have hB2 : Below w.heap.size w w2 := hw2 ▸ Below.next hB1 (Below.alloc1 _ _)
  clear hw2 b4 hp1 hB1
  have c6 := b6.cell
  have c4 := b4'.cell
  have f4 := b4'.frozen
  go_wp2_with (fail)
  exact bodyPost_ret (v := .tuple #[.agg #[.pointer p1], .bool false]) (by simp [results, Try.results22, go_sem, (b4'.set (.pointer p1)).cell]) rfl ⟨p1, _, rfl, hq.set_ ⟨_, _, _, b4', by decide⟩ _ _ _, hB2.setCell (p := ⟨w.heap.size, 0, none⟩) (Nat.le_refl _) _⟩
set_option maxRecDepth 100000 in
set_option maxHeartbeats 2000000 in
theorem built_many (w : World) (size : Int) (A : Option Addr) (n c : Nat) (h1 : 1 ≤ size) (h2 : size ≤ 1099511627776) (hl : ¬ (n : Int) ≤ 60) :
    Calls Try.prog 22 #[.int .i64 size, .slice A n c] w fun e w' => ∃ q M, e = .returned (.tuple #[.agg #[.pointer q], .bool false]) ∧ Rep w' q M ∧ Below w.heap.size w w' := by
  have hnew : Calls Try.prog 30 #[.int .i64 size] (w.alloc (.cells #[.pointer none] 26)) fun e w' => ∃ p, e = .returned (.tuple #[.agg #[.pointer p], .int .i64 0]) ∧ Rep w' p [(size, 0)] ∧ Below (w.alloc (.cells #[.pointer none] 26)).heap.size (w.alloc (.cells #[.pointer none] 26)) w' := by
    have := new_any (w.alloc (.cells #[.pointer none] 26)) size
    rw [show newR size = (0, [(size, 0)]) from by unfold newR; rw [if_pos ⟨h1, h2⟩]] at this
    exact this
  have HN := Lib.hid hnew
  clear hnew
  go_enter Try.func22, Try.ntmps22
  go_wp2_with (fail)
  go_at_call 30
  refine HN.out.mono ?_
  rintro e w1 ⟨p1, rfl, hp1, b1⟩
  have hB1 : Below w.heap.size w w1 := Below.next (Below.alloc1 _ _) b1
  have b4 : Boxed w1 w.heap.size 26 (.pointer none) := bx_next (Boxed.new w _ _) b1
  clear b1
  go_upto_region 2 with (fail)
  generalize hw2 : World.alloc w1 _ = w2
  have b6 : Boxed w2 w1.heap.size 26 (.pointer p1) := hw2 ▸ Boxed.new w1 _ _
  have b4' : Boxed w2 w.heap.size 26 (.pointer none) := hw2 ▸ b4.alloc _
  have hq : Rep w2 p1 [(size, 0)] := hw2 ▸ hp1.below (Below.alloc1 _ _)
  have hB2 : Below w.heap.size w w2 := hw2 ▸ Below.next hB1 (Below.alloc1 _ _)
  clear hw2 b4 hp1 hB1
  go_wp2_with (fail)
  go_at_call 29
  refine (lfew_no _ A n c (by omega)).mono ?_
  rintro e w' ⟨rfl, rfl⟩
  have c6 := b6.cell
  have c4 := b4'.cell
  have f4 := b4'.frozen
  go_wp2_with (fail)
  exact bodyPost_ret (v := .tuple #[.agg #[.pointer p1], .bool false]) (by simp [results, Try.results22, go_sem, (b4'.set (.pointer p1)).cell]) rfl ⟨p1, _, rfl, hq.set_ ⟨_, _, _, b4', by decide⟩ _ _ _, hB2.setCell (p := ⟨w.heap.size, 0, none⟩) (Nat.le_refl _) _⟩
/-- built says no: there is no such map, or there are more than 60 updates. -/
theorem built_no (w : World) (size : Int) (A : Option Addr) (n c : Nat) (h : ¬ ((1 ≤ size ∧ size ≤ 1099511627776) ∧ (n : Int) ≤ 60)) :
    Calls Try.prog 22 #[.int .i64 size, .slice A n c] w fun e w' => ∃ q M, e = .returned (.tuple #[.agg #[.pointer q], .bool false]) ∧ Rep w' q M ∧ Below w.heap.size w w' := by
  by_cases hs : 1 ≤ size ∧ size ≤ 1099511627776
  · exact built_many w size A n c hs.1 hs.2 (fun hl => h ⟨hs, hl⟩)
  · exact built_size w size A n c hs
end Go.Proofs.Ytfmplibjhohpgaa
