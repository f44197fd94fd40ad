/- The walk over SpanUnusable. SpanUnusable answers true, whatever the questions and the changes; the arguments read as they did. No condition. -/
import Derived.Test.YtfmplibjhohpgaaSpMerge
import Derived.Test.YtfmplibjhohpgaaSpApply
import Derived.Test.YtfmplibjhohpgaaSpFinds
import Derived.Test.YtfmplibjhohpgaaSpAwake
import Derived.Test.YtfmplibjhohpgaaRows
import Derived.Carry
namespace Go.Proofs.Ytfmplibjhohpgaa
section
open Go.RowKit Go.Shelf
attribute [local go_sem] Oper.semAt_some

/-- The boxes of the query, of the zero value, and of a map of one piece. -/
structure Un (w : World) (b2 b5 b6 : Nat) (x : Qy) (q : Option Addr) (W : World) : Prop where
  x2 : BoxQ W b2 x
  x5 : Boxed W b5 26 (.pointer none)
  x6 : Boxed W b6 26 (.pointer q)
  r : Rep W q [(1, 0)]
  b : Below w.heap.size w W
theorem Un.next {w : World} {b2 b5 b6 : Nat} {x : Qy} {q : Option Addr} {W W' : World} (h : Un w b2 b5 b6 x q W) (hB : Below W.heap.size W W') : Un w b2 b5 b6 x q W' :=
  ⟨h.x2.next hB, bx_next h.x5 hB, bx_next h.x6 hB, h.r.below hB, Below.next h.b hB⟩
/-- Eleven errors that are one. -/
theorem ones (w : World) (t : TypeId) {j : Nat} (h : j < 11) : (w.alloc (.cells #[.int .i64 1, .int .i64 1, .int .i64 1, .int .i64 1, .int .i64 1, .int .i64 1, .int .i64 1, .int .i64 1, .int .i64 1, .int .i64 1, .int .i64 1] t)).cell? ⟨w.heap.size, j, none⟩ = some (.int .i64 1) := by
  rw [cell_of_row _ w.heap.size j _ _ _ (heap_alloc_new w _)]
  match j, h with
  | 0, _ => rfl
  | 1, _ => rfl
  | 2, _ => rfl
  | 3, _ => rfl
  | 4, _ => rfl
  | 5, _ => rfl
  | 6, _ => rfl
  | 7, _ => rfl
  | 8, _ => rfl
  | 9, _ => rfl
  | 10, _ => rfl
  | j + 11, h => exact absurd h (by omega)
theorem good_one : Good [(1, 0)] := (newR_good 1).resolve_left (by simp [newR])
set_option maxRecDepth 100000 in
set_option maxHeartbeats 4000000 in
theorem spanUnusable_any (w : World) (x : Qy) (B : Option Addr) (n d : Nat) :
    Calls Try.prog 11 #[queryV x, .slice B n d] w (FromsPost w) := by
  have gO := good_one
  have hnw : ∀ W, Calls Try.prog 30 #[.int .i64 1] W fun e w' => ∃ p, e = .returned (.tuple #[.agg #[.pointer p], .int .i64 0]) ∧ Rep w' p [(1, 0)] ∧ Below W.heap.size W w' := fun W => by
    have := new_any W 1
    rw [show newR 1 = (0, [(1, 0)]) from by simp [newR]] at this; exact this
  have h1 : ∀ W at_, Calls Try.prog 23 #[.agg #[.pointer none], .int .i64 at_] W fun e w' => e = .returned (.tuple #[.int .i64 0, .int .i64 1]) ∧ Below W.heap.size W w' := fun W at_ => by
    have := get_any W none [] at_ (Rep.none _)
    rwa [show getR [] at_ = (0, 1) from by simp [getR]] at this
  have h2 : ∀ W lo hi tag, Calls Try.prog 25 #[.agg #[.pointer none], .int .i64 lo, .int .i64 hi, .int .i64 tag] W fun e w' => ∃ p, e = .returned (.tuple #[.agg #[.pointer p], .int .i64 1]) ∧ Below W.heap.size W w' := fun W lo hi tag => by
    have := set_any W none [] lo hi tag (Rep.none _)
    unfold SetPost at this
    rw [show setR [] lo hi tag = (1, []) from by simp [setR]] at this
    exact this.mono fun e w' ⟨p, a, _, c⟩ => ⟨p, a, c⟩
  have h3 : ∀ W lo hi f t, Calls Try.prog 24 #[.agg #[.pointer none], .int .i64 lo, .int .i64 hi, .int .i64 f, .int .i64 t] W fun e w' => ∃ p, e = .returned (.tuple #[.agg #[.pointer p], .int .i64 0, .int .i64 1]) ∧ Below W.heap.size W w' := fun W lo hi f t => by
    have := swap_any W none [] lo hi f t (Rep.none _)
    unfold SwapPost at this
    rw [show swapR [] lo hi f t = (1, 0, []) from by simp [swapR]] at this
    exact this.mono fun e w' ⟨p, a, _, c⟩ => ⟨p, a, c⟩
  have h4 : ∀ W lo hi most, Calls Try.prog 33 #[.agg #[.pointer none], .int .i64 lo, .int .i64 hi, .int .i64 most] W fun e w' => ∃ v, e = .returned (.tuple #[v, .int .i64 1]) ∧ Below W.heap.size W w' := fun W lo hi most => by
    have := runs_any W none [] lo hi most (Rep.none _)
    rw [show runsR [] lo hi most = ([], 1) from by simp [runsR, rangesR]] at this
    exact this.mono fun e w' ⟨p, a, _, c⟩ => ⟨p, a, c⟩
  have h5 : ∀ W lo hi tag, Calls Try.prog 28 #[.agg #[.pointer none], .int .i64 lo, .int .i64 hi, .int .i64 tag] W fun e w' => e = .returned (.tuple #[.int .i64 0, .int .i64 1]) ∧ Below W.heap.size W w' := fun W lo hi tag => by
    have := count_any W none [] lo hi tag (Rep.none _)
    rwa [show countR [] lo hi tag = (0, 1) from by simp [countR, rangesR]] at this
  have h6 : ∀ W q, Rep W q [(1, 0)] → Calls Try.prog 34 #[.agg #[.pointer none], .agg #[.pointer q]] W fun e w' => ∃ v, e = .returned (.tuple #[v, .int .i64 1]) ∧ Below W.heap.size W w' := fun W q hq => by
    have := diff_any W none q [] [(1, 0)] (Rep.none _) hq (.inl rfl) (.inr gO)
    unfold DiffPost at this
    rw [show diffR [] [(1, 0)] = (1, []) from by simp [diffR]] at this
    exact this.mono fun e w' ⟨p, a, _, c⟩ => ⟨p, a, c⟩
  have h7 : ∀ W q, Rep W q [(1, 0)] → Calls Try.prog 34 #[.agg #[.pointer q], .agg #[.pointer none]] W fun e w' => ∃ v, e = .returned (.tuple #[v, .int .i64 1]) ∧ Below W.heap.size W w' := fun W q hq => by
    have := diff_any W q none [(1, 0)] [] hq (Rep.none _) (.inr gO) (.inl rfl)
    unfold DiffPost at this
    rw [show diffR [(1, 0)] [] = (1, []) from by simp [diffR]] at this
    exact this.mono fun e w' ⟨p, a, _, c⟩ => ⟨p, a, c⟩
  have h8 : ∀ W, Calls Try.prog 35 #[.agg #[.pointer none], .slice B n d] W fun e w' => ∃ p, e = .returned (.tuple #[.agg #[.pointer p], .int .i64 1]) ∧ Below W.heap.size W w' := fun W => by
    have := apply_nil W B n d
    unfold ApplyPost at this
    exact this.mono fun e w' ⟨p, a, _, c⟩ => ⟨p, a, c⟩
  have hm : ∀ W a b c X Y Z, Rep W a X → Rep W b Y → Rep W c Z → (X = [] ∨ Good X) → (Y = [] ∨ Good Y) → (Z = [] ∨ Good Z) → (X = [] ∨ Y = [] ∨ Z = []) → Calls Try.prog 44 #[.agg #[.pointer a], .agg #[.pointer b], .agg #[.pointer c]] W fun e w' => ∃ p v, e = .returned (.tuple #[.agg #[.pointer p], v, .int .i64 1]) ∧ Below W.heap.size W w' := fun W a b c X Y Z k1 k2 k3 k4 k5 k6 k7 => by
    have := merge_any W a b c X Y Z k1 k2 k3 k4 k5 k6
    unfold MergePost at this
    rw [show mergeR X Y Z = (1, [], []) from by unfold mergeR; rw [if_pos k7]] at this
    exact this.mono fun e w' ⟨p, v, a, _, _, c⟩ => ⟨p, v, a, c⟩
  have h12 : ∀ W tag k, Calls Try.prog 27 #[.agg #[.pointer none], .int .i64 tag, .int .i64 k] W fun e w' => e = .returned (.tuple #[.int .i64 0, .bool false]) ∧ Below W.heap.size W w' := fun W tag k => by
    have := find_any W none [] tag k (Rep.none _)
    rw [show findR [] tag k = (0, false) from by simp [findR, findL]] at this
    exact this
  have heq : ∀ W a b X Y, Rep W a X → Rep W b Y → (X = [] ∨ Good X) → (Y = [] ∨ Good Y) → ∀ z, decide (X = Y) = z → Calls Try.prog 36 #[.agg #[.pointer a], .agg #[.pointer b]] W fun e w' => e = .returned (.bool z) ∧ Below W.heap.size W w' := fun W a b X Y k1 k2 k3 k4 z hz => by
    have := equal_any W a b X Y k1 k2 k3 k4
    rw [hz] at this; exact this
  have hsz : ∀ W, Calls Try.prog 26 #[.agg #[.pointer none]] W fun e w' => e = .returned (.int .i64 0) ∧ Below W.heap.size W w' := fun W => size_any W none [] (Rep.none _)
  have hle : ∀ W, Calls Try.prog 43 #[.agg #[.pointer none]] W fun e w' => e = .returned (.int .i64 0) ∧ Below W.heap.size W w' := fun W => len_any W none [] (Rep.none _)
  have HNW := Lib.hid hnw
  have H1 := Lib.hid h1
  have H2 := Lib.hid h2
  have H3 := Lib.hid h3
  have H4 := Lib.hid h4
  have H5 := Lib.hid h5
  have H6 := Lib.hid h6
  have H7 := Lib.hid h7
  have H8 := Lib.hid h8
  have HM := Lib.hid hm
  have H12 := Lib.hid h12
  have HEQ := Lib.hid heq
  have HSZ := Lib.hid hsz
  have HLE := Lib.hid hle
  have GO := Lib.hid gO
  clear hnw h1 h2 h3 h4 h5 h6 h7 h8 hm h12 heq hsz hle gO
  unfold queryV
  go_enter Try.func11, Try.ntmps11
  go_upto_region 2 with (fail)
  obtain ⟨wa, hwa⟩ : ∃ wa, (w.alloc (.cells #[.int .i64 x.at_, .int .i64 x.lo, .int .i64 x.hi, .int .i64 x.most, .int .i64 x.tag, .int .i64 x.k] 51)).alloc (.cells #[.pointer none] 26) = wa := ⟨_, rfl⟩
  have u2 : BoxQ wa w.heap.size x := hwa ▸ (BoxQ.new w x).next (Below.alloc1 _ _)
  have u5 : Boxed wa (w.heap.size + 1) 26 (.pointer none) := by
    have := Boxed.new (w.alloc (.cells #[.int .i64 x.at_, .int .i64 x.lo, .int .i64 x.hi, .int .i64 x.most, .int .i64 x.tag, .int .i64 x.k] 51)) 26 (.pointer none)
    rw [World.size_alloc] at this; exact hwa ▸ this
  have bA : Below w.heap.size w wa := hwa ▸ Below.alloc2 w _ _
  rw [hwa]
  clear hwa
  go_wp2_with (fail)
  go_at_call 30
  refine (HNW.out _).mono ?_
  rintro e w1 ⟨q, rfl, hq, b1⟩
  go_upto_region 3 with (fail)
  generalize hwb : World.alloc w1 _ = w2
  have d2 : Below w1.heap.size w1 w2 := hwb ▸ Below.alloc1 w1 _
  have b12 := Below.next b1 d2
  have U2 : Un w w.heap.size (w.heap.size + 1) w1.heap.size x q w2 := ⟨u2.next b12, bx_next u5 b12, hwb ▸ Boxed.new w1 _ _, hq.below d2, Below.next bA b12⟩
  clear hwb d2 b12 b1 hq u2 u5 bA
  have c0 := U2.x2.c0
  have c1 := U2.x2.c1
  have c2 := U2.x2.c2
  have c3 := U2.x2.c3
  have c4 := U2.x2.c4
  have c5 := U2.x2.c5
  have e5 := U2.x5.cell
  have e6 := U2.x6.cell
  go_wp2_with (fail)
  go_at_call 23
  refine (H1.out _ _).mono ?_
  rintro e w3 ⟨rfl, bb⟩
  have U3 := U2.next bb
  clear c0 c1 c2 c3 c4 c5 e5 e6
  clear bb U2
  have c0 := U3.x2.c0
  have c1 := U3.x2.c1
  have c2 := U3.x2.c2
  have c3 := U3.x2.c3
  have c4 := U3.x2.c4
  have c5 := U3.x2.c5
  have e5 := U3.x5.cell
  have e6 := U3.x6.cell
  go_wp2_with (fail)
  go_at_call 25
  refine (H2.out _ _ _ _).mono ?_
  rintro e w4 ⟨p1, rfl, bb⟩
  have U4 := U3.next bb
  clear c0 c1 c2 c3 c4 c5 e5 e6
  clear bb U3
  go_upto_region 5 with (fail)
  generalize hwb : World.alloc w4 _ = w5
  have U5 := U4.next (hwb ▸ Below.alloc1 w4 _)
  clear hwb U4
  have c0 := U5.x2.c0
  have c1 := U5.x2.c1
  have c2 := U5.x2.c2
  have c3 := U5.x2.c3
  have c4 := U5.x2.c4
  have c5 := U5.x2.c5
  have e5 := U5.x5.cell
  have e6 := U5.x6.cell
  go_wp2_with (fail)
  go_at_call 24
  refine (H3.out _ _ _ _ _).mono ?_
  rintro e w6 ⟨p2, rfl, bb⟩
  have U6 := U5.next bb
  clear c0 c1 c2 c3 c4 c5 e5 e6
  clear bb U5
  go_upto_region 6 with (fail)
  generalize hwb : World.alloc w6 _ = w7
  have U7 := U6.next (hwb ▸ Below.alloc1 w6 _)
  clear hwb U6
  have c0 := U7.x2.c0
  have c1 := U7.x2.c1
  have c2 := U7.x2.c2
  have c3 := U7.x2.c3
  have c4 := U7.x2.c4
  have c5 := U7.x2.c5
  have e5 := U7.x5.cell
  have e6 := U7.x6.cell
  go_wp2_with (fail)
  go_at_call 33
  refine (H4.out _ _ _ _).mono ?_
  rintro e w8 ⟨v1, rfl, bb⟩
  have U8 := U7.next bb
  clear c0 c1 c2 c3 c4 c5 e5 e6
  clear bb U7
  have c0 := U8.x2.c0
  have c1 := U8.x2.c1
  have c2 := U8.x2.c2
  have c3 := U8.x2.c3
  have c4 := U8.x2.c4
  have c5 := U8.x2.c5
  have e5 := U8.x5.cell
  have e6 := U8.x6.cell
  go_wp2_with (fail)
  go_at_call 28
  refine (H5.out _ _ _ _).mono ?_
  rintro e w9 ⟨rfl, bb⟩
  have U9 := U8.next bb
  clear c0 c1 c2 c3 c4 c5 e5 e6
  clear bb U8
  have c0 := U9.x2.c0
  have c1 := U9.x2.c1
  have c2 := U9.x2.c2
  have c3 := U9.x2.c3
  have c4 := U9.x2.c4
  have c5 := U9.x2.c5
  have e5 := U9.x5.cell
  have e6 := U9.x6.cell
  go_wp2_with (fail)
  go_at_call 34
  refine (H6.out _ _ U9.r).mono ?_
  rintro e w10 ⟨v2, rfl, bb⟩
  have U10 := U9.next bb
  clear c0 c1 c2 c3 c4 c5 e5 e6
  clear bb U9
  have c0 := U10.x2.c0
  have c1 := U10.x2.c1
  have c2 := U10.x2.c2
  have c3 := U10.x2.c3
  have c4 := U10.x2.c4
  have c5 := U10.x2.c5
  have e5 := U10.x5.cell
  have e6 := U10.x6.cell
  go_wp2_with (fail)
  go_at_call 34
  refine (H7.out _ _ U10.r).mono ?_
  rintro e w11 ⟨v3, rfl, bb⟩
  have U11 := U10.next bb
  clear c0 c1 c2 c3 c4 c5 e5 e6
  clear bb U10
  have c0 := U11.x2.c0
  have c1 := U11.x2.c1
  have c2 := U11.x2.c2
  have c3 := U11.x2.c3
  have c4 := U11.x2.c4
  have c5 := U11.x2.c5
  have e5 := U11.x5.cell
  have e6 := U11.x6.cell
  go_wp2_with (fail)
  go_at_call 35
  refine (H8.out _).mono ?_
  rintro e w12 ⟨p3, rfl, bb⟩
  have U12 := U11.next bb
  clear c0 c1 c2 c3 c4 c5 e5 e6
  clear bb U11
  go_upto_region 11 with (fail)
  generalize hwb : World.alloc w12 _ = w13
  have U13 := U12.next (hwb ▸ Below.alloc1 w12 _)
  clear hwb U12
  have c0 := U13.x2.c0
  have c1 := U13.x2.c1
  have c2 := U13.x2.c2
  have c3 := U13.x2.c3
  have c4 := U13.x2.c4
  have c5 := U13.x2.c5
  have e5 := U13.x5.cell
  have e6 := U13.x6.cell
  go_wp2_with (fail)
  go_at_call 44
  refine (HM.out _ none q q [] [(1, 0)] [(1, 0)] (Rep.none _) U13.r U13.r (.inl rfl) (.inr GO.out) (.inr GO.out) (.inl rfl)).mono ?_
  rintro e w14 ⟨p4, v4, rfl, bb⟩
  have U14 := U13.next bb
  clear c0 c1 c2 c3 c4 c5 e5 e6
  clear bb U13
  go_upto_region 12 with (fail)
  generalize hwb : World.alloc w14 _ = w15
  have U15 := U14.next (hwb ▸ Below.alloc1 w14 _)
  clear hwb U14
  have c0 := U15.x2.c0
  have c1 := U15.x2.c1
  have c2 := U15.x2.c2
  have c3 := U15.x2.c3
  have c4 := U15.x2.c4
  have c5 := U15.x2.c5
  have e5 := U15.x5.cell
  have e6 := U15.x6.cell
  go_wp2_with (fail)
  go_at_call 44
  refine (HM.out _ q none q [(1, 0)] [] [(1, 0)] U15.r (Rep.none _) U15.r (.inr GO.out) (.inl rfl) (.inr GO.out) (.inr (.inl rfl))).mono ?_
  rintro e w16 ⟨p5, v5, rfl, bb⟩
  have U16 := U15.next bb
  clear c0 c1 c2 c3 c4 c5 e5 e6
  clear bb U15
  go_upto_region 13 with (fail)
  generalize hwb : World.alloc w16 _ = w17
  have U17 := U16.next (hwb ▸ Below.alloc1 w16 _)
  clear hwb U16
  have c0 := U17.x2.c0
  have c1 := U17.x2.c1
  have c2 := U17.x2.c2
  have c3 := U17.x2.c3
  have c4 := U17.x2.c4
  have c5 := U17.x2.c5
  have e5 := U17.x5.cell
  have e6 := U17.x6.cell
  go_wp2_with (fail)
  go_at_call 44
  refine (HM.out _ q q none [(1, 0)] [(1, 0)] [] U17.r U17.r (Rep.none _) (.inr GO.out) (.inr GO.out) (.inl rfl) (.inr (.inr rfl))).mono ?_
  rintro e w18 ⟨p6, v6, rfl, bb⟩
  have U18 := U17.next bb
  clear c0 c1 c2 c3 c4 c5 e5 e6
  clear bb U17
  go_upto_region 14 with (fail)
  generalize hwb : World.alloc w18 _ = w19
  have U19 := U18.next (hwb ▸ Below.alloc1 w18 _)
  clear hwb U18
  have c0 := U19.x2.c0
  have c1 := U19.x2.c1
  have c2 := U19.x2.c2
  have c3 := U19.x2.c3
  have c4 := U19.x2.c4
  have c5 := U19.x2.c5
  have e5 := U19.x5.cell
  have e6 := U19.x6.cell
  go_wp2_with (fail)
  go_at_call 27
  refine (H12.out _ _ _).mono ?_
  rintro e w20 ⟨rfl, bb⟩
  have U20 := U19.next bb
  clear c0 c1 c2 c3 c4 c5 e5 e6
  clear bb U19
  go_upto_region 16 with (fail)
  have ho := fun (j : Nat) (h : j < 11) => ones w20 27 h
  generalize hwb : World.alloc w20 _ = w21 at *
  have U21 := U20.next (hwb ▸ Below.alloc1 w20 _)
  have HO := Lib.hid ho
  have hl : w20.heap.size < w21.heap.size := by rw [← hwb, World.size_alloc]; omega
  clear hwb U20 ho
  go_wp2_with (fail)
  go_loopw [162] (fun i W => ∃ k : Nat, k ≤ 11 ∧ i = .int .i64 k ∧ W = w21) (fun i _ => 11 - (intOf i).toNat)
  case atStart => exact ⟨0, by omega, rfl, rfl⟩
  case round =>
    obtain ⟨k, hk, rfl, rfl⟩ := hrel
    by_cases hlt : k < 11
    · have hc := HO.out k hlt
      have k1 : (k : Int) < 11 := by omega
      go_wp2_with (fail)
      go_roundw
      case rel =>
        exact ⟨k + 1, by omega, by go_num, by first | rfl | trivial⟩
      case measure => simp [intOf]; omega
    · obtain rfl : k = 11 := by omega
      have V0 := U21
      have e5 := V0.x5.cell
      go_wp2_with (fail)
      go_at_call 26
      refine (HSZ.out _).mono ?_
      rintro e z1 ⟨rfl, bb⟩
      have V1 := V0.next bb
      clear bb e5 V0
      have e5 := V1.x5.cell
      go_wp2_with (fail)
      go_at_call 43
      refine (HLE.out _).mono ?_
      rintro e z2 ⟨rfl, bb⟩
      have V2 := V1.next bb
      clear bb e5 V1
      have e5 := V2.x5.cell
      go_wp2_with (fail)
      go_at_call 36
      refine (HEQ.out _ none none [] [] (Rep.none _) (Rep.none _) (.inl rfl) (.inl rfl) true rfl).mono ?_
      rintro e z3 ⟨rfl, bb⟩
      have V3 := V2.next bb
      clear bb e5 V2
      have e5 := V3.x5.cell
      have e6 := V3.x6.cell
      go_wp2_with (fail)
      go_at_call 36
      refine (HEQ.out _ none q [] [(1, 0)] (Rep.none _) V3.r (.inl rfl) (.inr GO.out) false rfl).mono ?_
      rintro e z4 ⟨rfl, bb⟩
      have V4 := V3.next bb
      clear bb e5 e6 V3
      have e5 := V4.x5.cell
      have e6 := V4.x6.cell
      go_wp2_with (fail)
      go_at_call 36
      refine (HEQ.out _ q none [(1, 0)] [] V4.r (Rep.none _) (.inr GO.out) (.inl rfl) false rfl).mono ?_
      rintro e z5 ⟨rfl, bb⟩
      have V5 := V4.next bb
      clear bb e5 e6 V4
      go_wp2_with (fail)
      go_at_call 18
      refine (awake_any _).mono ?_
      rintro e z6 ⟨rfl, bb⟩
      have V6 := V5.next bb
      go_wp2_with (fail)
      go_ret
      exact ⟨rfl, V6.b⟩
end
section
open Go.ChangeShapes Go.WideShapes Go.ChangeAt Go.RowKit

theorem Try.cellsQueryU : Try.prog.cellsOf 51 = 6 := by kernel_rfl
set_option maxRecDepth 20000 in
/-- A question by value, read. -/
theorem open_query_u {H : Type} {enc : TypeId × Value → H} {w : World} {base b0 : Nat} {spare : Nat → Bool} {held : Bool} {r : Reach} {v : Value} {d : DataW H} {p : List MemPlace}
    (hv : Value.okWide Try.prog w r b0 51 v) (h : DataW.Trod enc Try.prog w base spare held 51 v d p) : ∃ x : Qy, v = queryV x ∧ x.k ≤ 9223372036854775807 := by
  obtain ⟨cs, rfl, hsz⟩ := okWide_struct Try.underlying51 hv
  obtain ⟨fuel, hf⟩ := h
  obtain ⟨l⟩ := cs
  rw [Try.cellsQueryU] at hsz
  have hl : l.length = 6 := hsz
  have hf : DataW.trod enc Try.prog w base spare held fuel 51 l = some (d, p) := by simpa [Value.cells] using hf
  obtain ⟨xs, k, hx, _, _, hxl, hf⟩ := DataW.trod_struct Try.underlying51 hf
  replace hxl : xs.length = 6 := hxl
  match xs, hxl, l, hl with
  | [y0, y1, y2, y3, y4, y5], _, [v0, v1, v2, v3, v4, v5], _ =>
    have g0 : DataW.trod enc Try.prog w base spare held k 3 [v0] = some y0 := by have g := hf 0 _ rfl; simpa [Try.cellsInt] using g
    have g1 : DataW.trod enc Try.prog w base spare held k 3 [v1] = some y1 := by have g := hf 1 _ rfl; simpa [Try.cellsInt] using g
    have g2 : DataW.trod enc Try.prog w base spare held k 3 [v2] = some y2 := by have g := hf 2 _ rfl; simpa [Try.cellsInt] using g
    have g3 : DataW.trod enc Try.prog w base spare held k 3 [v3] = some y3 := by have g := hf 3 _ rfl; simpa [Try.cellsInt] using g
    have g4 : DataW.trod enc Try.prog w base spare held k 3 [v4] = some y4 := by have g := hf 4 _ rfl; simpa [Try.cellsInt] using g
    have g5 : DataW.trod enc Try.prog w base spare held k 3 [v5] = some y5 := by have g := hf 5 _ rfl; simpa [Try.cellsInt] using g
    obtain ⟨z0, e0, _⟩ := DataW.trod_int Try.underlying3 g0
    obtain ⟨z1, e1, _⟩ := DataW.trod_int Try.underlying3 g1
    obtain ⟨z2, e2, _⟩ := DataW.trod_int Try.underlying3 g2
    obtain ⟨z3, e3, _⟩ := DataW.trod_int Try.underlying3 g3
    obtain ⟨z4, e4, _⟩ := DataW.trod_int Try.underlying3 g4
    obtain ⟨z5, e5, _, wk⟩ := DataW.trod_int Try.underlying3 g5
    simp only [List.cons.injEq, and_true] at e0 e1 e2 e3 e4 e5
    subst e0 e1 e2 e3 e4 e5
    have wk2 : IntKind.i64.min ≤ z5 ∧ z5 ≤ IntKind.i64.max := by simpa [Lit.wf] using wk
    exact ⟨⟨z0, z1, z2, z3, z4, z5⟩, rfl, wk2.2⟩
set_option maxRecDepth 100000 in
theorem spanUnusable_lifted (os : Os) (started : os.Started) (H : Type) (enc : TypeId × Value → H) :
    ReturnsInHanded {} Try.checked os 11 .any (Rows.spanUnusableSpec.pre6 enc Try.prog Try.f11 Rows.spanUnusableRow.domain false) (Rows.spanUnusableSpec.post enc Try.prog Try.f11 false true false false) := by
  refine returnsInHanded_of_change (C := Try.checked) Try.own started (by kernel_rfl) Try.func11
    (ChangeSpec.witness6 (enc := enc) (C := Try.checked) false ⟨#[], #[.agg #[.int .i64 0, .int .i64 0, .int .i64 0, .int .i64 0, .int .i64 0, .int .i64 0], .slice none 0 0], []⟩ 8 (by kernel_rfl) (by kernel_rfl) (by kernel_rfl) (by kernel_rfl)) ?_
  intro W base args ds gs before hval0 hW _ _
  have hval : ∀ (j : Nat) t v, Try.f11.params[j]? = some t → args[j]? = some v → Value.okWide Try.prog W .any base t v := hval0
  have hW' := hW
  obtain ⟨p, q, hA0, hV, rfl, _, _⟩ := hW
  have hA : DataW.TrodAll enc Try.prog W 0 (fun _ => true) true Try.f11.params.toList args.toList ds p := hA0
  rw [Try.params11] at hA hval
  obtain ⟨v0, v1, d0, d1, p0, p1, rfl, rfl, rfl, h0, h1⟩ := trodAll_two hA
  obtain ⟨rfl, rfl⟩ := trodVars_none hV
  obtain ⟨x, rfl, hxk⟩ := open_query_u (hval 0 51 v0 rfl rfl) h0
  obtain ⟨B, len, d, rfl⟩ := okWide_slice Try.underlying68 (hval 1 68 v1 rfl rfl)
  clear hA0 hval0
  have hlt0 : ∀ x ∈ p0, x.block < W.heap.size := fun x hx => hW'.lt x (by simp [hx])
  have hlt1 : ∀ x ∈ p1, x.block < W.heap.size := fun x hx => hW'.lt x (by simp [hx])
  try simp only [List.append_nil, List.nil_append, List.append_assoc] at hW'
  refine (spanUnusable_any W x B len d).mono fun e W' ⟨he, hb⟩ => ?_
  subst he
  have hT := trodAll_mk2 (enc := enc) (base := 0) (spare := fun b => decide (b < W.heap.size)) (held := true) (Below.trod Try.laidOut (by kernel_rfl) (of_decide_eq_true (by kernel_rfl)) h0 hb hlt0) (Below.trod Try.laidOut (by kernel_rfl) (of_decide_eq_true (by kernel_rfl)) h1 hb hlt1)
  try simp only [List.append_nil, List.nil_append, List.append_assoc] at hT
  exact ⟨_, rfl, _, _, _, [], _, [], hW', trodAll_mk1 (shut_bool Try.underlying4 true), hT, rfl, hb.frame _, fun h => by cases h⟩

theorem spanUnusable_holds : Rows.SpanUnusableSaid :=
  OpenClaim.holds_of_wide 11 Try.f11 rfl rfl rfl rfl rfl rfl rfl ⟨rfl, rfl, rfl, rfl, rfl⟩ rfl rfl rfl rfl rfl (by kernel_rfl) Try.func11 (by kernel_rfl)
    (of_decide_eq_true (by kernel_rfl)) (by unfold Func.isWrapper; rw [if_neg (by decide +kernel)]; exact ⟨rfl, rfl⟩)
    (fun os started H enc _ => spanUnusable_lifted os started H enc)
#print axioms spanUnusable_holds
end
end Go.Proofs.Ytfmplibjhohpgaa
