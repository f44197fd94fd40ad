/- The walk over SpanLooks. -/
import Derived.Test.YtfmplibjhohpgaaSpRefAsk
import Derived.Test.YtfmplibjhohpgaaSpPlayed
import Derived.Test.YtfmplibjhohpgaaSpFinds
namespace Go.Proofs.Ytfmplibjhohpgaa
open Go.RowKit Go.Shelf
attribute [local go_sem ↓] run_max run_min

set_option maxRecDepth 100000 in
set_option maxHeartbeats 400000 in
theorem looks_many (w : World) (size : Int) (A : Option Addr) (m c : Nat) (x : Qy) (hl : ¬ (m : Int) ≤ 60) :
    Calls Try.prog 9 #[.int .i64 size, .slice A m c, queryV x] w (FromsPost w) := by
  have HL := Lib.hid hl
  clear hl
  go_enter Try.func9, Try.ntmps9
  go_wp2_with (fail)
  go_at_call 29
  refine (lfew_no _ A m c (by have := HL.out; omega)).mono ?_
  rintro e w' ⟨rfl, rfl⟩
  go_wp2_with (fail)
  go_at_call 18
  refine (awake_any _).mono ?_
  rintro e w2 ⟨rfl, b2⟩
  go_wp2_with (fail)
  go_ret
  exact ⟨rfl, Below.next (Below.alloc1 _ _) b2⟩
set_option maxRecDepth 100000 in
set_option maxHeartbeats 4000000 in
theorem looks_few (w : World) (size : Int) (A : Option Addr) (l : List Ac) (m c : Nat) (x : Qy) (hm : l.length = m) (hA : Acts w A l) (hlc : m ≤ c) (hl : (m : Int) ≤ 60) (hk : x.k ≤ 9223372036854775807) :
    Calls Try.prog 9 #[.int .i64 size, .slice A m c, queryV x] w (FromsPost w) := by
  have hM := moreL_good l (newR_good size)
  have hpl : ∀ W, Below w.heap.size w W → Calls Try.prog 37 #[.int .i64 size, .slice A m c] W (DoPost W (moreL (newR size).2 l)) := fun W hW => played_any W size A l m c hm (hA.below hW) hlc (by omega)
  generalize moreL (newR size).2 l = M at *
  have HPL := Lib.hid hpl
  have HM := Lib.hid hM
  have HL := Lib.hid hl
  clear hpl hM hl hA hm
  go_enter Try.func9, Try.ntmps9
  go_upto_region 1 with (fail)
  generalize hwa : World.alloc w _ = wa
  have xa : BoxQ wa w.heap.size x := hwa ▸ BoxQ.new w x
  have hBa : Below w.heap.size w wa := hwa ▸ Below.alloc1 w _
  clear hwa
  go_wp2_with (fail)
  go_at_call 29
  refine (lfew_yes _ A m c HL.out).mono ?_
  rintro e w' ⟨rfl, rfl⟩
  go_wp2_with (fail)
  go_at_call 37
  refine (HPL.out _ hBa).mono ?_
  rintro e w1 ⟨p, B, d, rfl, hp, hR, hd, b1⟩
  have x1 := xa.next b1
  have hB1 := Below.next hBa b1
  clear b1 xa hBa
  go_upto_region 4 with (fail)
  obtain ⟨wb, hwb⟩ : ∃ wb, (w1.alloc (.cells #[.pointer p] 26)).alloc (.cells #[.int .i64 (Tr.total M), .slice B M.length d] 31) = wb := ⟨_, rfl⟩
  have y0 : Boxed wb w1.heap.size 26 (.pointer p) := hwb ▸ bx_next (Boxed.new w1 _ _) (Below.alloc1 _ _)
  have z0 : BoxM wb (w1.heap.size + 1) (Tr.total M) (.slice B M.length d) := by
    have := BoxM.new (w1.alloc (.cells #[.pointer p] 26)) (Tr.total M) (.slice B M.length d)
    rw [World.size_alloc] at this; exact hwb ▸ this
  have db : Below w1.heap.size w1 wb := hwb ▸ Below.alloc2 w1 _ _
  have x0 := x1.next db
  have hB0 := Below.next hB1 db
  have hp0 := hp.below db
  have hR0 := (hR.below db).1
  rw [hwb]
  clear hwb db x1 hB1 hp hR
  have hge : ∀ W, Below wb.heap.size wb W → Calls Try.prog 23 #[.agg #[.pointer p], .int .i64 x.at_] W fun e w' => e = .returned (.tuple #[.int .i64 (getR M x.at_).1, .int .i64 (getR M x.at_).2]) ∧ Below W.heap.size W w' := fun W hW => get_any W p M x.at_ (hp0.below hW)
  have hrge : ∀ W, Below wb.heap.size wb W → Calls Try.prog 38 #[.agg #[.int .i64 (Tr.total M), .slice B M.length d], .int .i64 x.at_] W fun e w' => e = .returned (.tuple #[.int .i64 (getR M x.at_).1, .int .i64 (getR M x.at_).2]) ∧ Below W.heap.size W w' := fun W hW => rget_any W B d x.at_ M HM.out (hR0.below hW) hd
  have hco : ∀ W, Below wb.heap.size wb W → Calls Try.prog 28 #[.agg #[.pointer p], .int .i64 x.lo, .int .i64 x.hi, .int .i64 x.tag] W fun e w' => e = .returned (.tuple #[.int .i64 (countR M x.lo x.hi x.tag).1, .int .i64 (countR M x.lo x.hi x.tag).2]) ∧ Below W.heap.size W w' := fun W hW => count_any W p M _ _ _ (hp0.below hW)
  have hrco : ∀ W, Below wb.heap.size wb W → Calls Try.prog 40 #[.agg #[.int .i64 (Tr.total M), .slice B M.length d], .int .i64 x.lo, .int .i64 x.hi, .int .i64 x.tag] W fun e w' => e = .returned (.tuple #[.int .i64 (countR M x.lo x.hi x.tag).1, .int .i64 (countR M x.lo x.hi x.tag).2]) ∧ Below W.heap.size W w' := fun W hW => rcount_any W B d _ _ _ M HM.out (hR0.below hW) hd
  have hfi : ∀ W, Below wb.heap.size wb W → Calls Try.prog 27 #[.agg #[.pointer p], .int .i64 x.tag, .int .i64 x.k] W fun e w' => e = .returned (.tuple #[.int .i64 (findR M x.tag x.k).1, .bool (findR M x.tag x.k).2]) ∧ Below W.heap.size W w' := fun W hW => find_any W p M _ _ (hp0.below hW)
  have hrfi : ∀ W, Below wb.heap.size wb W → Calls Try.prog 41 #[.agg #[.int .i64 (Tr.total M), .slice B M.length d], .int .i64 x.tag, .int .i64 x.k] W fun e w' => e = .returned (.tuple #[.int .i64 (findR M x.tag x.k).1, .bool (findR M x.tag x.k).2]) ∧ Below W.heap.size W w' := fun W hW => rfind_any W B d _ _ hk M HM.out (hR0.below hW) hd
  obtain ⟨U, hU⟩ : ∃ U, (if rangesR M x.lo x.hi = 0 then clipL x.lo x.hi 0 M else []) = U := ⟨_, rfl⟩
  have hUl : (U.length : Int) ≤ 4096 := by
    rw [← hU]
    rcases HM.out with e | g
    · rw [e]; unfold rangesR; rw [if_pos rfl, if_neg (by decide)]; simp
    · have := clipL_length x.lo x.hi 0 M
      have := g.2.2.2.2
      split <;> simp <;> omega
  have hV : (runsR M x.lo x.hi x.most).1 = U.take x.most.toNat ∧ (runsR M x.lo x.hi x.most).2 = rangesR M x.lo x.hi := by
    rw [← hU]
    unfold runsR
    by_cases e : rangesR M x.lo x.hi = 0
    · rw [if_pos e, if_pos e, e]; exact ⟨rfl, rfl⟩
    · rw [if_neg e, if_neg e]; simp
  obtain ⟨h, hh⟩ : ∃ h : Nat, max 0 (min (U.length : Int) x.most) = (h : Int) := ⟨(max 0 (min (U.length : Int) x.most)).toNat, by omega⟩
  have hV1 : U.take x.most.toNat = U.take h := by
    rw [List.take_eq_take_iff]; omega
  have hVl : (U.take h).length = h := by rw [List.length_take]; omega
  have hhU : h ≤ U.length := by omega
  have hru : ∀ W, Below wb.heap.size wb W → Calls Try.prog 33 #[.agg #[.pointer p], .int .i64 x.lo, .int .i64 x.hi, .int .i64 x.most] W fun e w' => ∃ C f, e = .returned (.tuple #[.slice C h f, .int .i64 (rangesR M x.lo x.hi)]) ∧ Runs w' C (U.take h) ∧ h ≤ f ∧ Below W.heap.size W w' := fun W hW => by
    have := runs_any W p M x.lo x.hi x.most (hp0.below hW)
    rw [hV.1, hV.2, hV1] at this
    refine this.mono fun e w' ⟨v, k1, k2, k3⟩ => ?_
    obtain ⟨C, f, rfl, k4, k5⟩ := k2.runs
    rw [hVl] at k1 k4
    exact ⟨C, f, k1, k5, k4, k3⟩
  have hrru : ∀ W, Below wb.heap.size wb W → Calls Try.prog 39 #[.agg #[.int .i64 (Tr.total M), .slice B M.length d], .int .i64 x.lo, .int .i64 x.hi] W fun e w' => ∃ C f, e = .returned (.tuple #[.slice C U.length f, .int .i64 (rangesR M x.lo x.hi)]) ∧ Runs w' C U ∧ U.length ≤ f ∧ Below W.heap.size W w' := fun W hW => by
    have := rruns_any W B d x.lo x.hi M HM.out (hR0.below hW) hd
    rw [hU] at this
    refine this.mono fun e w' ⟨C, f, k1, k2, k3, k4⟩ => ?_
    exact ⟨C, f, k1, k2.toRuns, k3, k4⟩
  obtain ⟨n2, hn2⟩ : ∃ n, U.length = n := ⟨_, rfl⟩
  rw [hn2] at hrru hh hhU hUl
  generalize hg1 : (getR M x.at_).1 = t1 at *
  generalize hg2 : (getR M x.at_).2 = t2 at *
  generalize hc1 : (countR M x.lo x.hi x.tag).1 = t3 at *
  generalize hc2 : (countR M x.lo x.hi x.tag).2 = t4 at *
  generalize hf1 : (findR M x.tag x.k).1 = t5 at *
  generalize hf2 : (findR M x.tag x.k).2 = t6 at *
  generalize hrr : rangesR M x.lo x.hi = t7 at *
  have HGE := Lib.hid hge
  have HRGE := Lib.hid hrge
  have HCO := Lib.hid hco
  have HRCO := Lib.hid hrco
  have HFI := Lib.hid hfi
  have HRFI := Lib.hid hrfi
  have HRU := Lib.hid hru
  have HRRU := Lib.hid hrru
  have HVL := Lib.hid hVl
  have HN2 := Lib.hid hn2
  have HU := Lib.hid hU
  clear hge hrge hco hrco hfi hrfi hru hrru hV hV1 hVl hn2 hU hp0 hR0 hg1 hg2 hc1 hc2 hf1 hf2 hrr hd hk
  have v0 : Below wb.heap.size wb wb := Below.refl _ _
  have c7 := y0.cell
  have c80 := z0.c0
  have c81 := z0.c1
  have a0 := x0.c0
  have a1 := x0.c1
  have a2 := x0.c2
  have a3 := x0.c3
  have a4 := x0.c4
  have a5 := x0.c5
  go_wp2_with (fail)
  go_at_call 23
  refine (HGE.out _ v0).mono ?_
  rintro e q1 ⟨rfl, b1⟩
  have x1 := x0.next b1
  have y1 := bx_next y0 b1
  have z1 := z0.next b1
  have v1 := Below.next v0 b1
  clear x0 y0 z0 c7 c80 c81 a0 a1 a2 a3 a4 a5
  have c7 := y1.cell
  have c80 := z1.c0
  have c81 := z1.c1
  have a0 := x1.c0
  have a1 := x1.c1
  have a2 := x1.c2
  have a3 := x1.c3
  have a4 := x1.c4
  have a5 := x1.c5
  go_wp2_with (fail)
  go_at_call 38
  refine (HRGE.out _ v1).mono ?_
  rintro e q2 ⟨rfl, b2⟩
  have x2 := x1.next b2
  have y2 := bx_next y1 b2
  have z2 := z1.next b2
  have v2 := Below.next v1 b2
  clear x1 y1 z1 c7 c80 c81 a0 a1 a2 a3 a4 a5
  have c7 := y2.cell
  have c80 := z2.c0
  have c81 := z2.c1
  have a0 := x2.c0
  have a1 := x2.c1
  have a2 := x2.c2
  have a3 := x2.c3
  have a4 := x2.c4
  have a5 := x2.c5
  go_wp2_with (fail)
  go_at_call 33
  refine (HRU.out _ v2).mono ?_
  rintro e q3 ⟨C1, f1, rfl, hC1, hf1, b3⟩
  have x3 := x2.next b3
  have y3 := bx_next y2 b3
  have z3 := z2.next b3
  have v3 := Below.next v2 b3
  clear x2 y2 z2 c7 c80 c81 a0 a1 a2 a3 a4 a5
  have c7 := y3.cell
  have c80 := z3.c0
  have c81 := z3.c1
  have a0 := x3.c0
  have a1 := x3.c1
  have a2 := x3.c2
  have a3 := x3.c3
  have a4 := x3.c4
  have a5 := x3.c5
  go_wp2_with (fail)
  go_at_call 39
  refine (HRRU.out _ v3).mono ?_
  rintro e q4 ⟨C2, f2, rfl, hC2, hf2, b4⟩
  have x4 := x3.next b4
  have y4 := bx_next y3 b4
  have z4 := z3.next b4
  have v4 := Below.next v3 b4
  clear x3 y3 z3 c7 c80 c81 a0 a1 a2 a3 a4 a5
  have c7 := y4.cell
  have c80 := z4.c0
  have c81 := z4.c1
  have a0 := x4.c0
  have a1 := x4.c1
  have a2 := x4.c2
  have a3 := x4.c3
  have a4 := x4.c4
  have a5 := x4.c5
  have hC1 := hC1.below b4
  go_wp2_with (fail)
  go_at_call 28
  refine (HCO.out _ v4).mono ?_
  rintro e q5 ⟨rfl, b5⟩
  have x5 := x4.next b5
  have y5 := bx_next y4 b5
  have z5 := z4.next b5
  have v5 := Below.next v4 b5
  clear x4 y4 z4 c7 c80 c81 a0 a1 a2 a3 a4 a5
  have c7 := y5.cell
  have c80 := z5.c0
  have c81 := z5.c1
  have a0 := x5.c0
  have a1 := x5.c1
  have a2 := x5.c2
  have a3 := x5.c3
  have a4 := x5.c4
  have a5 := x5.c5
  have hC1 := hC1.below b5
  have hC2 := hC2.below b5
  go_wp2_with (fail)
  go_at_call 40
  refine (HRCO.out _ v5).mono ?_
  rintro e q6 ⟨rfl, b6⟩
  have x6 := x5.next b6
  have y6 := bx_next y5 b6
  have z6 := z5.next b6
  have v6 := Below.next v5 b6
  clear x5 y5 z5 c7 c80 c81 a0 a1 a2 a3 a4 a5
  have c7 := y6.cell
  have c80 := z6.c0
  have c81 := z6.c1
  have a0 := x6.c0
  have a1 := x6.c1
  have a2 := x6.c2
  have a3 := x6.c3
  have a4 := x6.c4
  have a5 := x6.c5
  have hC1 := hC1.below b6
  have hC2 := hC2.below b6
  go_wp2_with (fail)
  go_at_call 27
  refine (HFI.out _ v6).mono ?_
  rintro e q7 ⟨rfl, b7⟩
  have x7 := x6.next b7
  have y7 := bx_next y6 b7
  have z7 := z6.next b7
  have v7 := Below.next v6 b7
  clear x6 y6 z6 c7 c80 c81 a0 a1 a2 a3 a4 a5
  have c7 := y7.cell
  have c80 := z7.c0
  have c81 := z7.c1
  have a0 := x7.c0
  have a1 := x7.c1
  have a2 := x7.c2
  have a3 := x7.c3
  have a4 := x7.c4
  have a5 := x7.c5
  have hC1 := hC1.below b7
  have hC2 := hC2.below b7
  go_wp2_with (fail)
  go_at_call 41
  refine (HRFI.out _ v7).mono ?_
  rintro e q8 ⟨rfl, b8⟩
  have x8 := x7.next b8
  have y8 := bx_next y7 b8
  have z8 := z7.next b8
  have v8 := Below.next v7 b8
  clear x7 y7 z7 c7 c80 c81 a0 a1 a2 a3 a4 a5
  have c7 := y8.cell
  have c80 := z8.c0
  have c81 := z8.c1
  have a0 := x8.c0
  have a1 := x8.c1
  have a2 := x8.c2
  have a3 := x8.c3
  have a4 := x8.c4
  have a5 := x8.c5
  have hC1 := hC1.below b8
  have hC2 := hC2.below b8
  have h0 : (0 : Int) ≤ (h : Int) := by omega
  have h1 : (h : Int) ≤ (f2 : Int) := by omega
  have hT := hC2.take h
  have HAL := Lib.hid (alike_same (U.take h) C1 C2 f1 f2 q8 hC1 hT (by rw [HVL.out]; exact hf1) (by rw [HVL.out]; omega) (by rw [HVL.out]; omega))
  rw [HVL.out] at HAL
  go_wp2_with (first | (refine wpList_max rfl _ _ _ rfl _ _ rfl rfl ?_) | (refine wpList_min rfl _ _ _ rfl _ _ rfl rfl ?_))
  go_at_call 42
  refine HAL.out.mono ?_
  rintro e q9 ⟨rfl, hq⟩
  go_wp2_with (fail)
  go_at_call 18
  refine (awake_any _).mono ?_
  rintro e wz ⟨rfl, bz⟩
  go_wp2_with (fail)
  go_ret
  exact ⟨rfl, Below.next (Below.next (Below.next hB0 v8) (hq.below _)) bz⟩
/-- SpanLooks answers true. -/
theorem spanLooks_any (w : World) (size : Int) (A : Option Addr) (l : List Ac) (c : Nat) (x : Qy) (hA : Acts w A l) (hlc : l.length ≤ c) (hk : x.k ≤ 9223372036854775807) :
    Calls Try.prog 9 #[.int .i64 size, .slice A l.length c, queryV x] w (FromsPost w) := by
  by_cases h : (l.length : Int) ≤ 60
  · exact looks_few w size A l l.length c x rfl hA hlc h hk
  · exact looks_many w size A l.length c x h
end Go.Proofs.Ytfmplibjhohpgaa
