/- The walks over Get, Runs, Count and Find of the reference. -/
import Derived.Test.YtfmplibjhohpgaaSpLaws
import Derived.Test.YtfmplibjhohpgaaSpRefSwap
import Derived.Test.YtfmplibjhohpgaaSpGet
namespace Go.Proofs.Ytfmplibjhohpgaa
open Go.RowKit Go.Shelf
attribute [local go_sem ↓] run_max run_min

set_option maxRecDepth 100000 in
set_option maxHeartbeats 2000000 in
theorem rget_some (w : World) (size : Int) (a : Addr) (n c : Nat) (at_ : Int) (L : List (Int × Int)) (g : Good L) (hR : Runs w (some a) (lay 0 L)) (hn : L.length = n) (hnc : n ≤ c) :
    Calls Try.prog 38 #[.agg #[.int .i64 size, .slice (some a) n c], .int .i64 at_] w fun e w' => e = .returned (.tuple #[.int .i64 (getR L at_).1, .int .i64 (getR L at_).2]) ∧ Below w.heap.size w w' := by
  have hp : 0 < n := by rw [← hn]; exact List.length_pos_iff.2 g.1
  have hm := g.2.2.2.2
  have hus : ∀ W, Calls Try.prog 55 #[.agg #[.int .i64 size, .slice (some a) n c]] W fun e w' => e = .returned (.bool true) ∧ Below W.heap.size W w' := fun W => by
    have := usable_any size (some a) n c W (by omega)
    rw [show decide (0 < n) = true from by simp; omega] at this
    exact this
  have hgr : getR L at_ = if at_ < 0 ∨ Tr.total L ≤ at_ then (0, 3) else (atL L at_, 0) := by unfold getR; rw [if_neg g.1]
  have hmn : (n : Int) ≤ 4096 := by omega
  obtain ⟨r1, r2⟩ : ∃ r1 : Int, ∃ r2 : Int, getR L at_ = (r1, r2) := ⟨_, _, rfl⟩
  obtain ⟨r2, hr⟩ := r2
  rw [hr] at hgr ⊢
  have HGR := Lib.hid hgr
  have HUS := Lib.hid hus
  have HG := Lib.hid g
  have HN := Lib.hid hn
  have HR := Lib.hid hR
  clear hgr hus g hn hR hr hm
  dsimp only
  go_enter Try.func38, Try.ntmps38
  go_upto_region 1 with (fail)
  generalize hwa : World.alloc w _ = wa
  have x2 : BoxM wa w.heap.size size (.slice (some a) n c) := hwa ▸ BoxM.new w _ _
  have hBa : Below w.heap.size w wa := hwa ▸ Below.alloc1 w _
  clear hwa
  have c0 := x2.c0
  have c1 := x2.c1
  go_wp2_with (fail)
  go_at_call 55
  refine (HUS.out _).mono ?_
  rintro e w1 ⟨rfl, b1⟩
  have y2 := x2.next b1
  have hB1 := Below.next hBa b1
  clear b1 x2 hBa c0 c1
  have c0 := y2.c0
  have c1 := y2.c1
  have y2l := y2.lt
  go_wp2_with (fail)
  go_loopw [6] (fun i W => ∃ k : Nat, k ≤ n ∧ i = .int .i64 k ∧ W = w1 ∧ Hid (at_ < 0 ∨ Tr.total (L.take k) ≤ at_)) (fun i _ => n - (intOf i).toNat)
  case atStart => exact ⟨0, Nat.zero_le _, rfl, rfl, by show _ ∨ _; rw [List.take_zero, Tr.total_nil]; omega⟩
  case round =>
    obtain ⟨k, hk, rfl, rfl, hS⟩ := hrel
    by_cases hlt : k < n
    · have k1 : (k : Int) < (n : Int) := by omega
      have hkl : k < L.length := by rw [HN.out]; exact hlt
      have hkv : k < (lay 0 L).length := by rw [lay_length]; exact hkl
      obtain ⟨hab, hx⟩ := (HR.out.below hB1).at_ hkv
      rw [lay_get L 0 k hkv hkl, Int.zero_add] at hx
      obtain ⟨g0, g1, g2⟩ := hx
      have hst := total_take_succ hkl
      have tn := total_nonneg (OkL.take_ HG.out.2.1 k)
      have hx1 := take_ok HG.out.2.1 hkl
      have tle : Tr.total (L.take k) + L[k].1 ≤ Tr.total L := by
        have e : L = L.take (k + 1) ++ L.drop (k + 1) := (List.take_append_drop _ _).symm
        have o2 := HG.out.2.1
        rw [e] at o2
        have t2 := total_nonneg (Tr.OkL.append.1 o2).2
        have t : Tr.total L = Tr.total (L.take (k + 1)) + Tr.total (L.drop (k + 1)) := by rw [← Tr.total_append, List.take_append_drop]
        omega
      have hat : Hid (Tr.total (L.take k) ≤ at_ → at_ < Tr.total (L.take k) + L[k].1 → atL L at_ = L[k].2) := fun h0 h1 => atL_take HG.out.2.1 hkl h0 h1
      dsimp only at g0 g1 g2
      generalize L[k] = X at *
      generalize Tr.total (L.take k) = S at *
      by_cases d0 : S ≤ at_
      · by_cases d1 : at_ < S + X.1
        · have hr := HGR.out
          rw [if_neg (by omega), hat.out d0 d1] at hr
          simp only [Prod.mk.injEq] at hr
          obtain ⟨rfl, rfl⟩ := hr
          go_wp2_with (fail)
          go_ret2
          exact ⟨rfl, hB1⟩
        · have d1' : decide (at_ < S + X.1) = false := by simpa using d1
          go_wp2_with (fail)
          exact ⟨⟨k + 1, by omega, by go_num, by first | rfl | trivial, .inr (by omega)⟩, by simp [intOf]; omega⟩
      · have d0' : decide (S ≤ at_) = false := by simpa using d0
        have dn : at_ < 0 := by have := hS.out; omega
        go_wp2_with (fail)
        exact ⟨⟨k + 1, by omega, by go_num, by first | rfl | trivial, .inl dn⟩, by simp [intOf]; omega⟩
    · obtain rfl : k = n := by omega
      have hr := HGR.out
      have hS2 := hS.out
      rw [List.take_of_length_le (by rw [HN.out]; exact Nat.le_refl _)] at hS2
      rw [if_pos hS2] at hr
      simp only [Prod.mk.injEq] at hr
      obtain ⟨rfl, rfl⟩ := hr
      go_wp2_with (fail)
      go_ret2
      exact ⟨rfl, hB1⟩
set_option maxRecDepth 100000 in
set_option maxHeartbeats 2000000 in
theorem rget_none (w : World) (A : Option Addr) (c : Nat) (at_ : Int) :
    Calls Try.prog 38 #[.agg #[.int .i64 0, .slice A 0 c], .int .i64 at_] w fun e w' => e = .returned (.tuple #[.int .i64 0, .int .i64 1]) ∧ Below w.heap.size w w' := by
  go_enter Try.func38, Try.ntmps38
  go_wp2_with (fail)
  go_at_call 55
  refine (usable_any 0 A 0 c _ (by omega)).mono ?_
  rintro e w1 ⟨rfl, b1⟩
  go_wp2_with (fail)
  go_ret2
  exact ⟨rfl, Below.next (Below.alloc1 _ _) b1⟩
theorem some_of_runs {w : World} {A : Option Addr} {L : List (Int × Int)} (hl : L ≠ []) (hR : Runs w A (lay 0 L)) : ∃ a, A = some a := by
  rcases hR with hh | ⟨a, hh, _⟩
  · exfalso
    have := congrArg List.length hh
    rw [lay_length] at this
    simp at this
    exact hl this
  · exact ⟨a, hh⟩
theorem rget_any (w : World) (A : Option Addr) (c : Nat) (at_ : Int) (L : List (Int × Int)) (hL : L = [] ∨ Good L) (hR : Runs w A (lay 0 L)) (hnc : L.length ≤ c) :
    Calls Try.prog 38 #[.agg #[.int .i64 (Tr.total L), .slice A L.length c], .int .i64 at_] w fun e w' => e = .returned (.tuple #[.int .i64 (getR L at_).1, .int .i64 (getR L at_).2]) ∧ Below w.heap.size w w' := by
  rcases hL with rfl | g
  · have e : getR [] at_ = (0, 1) := by unfold getR; rw [if_pos rfl]
    rw [e]; exact rget_none w A c at_
  · obtain ⟨a, rfl⟩ := some_of_runs g.1 hR
    exact rget_some w _ a _ c at_ L g hR rfl hnc
/-- What Runs of the reference returns: all runs of the range. -/
def RRunsPost (w : World) (V : List Rn) (err : Int) (e : Ending) (w' : World) : Prop :=
  ∃ A c, e = .returned (.tuple #[.slice A V.length c, .int .i64 err]) ∧ OwnRuns w' w.heap.size (.slice A V.length c) V ∧ V.length ≤ c ∧ Below w.heap.size w w'
set_option maxRecDepth 100000 in
set_option maxHeartbeats 2000000 in
theorem rruns_none (w : World) (A : Option Addr) (c : Nat) (lo hi : Int) :
    Calls Try.prog 39 #[.agg #[.int .i64 0, .slice A 0 c], .int .i64 lo, .int .i64 hi] w (RRunsPost w [] 1) := by
  go_enter Try.func39, Try.ntmps39
  go_wp2_with (fail)
  go_at_call 55
  refine (usable_any 0 A 0 c _ (by omega)).mono ?_
  rintro e w1 ⟨rfl, b1⟩
  go_wp2_with (fail)
  go_ret2
  exact ⟨none, 0, rfl, World.ownsRow_nil _ _ _ _, Nat.le_refl _, Below.next (Below.alloc1 _ _) b1⟩
set_option maxRecDepth 100000 in
set_option maxHeartbeats 2000000 in
theorem rruns_range (w : World) (size : Int) (A : Option Addr) (n c : Nat) (lo hi : Int) (hn : (n : Int) ≤ 4096) (hz : 0 < n) (h : lo < 0 ∨ hi < lo ∨ size < hi) :
    Calls Try.prog 39 #[.agg #[.int .i64 size, .slice A n c], .int .i64 lo, .int .i64 hi] w (RRunsPost w [] 3) := by
  have hus : ∀ W, Calls Try.prog 55 #[.agg #[.int .i64 size, .slice A n c]] W fun e w' => e = .returned (.bool true) ∧ Below W.heap.size W w' := fun W => by
    have := usable_any size A n c W (by omega)
    rw [show decide (0 < n) = true from by simp; omega] at this
    exact this
  have hva : ∀ W, Calls Try.prog 71 #[.agg #[.int .i64 size, .slice A n c], .int .i64 lo, .int .i64 hi] W fun e w' => e = .returned (.bool false) ∧ Below W.heap.size W w' := fun W => valid_no size A n c lo hi W h
  have HUS := Lib.hid hus
  have HVA := Lib.hid hva
  clear hus hva h
  go_enter Try.func39, Try.ntmps39
  go_upto_region 1 with (fail)
  generalize hwa : World.alloc w _ = wa
  have x3 : BoxM wa w.heap.size size (.slice A n c) := hwa ▸ BoxM.new w _ _
  have hBa : Below w.heap.size w wa := hwa ▸ Below.alloc1 w _
  clear hwa
  have c0 := x3.c0
  have c1 := x3.c1
  go_wp2_with (fail)
  go_at_call 55
  refine (HUS.out _).mono ?_
  rintro e w1 ⟨rfl, b1⟩
  have y3 := x3.next b1
  have hB1 := Below.next hBa b1
  clear b1 x3 hBa c0 c1
  have c0 := y3.c0
  have c1 := y3.c1
  go_wp2_with (fail)
  go_at_call 71
  refine (HVA.out _).mono ?_
  rintro e w2 ⟨rfl, b2⟩
  go_wp2_with (fail)
  go_ret2
  exact ⟨none, 0, rfl, World.ownsRow_nil _ _ _ _, Nat.le_refl _, Below.next hB1 b2⟩
set_option maxRecDepth 100000 in
set_option maxHeartbeats 4000000 in
theorem rruns_good (w : World) (size : Int) (a : Addr) (n c : Nat) (lo hi : Int) (hn : (n : Int) ≤ 4096) (hz : 0 < n) (h0 : 0 ≤ lo) (h1 : lo ≤ hi) (h2 : hi ≤ size)
    (V : List Rn) (hV : V.length = n) (hR : Runs w (some a) V) (hnc : n ≤ c) (U : List Rn) (hU : Hid (rrunsL lo hi V = U)) :
    Calls Try.prog 39 #[.agg #[.int .i64 size, .slice (some a) n c], .int .i64 lo, .int .i64 hi] w (RRunsPost w U 0) := by
  have hus : ∀ W, Calls Try.prog 55 #[.agg #[.int .i64 size, .slice (some a) n c]] W fun e w' => e = .returned (.bool true) ∧ Below W.heap.size W w' := fun W => by
    have := usable_any size (some a) n c W (by omega)
    rw [show decide (0 < n) = true from by simp; omega] at this
    exact this
  have hva : ∀ W, Calls Try.prog 71 #[.agg #[.int .i64 size, .slice (some a) n c], .int .i64 lo, .int .i64 hi] W fun e w' => e = .returned (.bool true) ∧ Below W.heap.size W w' := fun W => valid_yes size (some a) n c lo hi W h0 h1 h2
  have hlen : ∀ k, k ≤ n → (rrunsL lo hi (V.take k)).length ≤ k := by
    intro k
    induction k with
    | zero => intro _; simp [rrunsL]
    | succ k ih =>
      intro hk
      have := ih (by omega)
      have hkl : k < V.length := by omega
      rw [List.take_succ_eq_append_getElem hkl, rrunsL_snoc]
      have := joinRn_length (rrunsL lo hi (V.take k)) ⟨max lo V[k].lo, min hi V[k].hi, V[k].tag⟩
      omega
  have HLEN := Lib.hid hlen
  have HUS := Lib.hid hus
  have HVA := Lib.hid hva
  have HV := Lib.hid hV
  have HR := Lib.hid hR
  clear hus hva hlen hV hR
  go_enter Try.func39, Try.ntmps39
  go_upto_region 1 with (fail)
  generalize hwa : World.alloc w _ = wa
  have x3 : BoxM wa w.heap.size size (.slice (some a) n c) := hwa ▸ BoxM.new w _ _
  have hBa : Below w.heap.size w wa := hwa ▸ Below.alloc1 w _
  clear hwa
  have c0 := x3.c0
  have c1 := x3.c1
  go_wp2_with (fail)
  go_at_call 55
  refine (HUS.out _).mono ?_
  rintro e w1 ⟨rfl, b1⟩
  have y3 := x3.next b1
  have hB1 := Below.next hBa b1
  clear b1 x3 hBa c0 c1
  have c0 := y3.c0
  have c1 := y3.c1
  go_wp2_with (fail)
  go_at_call 71
  refine (HVA.out _).mono ?_
  rintro e w2 ⟨rfl, b2⟩
  have z3 := y3.next b2
  have hB2 := Below.next hB1 b2
  have z3l := z3.lt
  clear b2 y3 hB1 c0 c1
  go_wp2_with (fail)
  go_loopw [8, 9] (fun v i wr => ∃ k : Nat, k ≤ n ∧ i = .int .i64 k ∧ OwnRuns wr w2.heap.size v (rrunsL lo hi (V.take k)) ∧ Below w2.heap.size w2 wr) (fun _ i _ => n - (intOf i).toNat)
  case atStart => exact ⟨0, Nat.zero_le _, rfl, World.ownsRow_nil _ _ _ _, Below.refl _ _⟩
  case round =>
    obtain ⟨k, hk, rfl, hO, hB⟩ := hrel
    have p3 := BoxM.below' hB z3l z3
    have c0 := p3.c0
    have c1 := p3.c1
    have hwr := hB.size
    by_cases hlt : k < n
    · have k1 : (k : Int) < (n : Int) := by omega
      have hkl : k < V.length := by have := HV.out; omega
      obtain ⟨hab, hx⟩ := ((HR.out.below hB2).below hB).at_ hkl
      have hS : rrunsL lo hi (V.take (k + 1)) = joinRn (rrunsL lo hi (V.take k)) ⟨max lo V[k].lo, min hi V[k].hi, V[k].tag⟩ := by rw [List.take_succ_eq_append_getElem hkl, rrunsL_snoc]
      have hlk := HLEN.out k hk
      generalize V[k] = X at *
      generalize rrunsL lo hi (V.take k) = S at *
      have HS := Lib.hid hS
      have HO := Lib.hid hO
      clear hS hO
      obtain ⟨g0, g1, g2⟩ := hx
      go_upto_region 10 with (fail)
      generalize hwb : World.alloc wr _ = wb
      have bb : BoxRun wb wr.heap.size X.lo X.hi X.tag := hwb ▸ BoxRun.new wr _ _ _
      have gb : wr.grownBy wb none := hwb ▸ World.grownBy_alloc wr _ none
      have HO0 := Lib.hid (HO.out.kept_ gb)
      have Bb : Below w2.heap.size w2 wb := hB.trans ⟨gb.os, gb.tape, gb.output, gb.size, fun k hk => gb.block k (by omega) (by simp)⟩
      have szb := gb.size
      clear hwb g0 g1 g2 gb HO hB
      have g0 := bb.c0
      have g1 := bb.c1
      have g2 := bb.c2
      go_wp2_with (first | (refine wpList_max rfl _ _ _ rfl _ _ rfl rfl ?_) | (refine wpList_min rfl _ _ _ rfl _ _ rfl rfl ?_))
      go_at_call 72
      refine (rjoin_any wb w2.heap.size u8 S ⟨max lo X.lo, min hi X.hi, X.tag⟩ HO0.out (by omega) (by omega)).mono ?_
      rintro e x1 ⟨v1, rfl, hO1, hg1, hv1⟩
      have kb : Below w2.heap.size wb x1 := ⟨hg1.os, hg1.tape, hg1.output, hg1.size, fun k hk => hg1.block k (by omega) (fun e => by have := (HO0.out.row_ge k e.symm).1; omega)⟩
      have B1 := Bb.trans kb
      have HO1 := Lib.hid hO1
      clear hO1 hg1 hv1 kb Bb HO0 bb g0 g1 g2
      go_wp2_with (fail)
      exact ⟨⟨k + 1, by omega, by go_num, by rw [HS.out]; exact HO1.out, B1⟩, by simp [intOf]; omega⟩
    · obtain rfl : k = n := by omega
      have e : V.take k = V := List.take_of_length_le (by have := HV.out; omega)
      rw [e, hU.out] at hO
      obtain ⟨A', c', rfl, hc', -⟩ := hO.runs
      have HO := Lib.hid hO
      clear hO
      go_wp2_with (fail)
      go_ret2
      exact ⟨A', c', rfl, OwnRuns.mono HO.out (by have := hB2.size; omega), hc', hB2.trans (hB.mono (by have := hB2.size; omega))⟩
theorem rruns_any (w : World) (A : Option Addr) (c : Nat) (lo hi : Int) (L : List (Int × Int)) (hL : L = [] ∨ Good L) (hR : Runs w A (lay 0 L)) (hnc : L.length ≤ c) :
    Calls Try.prog 39 #[.agg #[.int .i64 (Tr.total L), .slice A L.length c], .int .i64 lo, .int .i64 hi] w (RRunsPost w (if rangesR L lo hi = 0 then clipL lo hi 0 L else []) (rangesR L lo hi)) := by
  rcases hL with rfl | g
  · have e : rangesR [] lo hi = 1 := by unfold rangesR; rw [if_pos rfl]
    rw [e, if_neg (by decide)]; exact rruns_none w A c lo hi
  · obtain ⟨a, rfl⟩ := some_of_runs g.1 hR
    have hp : 0 < L.length := List.length_pos_iff.2 g.1
    have hm := g.2.2.2.2
    by_cases h : lo < 0 ∨ hi < lo ∨ Tr.total L < hi
    · have e : rangesR L lo hi = 3 := by unfold rangesR; rw [if_neg g.1, if_pos h]
      rw [e, if_neg (by decide)]
      exact rruns_range w _ (some a) _ c lo hi (by omega) hp h
    · have e : rangesR L lo hi = 0 := by unfold rangesR; rw [if_neg g.1, if_neg h]
      rw [e, if_pos rfl]
      exact rruns_good w _ a _ c lo hi (by omega) hp (by omega) (by omega) (by omega) (lay 0 L) (lay_length _ _) hR hnc _ (rrunsL_clip g.2.1 g.2.2.1)
set_option maxRecDepth 100000 in
set_option maxHeartbeats 2000000 in
theorem rcount_err (w : World) (A : Option Addr) (n c : Nat) (lo hi tag size : Int) (err : Int) (he : (err != 0) = true)
    (hR : Hid (∀ W, Below w.heap.size w W → Calls Try.prog 39 #[.agg #[.int .i64 size, .slice A n c], .int .i64 lo, .int .i64 hi] W (RRunsPost W [] err))) :
    Calls Try.prog 40 #[.agg #[.int .i64 size, .slice A n c], .int .i64 lo, .int .i64 hi, .int .i64 tag] w fun e w' => e = .returned (.tuple #[.int .i64 0, .int .i64 err]) ∧ Below w.heap.size w w' := by
  go_enter Try.func40, Try.ntmps40
  go_wp2_with (fail)
  go_at_call 39
  refine (hR.out _ (Below.alloc1 _ _)).mono ?_
  rintro e w1 ⟨B, d, rfl, _, _, b1⟩
  go_wp2_with (fail)
  go_ret2
  exact ⟨rfl, Below.next (Below.alloc1 _ _) b1⟩
set_option maxRecDepth 100000 in
set_option maxHeartbeats 2000000 in
theorem rcount_tag (w : World) (A : Option Addr) (n c : Nat) (lo hi tag size : Int) (V : List Rn) (ht : tag < 0 ∨ 16 ≤ tag)
    (hR : Hid (∀ W, Below w.heap.size w W → Calls Try.prog 39 #[.agg #[.int .i64 size, .slice A n c], .int .i64 lo, .int .i64 hi] W (RRunsPost W V 0))) :
    Calls Try.prog 40 #[.agg #[.int .i64 size, .slice A n c], .int .i64 lo, .int .i64 hi, .int .i64 tag] w fun e w' => e = .returned (.tuple #[.int .i64 0, .int .i64 2]) ∧ Below w.heap.size w w' := by
  have HT := Lib.hid ht
  clear ht
  go_enter Try.func40, Try.ntmps40
  go_wp2_with (fail)
  go_at_call 39
  refine (hR.out _ (Below.alloc1 _ _)).mono ?_
  rintro e w1 ⟨B, d, rfl, _, _, b1⟩
  go_wp2_with (fail)
  go_at_call 54
  refine (rtag_no tag _ HT.out).mono ?_
  rintro e w' ⟨rfl, rfl⟩
  go_wp2_with (fail)
  go_ret2
  exact ⟨rfl, Below.next (Below.alloc1 _ _) b1⟩
set_option maxRecDepth 100000 in
set_option maxHeartbeats 2000000 in
theorem rcount_good (w : World) (A : Option Addr) (n c : Nat) (lo hi tag size : Int) (V : List Rn) (nv : Nat) (hnv : V.length = nv) (hnm : nv ≤ 4096) (ht : 0 ≤ tag ∧ tag < 16) (oV : Hid (Tr.OkL (segs V))) (fV : Hid (∀ x ∈ V, 0 ≤ x.lo ∧ x.lo < x.hi ∧ x.hi ≤ 1099511627776)) (tV : Tr.totalOf tag (segs V) ≤ 1099511627776)
    (hR : Hid (∀ W, Below w.heap.size w W → Calls Try.prog 39 #[.agg #[.int .i64 size, .slice A n c], .int .i64 lo, .int .i64 hi] W (RRunsPost W V 0))) :
    Calls Try.prog 40 #[.agg #[.int .i64 size, .slice A n c], .int .i64 lo, .int .i64 hi, .int .i64 tag] w fun e w' => e = .returned (.tuple #[.int .i64 (Tr.totalOf tag (segs V)), .int .i64 0]) ∧ Below w.heap.size w w' := by
  have HT := Lib.hid ht
  have HNV := Lib.hid hnv
  have HTV := Lib.hid tV
  clear ht hnv tV
  go_enter Try.func40, Try.ntmps40
  go_wp2_with (fail)
  go_at_call 39
  refine (hR.out _ (Below.alloc1 _ _)).mono ?_
  rintro e w1 ⟨B, d, rfl, hO, hd, b1⟩
  have hB1 := Below.next (Below.alloc1 w _) b1
  have hRB := hO.toRuns
  rw [HNV.out] at hd
  rw [HNV.out]
  clear b1 hO
  go_wp2_with (fail)
  go_at_call 54
  refine (rtag_yes tag _ HT.out).mono ?_
  rintro e w' ⟨rfl, rfl⟩
  go_wp2_with (fail)
  go_loopw [12, 13] (fun s i W => ∃ (k q : Nat), k ≤ nv ∧ i = .int .i64 k ∧ s = .int .i64 (Tr.totalOf tag (segs (V.take k))) ∧ W = w1.drewN q) (fun _ i _ => nv - (intOf i).toNat)
  case atStart => exact ⟨0, 0, Nat.zero_le _, rfl, by simp [segs, Tr.totalOf], rfl⟩
  case round =>
    obtain ⟨k, q, hk, rfl, rfl, rfl⟩ := hrel
    by_cases hlt : k < nv
    · have k1 : (k : Int) < (nv : Int) := by omega
      have hkl : k < V.length := by have := HNV.out; omega
      obtain ⟨bb, rfl⟩ : ∃ b, B = some b := by
        rcases hRB with hh | ⟨b, hh, _⟩
        · rw [hh] at hkl; simp at hkl
        · exact ⟨b, hh⟩
      obtain ⟨hab, g0, g1, g2⟩ := hRB.at_ hkl
      have hfx := fV.out _ (List.getElem_mem hkl)
      have hst := segs_take_succ tag hkl
      have hle := segs_take_le tag oV.out k
      have hle2 := segs_take_le tag oV.out (k + 1)
      have htv := HTV.out
      generalize V[k] = X at *
      have i1 : IntKind.i64.wrap (X.hi - X.lo) = X.hi - X.lo := IntWalk.i64_in _ (by omega)
      by_cases c1 : X.tag = tag
      · rw [if_pos c1] at hst
        subst c1
        have i2 : IntKind.i64.wrap (Tr.totalOf X.tag (segs (V.take k)) + (X.hi - X.lo)) = Tr.totalOf X.tag (segs (V.take k)) + (X.hi - X.lo) := IntWalk.i64_in _ (by omega)
        have HST := Lib.hid hst
        clear hst hle2 hle htv
        generalize Tr.totalOf X.tag (segs (V.take k)) = T at *
        go_wp2_with (fail)
        go_region
        go_wp2_with (fail)
        exact ⟨⟨k + 1, q + 1, by omega, by go_num, by rw [HST.out], rfl⟩, by simp [intOf]; omega⟩
      · rw [if_neg c1] at hst
        have c2 : (X.tag == tag) = false := by simpa using c1
        have HST := Lib.hid hst
        clear hst hle2 hle htv
        go_wp2_with (fail)
        exact ⟨⟨k + 1, q, by omega, by go_num, by rw [HST.out, Int.add_zero], rfl⟩, by simp [intOf]; omega⟩
    · obtain rfl : k = nv := by omega
      rw [List.take_of_length_le (by rw [HNV.out]; exact Nat.le_refl _)]
      go_wp2_with (fail)
      go_ret2
      exact ⟨rfl, hB1.trans (Quiet.below ⟨q, rfl⟩ _)⟩
theorem rcount_any (w : World) (A : Option Addr) (c : Nat) (lo hi tag : Int) (L : List (Int × Int)) (hL : L = [] ∨ Good L) (hR : Runs w A (lay 0 L)) (hnc : L.length ≤ c) :
    Calls Try.prog 40 #[.agg #[.int .i64 (Tr.total L), .slice A L.length c], .int .i64 lo, .int .i64 hi, .int .i64 tag] w fun e w' => e = .returned (.tuple #[.int .i64 (countR L lo hi tag).1, .int .i64 (countR L lo hi tag).2]) ∧ Below w.heap.size w w' := by
  have hr : Hid (∀ W, Below w.heap.size w W → Calls Try.prog 39 #[.agg #[.int .i64 (Tr.total L), .slice A L.length c], .int .i64 lo, .int .i64 hi] W (RRunsPost W (if rangesR L lo hi = 0 then clipL lo hi 0 L else []) (rangesR L lo hi))) := fun W hW => rruns_any W A c lo hi L hL (hR.below hW) hnc
  by_cases h : rangesR L lo hi = 0
  · have g : Good L := hL.resolve_left (fun e => by unfold rangesR at h; rw [if_pos e] at h; cases h)
    have hrg : 0 ≤ lo ∧ lo ≤ hi ∧ hi ≤ Tr.total L := by
      unfold rangesR at h
      rw [if_neg g.1] at h
      split at h
      · cases h
      · omega
    rw [h, if_pos rfl] at hr
    have ch : Chain lo (clipL lo hi 0 L) hi := by
      have := clipL_chain (lo := lo) (hi := hi) (k := 0) g.2.1 (by omega) (by omega)
      rwa [show max 0 lo = lo from by omega] at this
    have oV := (clipL_facts (lo := lo) (hi := hi) (k := 0) g.2.1).1
    by_cases ht : tag < 0 ∨ 16 ≤ tag
    · have e : countR L lo hi tag = (0, 2) := by unfold countR; rw [if_pos h, if_pos ht]
      rw [e]
      exact rcount_tag w A _ c lo hi tag _ _ ht hr
    · have e : countR L lo hi tag = (Tr.totalOf tag (segs (clipL lo hi 0 L)), 0) := by
        unfold countR
        rw [if_pos h, if_neg ht]
        have := upTo_clip tag hrg.2.1 _ g.2.1 0
        rw [Int.sub_zero, Int.sub_zero] at this
        unfold upTo
        rw [this]
      rw [e]
      have hm := g.2.2.2.2
      have hcl := clipL_length lo hi 0 L
      have htl := totalOf_le oV tag
      have htt := ch.total
      have h4 := g.2.2.2.1
      exact rcount_good w A _ c lo hi tag _ _ _ rfl (by omega) (by omega) oV (fun x hx => by have := ch.fine (by omega) (by omega) oV x hx; exact ⟨this.1, this.2.1, this.2.2.1⟩) (by omega) hr
  · have e : countR L lo hi tag = (0, rangesR L lo hi) := by unfold countR; rw [if_neg h]
    rw [e]
    rw [if_neg h] at hr
    exact rcount_err w A _ c lo hi tag _ _ (by simpa using h) hr
set_option maxRecDepth 100000 in
set_option maxHeartbeats 400000 in
theorem rfind_neg (w : World) (size : Int) (A : Option Addr) (n c : Nat) (tag k : Int) (hk : k < 0) :
    Calls Try.prog 41 #[.agg #[.int .i64 size, .slice A n c], .int .i64 tag, .int .i64 k] w (FindPost w (0, false)) := by
  go_enter Try.func41, Try.ntmps41
  go_wp2_with (fail)
  go_ret2
  exact ⟨rfl, Below.alloc1 _ _⟩
set_option maxRecDepth 100000 in
set_option maxHeartbeats 4000000 in
theorem rfind_pos (w : World) (size : Int) (A : Option Addr) (n c : Nat) (tag k0 : Int) (hk0 : 0 ≤ k0) (hk1 : k0 ≤ 9223372036854775807) (L : List (Int × Int)) (oL : Hid (Tr.OkL L)) (tL : Tr.total L ≤ 1099511627776) (hR : Runs w A (lay 0 L)) (hn : L.length = n) (hm : (n : Int) ≤ 4096) (hnc : n ≤ c) (r : Int × Bool) (hr : Hid (findL tag L k0 0 = r)) :
    Calls Try.prog 41 #[.agg #[.int .i64 size, .slice A n c], .int .i64 tag, .int .i64 k0] w (FindPost w r) := by
  have HN := Lib.hid hn
  have HR := Lib.hid hR
  have HTL := Lib.hid tL
  clear hn hR tL
  go_enter Try.func41, Try.ntmps41
  go_upto_region 1 with (fail)
  generalize hwa : World.alloc w _ = wa
  have x3 : BoxM wa w.heap.size size (.slice A n c) := hwa ▸ BoxM.new w _ _
  have hBa : Below w.heap.size w wa := hwa ▸ Below.alloc1 w _
  have x3l := x3.lt
  clear hwa
  go_wp2_with (fail)
  go_loopw [2, 8] (fun kk i W => ∃ (j : Nat) (k : Int), j ≤ n ∧ i = .int .i64 j ∧ kk = .int .i64 k ∧ 0 ≤ k ∧ k ≤ k0 ∧ Hid (findL tag (L.drop j) k (Tr.total (L.take j)) = r) ∧ Below wa.heap.size wa W) (fun _ i _ => n - (intOf i).toNat)
  case atStart => exact ⟨0, k0, Nat.zero_le _, rfl, rfl, hk0, Int.le_refl _, hr, Below.refl _ _⟩
  case round =>
    obtain ⟨j, k, hj, rfl, rfl, kp, kle, hF, hB⟩ := hrel
    have p3 := x3.next hB
    have c0 := p3.c0
    have c1 := p3.c1
    by_cases hlt : j < n
    · have k1 : (j : Int) < (n : Int) := by omega
      have hjl : j < L.length := by rw [HN.out]; exact hlt
      have hjv : j < (lay 0 L).length := by rw [lay_length]; exact hjl
      obtain ⟨aa, rfl⟩ := some_of_runs (fun e => by rw [e] at hjl; simp at hjl) HR.out
      obtain ⟨hab, hx⟩ := ((HR.out.below hBa).below hB).at_ hjv
      rw [lay_get L 0 j hjv hjl, Int.zero_add] at hx
      obtain ⟨g0, g1, g2⟩ := hx
      dsimp only at g0 g1 g2
      have hst := total_take_succ hjl
      have tn := total_nonneg (OkL.take_ oL.out j)
      have hx1 := take_ok oL.out hjl
      have tle : Tr.total (L.take j) + L[j].1 ≤ Tr.total L := by
        have e : L = L.take (j + 1) ++ L.drop (j + 1) := (List.take_append_drop _ _).symm
        have o2 := oL.out
        rw [e] at o2
        have t2 := total_nonneg (Tr.OkL.append.1 o2).2
        have t : Tr.total L = Tr.total (L.take (j + 1)) + Tr.total (L.drop (j + 1)) := by rw [← Tr.total_append, List.take_append_drop]
        omega
      have tL := HTL.out
      have hfs := findL_step tag hjl k (Tr.total (L.take j))
      rw [hF.out] at hfs
      have hst2 := hst
      rw [← hst] at hfs
      have HST := Lib.hid hst
      generalize L[j] = X at *
      generalize Tr.total (L.take j) = S at *
      clear hst hst2
      have i1 : IntKind.i64.wrap (S + X.1 - S) = X.1 := by rw [IntWalk.i64_in _ (by omega)]; omega
      go_upto_region 7 with (fail)
      generalize hwb : World.alloc wr _ = wb
      have bb : BoxRun wb wr.heap.size S (S + X.1) X.2 := hwb ▸ BoxRun.new wr _ _ _
      have Bb : Below wa.heap.size wa wb := hwb ▸ Below.next hB (Below.alloc1 _ _)
      clear hwb g0 g1 g2
      have g0 := bb.c0
      have g1 := bb.c1
      have g2 := bb.c2
      by_cases d1 : X.2 = tag
      · have d1' : (X.2 != tag) = false := by simpa using d1
        rw [if_pos d1] at hfs
        by_cases d2 : k < X.1
        · rw [if_pos d2] at hfs
          subst hfs
          have i2 : IntKind.i64.wrap (S + k) = S + k := IntWalk.i64_in _ (by omega)
          clear d1
          go_wp2_with (fail)
          go_ret2
          exact ⟨by rw [Int.add_comm]; rfl, hBa.trans (Bb.mono (by have := hBa.size; omega))⟩
        · rw [if_neg d2] at hfs
          have HFS := Lib.hid hfs
          have i2 : IntKind.i64.wrap (k - X.1) = k - X.1 := IntWalk.i64_in _ (by omega)
          clear hfs d1
          go_wp2_with (fail)
          exact ⟨⟨j + 1, k - X.1, by omega, by go_num, rfl, by omega, by omega, HFS.out.symm, Bb⟩, by simp [intOf]; omega⟩
      · have d1' : (X.2 != tag) = true := by simpa using d1
        rw [if_neg d1] at hfs
        have HFS := Lib.hid hfs
        clear hfs d1
        go_wp2_with (fail)
        exact ⟨⟨j + 1, k, by omega, by go_num, rfl, by omega, by omega, HFS.out.symm, Bb⟩, by simp [intOf]; omega⟩
    · obtain rfl : j = n := by omega
      have hf := hF.out
      rw [List.drop_eq_nil_of_le (by rw [HN.out]; exact Nat.le_refl _)] at hf
      simp only [findL] at hf
      subst hf
      go_wp2_with (fail)
      go_ret2
      exact ⟨rfl, hBa.trans (hB.mono (by have := hBa.size; omega))⟩
theorem rfind_any (w : World) (A : Option Addr) (c : Nat) (tag k : Int) (hk : k ≤ 9223372036854775807) (L : List (Int × Int)) (hL : L = [] ∨ Good L) (hR : Runs w A (lay 0 L)) (hnc : L.length ≤ c) :
    Calls Try.prog 41 #[.agg #[.int .i64 (Tr.total L), .slice A L.length c], .int .i64 tag, .int .i64 k] w (FindPost w (findR L tag k)) := by
  unfold findR
  by_cases h : k < 0
  · rw [if_pos h]; exact rfind_neg w _ A _ c tag k h
  · rw [if_neg h]
    have h3 : Tr.OkL L ∧ Tr.total L ≤ 1099511627776 ∧ (L.length : Int) ≤ 4096 := by
      rcases hL with rfl | g
      · exact ⟨fun x hx => by simp at hx, by simp [Tr.total], by simp⟩
      · exact ⟨g.2.1, g.2.2.2.1, g.2.2.2.2⟩
    exact rfind_pos w _ A _ c tag k (by omega) hk L h3.1 h3.2.1 hR rfl h3.2.2 hnc _ rfl
end Go.Proofs.Ytfmplibjhohpgaa
