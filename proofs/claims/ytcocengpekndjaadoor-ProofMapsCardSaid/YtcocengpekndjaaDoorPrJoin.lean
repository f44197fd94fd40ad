/- The walk over Join of the reference: a list of runs with one behind it. -/
import Derived.Test.YtcocengpekndjaaDoorPrOfL
import Derived.Deep.AppendLies
import Derived.Deep.RegionLaw
namespace Go.Proofs.YtcocengpekndjaaDoor
open Go.RowKit

/-- What push returns: the runs of the slice with one behind them, in a slice of the call's own; nothing else is turned. -/
def PushPost (w : World) (base : Nat) (v : Value) (L : List Rn) (e : Ending) (w' : World) : Prop :=
  ∃ v', e = .returned v' ∧ OwnRuns w' base v' L ∧ w.grownBy w' v.ownBlock ∧ (v'.ownBlock = v.ownBlock ∨ ∃ k, v'.ownBlock = some k ∧ w.heap.size ≤ k)
theorem OwnRuns.sliced {w : World} {base : Nat} {v : Value} {L : List Rn} (h : OwnRuns w base v L) : ∃ A c, v = .slice A L.length c := by
  rcases h.2 with ⟨h1, h2⟩ | ⟨g, cap, _, h1, _⟩
  · exact ⟨none, 0, by rw [h1, h2]⟩
  · exact ⟨_, cap, h1⟩
/-- The box of the run that push gets. -/
theorem push_box (w : World) (n : Nat) (x y z : Int) : BoxRun ((w.alloc (.cells #[.int .i64 x, .int .i64 y, .int .i64 z] 34)).drewN n) w.heap.size x y z := heap_alloc_new w _
theorem grown_mono {w w' : World} (h : w.grownBy w' none) (row : Option Nat) : w.grownBy w' row := ⟨h.os, h.tape, h.output, h.size, fun k hk _ => h.block k hk (by simp)⟩
theorem grown_drewN (w : World) (n : Nat) : w.grownBy (w.drewN n) none := ⟨rfl, rfl, rfl, Nat.le_refl _, fun _ _ _ => rfl⟩
theorem BoxRun.drewN_ {w : World} {b : Nat} {x y z : Int} (h : BoxRun w b x y z) (n : Nat) : BoxRun (w.drewN n) b x y z := h
theorem grown_cell {w w' : World} (h : w.grownBy w' none) {p : Addr} {v : Value} (hc : w.cell? p = some v) : w'.cell? p = some v := by
  have hl : p.block < w.heap.size := by
    refine Classical.byContradiction fun hn => ?_
    have e : w.heap[p.block]? = none := Array.getElem?_eq_none (by omega)
    simp [World.cell?, e] at hc
  have := h.block p.block hl (by simp)
  unfold World.cell? at hc ⊢
  rw [this]; exact hc
theorem grown_set (w : World) (g i : Nat) (v : Value) : w.grownBy (w.setCell ⟨g, i, none⟩ v) (some g) :=
  ⟨rfl, rfl, rfl, by simp [World.setCell], fun k _ hk => Below.heap_setCell w ⟨g, i, none⟩ v k (fun e => hk (by rw [e]))⟩
theorem OwnRuns.frozen_ {w : World} {base g n c : Nat} {L : List Rn} (h : OwnRuns w base (.slice (some ⟨g, 0, none⟩) n c) L) (i : Nat) : w.frozen? ⟨g, i, none⟩ = false := by
  rcases h.2 with ⟨h1, _⟩ | ⟨g', cap, cur, h1, _, hh, _⟩
  · cases h1
  · cases h1; simp [World.frozen?, hh]
theorem push_grown (w : World) (n : Nat) (o : Obj) (row : Option Nat) : w.grownBy ((w.alloc o).drewN n) row := (World.grownBy_alloc w o row).trans ⟨rfl, rfl, rfl, Nat.le_refl _, fun _ _ _ => rfl⟩
theorem OwnRuns.kept_ {w w' : World} {base : Nat} {v : Value} {L : List Rn} (h : OwnRuns w base v L) (hg : w.grownBy w' none) : OwnRuns w' base v L := by
  refine World.ownsRow.kept h hg ?_
  by_cases e : v.ownBlock = none
  · exact .inl e
  · exact .inr e
theorem add_plain0 (g m : Nat) : (⟨g, 0, none⟩ : Addr).add m = ⟨g, m, none⟩ := by
  unfold Addr.add; split
  · rename_i h; rw [h]
  · simp
theorem cellsR_len_snoc (A : List Rn) : (cellsR A).length = A.length * 3 := cellsR_length A
/-- The end of the last run is stored. -/
theorem OwnRuns.set_hi {w : World} {base g c : Nat} {A : List Rn} {y : Rn} (h : OwnRuns w base (.slice (some ⟨g, 0, none⟩) (A.length + 1) c) (A ++ [y])) (x : Int) :
    OwnRuns (w.setCell ⟨g, A.length * 3 + 1, none⟩ (.int .i64 x)) base (.slice (some ⟨g, 0, none⟩) (A.length + 1) c) (A ++ [⟨y.lo, x, y.tag⟩]) := by
  obtain ⟨h1, h2⟩ := h
  have hl : ∀ z : Rn, (A ++ [z]).length = A.length + 1 := fun z => by simp
  refine ⟨by rw [cellsR_length], ?_⟩
  rcases h2 with ⟨h2, _⟩ | ⟨g', cap, cur, e, hg, hh, hc, hm, hs, ht⟩
  · cases h2
  · simp only [Value.slice.injEq, Option.some.injEq, Addr.mk.injEq] at e
    obtain ⟨⟨rfl, _⟩, _, rfl⟩ := e
    refine .inr ⟨g, c, cur.setIfInBounds (A.length * 3 + 1) (.int .i64 x), by rw [hl], hg, by simp [World.setCell, Array.getElem?_modify, hh], by rw [hl] at hc ⊢; exact hc, hm, by rw [Array.size_setIfInBounds]; exact hs, ?_⟩
    rw [hl] at ht ⊢
    rw [Array.toList_setIfInBounds, List.take_set, ht, cellsR_snoc, cellsR_snoc, List.set_append_right _ _ (by rw [cellsR_length]; omega), cellsR_length, show A.length * 3 + 1 - A.length * 3 = 1 from by omega]
    rfl
theorem OwnRuns.row_ge {w : World} {base : Nat} {v : Value} {L : List Rn} (h : OwnRuns w base v L) (j : Nat) (hj : v.ownBlock = some j) : base ≤ j ∧ j < w.heap.size := by
  rcases h.2 with ⟨h1, _⟩ | ⟨g, cap, cur, h1, hg, hh, _⟩
  · rw [h1] at hj; simp [Value.ownBlock] at hj
  · rw [h1] at hj
    simp [Value.ownBlock] at hj
    subst hj
    exact ⟨hg, (Array.getElem?_eq_some_iff.1 hh).1⟩
theorem OwnRuns.set_far {w : World} {base g i : Nat} {v x : Value} {L : List Rn} (h : OwnRuns w base v L) (hne : v.ownBlock ≠ some g) : OwnRuns (w.setCell ⟨g, i, none⟩ x) base v L :=
  World.ownsRow.kept h (grown_set w g i x) (.inr hne)
def joinRn (l : List Rn) (x : Rn) : List Rn := if x.lo < x.hi then pushRn l x else l
theorem OwnRuns.row_fresh {w : World} {base : Nat} {v : Value} {L : List Rn} (h : OwnRuns w base v L) (hne : L ≠ []) : ∃ k, v.ownBlock = some k ∧ base ≤ k := by
  rcases h.2 with ⟨_, h2⟩ | ⟨g, cap, cur, h1, hg, _⟩
  · exact (hne (List.eq_nil_of_length_eq_zero h2)).elim
  · exact ⟨g, by rw [h1]; rfl, hg⟩
theorem grown_over {w w1 W w2 : World} {v : Value} {L : List Rn} (g1 : w.grownBy w1 none) (gW : w1.grownBy W none) (g2 : W.grownBy w2 v.ownBlock) (hO : OwnRuns w1 w.heap.size v L) (row : Option Nat) : w.grownBy w2 row := by
  have G : w.grownBy w2 v.ownBlock := (grown_mono (g1.trans gW) v.ownBlock).trans g2
  exact ⟨G.os, G.tape, G.output, G.size, fun k hk _ => G.block k hk (fun e => by have := (hO.row_ge k e.symm).1; omega)⟩
set_option maxRecDepth 100000 in
set_option maxHeartbeats 2000000 in
theorem join_skip (w : World) (base : Nat) (A : Option Addr) (n c : Nat) (l : List Rn) (r : Rn) (hO : OwnRuns w base (.slice A n c) l) (hx : r.hi ≤ r.lo) :
    Calls Tryd.prog 102 #[.slice A n c, .agg #[.int .i64 r.lo, .int .i64 r.hi, .int .i64 r.tag]] w (PushPost w base (.slice A n c) l) := by
  have HO := Lib.hid hO
  clear hO
  go_enter Tryd.func102, Tryd.ntmps102
  go_wp2_with (fail)
  go_ret
  exact ⟨_, rfl, HO.out.kept_ (World.grownBy_alloc _ _ _), World.grownBy_alloc _ _ _, .inl rfl⟩
set_option maxRecDepth 100000 in
set_option maxHeartbeats 2000000 in
theorem join_nil (w : World) (base : Nat) (A : Option Addr) (c : Nat) (r : Rn) (hO : OwnRuns w base (.slice A 0 c) []) (hb : base ≤ w.heap.size) (hx : r.lo < r.hi) :
    Calls Tryd.prog 102 #[.slice A 0 c, .agg #[.int .i64 r.lo, .int .i64 r.hi, .int .i64 r.tag]] w (PushPost w base (.slice A 0 c) [r]) := by
  obtain ⟨i0, hi0, hz0, hz1, hz2⟩ := info_parts infoRun
  have hx' : decide (r.lo ≥ r.hi) = false := by simpa using hx
  have HO := Lib.hid hO
  clear hO
  go_enter Tryd.func102, Tryd.ntmps102
  go_wp2_with (fail)
  go_quiet (fail)
  generalize hwq : World.drewN _ _ = wq
  have bq : BoxRun wq w.heap.size r.lo r.hi r.tag := hwq ▸ push_box w _ _ _ _
  have gq : w.grownBy wq none := hwq ▸ push_grown w _ _ none
  clear hwq
  have HQ := Lib.hid (HO.out.kept_ gq)
  have q0 := bq.c0
  have q1 := bq.c1
  have q2 := bq.c2
  have qz := bq.lt
  go_wp2_with (at_builtin; (refine wpList_append_own_at _ rfl _ _ 41 rfl base 34 i0 (.agg #[.int .i64 0, .int .i64 0, .int .i64 0]) 3 24 Tryd.underlying41 hi0 hz0 hz1 hz2 rfl (by decide) _ 0 _ rfl (HQ.out.alloc _) ⟨wq.heap.size, 0, none⟩ 1 1 [.int .i64 r.lo, .int .i64 r.hi, .int .i64 r.tag] rfl rfl (cell_three_new _ _ _ _ _) (by simp [Value.oneCell']) (by unfold maxLen; omega) (by omega) (by have := gq.size; rw [World.size_alloc]; omega) ?_); intro v' w1 hown hgrow _ hat)
  go_ret
  refine ⟨v', rfl, ?_, (grown_mono gq _).trans ((World.grownBy_alloc wq _ _).trans hgrow), hat.elim .inl fun h => .inr ⟨_, h, by have := gq.size; rw [World.size_alloc]; omega⟩⟩
  exact hown
set_option maxRecDepth 100000 in
set_option maxHeartbeats 2000000 in
theorem join_new (w : World) (base : Nat) (A : List Rn) (y : Rn) (g c m : Nat) (r : Rn) (hm : A.length = m) (hO : OwnRuns w base (.slice (some ⟨g, 0, none⟩) (m + 1) c) (A ++ [y])) (hb : base ≤ w.heap.size) (hle : m ≤ 1000000) (ht : ¬ y.tag = r.tag) (hx : r.lo < r.hi) :
    Calls Tryd.prog 102 #[.slice (some ⟨g, 0, none⟩) (m + 1) c, .agg #[.int .i64 r.lo, .int .i64 r.hi, .int .i64 r.tag]] w (PushPost w base (.slice (some ⟨g, 0, none⟩) (m + 1) c) (A ++ [y] ++ [r])) := by
  obtain ⟨i0, hi0, hz0, hz1, hz2⟩ := info_parts infoRun
  have hx' : decide (r.lo ≥ r.hi) = false := by simpa using hx
  have t1 : (y.tag == r.tag) = false := by simpa using ht
  have hr := (hO.toRuns.at_ (i := m) (by simp; omega)).2
  have ey : (A ++ [y])[m]'(by simp; omega) = y := by subst hm; simp
  rw [ey, add_plain0] at hr
  obtain ⟨c0, c1, c2⟩ := hr
  have i1 : IntKind.i64.wrap (((m + 1 : Nat) : Int) - 1) = (m : Int) := by rw [IntWalk.i64_in _ (by omega)]; omega
  have hmi : (m : Int) ≤ 1000000 := by omega
  have HO := Lib.hid hO
  have HM := Lib.hid hm
  clear hO hm ey
  go_enter Tryd.func102, Tryd.ntmps102
  go_upto_region 1 with (fail)
  generalize hwb : World.alloc w _ = wb
  have bb : BoxRun wb w.heap.size r.lo r.hi r.tag := hwb ▸ BoxRun.new w _ _ _
  have gb : w.grownBy wb none := hwb ▸ World.grownBy_alloc w _ none
  have b2 : wb.cell? ⟨g, m * 3 + 2, none⟩ = some (.int .i64 y.tag) := grown_cell gb c2
  clear hwb
  have bz := bb.lt
  have x0 := bb.c0
  have x1 := bb.c1
  have x2 := bb.c2
  go_wp2_with (fail)
  go_quiet (fail)
  generalize hwq : World.drewN _ _ = wq
  have bq : BoxRun wq w.heap.size r.lo r.hi r.tag := hwq ▸ bb.drewN_ _
  have gq : w.grownBy wq none := hwq ▸ gb.trans (grown_drewN _ _)
  clear hwq
  have HQ : Hid (wq.ownsRow base 34 3 (.slice (some ⟨g, 0, none⟩) (m + 1) c) (m + 1) (cellsR (A ++ [y]))) := by
    have h := HO.out.kept_ gq
    unfold OwnRuns at h
    rw [List.length_append, HM.out] at h
    exact h
  have q0 := bq.c0
  have q1 := bq.c1
  have q2 := bq.c2
  have qz := bq.lt
  go_wp2_with (at_builtin; (refine wpList_append_own_at _ rfl _ _ 41 rfl base 34 i0 (.agg #[.int .i64 0, .int .i64 0, .int .i64 0]) 3 24 Tryd.underlying41 hi0 hz0 hz1 hz2 rfl (by decide) _ (m + 1) _ rfl (HQ.out.alloc _) ⟨wq.heap.size, 0, none⟩ 1 1 [.int .i64 r.lo, .int .i64 r.hi, .int .i64 r.tag] rfl rfl (cell_three_new _ _ _ _ _) (by simp [Value.oneCell']) (by unfold maxLen; omega) (by omega) (by have := gq.size; rw [World.size_alloc]; omega) ?_); intro v' w1 hown hgrow _ hat)
  go_ret
  refine ⟨v', rfl, ?_, (grown_mono gq _).trans ((World.grownBy_alloc wq _ _).trans hgrow), hat.elim .inl fun h => .inr ⟨_, h, by have := gq.size; rw [World.size_alloc]; omega⟩⟩
  unfold OwnRuns
  rw [cellsR_snoc, List.length_append, List.length_append, HM.out]
  exact hown
set_option maxRecDepth 100000 in
set_option maxHeartbeats 2000000 in
theorem join_same (w : World) (base : Nat) (A : List Rn) (y : Rn) (g c m : Nat) (r : Rn) (hm : A.length = m) (hO : OwnRuns w base (.slice (some ⟨g, 0, none⟩) (m + 1) c) (A ++ [y])) (hb : base ≤ w.heap.size) (hle : m ≤ 1000000) (ht : y.tag = r.tag) (hx : r.lo < r.hi) :
    Calls Tryd.prog 102 #[.slice (some ⟨g, 0, none⟩) (m + 1) c, .agg #[.int .i64 r.lo, .int .i64 r.hi, .int .i64 r.tag]] w (PushPost w base (.slice (some ⟨g, 0, none⟩) (m + 1) c) (A ++ [⟨y.lo, r.hi, y.tag⟩])) := by
  obtain ⟨i0, hi0, hz0, hz1, hz2⟩ := info_parts infoRun
  have hx' : decide (r.lo ≥ r.hi) = false := by simpa using hx
  have t1 : (y.tag == r.tag) = true := by simpa using ht
  have hcap : m + 1 ≤ c := by
    rcases hO.2 with ⟨h1, _⟩ | ⟨g', cap, cur, h1, _, _, hc, _⟩
    · simp at h1
    · simp only [Value.slice.injEq] at h1
      obtain ⟨_, _, rfl⟩ := h1
      simpa [hm] using hc
  have hr := (hO.toRuns.at_ (i := m) (by simp; omega)).2
  have ey : (A ++ [y])[m]'(by simp; omega) = y := by subst hm; simp
  rw [ey, add_plain0] at hr
  obtain ⟨c0, c1, c2⟩ := hr
  have hRA : Runs w (some ⟨g, 0, none⟩) A := by
    have := hO.toRuns.take m
    rwa [List.take_left' hm] at this
  have i1 : IntKind.i64.wrap (((m + 1 : Nat) : Int) - 1) = (m : Int) := by rw [IntWalk.i64_in _ (by omega)]; omega
  have hmi : (m : Int) ≤ 1000000 := by omega
  have m0 : (0 : Int) ≤ (m : Int) := by omega
  have m1 : (m : Int) ≤ (c : Int) := by omega
  have HO := Lib.hid hO
  have HM := Lib.hid hm
  have HRA := Lib.hid hRA
  clear hO hm ey hRA
  go_enter Tryd.func102, Tryd.ntmps102
  go_upto_region 1 with (fail)
  generalize hwb : World.alloc w _ = wb
  have bb : BoxRun wb w.heap.size r.lo r.hi r.tag := hwb ▸ BoxRun.new w _ _ _
  have gb : w.grownBy wb none := hwb ▸ World.grownBy_alloc w _ none
  have b2 : wb.cell? ⟨g, m * 3 + 2, none⟩ = some (.int .i64 y.tag) := grown_cell gb c2
  clear hwb
  have bz := bb.lt
  have x0 := bb.c0
  have x1 := bb.c1
  have x2 := bb.c2
  go_wp2_with (fail)
  go_quiet (fail)
  generalize hwq : World.drewN _ _ = wq
  have bq : BoxRun wq w.heap.size r.lo r.hi r.tag := hwq ▸ bb.drewN_ _
  have gq : w.grownBy wq none := hwq ▸ gb.trans (grown_drewN _ _)
  clear hwq
  have hLr : Hid (∀ j u, (cellsR A)[j]? = some u → wq.cell? ((⟨g, 0, none⟩ : Addr).add j) = some u) := cells_of_runs (HRA.out.below ⟨gq.os, gq.tape, gq.output, gq.size, fun k hk => gq.block k hk (by simp)⟩)
  have hLn : Hid ((cellsR A).length = m * 3) := by show _ = _; rw [cellsR_length, HM.out]
  have q0 := bq.c0
  have q1 := bq.c1
  have q2 := bq.c2
  have qz := bq.lt
  have d0 := grown_cell gq c0
  go_wp2_with (at_builtin; (refine wpList_append_own _ rfl _ _ 41 rfl w.heap.size 34 i0 (.agg #[.int .i64 0, .int .i64 0, .int .i64 0]) 3 24 Tryd.underlying41 hi0 hz0 hz1 hz2 rfl (by decide) _ _ _ rfl (World.ownsRow_nil _ _ _ _) ⟨g, 0, none⟩ m c (cellsR A) rfl hLn.out hLr.out (cellsR_one A) (by unfold maxLen; omega) (by omega) (by have := gq.size; omega) ?_); intro v' w1 hown hgrow hnn)
  have hO1 : OwnRuns w1 w.heap.size v' A := OwnRuns.of_empty HM.out hown
  obtain ⟨A', c', hv', hc', -⟩ := hO1.runs
  rw [HM.out] at hv' hc'
  subst hv'
  have HO1 : Hid (w1.ownsRow w.heap.size 34 3 (.slice A' m c') m (cellsR A)) := by
    show w1.ownsRow _ _ _ _ _ _
    unfold OwnRuns at hO1
    rw [HM.out] at hO1
    exact hO1
  have g1 : wq.grownBy w1 none := hgrow
  have bq1 : BoxRun w1 w.heap.size r.lo r.hi r.tag := (g1.block _ bq.lt (by simp)).trans bq
  have e0 := grown_cell g1 d0
  have s1 := g1.size
  have gw1 := gq.trans g1
  have HOO := Lib.hid hO1
  clear hO1 hown hnn hgrow hLr hLn x0 x1 x2 b2 q0 q1 q2 d0 bq gq g1
  have q1 := bq1.c1
  have q2 := bq1.c2
  have i3 : IntKind.i64.wrap (m : Int) = (m : Int) := IntWalk.i64_in _ (by omega)
  have m2 : (m : Int) < (m : Int) + 1 := by omega
  go_region_law (refine step_append_lies _ rfl (.tmp 34) (.tmp 46) 41 rfl w.heap.size 34 i0 (.agg #[.int .i64 0, .int .i64 0, .int .i64 0]) 3 24 Tryd.underlying41 hi0 hz0 hz1 hz2 rfl (by decide) (.slice A' m c') m (cellsR A) (by simp [Act.eval]) (HO1.out.alloc _) ⟨w1.heap.size, 0, none⟩ 1 1 [.int .i64 y.lo, .int .i64 r.hi, .int .i64 r.tag] (by simp [Act.eval]) rfl (cell_three_new _ _ _ _ _) (by simp [Value.oneCell']) (by decide) (by unfold maxLen; omega) (by omega) (by simp; omega) _ rfl ?_; intro g2 cap2 w2 hown2 hgrow2 hat2 hlt2)
  all_goals
    go_wp2_with (fail)
    go_ret
    have hfin : OwnRuns w2 w.heap.size (.slice (some ⟨g2, 0, none⟩) (m + 1) cap2) (A ++ [⟨y.lo, r.hi, y.tag⟩]) := by
      unfold OwnRuns
      rw [cellsR_snoc, List.length_append, HM.out, ht]
      exact hown2
    obtain ⟨k, hk1, hk2⟩ := hfin.row_fresh (by simp)
    exact ⟨_, rfl, hfin.mono hb, grown_over gw1 ((grown_drewN w1 1).trans (World.grownBy_alloc _ _ none)) hgrow2 HOO.out _, .inr ⟨k, hk1, hk2⟩⟩
theorem rjoin_any (w : World) (base : Nat) (v : Value) (l : List Rn) (r : Rn) (hO : OwnRuns w base v l) (hb : base ≤ w.heap.size) (hl : l.length ≤ 1000000) :
    Calls Tryd.prog 102 #[v, .agg #[.int .i64 r.lo, .int .i64 r.hi, .int .i64 r.tag]] w (PushPost w base v (joinRn l r)) := by
  unfold joinRn
  by_cases hx : r.lo < r.hi
  · rw [if_pos hx]
    rcases nil_or_snoc l with rfl | ⟨l, y, rfl⟩
    · obtain ⟨A, c, rfl⟩ := hO.sliced
      exact join_nil w base A c r hO hb hx
    · obtain ⟨g, c, rfl⟩ : ∃ g c, v = .slice (some ⟨g, 0, none⟩) (l.length + 1) c := by
        rcases hO.2 with ⟨_, h2⟩ | ⟨g, cap, _, h1, _⟩
        · simp at h2
        · exact ⟨g, cap, by rw [h1]; simp⟩
      rw [List.length_append] at hl
      rw [pushRn_snoc]
      by_cases ht : y.tag = r.tag
      · rw [if_pos ht]; exact join_same w base l y g c l.length r rfl hO hb (by omega) ht hx
      · rw [if_neg ht]; exact join_new w base l y g c l.length r rfl hO hb (by omega) ht hx
  · rw [if_neg hx]
    obtain ⟨A, c, rfl⟩ := hO.sliced
    exact join_skip w base A _ c l r hO (by omega)
end Go.Proofs.YtcocengpekndjaaDoor
