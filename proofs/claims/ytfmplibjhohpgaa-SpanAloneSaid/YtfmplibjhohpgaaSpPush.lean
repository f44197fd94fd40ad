/- The walk over push of package span. -/
import Derived.Test.YtfmplibjhohpgaaSpSwapL
import Derived.Test.YtfmplibjhohpgaaSpRfrom
namespace Go.Proofs.Ytfmplibjhohpgaa
open Go.RowKit

/-- What push returns: the runs of the slice with one behind them, in a slice of the call's own; nothing else is turned. -/
def PushPost (w : World) (base : Nat) (v : Value) (L : List Rn) (e : Ending) (w' : World) : Prop :=
  ∃ v', e = .returned v' ∧ OwnRuns w' base v' L ∧ w.grownBy w' v.ownBlock ∧ (v'.ownBlock = v.ownBlock ∨ ∃ k, v'.ownBlock = some k ∧ w.heap.size ≤ k)
theorem OwnRuns.sliced {w : World} {base : Nat} {v : Value} {L : List Rn} (h : OwnRuns w base v L) : ∃ A c, v = .slice A L.length c := by
  rcases h.2 with ⟨h1, h2⟩ | ⟨g, cap, _, h1, _⟩
  · exact ⟨none, 0, by rw [h1, h2]⟩
  · exact ⟨_, cap, h1⟩
/-- The box of the run that push gets. -/
theorem push_box (w : World) (n : Nat) (x y z : Int) : BoxRun ((w.alloc (.cells #[.int .i64 x, .int .i64 y, .int .i64 z] 35)).drewN n) w.heap.size x y z := heap_alloc_new w _
theorem grown_mono {w w' : World} (h : w.grownBy w' none) (row : Option Nat) : w.grownBy w' row := ⟨h.os, h.tape, h.output, h.size, fun k hk _ => h.block k hk (by simp)⟩
theorem grown_drewN (w : World) (n : Nat) : w.grownBy (w.drewN n) none := ⟨rfl, rfl, rfl, Nat.le_refl _, fun _ _ _ => rfl⟩
theorem BoxRun.drewN_ {w : World} {b : Nat} {x y z : Int} (h : BoxRun w b x y z) (n : Nat) : BoxRun (w.drewN n) b x y z := h
theorem grown_cell {w w' : World} (h : w.grownBy w' none) {p : Addr} {v : Value} (hc : w.cell? p = some v) : w'.cell? p = some v := by
  have hl : p.block < w.heap.size := by
    refine Classical.byContradiction fun hn => ?_
    have e : w.heap[p.block]? = none := Array.getElem?_eq_none (by omega)
    simp [World.cell?, e] at hc
  have := h.block p.block hl (by simp)
  unfold World.cell? at hc ⊢
  rw [this]; exact hc
theorem grown_set (w : World) (g i : Nat) (v : Value) : w.grownBy (w.setCell ⟨g, i, none⟩ v) (some g) :=
  ⟨rfl, rfl, rfl, by simp [World.setCell], fun k _ hk => Below.heap_setCell w ⟨g, i, none⟩ v k (fun e => hk (by rw [e]))⟩
theorem OwnRuns.frozen_ {w : World} {base g n c : Nat} {L : List Rn} (h : OwnRuns w base (.slice (some ⟨g, 0, none⟩) n c) L) (i : Nat) : w.frozen? ⟨g, i, none⟩ = false := by
  rcases h.2 with ⟨h1, _⟩ | ⟨g', cap, cur, h1, _, hh, _⟩
  · cases h1
  · cases h1; simp [World.frozen?, hh]
theorem push_grown (w : World) (n : Nat) (o : Obj) (row : Option Nat) : w.grownBy ((w.alloc o).drewN n) row := (World.grownBy_alloc w o row).trans ⟨rfl, rfl, rfl, Nat.le_refl _, fun _ _ _ => rfl⟩
theorem OwnRuns.kept_ {w w' : World} {base : Nat} {v : Value} {L : List Rn} (h : OwnRuns w base v L) (hg : w.grownBy w' none) : OwnRuns w' base v L := by
  refine World.ownsRow.kept h hg ?_
  by_cases e : v.ownBlock = none
  · exact .inl e
  · exact .inr e
theorem add_plain0 (g m : Nat) : (⟨g, 0, none⟩ : Addr).add m = ⟨g, m, none⟩ := by
  unfold Addr.add; split
  · rename_i h; rw [h]
  · simp
theorem cellsR_len_snoc (A : List Rn) : (cellsR A).length = A.length * 3 := cellsR_length A
/-- The end of the last run is stored. -/
theorem OwnRuns.set_hi {w : World} {base g c : Nat} {A : List Rn} {y : Rn} (h : OwnRuns w base (.slice (some ⟨g, 0, none⟩) (A.length + 1) c) (A ++ [y])) (x : Int) :
    OwnRuns (w.setCell ⟨g, A.length * 3 + 1, none⟩ (.int .i64 x)) base (.slice (some ⟨g, 0, none⟩) (A.length + 1) c) (A ++ [⟨y.lo, x, y.tag⟩]) := by
  obtain ⟨h1, h2⟩ := h
  have hl : ∀ z : Rn, (A ++ [z]).length = A.length + 1 := fun z => by simp
  refine ⟨by rw [cellsR_length], ?_⟩
  rcases h2 with ⟨h2, _⟩ | ⟨g', cap, cur, e, hg, hh, hc, hm, hs, ht⟩
  · cases h2
  · simp only [Value.slice.injEq, Option.some.injEq, Addr.mk.injEq] at e
    obtain ⟨⟨rfl, _⟩, _, rfl⟩ := e
    refine .inr ⟨g, c, cur.setIfInBounds (A.length * 3 + 1) (.int .i64 x), by rw [hl], hg, by simp [World.setCell, Array.getElem?_modify, hh], by rw [hl] at hc ⊢; exact hc, hm, by rw [Array.size_setIfInBounds]; exact hs, ?_⟩
    rw [hl] at ht ⊢
    rw [Array.toList_setIfInBounds, List.take_set, ht, cellsR_snoc, cellsR_snoc, List.set_append_right _ _ (by rw [cellsR_length]; omega), cellsR_length, show A.length * 3 + 1 - A.length * 3 = 1 from by omega]
    rfl
set_option maxRecDepth 100000 in
set_option maxHeartbeats 2000000 in
theorem push_nil (w : World) (base : Nat) (A : Option Addr) (c : Nat) (r : Rn) (hO : OwnRuns w base (.slice A 0 c) []) (hb : base ≤ w.heap.size) :
    Calls Try.prog 58 #[.slice A 0 c, .agg #[.int .i64 r.lo, .int .i64 r.hi, .int .i64 r.tag]] w (PushPost w base (.slice A 0 c) [r]) := by
  obtain ⟨i0, hi0, hz0, hz1, hz2⟩ := info_parts infoRun
  have HO := Lib.hid hO
  clear hO
  go_enter Try.func58, Try.ntmps58
  go_wp2_with (fail)
  go_quiet (fail)
  generalize hwq : World.drewN _ _ = wq
  have bq : BoxRun wq w.heap.size r.lo r.hi r.tag := hwq ▸ push_box w _ _ _ _
  have gq : w.grownBy wq none := hwq ▸ push_grown w _ _ none
  clear hwq
  have HQ := Lib.hid (HO.out.kept_ gq)
  have q0 := bq.c0
  have q1 := bq.c1
  have q2 := bq.c2
  have qz := bq.lt
  go_wp2_with (at_builtin; (refine wpList_append_own_at _ rfl _ _ 22 rfl base 35 i0 (.agg #[.int .i64 0, .int .i64 0, .int .i64 0]) 3 24 Try.underlying22 hi0 hz0 hz1 hz2 rfl (by decide) _ 0 _ rfl (HQ.out.alloc _) ⟨wq.heap.size, 0, none⟩ 1 1 [.int .i64 r.lo, .int .i64 r.hi, .int .i64 r.tag] rfl rfl (cell_three_new _ _ _ _ _) (by simp [Value.oneCell']) (by unfold maxLen; omega) (by omega) (by have := gq.size; rw [World.size_alloc]; omega) ?_); intro v' w1 hown hgrow _ hat)
  go_ret
  refine ⟨v', rfl, ?_, (grown_mono gq _).trans ((World.grownBy_alloc wq _ _).trans hgrow), hat.elim .inl fun h => .inr ⟨_, h, by have := gq.size; rw [World.size_alloc]; omega⟩⟩
  exact hown
set_option maxRecDepth 100000 in
set_option maxHeartbeats 2000000 in
theorem push_new (w : World) (base : Nat) (A : List Rn) (y : Rn) (g c m : Nat) (r : Rn) (hm : A.length = m) (hO : OwnRuns w base (.slice (some ⟨g, 0, none⟩) (m + 1) c) (A ++ [y])) (hb : base ≤ w.heap.size) (hle : m ≤ 1000000) (ht : ¬ y.tag = r.tag) :
    Calls Try.prog 58 #[.slice (some ⟨g, 0, none⟩) (m + 1) c, .agg #[.int .i64 r.lo, .int .i64 r.hi, .int .i64 r.tag]] w (PushPost w base (.slice (some ⟨g, 0, none⟩) (m + 1) c) (A ++ [y] ++ [r])) := by
  obtain ⟨i0, hi0, hz0, hz1, hz2⟩ := info_parts infoRun
  have t1 : (y.tag == r.tag) = false := by simpa using ht
  have hr := (hO.toRuns.at_ (i := m) (by simp; omega)).2
  have ey : (A ++ [y])[m]'(by simp; omega) = y := by subst hm; simp
  rw [ey, add_plain0] at hr
  obtain ⟨c0, c1, c2⟩ := hr
  have i1 : IntKind.i64.wrap (((m + 1 : Nat) : Int) - 1) = (m : Int) := by rw [IntWalk.i64_in _ (by omega)]; omega
  have hmi : (m : Int) ≤ 1000000 := by omega
  have HO := Lib.hid hO
  have HM := Lib.hid hm
  clear hO hm ey
  go_enter Try.func58, Try.ntmps58
  go_wp2_with (fail)
  generalize hwb : World.alloc w _ = wb
  have bb : BoxRun wb w.heap.size r.lo r.hi r.tag := hwb ▸ BoxRun.new w _ _ _
  have gb : w.grownBy wb none := hwb ▸ World.grownBy_alloc w _ none
  have b2 : wb.cell? ⟨g, m * 3 + 2, none⟩ = some (.int .i64 y.tag) := grown_cell gb c2
  clear hwb
  have bz := bb.lt
  have x2 := bb.c2
  go_quiet (fail)
  generalize hwq : World.drewN _ _ = wq
  have bq : BoxRun wq w.heap.size r.lo r.hi r.tag := hwq ▸ bb.drewN_ _
  have gq : w.grownBy wq none := hwq ▸ gb.trans (grown_drewN _ _)
  clear hwq
  have HQ : Hid (wq.ownsRow base 35 3 (.slice (some ⟨g, 0, none⟩) (m + 1) c) (m + 1) (cellsR (A ++ [y]))) := by
    have h := HO.out.kept_ gq
    unfold OwnRuns at h
    rw [List.length_append, HM.out] at h
    exact h
  have q0 := bq.c0
  have q1 := bq.c1
  have q2 := bq.c2
  have qz := bq.lt
  go_wp2_with (at_builtin; (refine wpList_append_own_at _ rfl _ _ 22 rfl base 35 i0 (.agg #[.int .i64 0, .int .i64 0, .int .i64 0]) 3 24 Try.underlying22 hi0 hz0 hz1 hz2 rfl (by decide) _ (m + 1) _ rfl (HQ.out.alloc _) ⟨wq.heap.size, 0, none⟩ 1 1 [.int .i64 r.lo, .int .i64 r.hi, .int .i64 r.tag] rfl rfl (cell_three_new _ _ _ _ _) (by simp [Value.oneCell']) (by unfold maxLen; omega) (by omega) (by have := gq.size; rw [World.size_alloc]; omega) ?_); intro v' w1 hown hgrow _ hat)
  go_ret
  refine ⟨v', rfl, ?_, (grown_mono gq _).trans ((World.grownBy_alloc wq _ _).trans hgrow), hat.elim .inl fun h => .inr ⟨_, h, by have := gq.size; rw [World.size_alloc]; omega⟩⟩
  unfold OwnRuns
  rw [cellsR_snoc, List.length_append, List.length_append, HM.out]
  exact hown
set_option maxRecDepth 100000 in
set_option maxHeartbeats 2000000 in
theorem push_same (w : World) (base : Nat) (A : List Rn) (y : Rn) (g c m : Nat) (r : Rn) (hm : A.length = m) (hO : OwnRuns w base (.slice (some ⟨g, 0, none⟩) (m + 1) c) (A ++ [y])) (_hb : base ≤ w.heap.size) (hle : m ≤ 1000000) (ht : y.tag = r.tag) :
    Calls Try.prog 58 #[.slice (some ⟨g, 0, none⟩) (m + 1) c, .agg #[.int .i64 r.lo, .int .i64 r.hi, .int .i64 r.tag]] w (PushPost w base (.slice (some ⟨g, 0, none⟩) (m + 1) c) (A ++ [⟨y.lo, r.hi, y.tag⟩])) := by
  obtain ⟨i0, hi0, hz0, hz1, hz2⟩ := info_parts infoRun
  have t1 : (y.tag == r.tag) = true := by simpa using ht
  have hr := (hO.toRuns.at_ (i := m) (by simp; omega)).2
  have ey : (A ++ [y])[m]'(by simp; omega) = y := by subst hm; simp
  rw [ey, add_plain0] at hr
  obtain ⟨c0, c1, c2⟩ := hr
  have i1 : IntKind.i64.wrap (((m + 1 : Nat) : Int) - 1) = (m : Int) := by rw [IntWalk.i64_in _ (by omega)]; omega
  have hmi : (m : Int) ≤ 1000000 := by omega
  have HO := Lib.hid hO
  have HM := Lib.hid hm
  clear hO hm ey
  go_enter Try.func58, Try.ntmps58
  go_wp2_with (fail)
  generalize hwb : World.alloc w _ = wb
  have bb : BoxRun wb w.heap.size r.lo r.hi r.tag := hwb ▸ BoxRun.new w _ _ _
  have gb : w.grownBy wb none := hwb ▸ World.grownBy_alloc w _ none
  have b2 : wb.cell? ⟨g, m * 3 + 2, none⟩ = some (.int .i64 y.tag) := grown_cell gb c2
  clear hwb
  have bz := bb.lt
  have x2 := bb.c2
  go_quiet (fail)
  generalize hwq : World.drewN _ _ = wq
  have bq : BoxRun wq w.heap.size r.lo r.hi r.tag := hwq ▸ bb.drewN_ _
  have gq : w.grownBy wq none := hwq ▸ gb.trans (grown_drewN _ _)
  clear hwq
  have hq := HO.out.kept_ gq
  have hf : wq.frozen? ⟨g, m * 3 + 1, none⟩ = false := hq.frozen_ _
  have HQ := Lib.hid hq
  clear hq
  have q0 := bq.c0
  have q1 := bq.c1
  have q2 := bq.c2
  have qz := bq.lt
  have d1 := grown_cell gq c1
  go_wp2_with (fail)
  go_ret
  have hs := HQ.out
  rw [← HM.out] at hs
  refine ⟨_, rfl, ?_, (grown_mono gq _).trans (grown_set _ _ _ _), .inl rfl⟩
  have := hs.set_hi r.hi
  rw [HM.out] at this
  exact this
theorem push_any (w : World) (base : Nat) (v : Value) (l : List Rn) (r : Rn) (hO : OwnRuns w base v l) (hb : base ≤ w.heap.size) (hl : l.length ≤ 1000000) :
    Calls Try.prog 58 #[v, .agg #[.int .i64 r.lo, .int .i64 r.hi, .int .i64 r.tag]] w (PushPost w base v (pushRn l r)) := by
  rcases nil_or_snoc l with rfl | ⟨l, y, rfl⟩
  · obtain ⟨A, c, rfl⟩ := hO.sliced
    exact push_nil w base A c r hO hb
  · obtain ⟨g, c, rfl⟩ : ∃ g c, v = .slice (some ⟨g, 0, none⟩) (l.length + 1) c := by
      rcases hO.2 with ⟨_, h2⟩ | ⟨g, cap, _, h1, _⟩
      · simp at h2
      · exact ⟨g, cap, by rw [h1]; simp⟩
    rw [List.length_append] at hl
    rw [pushRn_snoc]
    by_cases ht : y.tag = r.tag
    · rw [if_pos ht]; exact push_same w base l y g c l.length r rfl hO hb (by omega) ht
    · rw [if_neg ht]; exact push_new w base l y g c l.length r rfl hO hb (by omega) ht
end Go.Proofs.Ytfmplibjhohpgaa
