/- The walk over link of the reference: a list of changes with one behind it. The walk over next of the reference. The walks over Alike and Same of the reference, whatever the lists. The walk over Diff of the reference. -/
import Derived.Test.YtfmplibjhohpgaaSpDiff
import Derived.Test.YtfmplibjhohpgaaSpRefJoin
import Derived.Test.YtfmplibjhohpgaaSpRefAsk
import Derived.Test.YtfmplibjhohpgaaSpAlike
import Derived.Test.YtfmplibjhohpgaaSpRefSwap
import Derived.Deep.DeepCutAuto
import Derived.Deep.CutRange
namespace Go.Proofs.Ytfmplibjhohpgaa
section
open Go.RowKit Go.Shelf
attribute [local go_sem] Oper.semAt_some

theorem OwnChs.row_ge {w : World} {base : Nat} {v : Value} {L : List Ch} (h : OwnChs w base v L) (k : Nat) (e : v.ownBlock = some k) : base ≤ k := by
  rcases h.2 with ⟨h1, _⟩ | ⟨g, cap, cur, h1, hg, _⟩
  · rw [h1] at e; cases e
  · rw [h1] at e
    have : g = k := by simpa [Value.ownBlock] using e
    omega
theorem OwnChs.mono {w : World} {base base' : Nat} {v : Value} {L : List Ch} (h : OwnChs w base v L) (hb : base' ≤ base) : OwnChs w base' v L := by
  obtain ⟨h1, h2⟩ := h
  refine ⟨h1, ?_⟩
  rcases h2 with h2 | ⟨g, cap, cur, e, hg, r⟩
  · exact .inl h2
  · exact .inr ⟨g, cap, cur, e, by omega, r⟩
theorem OwnChs.row_fresh {w : World} {base : Nat} {v : Value} {L : List Ch} (h : OwnChs w base v L) (hne : L ≠ []) : ∃ k, v.ownBlock = some k ∧ base ≤ k := by
  rcases h.2 with ⟨_, h2⟩ | ⟨g, cap, cur, h1, hg, _⟩
  · exact (hne (List.eq_nil_of_length_eq_zero h2)).elim
  · exact ⟨g, by rw [h1]; rfl, hg⟩
theorem grown_over4 {w w1 W w2 : World} {v : Value} {L : List Ch} (g1 : w.grownBy w1 none) (gW : w1.grownBy W none) (g2 : W.grownBy w2 v.ownBlock) (hO : OwnChs w1 w.heap.size v L) (row : Option Nat) : w.grownBy w2 row := by
  have G : w.grownBy w2 v.ownBlock := (grown_mono (g1.trans gW) v.ownBlock).trans g2
  exact ⟨G.os, G.tape, G.output, G.size, fun k hk _ => G.block k hk (fun e => by have := hO.row_ge k e.symm; omega)⟩
set_option maxRecDepth 100000 in
set_option maxHeartbeats 2000000 in
theorem link_nil (w : World) (base : Nat) (A : Option Addr) (c : Nat) (r : Ch) (hO : OwnChs w base (.slice A 0 c) []) (hb : base ≤ w.heap.size) :
    Calls Try.prog 76 #[.slice A 0 c, .agg #[.int .i64 r.lo, .int .i64 r.hi, .int .i64 r.frm, .int .i64 r.to]] w (NotePost w base (.slice A 0 c) [r]) := by
  obtain ⟨i0, hi0, hz0, hz1, hz2⟩ := info_parts infoCh
  have HO := Lib.hid hO
  clear hO
  go_enter Try.func76, Try.ntmps76
  go_wp2_with (fail)
  go_quiet (fail)
  generalize hwq : World.drewN _ _ = wq
  have bq : BoxCh wq w.heap.size r := hwq ▸ note_box w _ _
  have gq : w.grownBy wq none := hwq ▸ push_grown w _ _ none
  clear hwq
  have HQ := Lib.hid (HO.out.kept_ gq)
  have q0 := bq.c0
  have q1 := bq.c1
  have q2 := bq.c2
  have q3 := bq.c3
  have qz := bq.lt
  go_wp2_with (at_builtin; (refine wpList_append_own_at _ rfl _ _ 68 rfl base 74 i0 (.agg #[.int .i64 0, .int .i64 0, .int .i64 0, .int .i64 0]) 4 32 Try.underlying68 hi0 hz0 hz1 hz2 rfl (by decide) _ 0 _ rfl (HQ.out.alloc _) ⟨wq.heap.size, 0, none⟩ 1 1 [.int .i64 r.lo, .int .i64 r.hi, .int .i64 r.frm, .int .i64 r.to] rfl rfl (cell_four_new _ _ _ _ _ _) (by simp [Value.oneCell']) (by unfold maxLen; omega) (by omega) (by have := gq.size; rw [World.size_alloc]; omega) ?_); intro v' w1 hown hgrow _ hat)
  go_ret
  refine ⟨v', rfl, ?_, (grown_mono gq _).trans ((World.grownBy_alloc wq _ _).trans hgrow), hat.elim .inl fun h => .inr ⟨_, h, by have := gq.size; rw [World.size_alloc]; omega⟩⟩
  exact hown
set_option maxRecDepth 100000 in
set_option maxHeartbeats 2000000 in
theorem link_same (w : World) (base : Nat) (A : List Ch) (y : Ch) (g c m : Nat) (hi : Int) (hm : A.length = m) (hO : OwnChs w base (.slice (some ⟨g, 0, none⟩) (m + 1) c) (A ++ [y])) (hb : base ≤ w.heap.size) (hle : m ≤ 1000000) :
    Calls Try.prog 76 #[.slice (some ⟨g, 0, none⟩) (m + 1) c, .agg #[.int .i64 y.hi, .int .i64 hi, .int .i64 y.frm, .int .i64 y.to]] w (NotePost w base (.slice (some ⟨g, 0, none⟩) (m + 1) c) (A ++ [⟨y.lo, hi, y.frm, y.to⟩])) := by
  obtain ⟨i0, hi0, hz0, hz1, hz2⟩ := info_parts infoCh
  obtain ⟨c0, c1, c2, c3⟩ := hO.last hm
  have i1 : IntKind.i64.wrap (((m + 1 : Nat) : Int) - 1) = (m : Int) := by rw [IntWalk.i64_in _ (by omega)]; omega
  have hmi : (m : Int) ≤ 1000000 := by omega
  have hcap : m + 1 ≤ c := by
    rcases hO.2 with ⟨h1, _⟩ | ⟨g', cap, cur, h1, _, _, hc, _⟩
    · simp at h1
    · simp only [Value.slice.injEq] at h1
      obtain ⟨_, _, rfl⟩ := h1
      simpa [hm] using hc
  have hRA : Chs w (some ⟨g, 0, none⟩) A := by
    obtain ⟨a, c', e, _, hc⟩ := hO.chs
    simp only [Value.slice.injEq] at e
    obtain ⟨rfl, _, _⟩ := e
    rcases hc with hc | ⟨a, ha, hb, hc⟩
    · simp at hc
    · exact .inr ⟨a, ha, hb, fun i hi => by have := hc i (by simp; omega); rwa [List.getElem_append_left hi] at this⟩
  have m0 : (0 : Int) ≤ (m : Int) := by omega
  have m1 : (m : Int) ≤ (c : Int) := by omega
  have HRA := Lib.hid hRA
  clear hRA
  have HO := Lib.hid hO
  have HM := Lib.hid hm
  clear hO hm
  go_enter Try.func76, Try.ntmps76
  go_upto_region 1 with (fail)
  generalize hwb : World.alloc w _ = wb
  have bb : BoxCh wb w.heap.size ⟨y.hi, hi, y.frm, y.to⟩ := hwb ▸ BoxCh.new w ⟨y.hi, hi, y.frm, y.to⟩
  have gb : w.grownBy wb none := hwb ▸ World.grownBy_alloc w _ none
  have b1 : wb.cell? ⟨g, m * 4 + 1, none⟩ = some (.int .i64 y.hi) := grown_cell gb c1
  have b2 : wb.cell? ⟨g, m * 4 + 2, none⟩ = some (.int .i64 y.frm) := grown_cell gb c2
  have b3 : wb.cell? ⟨g, m * 4 + 3, none⟩ = some (.int .i64 y.to) := grown_cell gb c3
  clear hwb
  have bz := bb.lt
  have x0 := bb.c0
  have x1 := bb.c1
  have x2 := bb.c2
  have x3 := bb.c3
  go_wp2_with (fail)
  go_quiet (fail)
  generalize hwq : World.drewN _ _ = wq
  have bq : BoxCh wq w.heap.size ⟨y.hi, hi, y.frm, y.to⟩ := hwq ▸ bb.drewN_ _
  have gq : w.grownBy wq none := hwq ▸ gb.trans (grown_drewN _ _)
  clear hwq x0 x1 x2 x3 b1 b2 b3
  have q0 := bq.c0
  have q1 := bq.c1
  have q2 := bq.c2
  have q3 := bq.c3
  have qz := bq.lt
  have hLr : Hid (∀ j u, (cellsCh A)[j]? = some u → wq.cell? ((⟨g, 0, none⟩ : Addr).add j) = some u) := cells_of_chs (HRA.out.below ⟨gq.os, gq.tape, gq.output, gq.size, fun k hk => gq.block k hk (by simp)⟩)
  have hLn : Hid ((cellsCh A).length = m * 4) := by show _ = _; rw [cellsCh_length, HM.out]
  have d0 := grown_cell gq c0
  go_wp2_with (at_builtin; (refine wpList_append_own _ rfl _ _ 68 rfl w.heap.size 74 i0 (.agg #[.int .i64 0, .int .i64 0, .int .i64 0, .int .i64 0]) 4 32 Try.underlying68 hi0 hz0 hz1 hz2 rfl (by decide) _ _ _ rfl (World.ownsRow_nil _ _ _ _) ⟨g, 0, none⟩ m c (cellsCh A) rfl hLn.out hLr.out (cellsCh_one A) (by unfold maxLen; omega) (by omega) (by have := gq.size; omega) ?_); intro v' w1 hown hgrow hnn)
  have hO1 : OwnChs w1 w.heap.size v' A := OwnChs.of_empty HM.out hown
  obtain ⟨A', c', hv', hc', -⟩ := hO1.chs
  rw [HM.out] at hv' hc'
  subst hv'
  have HO1 : Hid (w1.ownsRow w.heap.size 74 4 (.slice A' m c') m (cellsCh A)) := by
    show w1.ownsRow _ _ _ _ _ _
    unfold OwnChs at hO1
    rw [HM.out] at hO1
    exact hO1
  have g1 : wq.grownBy w1 none := hgrow
  have bq1 : BoxCh w1 w.heap.size ⟨y.hi, hi, y.frm, y.to⟩ := (g1.block _ bq.lt (by simp)).trans bq
  have e0 := grown_cell g1 d0
  have s1 := g1.size
  have gw1 := gq.trans g1
  have HOO := Lib.hid hO1
  clear hO1 hown hnn hgrow hLr hLn q0 q1 q2 q3 d0 bq gq g1
  have q1 := bq1.c1
  have q2 := bq1.c2
  have q3 := bq1.c3
  have i3 : IntKind.i64.wrap (m : Int) = (m : Int) := IntWalk.i64_in _ (by omega)
  have m2 : (m : Int) < (m : Int) + 1 := by omega
  go_region_law (refine step_append_lies _ rfl (.tmp 50) (.tmp 64) 68 rfl w.heap.size 74 i0 (.agg #[.int .i64 0, .int .i64 0, .int .i64 0, .int .i64 0]) 4 32 Try.underlying68 hi0 hz0 hz1 hz2 rfl (by decide) (.slice A' m c') m (cellsCh A) (by simp [Act.eval]) (HO1.out.alloc _) ⟨w1.heap.size, 0, none⟩ 1 1 [.int .i64 y.lo, .int .i64 hi, .int .i64 y.frm, .int .i64 y.to] (by simp [Act.eval]) rfl (cell_four_new _ _ _ _ _ _) (by simp [Value.oneCell']) (by decide) (by unfold maxLen; omega) (by omega) (by simp; omega) _ rfl ?_; intro g2 cap2 w2 hown2 hgrow2 hat2 hlt2)
  all_goals
    go_wp2_with (fail)
    go_ret
    have hfin : OwnChs w2 w.heap.size (.slice (some ⟨g2, 0, none⟩) (m + 1) cap2) (A ++ [⟨y.lo, hi, y.frm, y.to⟩]) := by
      unfold OwnChs
      rw [cellsCh_snoc, List.length_append, HM.out]
      exact hown2
    obtain ⟨k, hk1, hk2⟩ := hfin.row_fresh (by simp)
    exact ⟨_, rfl, hfin.mono hb, grown_over4 gw1 ((grown_drewN w1 1).trans (World.grownBy_alloc _ _ none)) hgrow2 HOO.out _, .inr ⟨k, hk1, hk2⟩⟩
set_option maxRecDepth 100000 in
set_option maxHeartbeats 2000000 in
theorem link_a (w : World) (base : Nat) (A : List Ch) (y : Ch) (g c m : Nat) (lo hi frm tt : Int) (hm : A.length = m) (hO : OwnChs w base (.slice (some ⟨g, 0, none⟩) (m + 1) c) (A ++ [y])) (hb : base ≤ w.heap.size) (hle : m ≤ 1000000) (h : ¬ y.hi = lo) :
    Calls Try.prog 76 #[.slice (some ⟨g, 0, none⟩) (m + 1) c, .agg #[.int .i64 lo, .int .i64 hi, .int .i64 frm, .int .i64 tt]] w (NotePost w base (.slice (some ⟨g, 0, none⟩) (m + 1) c) (A ++ [y] ++ [⟨lo, hi, frm, tt⟩])) := by
  obtain ⟨i0, hi0, hz0, hz1, hz2⟩ := info_parts infoCh
  have t1 : (y.hi == lo) = false := by simpa using h
  obtain ⟨c0, c1, c2, c3⟩ := hO.last hm
  have i1 : IntKind.i64.wrap (((m + 1 : Nat) : Int) - 1) = (m : Int) := by rw [IntWalk.i64_in _ (by omega)]; omega
  have hmi : (m : Int) ≤ 1000000 := by omega
  have HO := Lib.hid hO
  have HM := Lib.hid hm
  clear hO hm
  go_enter Try.func76, Try.ntmps76
  go_upto_region 1 with (fail)
  generalize hwb : World.alloc w _ = wb
  have bb : BoxCh wb w.heap.size ⟨lo, hi, frm, tt⟩ := hwb ▸ BoxCh.new w ⟨lo, hi, frm, tt⟩
  have gb : w.grownBy wb none := hwb ▸ World.grownBy_alloc w _ none
  have b1 : wb.cell? ⟨g, m * 4 + 1, none⟩ = some (.int .i64 y.hi) := grown_cell gb c1
  have b2 : wb.cell? ⟨g, m * 4 + 2, none⟩ = some (.int .i64 y.frm) := grown_cell gb c2
  have b3 : wb.cell? ⟨g, m * 4 + 3, none⟩ = some (.int .i64 y.to) := grown_cell gb c3
  clear hwb
  have bz := bb.lt
  have x0 := bb.c0
  have x1 := bb.c1
  have x2 := bb.c2
  have x3 := bb.c3
  go_wp2_with (fail)
  go_quiet (fail)
  generalize hwq : World.drewN _ _ = wq
  have bq : BoxCh wq w.heap.size ⟨lo, hi, frm, tt⟩ := hwq ▸ bb.drewN_ _
  have gq : w.grownBy wq none := hwq ▸ gb.trans (grown_drewN _ _)
  clear hwq x0 x1 x2 x3 b1 b2 b3
  have q0 := bq.c0
  have q1 := bq.c1
  have q2 := bq.c2
  have q3 := bq.c3
  have qz := bq.lt
  have HQ : Hid (wq.ownsRow base 74 4 (.slice (some ⟨g, 0, none⟩) (m + 1) c) (m + 1) (cellsCh (A ++ [y]))) := by
    have h := HO.out.kept_ gq
    unfold OwnChs at h
    rw [List.length_append, HM.out] at h
    exact h
  go_wp2_with (at_builtin; (refine wpList_append_own_at _ rfl _ _ 68 rfl base 74 i0 (.agg #[.int .i64 0, .int .i64 0, .int .i64 0, .int .i64 0]) 4 32 Try.underlying68 hi0 hz0 hz1 hz2 rfl (by decide) _ (m + 1) _ rfl (HQ.out.alloc _) ⟨wq.heap.size, 0, none⟩ 1 1 [.int .i64 lo, .int .i64 hi, .int .i64 frm, .int .i64 tt] rfl rfl (cell_four_new _ _ _ _ _ _) (by simp [Value.oneCell']) (by unfold maxLen; omega) (by omega) (by have := gq.size; rw [World.size_alloc]; omega) ?_); intro v' w1 hown hgrow _ hat)
  go_ret
  refine ⟨v', rfl, ?_, (grown_mono gq _).trans ((World.grownBy_alloc wq _ _).trans hgrow), hat.elim .inl fun h => .inr ⟨_, h, by have := gq.size; rw [World.size_alloc]; omega⟩⟩
  rw [show A ++ [y, (⟨lo, hi, frm, tt⟩ : Ch)] = A ++ [y] ++ [⟨lo, hi, frm, tt⟩] from by simp]
  unfold OwnChs
  rw [cellsCh_snoc, List.length_append, List.length_append, HM.out]
  exact hown
set_option maxRecDepth 100000 in
set_option maxHeartbeats 2000000 in
theorem link_b (w : World) (base : Nat) (A : List Ch) (y : Ch) (g c m : Nat) (hi frm tt : Int) (hm : A.length = m) (hO : OwnChs w base (.slice (some ⟨g, 0, none⟩) (m + 1) c) (A ++ [y])) (hb : base ≤ w.heap.size) (hle : m ≤ 1000000) (h : ¬ y.frm = frm) :
    Calls Try.prog 76 #[.slice (some ⟨g, 0, none⟩) (m + 1) c, .agg #[.int .i64 y.hi, .int .i64 hi, .int .i64 frm, .int .i64 tt]] w (NotePost w base (.slice (some ⟨g, 0, none⟩) (m + 1) c) (A ++ [y] ++ [⟨y.hi, hi, frm, tt⟩])) := by
  obtain ⟨i0, hi0, hz0, hz1, hz2⟩ := info_parts infoCh
  have t1 : (y.frm == frm) = false := by simpa using h
  obtain ⟨c0, c1, c2, c3⟩ := hO.last hm
  have i1 : IntKind.i64.wrap (((m + 1 : Nat) : Int) - 1) = (m : Int) := by rw [IntWalk.i64_in _ (by omega)]; omega
  have hmi : (m : Int) ≤ 1000000 := by omega
  have HO := Lib.hid hO
  have HM := Lib.hid hm
  clear hO hm
  go_enter Try.func76, Try.ntmps76
  go_upto_region 1 with (fail)
  generalize hwb : World.alloc w _ = wb
  have bb : BoxCh wb w.heap.size ⟨y.hi, hi, frm, tt⟩ := hwb ▸ BoxCh.new w ⟨y.hi, hi, frm, tt⟩
  have gb : w.grownBy wb none := hwb ▸ World.grownBy_alloc w _ none
  have b1 : wb.cell? ⟨g, m * 4 + 1, none⟩ = some (.int .i64 y.hi) := grown_cell gb c1
  have b2 : wb.cell? ⟨g, m * 4 + 2, none⟩ = some (.int .i64 y.frm) := grown_cell gb c2
  have b3 : wb.cell? ⟨g, m * 4 + 3, none⟩ = some (.int .i64 y.to) := grown_cell gb c3
  clear hwb
  have bz := bb.lt
  have x0 := bb.c0
  have x1 := bb.c1
  have x2 := bb.c2
  have x3 := bb.c3
  go_wp2_with (fail)
  go_quiet (fail)
  generalize hwq : World.drewN _ _ = wq
  have bq : BoxCh wq w.heap.size ⟨y.hi, hi, frm, tt⟩ := hwq ▸ bb.drewN_ _
  have gq : w.grownBy wq none := hwq ▸ gb.trans (grown_drewN _ _)
  clear hwq x0 x1 x2 x3 b1 b2 b3
  have q0 := bq.c0
  have q1 := bq.c1
  have q2 := bq.c2
  have q3 := bq.c3
  have qz := bq.lt
  have HQ : Hid (wq.ownsRow base 74 4 (.slice (some ⟨g, 0, none⟩) (m + 1) c) (m + 1) (cellsCh (A ++ [y]))) := by
    have h := HO.out.kept_ gq
    unfold OwnChs at h
    rw [List.length_append, HM.out] at h
    exact h
  go_wp2_with (at_builtin; (refine wpList_append_own_at _ rfl _ _ 68 rfl base 74 i0 (.agg #[.int .i64 0, .int .i64 0, .int .i64 0, .int .i64 0]) 4 32 Try.underlying68 hi0 hz0 hz1 hz2 rfl (by decide) _ (m + 1) _ rfl (HQ.out.alloc _) ⟨wq.heap.size, 0, none⟩ 1 1 [.int .i64 y.hi, .int .i64 hi, .int .i64 frm, .int .i64 tt] rfl rfl (cell_four_new _ _ _ _ _ _) (by simp [Value.oneCell']) (by unfold maxLen; omega) (by omega) (by have := gq.size; rw [World.size_alloc]; omega) ?_); intro v' w1 hown hgrow _ hat)
  go_ret
  refine ⟨v', rfl, ?_, (grown_mono gq _).trans ((World.grownBy_alloc wq _ _).trans hgrow), hat.elim .inl fun h => .inr ⟨_, h, by have := gq.size; rw [World.size_alloc]; omega⟩⟩
  rw [show A ++ [y, (⟨y.hi, hi, frm, tt⟩ : Ch)] = A ++ [y] ++ [⟨y.hi, hi, frm, tt⟩] from by simp]
  unfold OwnChs
  rw [cellsCh_snoc, List.length_append, List.length_append, HM.out]
  exact hown
set_option maxRecDepth 100000 in
set_option maxHeartbeats 2000000 in
theorem link_c (w : World) (base : Nat) (A : List Ch) (y : Ch) (g c m : Nat) (hi tt : Int) (hm : A.length = m) (hO : OwnChs w base (.slice (some ⟨g, 0, none⟩) (m + 1) c) (A ++ [y])) (hb : base ≤ w.heap.size) (hle : m ≤ 1000000) (h : ¬ y.to = tt) :
    Calls Try.prog 76 #[.slice (some ⟨g, 0, none⟩) (m + 1) c, .agg #[.int .i64 y.hi, .int .i64 hi, .int .i64 y.frm, .int .i64 tt]] w (NotePost w base (.slice (some ⟨g, 0, none⟩) (m + 1) c) (A ++ [y] ++ [⟨y.hi, hi, y.frm, tt⟩])) := by
  obtain ⟨i0, hi0, hz0, hz1, hz2⟩ := info_parts infoCh
  have t1 : (y.to == tt) = false := by simpa using h
  obtain ⟨c0, c1, c2, c3⟩ := hO.last hm
  have i1 : IntKind.i64.wrap (((m + 1 : Nat) : Int) - 1) = (m : Int) := by rw [IntWalk.i64_in _ (by omega)]; omega
  have hmi : (m : Int) ≤ 1000000 := by omega
  have HO := Lib.hid hO
  have HM := Lib.hid hm
  clear hO hm
  go_enter Try.func76, Try.ntmps76
  go_upto_region 1 with (fail)
  generalize hwb : World.alloc w _ = wb
  have bb : BoxCh wb w.heap.size ⟨y.hi, hi, y.frm, tt⟩ := hwb ▸ BoxCh.new w ⟨y.hi, hi, y.frm, tt⟩
  have gb : w.grownBy wb none := hwb ▸ World.grownBy_alloc w _ none
  have b1 : wb.cell? ⟨g, m * 4 + 1, none⟩ = some (.int .i64 y.hi) := grown_cell gb c1
  have b2 : wb.cell? ⟨g, m * 4 + 2, none⟩ = some (.int .i64 y.frm) := grown_cell gb c2
  have b3 : wb.cell? ⟨g, m * 4 + 3, none⟩ = some (.int .i64 y.to) := grown_cell gb c3
  clear hwb
  have bz := bb.lt
  have x0 := bb.c0
  have x1 := bb.c1
  have x2 := bb.c2
  have x3 := bb.c3
  go_wp2_with (fail)
  go_quiet (fail)
  generalize hwq : World.drewN _ _ = wq
  have bq : BoxCh wq w.heap.size ⟨y.hi, hi, y.frm, tt⟩ := hwq ▸ bb.drewN_ _
  have gq : w.grownBy wq none := hwq ▸ gb.trans (grown_drewN _ _)
  clear hwq x0 x1 x2 x3 b1 b2 b3
  have q0 := bq.c0
  have q1 := bq.c1
  have q2 := bq.c2
  have q3 := bq.c3
  have qz := bq.lt
  have HQ : Hid (wq.ownsRow base 74 4 (.slice (some ⟨g, 0, none⟩) (m + 1) c) (m + 1) (cellsCh (A ++ [y]))) := by
    have h := HO.out.kept_ gq
    unfold OwnChs at h
    rw [List.length_append, HM.out] at h
    exact h
  go_wp2_with (at_builtin; (refine wpList_append_own_at _ rfl _ _ 68 rfl base 74 i0 (.agg #[.int .i64 0, .int .i64 0, .int .i64 0, .int .i64 0]) 4 32 Try.underlying68 hi0 hz0 hz1 hz2 rfl (by decide) _ (m + 1) _ rfl (HQ.out.alloc _) ⟨wq.heap.size, 0, none⟩ 1 1 [.int .i64 y.hi, .int .i64 hi, .int .i64 y.frm, .int .i64 tt] rfl rfl (cell_four_new _ _ _ _ _ _) (by simp [Value.oneCell']) (by unfold maxLen; omega) (by omega) (by have := gq.size; rw [World.size_alloc]; omega) ?_); intro v' w1 hown hgrow _ hat)
  go_ret
  refine ⟨v', rfl, ?_, (grown_mono gq _).trans ((World.grownBy_alloc wq _ _).trans hgrow), hat.elim .inl fun h => .inr ⟨_, h, by have := gq.size; rw [World.size_alloc]; omega⟩⟩
  rw [show A ++ [y, (⟨y.hi, hi, y.frm, tt⟩ : Ch)] = A ++ [y] ++ [⟨y.hi, hi, y.frm, tt⟩] from by simp]
  unfold OwnChs
  rw [cellsCh_snoc, List.length_append, List.length_append, HM.out]
  exact hown
theorem rlink_any (w : World) (base : Nat) (v : Value) (l : List Ch) (r : Ch) (hO : OwnChs w base v l) (hb : base ≤ w.heap.size) (hl : l.length ≤ 1000000) :
    Calls Try.prog 76 #[v, .agg #[.int .i64 r.lo, .int .i64 r.hi, .int .i64 r.frm, .int .i64 r.to]] w (NotePost w base v (noteL l r)) := by
  rcases nil_or_snoc l with rfl | ⟨l, y, rfl⟩
  · obtain ⟨A, c, rfl⟩ := hO.sliced
    exact link_nil w base A c r hO hb
  · obtain ⟨g, c, rfl⟩ : ∃ g c, v = .slice (some ⟨g, 0, none⟩) (l.length + 1) c := by
      rcases hO.2 with ⟨_, h2⟩ | ⟨g, cap, _, h1, _⟩
      · simp at h2
      · exact ⟨g, cap, by rw [h1]; simp⟩
    rw [List.length_append] at hl
    rw [noteL_snoc]
    obtain ⟨lo, hi, frm, tt⟩ := r
    by_cases h3 : y.hi = lo
    · by_cases h1 : y.frm = frm
      · by_cases h2 : y.to = tt
        · rw [if_pos ⟨h1, h2, h3⟩]
          subst h1 h2 h3
          exact link_same w base l y g c l.length hi rfl hO hb (by omega)
        · rw [if_neg (fun h => h2 h.2.1)]
          subst h1 h3
          exact link_c w base l y g c l.length hi tt rfl hO hb (by omega) h2
      · rw [if_neg (fun h => h1 h.1)]
        subst h3
        exact link_b w base l y g c l.length hi frm tt rfl hO hb (by omega) h1
    · rw [if_neg (fun h => h3 h.2.2)]
      exact link_a w base l y g c l.length lo hi frm tt rfl hO hb (by omega) h3
end
section
open Go.RowKit Go.Shelf
attribute [local go_sem ↓] run_max run_min
open Tr (OkL)

theorem endL_take {L : List (Int × Int)} (h : OkL L) {k : Nat} (hk : k < L.length) {p : Int} (h0 : Tr.total (L.take k) ≤ p) (h1 : p < Tr.total (L.take k) + L[k].1) : endL L p = Tr.total (L.take k) + L[k].1 := by
  have t := total_nonneg (OkL.take_ h k)
  have e : L = L.take k ++ (L[k] :: L.drop (k + 1)) := by rw [← List.drop_eq_getElem_cons hk, List.take_append_drop]
  have := endL_append (OkL.take_ h k) (L[k] :: L.drop (k + 1)) p (by omega)
  rw [← e, if_neg (by omega)] at this
  rw [this]
  simp only [endL]
  rw [if_pos (by omega)]
set_option maxRecDepth 100000 in
set_option maxHeartbeats 2000000 in
theorem rnext_any (w : World) (size : Int) (A : Option Addr) (n c : Nat) (at_ : Int) (L : List (Int × Int)) (g : Good L) (hR : Runs w A (lay 0 L)) (hn : L.length = n) (hnc : n ≤ c) (h0 : 0 ≤ at_) (h1 : at_ < Tr.total L) :
    Calls Try.prog 75 #[.agg #[.int .i64 size, .slice A n c], .int .i64 at_] w fun e w' => e = .returned (.int .i64 (endL L at_)) ∧ Below w.heap.size w w' := by
  have hp : 0 < n := by rw [← hn]; exact List.length_pos_iff.2 g.1
  have hm := g.2.2.2.2
  obtain ⟨a, rfl⟩ : ∃ a, A = some a := by
    rcases hR with hh | ⟨a, hh, _⟩
    · have := lay_length 0 L; rw [hh] at this; simp at this; omega
    · exact ⟨a, hh⟩
  have hmn : (n : Int) ≤ 4096 := by omega
  obtain ⟨r, hr⟩ : ∃ r, endL L at_ = r := ⟨_, rfl⟩
  rw [hr]
  have HRR := Lib.hid hr
  have HG := Lib.hid g
  have HN := Lib.hid hn
  have HR := Lib.hid hR
  have H1 := Lib.hid h1
  clear g hn hR hr hm h1
  go_enter Try.func75, Try.ntmps75
  go_upto_region 1 with (fail)
  generalize hwa : World.alloc w _ = wa
  have x2 : BoxM wa w.heap.size size (.slice (some a) n c) := hwa ▸ BoxM.new w _ _
  have hBa : Below w.heap.size w wa := hwa ▸ Below.alloc1 w _
  clear hwa
  have c0 := x2.c0
  have c1 := x2.c1
  go_wp2_with (fail)
  go_loopw [5] (fun i W => ∃ k : Nat, k ≤ n ∧ i = .int .i64 k ∧ W = wa ∧ Hid (Tr.total (L.take k) ≤ at_)) (fun i _ => n - (intOf i).toNat)
  case atStart => exact ⟨0, Nat.zero_le _, rfl, rfl, by show _ ≤ _; rw [List.take_zero, Tr.total_nil]; omega⟩
  case round =>
    obtain ⟨k, hk, rfl, rfl, hS⟩ := hrel
    by_cases hlt : k < n
    · have k1 : (k : Int) < (n : Int) := by omega
      have hkl : k < L.length := by rw [HN.out]; exact hlt
      have hkv : k < (lay 0 L).length := by rw [lay_length]; exact hkl
      obtain ⟨hab, hx⟩ := (HR.out.below hBa).at_ hkv
      rw [lay_get L 0 k hkv hkl, Int.zero_add] at hx
      obtain ⟨g0, g1, g2⟩ := hx
      have hst := total_take_succ hkl
      have hat : Hid (at_ < Tr.total (L.take k) + L[k].1 → endL L at_ = Tr.total (L.take k) + L[k].1) := fun h1 => endL_take HG.out.2.1 hkl hS.out h1
      dsimp only at g0 g1 g2
      generalize L[k] = X at *
      generalize Tr.total (L.take k) = S at *
      by_cases d1 : at_ < S + X.1
      · have d1' : decide (S + X.1 > at_) = true := by simpa using d1
        have hr := HRR.out
        rw [hat.out d1] at hr
        subst hr
        go_wp2_with (fail)
        go_ret
        exact ⟨rfl, hBa⟩
      · have d1' : decide (S + X.1 > at_) = false := by simpa using d1
        go_wp2_with (fail)
        exact ⟨⟨k + 1, by omega, by go_num, by first | rfl | trivial, Lib.hid (by omega)⟩, by simp [intOf]; omega⟩
    · obtain rfl : k = n := by omega
      have hS2 := hS.out
      rw [List.take_of_length_le (by rw [HN.out]; exact Nat.le_refl _)] at hS2
      exact absurd H1.out (by omega)
end
section
open Go.RowKit Go.Shelf
attribute [local go_sem] Oper.semAt_some

/-- What a comparison answers, and that it turns nothing. -/
def SameAns (w : World) (p : Prop) (e : Ending) (w' : World) : Prop := (∃ x : Bool, e = .returned (.bool x) ∧ (x = true ↔ p)) ∧ Below w.heap.size w w'
set_option maxRecDepth 100000 in
set_option maxHeartbeats 1000000 in
theorem ralike_len (A B : Option Addr) (m n c d : Nat) (w : World) (_hm : (m : Int) ≤ 1000000) (_hn : (n : Int) ≤ 1000000) (h : ¬ m = n) :
    Calls Try.prog 42 #[.slice A m c, .slice B n d] w fun e w' => e = .returned (.bool false) ∧ w = w' := by
  have t1 : ((m : Int) != (n : Int)) = true := by simp; omega
  go_enter Try.func42, Try.ntmps42
  go_wp2_with (fail)
  go_ret
  exact ⟨rfl, rfl⟩
set_option maxRecDepth 100000 in
set_option maxHeartbeats 2000000 in
theorem ralike_eq (V V' : List Rn) (A B : Option Addr) (n c d : Nat) (w : World) (hA : Runs w A V) (hB : Runs w B V') (hn : V.length = n) (hn' : V'.length = n) (hc : n ≤ c) (hd : n ≤ d) (hm : (n : Int) ≤ 1000000) :
    Calls Try.prog 42 #[.slice A n c, .slice B n d] w fun e w' => (∃ x : Bool, e = .returned (.bool x) ∧ (x = true ↔ V = V')) ∧ Quiet w w' := by
  have hne : ∀ {k : Nat} {X Y : Rn}, (∃ (h : k < V.length) (h' : k < V'.length), V[k] = X ∧ V'[k] = Y ∧ X ≠ Y) → ¬ V = V' := by
    rintro k X Y ⟨h, h', e1, e2, e3⟩ e
    subst e
    exact e3 (e1.symm.trans e2)
  have HNE : Hid (∀ {k : Nat} {X Y : Rn}, (∃ (h : k < V.length) (h' : k < V'.length), V[k] = X ∧ V'[k] = Y ∧ X ≠ Y) → ¬ V = V') := hne
  have HN := Lib.hid hn
  have HN' := Lib.hid hn'
  clear hn hn' hne
  go_enter Try.func42, Try.ntmps42
  go_wp2_with (fail)
  go_loopw [5] (fun i wr => ∃ k : Nat, k ≤ n ∧ i = .int .i64 k ∧ Hid (∀ j (h : j < V.length) (h' : j < V'.length), j < k → V[j] = V'[j]) ∧ Quiet w wr) (fun i _ => n - (intOf i).toNat)
  case atStart => exact ⟨0, by omega, rfl, fun j _ _ h => by omega, Quiet.refl _⟩
  case round =>
    obtain ⟨k, hk, rfl, hP, q, rfl⟩ := hrel
    by_cases hlt : k < n
    · have hkL : k < V.length := by have := HN.out; omega
      have hkL' : k < V'.length := by have := HN'.out; omega
      obtain ⟨a, rfl⟩ : ∃ a, A = some a := by
        rcases hA with hh | ⟨a, hh, _⟩
        · rw [hh] at hkL; simp at hkL
        · exact ⟨a, hh⟩
      obtain ⟨b, rfl⟩ : ∃ b, B = some b := by
        rcases hB with hh | ⟨b, hh, _⟩
        · rw [hh] at hkL'; simp at hkL'
        · exact ⟨b, hh⟩
      obtain ⟨_, f0, f1, f2⟩ := hA.at_ hkL
      obtain ⟨_, g0, g1, g2⟩ := hB.at_ hkL'
      obtain ⟨X, hX⟩ : ∃ X, V[k] = X := ⟨_, rfl⟩
      obtain ⟨Y, hY⟩ : ∃ Y, V'[k] = Y := ⟨_, rfl⟩
      rw [hX] at f0 f1 f2
      rw [hY] at g0 g1 g2
      have EX := Lib.hid hX
      have EY := Lib.hid hY
      clear hX hY
      have k0 : (0 : Int) ≤ (k : Int) := by omega
      have k1 : (k : Int) < (n : Int) := by omega
      by_cases h0 : X.lo = Y.lo
      · by_cases h1 : X.hi = Y.hi
        · by_cases h2 : X.tag = Y.tag
          · have e : X = Y := Rn.ext_ h0 h1 h2
            subst e
            clear h0 h1 h2
            go_wp2_with (fail)
            go_quiet (fail)
            go_wp2_with (fail)
            go_roundw
            case rel =>
              have hP2 : Hid (∀ j (h : j < V.length) (h' : j < V'.length), j < k + 1 → V[j] = V'[j]) := fun j h h' hj => by
                by_cases e : j = k
                · subst e; rw [EX.out, EY.out]
                · exact hP.out j h h' (by omega)
              exact ⟨k + 1, by omega, by go_num, hP2, _, rfl⟩
            case measure => simp [intOf]; omega
          · have HD : ∃ (h : k < V.length) (h' : k < V'.length), V[k] = X ∧ V'[k] = Y ∧ X ≠ Y := ⟨hkL, hkL', EX.out, EY.out, fun e => h2 (by rw [e])⟩
            have HD := Lib.hid HD
            have t1 : (X.tag == Y.tag) = false := by simpa using h2
            go_wp2_with (fail)
            go_quiet (fail)
            go_wp2_with (fail)
            go_ret
            exact ⟨⟨false, rfl, by simp only [Bool.false_eq_true, false_iff]; exact HNE.out HD⟩, ⟨_, World.drewN_drewN _ _ _⟩⟩
        · have HD : ∃ (h : k < V.length) (h' : k < V'.length), V[k] = X ∧ V'[k] = Y ∧ X ≠ Y := ⟨hkL, hkL', EX.out, EY.out, fun e => h1 (by rw [e])⟩
          have HD := Lib.hid HD
          have t1 : (X.hi == Y.hi) = false := by simpa using h1
          go_wp2_with (fail)
          go_quiet (fail)
          go_wp2_with (fail)
          go_ret
          exact ⟨⟨false, rfl, by simp only [Bool.false_eq_true, false_iff]; exact HNE.out HD⟩, ⟨_, World.drewN_drewN _ _ _⟩⟩
      · have HD : ∃ (h : k < V.length) (h' : k < V'.length), V[k] = X ∧ V'[k] = Y ∧ X ≠ Y := ⟨hkL, hkL', EX.out, EY.out, fun e => h0 (by rw [e])⟩
        have HD := Lib.hid HD
        have t1 : (X.lo == Y.lo) = false := by simpa using h0
        go_wp2_with (fail)
        go_quiet (fail)
        go_wp2_with (fail)
        go_ret
        exact ⟨⟨false, rfl, by simp only [Bool.false_eq_true, false_iff]; exact HNE.out HD⟩, ⟨_, World.drewN_drewN _ _ _⟩⟩
    · obtain rfl : k = n := by omega
      go_wp2_with (fail)
      go_ret
      refine ⟨⟨true, rfl, by simp only [true_iff]; exact List.ext_getElem (by rw [HN.out, HN'.out]) fun j h h' => hP.out j h h' (by have := HN.out; omega)⟩, _, rfl⟩
theorem ralike_any (V V' : List Rn) (A B : Option Addr) (c d : Nat) (w : World) (hA : Runs w A V) (hB : Runs w B V') (hc : V.length ≤ c) (hd : V'.length ≤ d) (hm : (V.length : Int) ≤ 1000000) (hm' : (V'.length : Int) ≤ 1000000) :
    Calls Try.prog 42 #[.slice A V.length c, .slice B V'.length d] w (SameAns w (V = V')) := by
  by_cases h : V.length = V'.length
  · have := ralike_eq V V' A B V.length c d w hA hB rfl h.symm hc (by omega) hm
    rw [← h]
    exact this.mono fun e w' ⟨h1, h2⟩ => ⟨h1, h2.below _⟩
  · exact (ralike_len A B _ _ c d w hm hm' h).mono fun e w' ⟨h1, h2⟩ => ⟨⟨false, h1, by simp only [Bool.false_eq_true, false_iff]; exact fun e => h (by rw [e])⟩, h2 ▸ Below.refl _ _⟩
theorem lay_inj {A B : List (Int × Int)} : ∀ {k : Int}, lay k A = lay k B → A = B := by
  induction A generalizing B with
  | nil => intro k h; cases B with
    | nil => rfl
    | cons y B => simp [lay] at h
  | cons x A ih =>
    intro k h
    cases B with
    | nil => simp [lay] at h
    | cons y B =>
      simp only [lay, List.cons.injEq, Rn.mk.injEq] at h
      obtain ⟨⟨_, h1, h2⟩, h3⟩ := h
      have e1 : x.1 = y.1 := by omega
      rw [e1] at h3
      rw [ih h3, Prod.ext e1 h2]
set_option maxRecDepth 100000 in
set_option maxHeartbeats 1000000 in
theorem rsame_ne (w : World) (x y : Int) (P Q : Option Addr) (m n c d : Nat) (h : ¬ x = y) :
    Calls Try.prog 49 #[.agg #[.int .i64 x, .slice P m c], .agg #[.int .i64 y, .slice Q n d]] w fun e w' => e = .returned (.bool false) ∧ Below w.heap.size w w' := by
  have t1 : (x == y) = false := by simpa using h
  obtain ⟨wa, hwa⟩ : ∃ wa, (w.alloc (.cells #[.int .i64 x, .slice P m c] 31)).alloc (.cells #[.int .i64 y, .slice Q n d] 31) = wa := ⟨_, rfl⟩
  have hBa : Below w.heap.size w wa := hwa ▸ Below.alloc2 w _ _
  have x2 : BoxM wa w.heap.size x (.slice P m c) := hwa ▸ (BoxM.new w x (.slice P m c)).next (Below.alloc1 _ _)
  have x3 : BoxM wa (w.heap.size + 1) y (.slice Q n d) := by
    have := BoxM.new (w.alloc (.cells #[.int .i64 x, .slice P m c] 31)) y (.slice Q n d)
    rw [World.size_alloc] at this; exact hwa ▸ this
  have HWA := Lib.hid hwa
  clear hwa
  have c20 := x2.c0
  have c21 := x2.c1
  have c30 := x3.c0
  have c31 := x3.c1
  go_enter Try.func49, Try.ntmps49
  go_upto_region 1 with (fail)
  rw [HWA.out]
  go_wp2_with (fail)
  go_ret
  exact ⟨rfl, hBa⟩
set_option maxRecDepth 100000 in
set_option maxHeartbeats 1000000 in
theorem rsame_eq (w : World) (x : Int) (P Q : Option Addr) (m n c d : Nat) (p : Prop) (h : ∀ W, Below w.heap.size w W → Calls Try.prog 42 #[.slice P m c, .slice Q n d] W (SameAns W p)) :
    Calls Try.prog 49 #[.agg #[.int .i64 x, .slice P m c], .agg #[.int .i64 x, .slice Q n d]] w (SameAns w p) := by
  obtain ⟨wa, hwa⟩ : ∃ wa, (w.alloc (.cells #[.int .i64 x, .slice P m c] 31)).alloc (.cells #[.int .i64 x, .slice Q n d] 31) = wa := ⟨_, rfl⟩
  have hBa : Below w.heap.size w wa := hwa ▸ Below.alloc2 w _ _
  have x2 : BoxM wa w.heap.size x (.slice P m c) := hwa ▸ (BoxM.new w x (.slice P m c)).next (Below.alloc1 _ _)
  have x3 : BoxM wa (w.heap.size + 1) x (.slice Q n d) := by
    have := BoxM.new (w.alloc (.cells #[.int .i64 x, .slice P m c] 31)) x (.slice Q n d)
    rw [World.size_alloc] at this; exact hwa ▸ this
  have HWA := Lib.hid hwa
  have H := Lib.hid h
  clear hwa h
  have c20 := x2.c0
  have c21 := x2.c1
  have c30 := x3.c0
  have c31 := x3.c1
  go_enter Try.func49, Try.ntmps49
  go_upto_region 1 with (fail)
  rw [HWA.out]
  go_wp2_with (fail)
  go_at_call 42
  refine (H.out _ hBa).mono ?_
  rintro e w1 ⟨⟨b, rfl, hb⟩, b1⟩
  have HBB := Lib.hid hb
  clear hb
  go_wp2_with (fail)
  go_ret
  exact ⟨⟨b, rfl, HBB.out⟩, Below.next hBa b1⟩
/-- Same of the reference: whether two maps have the same size and the same runs. -/
theorem rsame_any (w : World) (P Q : Option Addr) (A B : List (Int × Int)) (c d : Nat) (gA : A = [] ∨ Good A) (gB : B = [] ∨ Good B) (RA : Runs w P (lay 0 A)) (RB : Runs w Q (lay 0 B)) (hc : A.length ≤ c) (hd : B.length ≤ d) :
    Calls Try.prog 49 #[.agg #[.int .i64 (Tr.total A), .slice P A.length c], .agg #[.int .i64 (Tr.total B), .slice Q B.length d]] w fun e w' => e = .returned (.bool (decide (A = B))) ∧ Below w.heap.size w w' := by
  have len : ∀ {L : List (Int × Int)}, L = [] ∨ Good L → (L.length : Int) ≤ 4096 := fun {L} h => by
    rcases h with rfl | g
    · simp
    · exact g.2.2.2.2
  have lA := len gA
  have lB := len gB
  by_cases ht : Tr.total A = Tr.total B
  · have := rsame_eq w (Tr.total A) P Q A.length B.length c d (lay 0 A = lay 0 B) fun W hW => by
      have := ralike_any (lay 0 A) (lay 0 B) P Q c d W (RA.below hW) (RB.below hW) (by rw [lay_length]; exact hc) (by rw [lay_length]; exact hd) (by rw [lay_length]; omega) (by rw [lay_length]; omega)
      rwa [lay_length, lay_length] at this
    rw [← ht]
    refine this.mono ?_
    rintro e w' ⟨⟨x, rfl, hx⟩, hB⟩
    refine ⟨?_, hB⟩
    have : x = decide (A = B) := by
      by_cases h : A = B
      · rw [decide_eq_true h]; exact hx.2 (by rw [h])
      · rw [decide_eq_false h]
        cases x with
        | false => rfl
        | true => exact absurd (lay_inj (hx.1 rfl)) h
    rw [this]
  · rw [decide_eq_false (fun h => ht (by rw [h]))]
    exact rsame_ne w _ _ P Q _ _ c d ht
end
section
open Go.RowKit Go.Shelf
attribute [local go_sem] Oper.semAt_some
attribute [local go_sem ↓] run_max run_min

set_option maxRecDepth 100000 in
set_option maxHeartbeats 4000000 in
theorem rdiff_a (w : World) (x y : Int) (P Q : Option Addr) (m n c d : Nat) (_hm : (m : Int) ≤ 4096) (_hn : (n : Int) ≤ 4096) (h : m = 0) :
    Calls Try.prog 48 #[.agg #[.int .i64 x, .slice P m c], .agg #[.int .i64 y, .slice Q n d]] w (DiffPost w (1, [])) := by
  obtain ⟨wa, hwa⟩ : ∃ wa, (w.alloc (.cells #[.int .i64 x, .slice P m c] 31)).alloc (.cells #[.int .i64 y, .slice Q n d] 31) = wa := ⟨_, rfl⟩
  have hBa : Below w.heap.size w wa := hwa ▸ Below.alloc2 w _ _
  have x2 : BoxM wa w.heap.size x (.slice P m c) := hwa ▸ (BoxM.new w x (.slice P m c)).next (Below.alloc1 _ _)
  have x3 : BoxM wa (w.heap.size + 1) y (.slice Q n d) := by
    have := BoxM.new (w.alloc (.cells #[.int .i64 x, .slice P m c] 31)) y (.slice Q n d)
    rw [World.size_alloc] at this; exact hwa ▸ this
  have HWA := Lib.hid hwa
  clear hwa
  have c20 := x2.c0
  have c21 := x2.c1
  have c30 := x3.c0
  have c31 := x3.c1
  have hua : ∀ W, Calls Try.prog 55 #[.agg #[.int .i64 x, .slice P m c]] W fun e w' => e = .returned (.bool false) ∧ Below W.heap.size W w' := fun W => by
    have := usable_any x P m c W (by omega)
    rw [show decide (0 < m) = false from by simp; omega] at this
    exact this
  have HUA := Lib.hid hua
  clear hua
  clear h
  go_enter Try.func48, Try.ntmps48
  go_upto_region 1 with (fail)
  rw [HWA.out]
  go_wp2_with (fail)
  go_at_call 55
  refine (HUA.out _).mono ?_
  rintro e w1 ⟨rfl, b1⟩
  have y2 := x2.next b1
  have y3 := x3.next b1
  have B1 := Below.next hBa b1
  clear x2 x3 b1 c20 c21 c30 c31
  have c20 := y2.c0
  have c21 := y2.c1
  have c30 := y3.c0
  have c31 := y3.c1
  go_wp2_with (fail)
  go_ret2
  exact ⟨.slice none 0 0, rfl, World.ownsRow_nil _ _ _ _, B1⟩
set_option maxRecDepth 100000 in
set_option maxHeartbeats 4000000 in
theorem rdiff_b (w : World) (x y : Int) (P Q : Option Addr) (m n c d : Nat) (hm : (m : Int) ≤ 4096) (_hn : (n : Int) ≤ 4096) (h : 0 < m) (h2 : n = 0) :
    Calls Try.prog 48 #[.agg #[.int .i64 x, .slice P m c], .agg #[.int .i64 y, .slice Q n d]] w (DiffPost w (1, [])) := by
  obtain ⟨wa, hwa⟩ : ∃ wa, (w.alloc (.cells #[.int .i64 x, .slice P m c] 31)).alloc (.cells #[.int .i64 y, .slice Q n d] 31) = wa := ⟨_, rfl⟩
  have hBa : Below w.heap.size w wa := hwa ▸ Below.alloc2 w _ _
  have x2 : BoxM wa w.heap.size x (.slice P m c) := hwa ▸ (BoxM.new w x (.slice P m c)).next (Below.alloc1 _ _)
  have x3 : BoxM wa (w.heap.size + 1) y (.slice Q n d) := by
    have := BoxM.new (w.alloc (.cells #[.int .i64 x, .slice P m c] 31)) y (.slice Q n d)
    rw [World.size_alloc] at this; exact hwa ▸ this
  have HWA := Lib.hid hwa
  clear hwa
  have c20 := x2.c0
  have c21 := x2.c1
  have c30 := x3.c0
  have c31 := x3.c1
  have hua : ∀ W, Calls Try.prog 55 #[.agg #[.int .i64 x, .slice P m c]] W fun e w' => e = .returned (.bool true) ∧ Below W.heap.size W w' := fun W => by
    have := usable_any x P m c W (by omega)
    rw [show decide (0 < m) = true from by simp; omega] at this
    exact this
  have HUA := Lib.hid hua
  clear hua
  have hub : ∀ W, Calls Try.prog 55 #[.agg #[.int .i64 y, .slice Q n d]] W fun e w' => e = .returned (.bool false) ∧ Below W.heap.size W w' := fun W => by
    have := usable_any y Q n d W (by omega)
    rw [show decide (0 < n) = false from by simp; omega] at this
    exact this
  have HUB := Lib.hid hub
  clear hub
  clear h2
  go_enter Try.func48, Try.ntmps48
  go_upto_region 1 with (fail)
  rw [HWA.out]
  go_wp2_with (fail)
  go_at_call 55
  refine (HUA.out _).mono ?_
  rintro e w1 ⟨rfl, b1⟩
  have y2 := x2.next b1
  have y3 := x3.next b1
  have B1 := Below.next hBa b1
  clear x2 x3 b1 c20 c21 c30 c31
  have c20 := y2.c0
  have c21 := y2.c1
  have c30 := y3.c0
  have c31 := y3.c1
  go_wp2_with (fail)
  go_at_call 55
  refine (HUB.out _).mono ?_
  rintro e w2 ⟨rfl, b2⟩
  have z2 := y2.next b2
  have z3 := y3.next b2
  have B2 := Below.next B1 b2
  clear y2 y3 b2 c20 c21 c30 c31
  have c20 := z2.c0
  have c21 := z2.c1
  have c30 := z3.c0
  have c31 := z3.c1
  go_wp2_with (fail)
  go_ret2
  exact ⟨.slice none 0 0, rfl, World.ownsRow_nil _ _ _ _, B2⟩
set_option maxRecDepth 100000 in
set_option maxHeartbeats 4000000 in
theorem rdiff_c (w : World) (x y : Int) (P Q : Option Addr) (m n c d : Nat) (hm : (m : Int) ≤ 4096) (hn : (n : Int) ≤ 4096) (h : 0 < m) (h2 : 0 < n) (h3 : ¬ x = y) :
    Calls Try.prog 48 #[.agg #[.int .i64 x, .slice P m c], .agg #[.int .i64 y, .slice Q n d]] w (DiffPost w (2, [])) := by
  have t1 : (x != y) = true := by simpa using h3
  obtain ⟨wa, hwa⟩ : ∃ wa, (w.alloc (.cells #[.int .i64 x, .slice P m c] 31)).alloc (.cells #[.int .i64 y, .slice Q n d] 31) = wa := ⟨_, rfl⟩
  have hBa : Below w.heap.size w wa := hwa ▸ Below.alloc2 w _ _
  have x2 : BoxM wa w.heap.size x (.slice P m c) := hwa ▸ (BoxM.new w x (.slice P m c)).next (Below.alloc1 _ _)
  have x3 : BoxM wa (w.heap.size + 1) y (.slice Q n d) := by
    have := BoxM.new (w.alloc (.cells #[.int .i64 x, .slice P m c] 31)) y (.slice Q n d)
    rw [World.size_alloc] at this; exact hwa ▸ this
  have HWA := Lib.hid hwa
  clear hwa
  have c20 := x2.c0
  have c21 := x2.c1
  have c30 := x3.c0
  have c31 := x3.c1
  have hua : ∀ W, Calls Try.prog 55 #[.agg #[.int .i64 x, .slice P m c]] W fun e w' => e = .returned (.bool true) ∧ Below W.heap.size W w' := fun W => by
    have := usable_any x P m c W (by omega)
    rw [show decide (0 < m) = true from by simp; omega] at this
    exact this
  have HUA := Lib.hid hua
  clear hua
  have hub : ∀ W, Calls Try.prog 55 #[.agg #[.int .i64 y, .slice Q n d]] W fun e w' => e = .returned (.bool true) ∧ Below W.heap.size W w' := fun W => by
    have := usable_any y Q n d W (by omega)
    rw [show decide (0 < n) = true from by simp; omega] at this
    exact this
  have HUB := Lib.hid hub
  clear hub
  go_enter Try.func48, Try.ntmps48
  go_upto_region 1 with (fail)
  rw [HWA.out]
  go_wp2_with (fail)
  go_at_call 55
  refine (HUA.out _).mono ?_
  rintro e w1 ⟨rfl, b1⟩
  have y2 := x2.next b1
  have y3 := x3.next b1
  have B1 := Below.next hBa b1
  clear x2 x3 b1 c20 c21 c30 c31
  have c20 := y2.c0
  have c21 := y2.c1
  have c30 := y3.c0
  have c31 := y3.c1
  go_wp2_with (fail)
  go_at_call 55
  refine (HUB.out _).mono ?_
  rintro e w2 ⟨rfl, b2⟩
  have z2 := y2.next b2
  have z3 := y3.next b2
  have B2 := Below.next B1 b2
  clear y2 y3 b2 c20 c21 c30 c31
  have c20 := z2.c0
  have c21 := z2.c1
  have c30 := z3.c0
  have c31 := z3.c1
  go_wp2_with (fail)
  go_ret2
  exact ⟨.slice none 0 0, rfl, World.ownsRow_nil _ _ _ _, B2⟩
set_option maxRecDepth 100000 in
set_option maxHeartbeats 4000000 in
theorem rdiff_d (w : World) (x : Int) (P Q : Option Addr) (m n c d : Nat) (hm : (m : Int) ≤ 4096) (hn : (n : Int) ≤ 4096) (A B : List (Int × Int)) (gA : Good A) (gB : Good B) (hA : Tr.total A = x) (hB : Tr.total B = x) (RA : Runs w P (lay 0 A)) (RB : Runs w Q (lay 0 B)) (lA : A.length = m) (lB : B.length = n) (hc : m ≤ c) (hd : n ≤ d) :
    Calls Try.prog 48 #[.agg #[.int .i64 x, .slice P m c], .agg #[.int .i64 x, .slice Q n d]] w (DiffPost w (0, diffL (zipL A B))) := by
  have h : 0 < m := by rw [← lA]; exact List.length_pos_iff.2 gA.1
  have h2 : 0 < n := by rw [← lB]; exact List.length_pos_iff.2 gB.1
  have hzl := zipL_length A B
  have hz := zipL_ok gA.2.1 gB.2.1 hA hB
  obtain ⟨Z, hZ⟩ : ∃ Z, zipL A B = Z := ⟨_, rfl⟩
  rw [hZ] at hz hzl ⊢
  have hzl2 : Z.length ≤ 8192 := by omega
  have x0 : 0 ≤ x := by rw [← hA]; exact total_nonneg gA.2.1
  have hnxA : ∀ at_, 0 ≤ at_ → at_ < x → ∀ W, Below w.heap.size w W → Calls Try.prog 75 #[.agg #[.int .i64 x, .slice P m c], .int .i64 at_] W fun e w' => e = .returned (.int .i64 (endL A at_)) ∧ Below W.heap.size W w' := fun at_ h0 h1 W hW => rnext_any W x P m c at_ A gA (RA.below hW) lA hc h0 (by omega)
  have hgtA : ∀ at_, 0 ≤ at_ → at_ < x → ∀ W, Below w.heap.size w W → Calls Try.prog 38 #[.agg #[.int .i64 x, .slice P m c], .int .i64 at_] W fun e w' => e = .returned (.tuple #[.int .i64 (atL A at_), .int .i64 0]) ∧ Below W.heap.size W w' := fun at_ h0 h1 W hW => by
    have := rget_any W P c at_ A (.inr gA) (RA.below hW) (by omega)
    rw [hA, lA, show getR A at_ = (atL A at_, 0) from by unfold getR; rw [if_neg gA.1, if_neg (by omega)]] at this
    exact this
  have HNXA := Lib.hid hnxA
  have HGTA := Lib.hid hgtA
  clear hnxA hgtA
  have hnxB : ∀ at_, 0 ≤ at_ → at_ < x → ∀ W, Below w.heap.size w W → Calls Try.prog 75 #[.agg #[.int .i64 x, .slice Q n d], .int .i64 at_] W fun e w' => e = .returned (.int .i64 (endL B at_)) ∧ Below W.heap.size W w' := fun at_ h0 h1 W hW => rnext_any W x Q n d at_ B gB (RB.below hW) lB hd h0 (by omega)
  have hgtB : ∀ at_, 0 ≤ at_ → at_ < x → ∀ W, Below w.heap.size w W → Calls Try.prog 38 #[.agg #[.int .i64 x, .slice Q n d], .int .i64 at_] W fun e w' => e = .returned (.tuple #[.int .i64 (atL B at_), .int .i64 0]) ∧ Below W.heap.size W w' := fun at_ h0 h1 W hW => by
    have := rget_any W Q d at_ B (.inr gB) (RB.below hW) (by omega)
    rw [hB, lB, show getR B at_ = (atL B at_, 0) from by unfold getR; rw [if_neg gB.1, if_neg (by omega)]] at this
    exact this
  have HNXB := Lib.hid hnxB
  have HGTB := Lib.hid hgtB
  clear hnxB hgtB
  have HZ := Lib.hid hz
  have OA := Lib.hid gA.2.1
  have OB := Lib.hid gB.2.1
  have HTA := Lib.hid hA
  have HTB := Lib.hid hB
  clear hz hA hB lA lB RA RB gA gB hzl hZ
  obtain ⟨wa, hwa⟩ : ∃ wa, (w.alloc (.cells #[.int .i64 x, .slice P m c] 31)).alloc (.cells #[.int .i64 x, .slice Q n d] 31) = wa := ⟨_, rfl⟩
  have hBa : Below w.heap.size w wa := hwa ▸ Below.alloc2 w _ _
  have x2 : BoxM wa w.heap.size x (.slice P m c) := hwa ▸ (BoxM.new w x (.slice P m c)).next (Below.alloc1 _ _)
  have x3 : BoxM wa (w.heap.size + 1) x (.slice Q n d) := by
    have := BoxM.new (w.alloc (.cells #[.int .i64 x, .slice P m c] 31)) x (.slice Q n d)
    rw [World.size_alloc] at this; exact hwa ▸ this
  have HWA := Lib.hid hwa
  clear hwa
  have c20 := x2.c0
  have c21 := x2.c1
  have c30 := x3.c0
  have c31 := x3.c1
  have hua : ∀ W, Calls Try.prog 55 #[.agg #[.int .i64 x, .slice P m c]] W fun e w' => e = .returned (.bool true) ∧ Below W.heap.size W w' := fun W => by
    have := usable_any x P m c W (by omega)
    rw [show decide (0 < m) = true from by simp; omega] at this
    exact this
  have HUA := Lib.hid hua
  clear hua
  have hub : ∀ W, Calls Try.prog 55 #[.agg #[.int .i64 x, .slice Q n d]] W fun e w' => e = .returned (.bool true) ∧ Below W.heap.size W w' := fun W => by
    have := usable_any x Q n d W (by omega)
    rw [show decide (0 < n) = true from by simp; omega] at this
    exact this
  have HUB := Lib.hid hub
  clear hub
  go_enter Try.func48, Try.ntmps48
  go_upto_region 1 with (fail)
  rw [HWA.out]
  go_wp2_with (fail)
  go_at_call 55
  refine (HUA.out _).mono ?_
  rintro e w1 ⟨rfl, b1⟩
  have y2 := x2.next b1
  have y3 := x3.next b1
  have B1 := Below.next hBa b1
  clear x2 x3 b1 c20 c21 c30 c31
  have c20 := y2.c0
  have c21 := y2.c1
  have c30 := y3.c0
  have c31 := y3.c1
  go_wp2_with (fail)
  go_at_call 55
  refine (HUB.out _).mono ?_
  rintro e w2 ⟨rfl, b2⟩
  have z2 := y2.next b2
  have z3 := y3.next b2
  have B2 := Below.next B1 b2
  clear y2 y3 b2 c20 c21 c30 c31
  have c20 := z2.c0
  have c21 := z2.c1
  have c30 := z3.c0
  have c31 := z3.c1
  go_wp2_with (fail)
  have sB2 := B2.size
  have sw2 : w.heap.size + 1 < w2.heap.size := z3.lt
  go_loopw [6, 7] (fun v a W => ∃ (Z1 Z2 : List Pr) (at_ : Int), a = .int .i64 at_ ∧ 0 ≤ at_ ∧ at_ ≤ x ∧ Hid (Z = Z1 ++ Z2) ∧ Hid (ZOk A B x at_ Z2) ∧ OwnChs W w2.heap.size v (diffL Z1) ∧ BoxM W w.heap.size x (.slice P m c) ∧ BoxM W (w.heap.size + 1) x (.slice Q n d) ∧ w2.heap.size ≤ W.heap.size ∧ Below w.heap.size w W) (fun _ a _ => (x - intOf a).toNat)
  case atStart => exact ⟨[], Z, 0, rfl, by omega, x0, Lib.hid rfl, HZ, World.ownsRow_nil _ _ _ _, z2, z3, Nat.le_refl _, B2⟩
  case round =>
    obtain ⟨Z1, Z2, at_, rfl, h0, h1, hZ, hOk, hO, v2, v3, hsz, hBw⟩ := hrel
    clear z2 z3 B2 c20 c21 c30 c31
    have c20 := v2.c0
    have c21 := v2.c1
    have c30 := v3.c0
    have c31 := v3.c1
    obtain ⟨I, cI, rfl⟩ := hO.sliced
    have HO := Lib.hid hO
    clear hO
    cases Z2 with
    | nil =>
      have e : at_ = x := hOk.out
      subst e
      go_wp2_with (fail)
      go_ret2
      have e2 : Z = Z1 := by rw [hZ.out, List.append_nil]
      rw [e2]
      obtain ⟨k1, k2⟩ := HO.out
      refine ⟨.slice I (diffL Z1).length cI, rfl, ⟨k1, ?_⟩, hBw⟩
      rcases k2 with k2 | ⟨g, cap, cur, e, hg, r⟩
      · exact .inl k2
      · exact .inr ⟨g, cap, cur, e, by omega, r⟩
    | cons z Z2 =>
      obtain ⟨e1, hlt, e3, e4, e5, hOk2⟩ := hOk.out
      have q1 := endL_gt OA.out at_ h0 (by rw [HTA.out]; exact hlt)
      have q2 := endL_gt OB.out at_ h0 (by rw [HTB.out]; exact hlt)
      rw [HTA.out] at q1
      rw [HTB.out] at q2
      have hn1 := HNXA.out at_ h0 hlt
      have hn2 := HNXB.out at_ h0 hlt
      have hg1 := HGTA.out at_ h0 hlt
      have hg2 := HGTB.out at_ h0 hlt
      rw [← e4] at hg1
      rw [← e5] at hg2
      generalize endL A at_ = eA at *
      generalize endL B at_ = eB at *
      have z1 : at_ < z.hi := by omega
      have z4 : z.hi ≤ x := by omega
      have N1 := Lib.hid hn1
      have N2 := Lib.hid hn2
      have G1 := Lib.hid hg1
      have G2 := Lib.hid hg2
      have E3 := Lib.hid e3
      have E1 := Lib.hid e1
      have HK2 := Lib.hid hOk2
      clear hn1 hn2 hg1 hg2 e1 e3 e4 e5 hOk2 hOk q1 q2
      have tok1 : True := trivial
      go_upto_region 8 with (fail)
      go_cut [8] from 26 to 59 (fun tv W => tv = .int .i64 z.hi ∧ Below wr.heap.size wr W)
      case first =>
        go_region_with ((first
          | (go_at_call 75; have _t := tok1; clear tok1; refine (N1.out _ (by exact hBw.drew)).mono ?_; rintro e w3 ⟨rfl, b3'⟩; have b3 : Below wr.heap.size wr w3 := Below.of_drew b3'; have B3 := Below.next hBw b3; have d20 := (v2.next b3).c0; have d21 := (v2.next b3).c1; have d30 := (v3.next b3).c0; have d31 := (v3.next b3).c1)
          | (go_at_call 75; refine (N2.out _ B3).mono ?_; rintro e w4 ⟨rfl, b4⟩; have B4 := Below.next b3 b4)))
        all_goals
          go_wp2_with (fail)
          go_meet
          exact ⟨by rw [E3.out], B4⟩
      case rest =>
        obtain ⟨rfl, bC⟩ := hcut
        have y2 := v2.next bC
        have y3 := v3.next bC
        have sC : w2.heap.size ≤ wc.heap.size := Nat.le_trans hsz bC.size
        have BC := Below.next hBw bC
        have OC := Lib.hid (HO.out.next bC)
        clear v2 v3 hBw bC hsz c20 c21 c30 c31 N1 N2 HO
        have c20 := y2.c0
        have c21 := y2.c1
        have c30 := y3.c0
        have c31 := y3.c1
        go_wp2_with (fail)
        go_at_call 38
        refine (G1.out _ BC).mono ?_
        rintro e w3 ⟨rfl, b3⟩
        have z2 := y2.next b3
        have z3 := y3.next b3
        have s3 : w2.heap.size ≤ w3.heap.size := Nat.le_trans sC b3.size
        have B3 := Below.next BC b3
        have O3 := Lib.hid (OC.out.next b3)
        clear y2 y3 b3 BC OC sC c20 c21 c30 c31
        have c20 := z2.c0
        have c21 := z2.c1
        have c30 := z3.c0
        have c31 := z3.c1
        go_wp2_with (fail)
        go_at_call 38
        refine (G2.out _ B3).mono ?_
        rintro e w4 ⟨rfl, b4⟩
        have y2 := z2.next b4
        have y3 := z3.next b4
        have s4 : w2.heap.size ≤ w4.heap.size := Nat.le_trans s3 b4.size
        have B4 := Below.next B3 b4
        have O4 := Lib.hid (O3.out.next b4)
        clear z2 z3 b4 B3 O3 s3 c20 c21 c30 c31
        by_cases hz : z.a = z.b
        · have t1 : (z.a != z.b) = false := by simp [hz]
          have HD : Hid (diffL (Z1 ++ [z]) = diffL Z1) := by show _ = _; rw [diffL_snoc]; unfold diffS; rw [if_pos hz]
          have O5 : Hid (OwnChs w4 w2.heap.size (.slice I (diffL Z1).length cI) (diffL (Z1 ++ [z]))) := by show OwnChs _ _ _ _; rw [HD.out]; exact O4.out
          go_wp2_with (fail)
          go_roundw
          case rel =>
            have hrel' : ∃ (Z1' Z2' : List Pr) (at' : Int), Value.int IntKind.i64 z.hi = .int .i64 at' ∧ 0 ≤ at' ∧ at' ≤ x ∧ Hid (Z = Z1' ++ Z2') ∧ Hid (ZOk A B x at' Z2') ∧ OwnChs w4 w2.heap.size (.slice I (diffL Z1).length cI) (diffL Z1') ∧ BoxM w4 w.heap.size x (.slice P m c) ∧ BoxM w4 (w.heap.size + 1) x (.slice Q n d) ∧ w2.heap.size ≤ w4.heap.size ∧ Below w.heap.size w w4 :=
              ⟨Z1 ++ [z], Z2, z.hi, rfl, by omega, z4, Lib.hid (by rw [hZ.out]; simp), HK2, O5.out, y2, y3, s4, B4⟩
            first
              | exact hrel'
              | ((repeat apply Exists.intro); exact ⟨hrel', rfl⟩)
          case measure => simp [intOf]; omega
        · have t1 : (z.a != z.b) = true := by simp [hz]
          have HD : Hid (diffL (Z1 ++ [z]) = noteL (diffL Z1) ⟨at_, z.hi, z.a, z.b⟩) := by show _ = _; rw [diffL_snoc]; unfold diffS; rw [if_neg hz, E1.out]
          have ll : (diffL Z1).length ≤ 1000000 := by
            have := diffL_length Z1
            have : Z.length = Z1.length + (z :: Z2).length := by rw [hZ.out, List.length_append]
            omega
          have HLK := Lib.hid (rlink_any w4 w2.heap.size (.slice I (diffL Z1).length cI) (diffL Z1) ⟨at_, z.hi, z.a, z.b⟩ O4.out s4 ll)
          go_wp2_with (fail)
          go_at_call 76
          refine HLK.out.mono ?_
          rintro e w5 ⟨v', rfl, O5', hg5, -⟩
          have b5 : Below w2.heap.size w4 w5 := ⟨hg5.os, hg5.tape, hg5.output, hg5.size, fun k hk => hg5.block k (by omega) (fun e => by have := O4.out.row_ge k e.symm; omega)⟩
          have u2 : BoxM w5 w.heap.size x (.slice P m c) := (b5.block _ (by omega)).trans y2
          have u3 : BoxM w5 (w.heap.size + 1) x (.slice Q n d) := (b5.block _ (by omega)).trans y3
          have s5 : w2.heap.size ≤ w5.heap.size := Nat.le_trans s4 hg5.size
          have B5 := B4.trans (b5.mono (by omega))
          obtain ⟨I', cI', rfl⟩ := O5'.sliced
          have O5 : Hid (OwnChs w5 w2.heap.size (.slice I' (noteL (diffL Z1) ⟨at_, z.hi, z.a, z.b⟩).length cI') (diffL (Z1 ++ [z]))) := by show OwnChs _ _ _ _; rw [HD.out]; exact O5'
          clear O5' hg5 b5
          go_wp2_with (fail)
          go_roundw
          case rel =>
            have hrel' : ∃ (Z1' Z2' : List Pr) (at' : Int), Value.int IntKind.i64 z.hi = .int .i64 at' ∧ 0 ≤ at' ∧ at' ≤ x ∧ Hid (Z = Z1' ++ Z2') ∧ Hid (ZOk A B x at' Z2') ∧ OwnChs w5 w2.heap.size (.slice I' (noteL (diffL Z1) ⟨at_, z.hi, z.a, z.b⟩).length cI') (diffL Z1') ∧ BoxM w5 w.heap.size x (.slice P m c) ∧ BoxM w5 (w.heap.size + 1) x (.slice Q n d) ∧ w2.heap.size ≤ w5.heap.size ∧ Below w.heap.size w w5 :=
              ⟨Z1 ++ [z], Z2, z.hi, rfl, by omega, z4, Lib.hid (by rw [hZ.out]; simp), HK2, O5.out, u2, u3, s5, B5⟩
            first
              | exact hrel'
              | ((repeat apply Exists.intro); exact ⟨hrel', rfl⟩)
          case measure => simp [intOf]; omega
/-- Diff of the reference. -/
theorem rdiff_any (w : World) (P Q : Option Addr) (A B : List (Int × Int)) (c d : Nat) (gA : A = [] ∨ Good A) (gB : B = [] ∨ Good B) (RA : Runs w P (lay 0 A)) (RB : Runs w Q (lay 0 B)) (hc : A.length ≤ c) (hd : B.length ≤ d) :
    Calls Try.prog 48 #[.agg #[.int .i64 (Tr.total A), .slice P A.length c], .agg #[.int .i64 (Tr.total B), .slice Q B.length d]] w (DiffPost w (diffR A B)) := by
  have len : ∀ {L : List (Int × Int)}, L = [] ∨ Good L → (L.length : Int) ≤ 4096 := fun {L} h => by
    rcases h with rfl | g
    · simp
    · exact g.2.2.2.2
  have lA := len gA
  have lB := len gB
  unfold diffR
  by_cases hA : A = []
  · rw [if_pos (.inl hA)]
    exact rdiff_a w _ _ P Q _ _ c d lA lB (by rw [hA]; rfl)
  · have pA : 0 < A.length := List.length_pos_iff.2 hA
    by_cases hB : B = []
    · rw [if_pos (.inr hB)]
      exact rdiff_b w _ _ P Q _ _ c d lA lB pA (by rw [hB]; rfl)
    · have pB : 0 < B.length := List.length_pos_iff.2 hB
      rw [if_neg (by simp [hA, hB])]
      by_cases ht : Tr.total A = Tr.total B
      · rw [if_neg (by simp [ht])]
        have := rdiff_d w _ P Q _ _ c d lA lB A B (gA.resolve_left hA) (gB.resolve_left hB) rfl ht.symm RA RB rfl rfl hc hd
        rwa [← ht]
      · rw [if_pos ht]
        exact rdiff_c w _ _ P Q _ _ c d lA lB pA pB ht
end
end Go.Proofs.Ytfmplibjhohpgaa
