/- The walk over note of package span. The walk over zip of package span, whatever the function that it calls. The functions that Equal and Diff hand to zip. Equal of package span, whatever the maps. The walk over alike of package span. The walk over Diff of package span, whatever the maps. -/
import Derived.Test.YtfmplibjhohpgaaSpChOwn
import Derived.Test.YtfmplibjhohpgaaSpZipL
import Derived.Test.YtfmplibjhohpgaaSpPush
import Derived.Test.YtfmplibjhohpgaaSpAlike
import Derived.Test.YtfmplibjhohpgaaSpBuilt
import Derived.BigRegion
import Derived.LaidEqlPtr
import Derived.ArgAppend
namespace Go.Proofs.Ytfmplibjhohpgaa
section
open Go.RowKit Go.Shelf
attribute [local go_sem] Oper.semAt_some

/-- What note returns: the changes of the slice with one behind them, in a slice of the call's own; nothing else is turned. -/
def NotePost (w : World) (base : Nat) (v : Value) (L : List Ch) (e : Ending) (w' : World) : Prop :=
  ∃ v', e = .returned v' ∧ OwnChs w' base v' L ∧ w.grownBy w' v.ownBlock ∧ (v'.ownBlock = v.ownBlock ∨ ∃ k, v'.ownBlock = some k ∧ w.heap.size ≤ k)
theorem OwnChs.sliced {w : World} {base : Nat} {v : Value} {L : List Ch} (h : OwnChs w base v L) : ∃ A c, v = .slice A L.length c := by
  rcases h.2 with ⟨h1, h2⟩ | ⟨g, cap, _, h1, _⟩
  · exact ⟨none, 0, by rw [h1, h2]⟩
  · exact ⟨_, cap, h1⟩
theorem OwnChs.frozen_ {w : World} {base g n c : Nat} {L : List Ch} (h : OwnChs w base (.slice (some ⟨g, 0, none⟩) n c) L) (i : Nat) : w.frozen? ⟨g, i, none⟩ = false := by
  rcases h.2 with ⟨h1, _⟩ | ⟨g', cap, cur, h1, _, hh, _⟩
  · cases h1
  · cases h1; simp [World.frozen?, hh]
theorem OwnChs.kept_ {w w' : World} {base : Nat} {v : Value} {L : List Ch} (h : OwnChs w base v L) (hg : w.grownBy w' none) : OwnChs w' base v L := by
  refine World.ownsRow.kept h hg ?_
  by_cases e : v.ownBlock = none
  · exact .inl e
  · exact .inr e
theorem cellsCh_snoc (A : List Ch) (y : Ch) : cellsCh (A ++ [y]) = cellsCh A ++ [.int .i64 y.lo, .int .i64 y.hi, .int .i64 y.frm, .int .i64 y.to] := by simp [cellsCh]
theorem cell_four_new (w : World) (x y z u : Value) (t : TypeId) : ∀ j v, [x, y, z, u][j]? = some v → (w.alloc (.cells #[x, y, z, u] t)).cell? ((⟨w.heap.size, 0, none⟩ : Addr).add j) = some v := by
  intro j v hj
  have hh := heap_alloc_new w (.cells #[x, y, z, u] t)
  match j, hj with
  | 0, hj => simp at hj; subst hj; exact cell_of_row _ w.heap.size 0 _ _ _ hh
  | 1, hj => simp at hj; subst hj; exact cell_of_row _ w.heap.size (0 + 1) _ _ _ hh
  | 2, hj => simp at hj; subst hj; exact cell_of_row _ w.heap.size (0 + 2) _ _ _ hh
  | 3, hj => simp at hj; subst hj; exact cell_of_row _ w.heap.size (0 + 3) _ _ _ hh
  | j + 4, hj => simp at hj
theorem note_box (w : World) (n : Nat) (x : Ch) : BoxCh ((w.alloc (.cells #[.int .i64 x.lo, .int .i64 x.hi, .int .i64 x.frm, .int .i64 x.to] 74)).drewN n) w.heap.size x := heap_alloc_new w _
theorem BoxCh.drewN_ {w : World} {b : Nat} {x : Ch} (h : BoxCh w b x) (n : Nat) : BoxCh (w.drewN n) b x := h
/-- The end of the last change is stored. -/
theorem OwnChs.set_hi {w : World} {base g c : Nat} {A : List Ch} {y : Ch} (h : OwnChs w base (.slice (some ⟨g, 0, none⟩) (A.length + 1) c) (A ++ [y])) (x : Int) :
    OwnChs (w.setCell ⟨g, A.length * 4 + 1, none⟩ (.int .i64 x)) base (.slice (some ⟨g, 0, none⟩) (A.length + 1) c) (A ++ [⟨y.lo, x, y.frm, y.to⟩]) := by
  obtain ⟨h1, h2⟩ := h
  have hl : ∀ z : Ch, (A ++ [z]).length = A.length + 1 := fun z => by simp
  refine ⟨by rw [cellsCh_length], ?_⟩
  rcases h2 with ⟨h2, _⟩ | ⟨g', cap, cur, e, hg, hh, hc, hm, hs, ht⟩
  · cases h2
  · simp only [Value.slice.injEq, Option.some.injEq, Addr.mk.injEq] at e
    obtain ⟨⟨rfl, _⟩, _, rfl⟩ := e
    refine .inr ⟨g, c, cur.setIfInBounds (A.length * 4 + 1) (.int .i64 x), by rw [hl], hg, by simp [World.setCell, Array.getElem?_modify, hh], by rw [hl] at hc ⊢; exact hc, hm, by rw [Array.size_setIfInBounds]; exact hs, ?_⟩
    rw [hl] at ht ⊢
    rw [Array.toList_setIfInBounds, List.take_set, ht, cellsCh_snoc, cellsCh_snoc, List.set_append_right _ _ (by rw [cellsCh_length]; omega), cellsCh_length, show A.length * 4 + 1 - A.length * 4 = 1 from by omega]
    rfl
theorem OwnChs.last {w : World} {base g m c : Nat} {A : List Ch} {y : Ch} (hm : A.length = m) (hO : OwnChs w base (.slice (some ⟨g, 0, none⟩) (m + 1) c) (A ++ [y])) : ChAt w ⟨g, m * 4, none⟩ y := by
  obtain ⟨a, c', e, _, hc⟩ := hO.chs
  simp only [Value.slice.injEq] at e
  obtain ⟨rfl, _, _⟩ := e
  have hr := (hc.at_ (i := m) (by simp; omega)).2
  have ey : (A ++ [y])[m]'(by simp; omega) = y := by subst hm; simp
  rwa [ey, add_plain0] at hr
set_option maxRecDepth 100000 in
set_option maxHeartbeats 2000000 in
theorem note_nil (w : World) (base : Nat) (A : Option Addr) (c : Nat) (r : Ch) (hO : OwnChs w base (.slice A 0 c) []) (hb : base ≤ w.heap.size) :
    Calls Try.prog 69 #[.slice A 0 c, .agg #[.int .i64 r.lo, .int .i64 r.hi, .int .i64 r.frm, .int .i64 r.to]] w (NotePost w base (.slice A 0 c) [r]) := by
  obtain ⟨i0, hi0, hz0, hz1, hz2⟩ := info_parts infoCh
  have HO := Lib.hid hO
  clear hO
  go_enter Try.func69, Try.ntmps69
  go_wp2_with (fail)
  go_quiet (fail)
  generalize hwq : World.drewN _ _ = wq
  have bq : BoxCh wq w.heap.size r := hwq ▸ note_box w _ _
  have gq : w.grownBy wq none := hwq ▸ push_grown w _ _ none
  clear hwq
  have HQ := Lib.hid (HO.out.kept_ gq)
  have q0 := bq.c0
  have q1 := bq.c1
  have q2 := bq.c2
  have q3 := bq.c3
  have qz := bq.lt
  go_wp2_with (at_builtin; (refine wpList_append_own_at _ rfl _ _ 68 rfl base 74 i0 (.agg #[.int .i64 0, .int .i64 0, .int .i64 0, .int .i64 0]) 4 32 Try.underlying68 hi0 hz0 hz1 hz2 rfl (by decide) _ 0 _ rfl (HQ.out.alloc _) ⟨wq.heap.size, 0, none⟩ 1 1 [.int .i64 r.lo, .int .i64 r.hi, .int .i64 r.frm, .int .i64 r.to] rfl rfl (cell_four_new _ _ _ _ _ _) (by simp [Value.oneCell']) (by unfold maxLen; omega) (by omega) (by have := gq.size; rw [World.size_alloc]; omega) ?_); intro v' w1 hown hgrow _ hat)
  go_ret
  refine ⟨v', rfl, ?_, (grown_mono gq _).trans ((World.grownBy_alloc wq _ _).trans hgrow), hat.elim .inl fun h => .inr ⟨_, h, by have := gq.size; rw [World.size_alloc]; omega⟩⟩
  exact hown
set_option maxRecDepth 100000 in
set_option maxHeartbeats 2000000 in
theorem note_same (w : World) (base : Nat) (A : List Ch) (y : Ch) (g c m : Nat) (hi : Int) (hm : A.length = m) (hO : OwnChs w base (.slice (some ⟨g, 0, none⟩) (m + 1) c) (A ++ [y])) (_hb : base ≤ w.heap.size) (hle : m ≤ 1000000) :
    Calls Try.prog 69 #[.slice (some ⟨g, 0, none⟩) (m + 1) c, .agg #[.int .i64 y.hi, .int .i64 hi, .int .i64 y.frm, .int .i64 y.to]] w (NotePost w base (.slice (some ⟨g, 0, none⟩) (m + 1) c) (A ++ [⟨y.lo, hi, y.frm, y.to⟩])) := by
  obtain ⟨i0, hi0, hz0, hz1, hz2⟩ := info_parts infoCh
  obtain ⟨c0, c1, c2, c3⟩ := hO.last hm
  have i1 : IntKind.i64.wrap (((m + 1 : Nat) : Int) - 1) = (m : Int) := by rw [IntWalk.i64_in _ (by omega)]; omega
  have hmi : (m : Int) ≤ 1000000 := by omega
  have HO := Lib.hid hO
  have HM := Lib.hid hm
  clear hO hm
  go_enter Try.func69, Try.ntmps69
  go_wp2_with (fail)
  generalize hwb : World.alloc w _ = wb
  have bb : BoxCh wb w.heap.size ⟨y.hi, hi, y.frm, y.to⟩ := hwb ▸ BoxCh.new w ⟨y.hi, hi, y.frm, y.to⟩
  have gb : w.grownBy wb none := hwb ▸ World.grownBy_alloc w _ none
  have b1 : wb.cell? ⟨g, m * 4 + 1, none⟩ = some (.int .i64 y.hi) := grown_cell gb c1
  have b2 : wb.cell? ⟨g, m * 4 + 2, none⟩ = some (.int .i64 y.frm) := grown_cell gb c2
  have b3 : wb.cell? ⟨g, m * 4 + 3, none⟩ = some (.int .i64 y.to) := grown_cell gb c3
  clear hwb
  have bz := bb.lt
  have x0 := bb.c0
  have x1 := bb.c1
  have x2 := bb.c2
  have x3 := bb.c3
  go_quiet (fail)
  generalize hwq : World.drewN _ _ = wq
  have bq : BoxCh wq w.heap.size ⟨y.hi, hi, y.frm, y.to⟩ := hwq ▸ bb.drewN_ _
  have gq : w.grownBy wq none := hwq ▸ gb.trans (grown_drewN _ _)
  clear hwq x0 x1 x2 x3 b1 b2 b3
  have q0 := bq.c0
  have q1 := bq.c1
  have q2 := bq.c2
  have q3 := bq.c3
  have qz := bq.lt
  have hq := HO.out.kept_ gq
  have hf : wq.frozen? ⟨g, m * 4 + 1, none⟩ = false := hq.frozen_ _
  have HQ := Lib.hid hq
  clear hq
  have d1 := grown_cell gq c1
  go_wp2_with (fail)
  go_ret
  have hs := HQ.out
  rw [← HM.out] at hs
  refine ⟨_, rfl, ?_, (grown_mono gq _).trans (grown_set _ _ _ _), .inl rfl⟩
  have := hs.set_hi hi
  rw [HM.out] at this
  exact this
set_option maxRecDepth 100000 in
set_option maxHeartbeats 2000000 in
theorem note_a (w : World) (base : Nat) (A : List Ch) (y : Ch) (g c m : Nat) (lo hi frm to : Int) (hm : A.length = m) (hO : OwnChs w base (.slice (some ⟨g, 0, none⟩) (m + 1) c) (A ++ [y])) (hb : base ≤ w.heap.size) (hle : m ≤ 1000000) (h : ¬ y.frm = frm) :
    Calls Try.prog 69 #[.slice (some ⟨g, 0, none⟩) (m + 1) c, .agg #[.int .i64 lo, .int .i64 hi, .int .i64 frm, .int .i64 to]] w (NotePost w base (.slice (some ⟨g, 0, none⟩) (m + 1) c) (A ++ [y] ++ [⟨lo, hi, frm, to⟩])) := by
  obtain ⟨i0, hi0, hz0, hz1, hz2⟩ := info_parts infoCh
  have t1 : (y.frm == frm) = false := by simpa using h
  obtain ⟨c0, c1, c2, c3⟩ := hO.last hm
  have i1 : IntKind.i64.wrap (((m + 1 : Nat) : Int) - 1) = (m : Int) := by rw [IntWalk.i64_in _ (by omega)]; omega
  have hmi : (m : Int) ≤ 1000000 := by omega
  have HO := Lib.hid hO
  have HM := Lib.hid hm
  clear hO hm
  go_enter Try.func69, Try.ntmps69
  go_wp2_with (fail)
  generalize hwb : World.alloc w _ = wb
  have bb : BoxCh wb w.heap.size ⟨lo, hi, frm, to⟩ := hwb ▸ BoxCh.new w ⟨lo, hi, frm, to⟩
  have gb : w.grownBy wb none := hwb ▸ World.grownBy_alloc w _ none
  have b1 : wb.cell? ⟨g, m * 4 + 1, none⟩ = some (.int .i64 y.hi) := grown_cell gb c1
  have b2 : wb.cell? ⟨g, m * 4 + 2, none⟩ = some (.int .i64 y.frm) := grown_cell gb c2
  have b3 : wb.cell? ⟨g, m * 4 + 3, none⟩ = some (.int .i64 y.to) := grown_cell gb c3
  clear hwb
  have bz := bb.lt
  have x0 := bb.c0
  have x1 := bb.c1
  have x2 := bb.c2
  have x3 := bb.c3
  go_quiet (fail)
  generalize hwq : World.drewN _ _ = wq
  have bq : BoxCh wq w.heap.size ⟨lo, hi, frm, to⟩ := hwq ▸ bb.drewN_ _
  have gq : w.grownBy wq none := hwq ▸ gb.trans (grown_drewN _ _)
  clear hwq x0 x1 x2 x3 b1 b2 b3
  have q0 := bq.c0
  have q1 := bq.c1
  have q2 := bq.c2
  have q3 := bq.c3
  have qz := bq.lt
  have HQ : Hid (wq.ownsRow base 74 4 (.slice (some ⟨g, 0, none⟩) (m + 1) c) (m + 1) (cellsCh (A ++ [y]))) := by
    have h := HO.out.kept_ gq
    unfold OwnChs at h
    rw [List.length_append, HM.out] at h
    exact h
  go_wp2_with (at_builtin; (refine wpList_append_own_at _ rfl _ _ 68 rfl base 74 i0 (.agg #[.int .i64 0, .int .i64 0, .int .i64 0, .int .i64 0]) 4 32 Try.underlying68 hi0 hz0 hz1 hz2 rfl (by decide) _ (m + 1) _ rfl (HQ.out.alloc _) ⟨wq.heap.size, 0, none⟩ 1 1 [.int .i64 lo, .int .i64 hi, .int .i64 frm, .int .i64 to] rfl rfl (cell_four_new _ _ _ _ _ _) (by simp [Value.oneCell']) (by unfold maxLen; omega) (by omega) (by have := gq.size; rw [World.size_alloc]; omega) ?_); intro v' w1 hown hgrow _ hat)
  go_ret
  refine ⟨v', rfl, ?_, (grown_mono gq _).trans ((World.grownBy_alloc wq _ _).trans hgrow), hat.elim .inl fun h => .inr ⟨_, h, by have := gq.size; rw [World.size_alloc]; omega⟩⟩
  rw [show A ++ [y, (⟨lo, hi, frm, to⟩ : Ch)] = A ++ [y] ++ [⟨lo, hi, frm, to⟩] from by simp]
  unfold OwnChs
  rw [cellsCh_snoc, List.length_append, List.length_append, HM.out]
  exact hown
set_option maxRecDepth 100000 in
set_option maxHeartbeats 2000000 in
theorem note_b (w : World) (base : Nat) (A : List Ch) (y : Ch) (g c m : Nat) (lo hi to : Int) (hm : A.length = m) (hO : OwnChs w base (.slice (some ⟨g, 0, none⟩) (m + 1) c) (A ++ [y])) (hb : base ≤ w.heap.size) (hle : m ≤ 1000000) (h : ¬ y.to = to) :
    Calls Try.prog 69 #[.slice (some ⟨g, 0, none⟩) (m + 1) c, .agg #[.int .i64 lo, .int .i64 hi, .int .i64 y.frm, .int .i64 to]] w (NotePost w base (.slice (some ⟨g, 0, none⟩) (m + 1) c) (A ++ [y] ++ [⟨lo, hi, y.frm, to⟩])) := by
  obtain ⟨i0, hi0, hz0, hz1, hz2⟩ := info_parts infoCh
  have t1 : (y.to == to) = false := by simpa using h
  obtain ⟨c0, c1, c2, c3⟩ := hO.last hm
  have i1 : IntKind.i64.wrap (((m + 1 : Nat) : Int) - 1) = (m : Int) := by rw [IntWalk.i64_in _ (by omega)]; omega
  have hmi : (m : Int) ≤ 1000000 := by omega
  have HO := Lib.hid hO
  have HM := Lib.hid hm
  clear hO hm
  go_enter Try.func69, Try.ntmps69
  go_wp2_with (fail)
  generalize hwb : World.alloc w _ = wb
  have bb : BoxCh wb w.heap.size ⟨lo, hi, y.frm, to⟩ := hwb ▸ BoxCh.new w ⟨lo, hi, y.frm, to⟩
  have gb : w.grownBy wb none := hwb ▸ World.grownBy_alloc w _ none
  have b1 : wb.cell? ⟨g, m * 4 + 1, none⟩ = some (.int .i64 y.hi) := grown_cell gb c1
  have b2 : wb.cell? ⟨g, m * 4 + 2, none⟩ = some (.int .i64 y.frm) := grown_cell gb c2
  have b3 : wb.cell? ⟨g, m * 4 + 3, none⟩ = some (.int .i64 y.to) := grown_cell gb c3
  clear hwb
  have bz := bb.lt
  have x0 := bb.c0
  have x1 := bb.c1
  have x2 := bb.c2
  have x3 := bb.c3
  go_quiet (fail)
  generalize hwq : World.drewN _ _ = wq
  have bq : BoxCh wq w.heap.size ⟨lo, hi, y.frm, to⟩ := hwq ▸ bb.drewN_ _
  have gq : w.grownBy wq none := hwq ▸ gb.trans (grown_drewN _ _)
  clear hwq x0 x1 x2 x3 b1 b2 b3
  have q0 := bq.c0
  have q1 := bq.c1
  have q2 := bq.c2
  have q3 := bq.c3
  have qz := bq.lt
  have HQ : Hid (wq.ownsRow base 74 4 (.slice (some ⟨g, 0, none⟩) (m + 1) c) (m + 1) (cellsCh (A ++ [y]))) := by
    have h := HO.out.kept_ gq
    unfold OwnChs at h
    rw [List.length_append, HM.out] at h
    exact h
  go_wp2_with (at_builtin; (refine wpList_append_own_at _ rfl _ _ 68 rfl base 74 i0 (.agg #[.int .i64 0, .int .i64 0, .int .i64 0, .int .i64 0]) 4 32 Try.underlying68 hi0 hz0 hz1 hz2 rfl (by decide) _ (m + 1) _ rfl (HQ.out.alloc _) ⟨wq.heap.size, 0, none⟩ 1 1 [.int .i64 lo, .int .i64 hi, .int .i64 y.frm, .int .i64 to] rfl rfl (cell_four_new _ _ _ _ _ _) (by simp [Value.oneCell']) (by unfold maxLen; omega) (by omega) (by have := gq.size; rw [World.size_alloc]; omega) ?_); intro v' w1 hown hgrow _ hat)
  go_ret
  refine ⟨v', rfl, ?_, (grown_mono gq _).trans ((World.grownBy_alloc wq _ _).trans hgrow), hat.elim .inl fun h => .inr ⟨_, h, by have := gq.size; rw [World.size_alloc]; omega⟩⟩
  rw [show A ++ [y, (⟨lo, hi, y.frm, to⟩ : Ch)] = A ++ [y] ++ [⟨lo, hi, y.frm, to⟩] from by simp]
  unfold OwnChs
  rw [cellsCh_snoc, List.length_append, List.length_append, HM.out]
  exact hown
set_option maxRecDepth 100000 in
set_option maxHeartbeats 2000000 in
theorem note_c (w : World) (base : Nat) (A : List Ch) (y : Ch) (g c m : Nat) (lo hi : Int) (hm : A.length = m) (hO : OwnChs w base (.slice (some ⟨g, 0, none⟩) (m + 1) c) (A ++ [y])) (hb : base ≤ w.heap.size) (hle : m ≤ 1000000) (h : ¬ y.hi = lo) :
    Calls Try.prog 69 #[.slice (some ⟨g, 0, none⟩) (m + 1) c, .agg #[.int .i64 lo, .int .i64 hi, .int .i64 y.frm, .int .i64 y.to]] w (NotePost w base (.slice (some ⟨g, 0, none⟩) (m + 1) c) (A ++ [y] ++ [⟨lo, hi, y.frm, y.to⟩])) := by
  obtain ⟨i0, hi0, hz0, hz1, hz2⟩ := info_parts infoCh
  have t1 : (y.hi == lo) = false := by simpa using h
  obtain ⟨c0, c1, c2, c3⟩ := hO.last hm
  have i1 : IntKind.i64.wrap (((m + 1 : Nat) : Int) - 1) = (m : Int) := by rw [IntWalk.i64_in _ (by omega)]; omega
  have hmi : (m : Int) ≤ 1000000 := by omega
  have HO := Lib.hid hO
  have HM := Lib.hid hm
  clear hO hm
  go_enter Try.func69, Try.ntmps69
  go_wp2_with (fail)
  generalize hwb : World.alloc w _ = wb
  have bb : BoxCh wb w.heap.size ⟨lo, hi, y.frm, y.to⟩ := hwb ▸ BoxCh.new w ⟨lo, hi, y.frm, y.to⟩
  have gb : w.grownBy wb none := hwb ▸ World.grownBy_alloc w _ none
  have b1 : wb.cell? ⟨g, m * 4 + 1, none⟩ = some (.int .i64 y.hi) := grown_cell gb c1
  have b2 : wb.cell? ⟨g, m * 4 + 2, none⟩ = some (.int .i64 y.frm) := grown_cell gb c2
  have b3 : wb.cell? ⟨g, m * 4 + 3, none⟩ = some (.int .i64 y.to) := grown_cell gb c3
  clear hwb
  have bz := bb.lt
  have x0 := bb.c0
  have x1 := bb.c1
  have x2 := bb.c2
  have x3 := bb.c3
  go_quiet (fail)
  generalize hwq : World.drewN _ _ = wq
  have bq : BoxCh wq w.heap.size ⟨lo, hi, y.frm, y.to⟩ := hwq ▸ bb.drewN_ _
  have gq : w.grownBy wq none := hwq ▸ gb.trans (grown_drewN _ _)
  clear hwq x0 x1 x2 x3 b1 b2 b3
  have q0 := bq.c0
  have q1 := bq.c1
  have q2 := bq.c2
  have q3 := bq.c3
  have qz := bq.lt
  have HQ : Hid (wq.ownsRow base 74 4 (.slice (some ⟨g, 0, none⟩) (m + 1) c) (m + 1) (cellsCh (A ++ [y]))) := by
    have h := HO.out.kept_ gq
    unfold OwnChs at h
    rw [List.length_append, HM.out] at h
    exact h
  go_wp2_with (at_builtin; (refine wpList_append_own_at _ rfl _ _ 68 rfl base 74 i0 (.agg #[.int .i64 0, .int .i64 0, .int .i64 0, .int .i64 0]) 4 32 Try.underlying68 hi0 hz0 hz1 hz2 rfl (by decide) _ (m + 1) _ rfl (HQ.out.alloc _) ⟨wq.heap.size, 0, none⟩ 1 1 [.int .i64 lo, .int .i64 hi, .int .i64 y.frm, .int .i64 y.to] rfl rfl (cell_four_new _ _ _ _ _ _) (by simp [Value.oneCell']) (by unfold maxLen; omega) (by omega) (by have := gq.size; rw [World.size_alloc]; omega) ?_); intro v' w1 hown hgrow _ hat)
  go_ret
  refine ⟨v', rfl, ?_, (grown_mono gq _).trans ((World.grownBy_alloc wq _ _).trans hgrow), hat.elim .inl fun h => .inr ⟨_, h, by have := gq.size; rw [World.size_alloc]; omega⟩⟩
  rw [show A ++ [y, (⟨lo, hi, y.frm, y.to⟩ : Ch)] = A ++ [y] ++ [⟨lo, hi, y.frm, y.to⟩] from by simp]
  unfold OwnChs
  rw [cellsCh_snoc, List.length_append, List.length_append, HM.out]
  exact hown
theorem note_any (w : World) (base : Nat) (v : Value) (l : List Ch) (r : Ch) (hO : OwnChs w base v l) (hb : base ≤ w.heap.size) (hl : l.length ≤ 1000000) :
    Calls Try.prog 69 #[v, .agg #[.int .i64 r.lo, .int .i64 r.hi, .int .i64 r.frm, .int .i64 r.to]] w (NotePost w base v (noteL l r)) := by
  rcases nil_or_snoc l with rfl | ⟨l, y, rfl⟩
  · obtain ⟨A, c, rfl⟩ := hO.sliced
    exact note_nil w base A c r hO hb
  · obtain ⟨g, c, rfl⟩ : ∃ g c, v = .slice (some ⟨g, 0, none⟩) (l.length + 1) c := by
      rcases hO.2 with ⟨_, h2⟩ | ⟨g, cap, _, h1, _⟩
      · simp at h2
      · exact ⟨g, cap, by rw [h1]; simp⟩
    rw [List.length_append] at hl
    rw [noteL_snoc]
    obtain ⟨lo, hi, frm, to⟩ := r
    by_cases h1 : y.frm = frm
    · by_cases h2 : y.to = to
      · by_cases h3 : y.hi = lo
        · rw [if_pos ⟨h1, h2, h3⟩]
          subst h1 h2 h3
          exact note_same w base l y g c l.length hi rfl hO hb (by omega)
        · rw [if_neg (fun h => h3 h.2.2)]
          subst h1 h2
          exact note_c w base l y g c l.length lo hi rfl hO hb (by omega) h3
      · rw [if_neg (fun h => h2 h.2.1)]
        subst h1
        exact note_b w base l y g c l.length lo hi to rfl hO hb (by omega) h2
    · rw [if_neg (fun h => h1 h.1)]
      exact note_a w base l y g c l.length lo hi frm to rfl hO hb (by omega) h1
end
section
open Go.RowKit Go.Shelf
attribute [local go_sem] Oper.semAt_some
attribute [local go_sem ↓] run_max run_min

/-- A pair as a value. -/
def encP (z : Pr) : Value := .agg #[.int .i64 z.lo, .int .i64 z.hi, .int .i64 z.a, .int .i64 z.b]
/-- The box of a pair. -/
def BoxP (W : World) (b : Nat) (z : Pr) : Prop := W.heap[b]? = some (.cells #[.int .i64 z.lo, .int .i64 z.hi, .int .i64 z.a, .int .i64 z.b] 123 (0, 0))
theorem BoxP.new (w : World) (x : Pr) : BoxP (w.alloc (.cells #[.int .i64 x.lo, .int .i64 x.hi, .int .i64 x.a, .int .i64 x.b] 123)) w.heap.size x := heap_alloc_new w _
theorem BoxP.lt {W : World} {b : Nat} {x : Pr} (h : BoxP W b x) : b < W.heap.size := (Array.getElem?_eq_some_iff.1 h).1
theorem BoxP.next {W W' : World} {b : Nat} {x : Pr} (h : BoxP W b x) (hB : Below W.heap.size W W') : BoxP W' b x := (hB.block b h.lt).trans h
theorem BoxP.c0 {W : World} {b : Nat} {x : Pr} (h : BoxP W b x) : W.cell? ⟨b, 0, none⟩ = some (.int .i64 x.lo) := cell_of_row W b 0 _ _ _ h
theorem BoxP.c1 {W : World} {b : Nat} {x : Pr} (h : BoxP W b x) : W.cell? ⟨b, 1, none⟩ = some (.int .i64 x.hi) := cell_of_row W b 1 _ _ _ h
theorem BoxP.c2 {W : World} {b : Nat} {x : Pr} (h : BoxP W b x) : W.cell? ⟨b, 2, none⟩ = some (.int .i64 x.a) := cell_of_row W b 2 _ _ _ h
theorem BoxP.c3 {W : World} {b : Nat} {x : Pr} (h : BoxP W b x) : W.cell? ⟨b, 3, none⟩ = some (.int .i64 x.b) := cell_of_row W b 3 _ _ _ h
/-- What a call of the function keeps: the blocks from n0 to n1 - 1, and the boxes of pairs. -/
def KeptZ (n0 n1 : Nat) (W W' : World) : Prop := W.heap.size ≤ W'.heap.size ∧ ∀ k, k < W.heap.size → ((n0 ≤ k ∧ k < n1) ∨ ∃ z, BoxP W k z) → W'.heap[k]? = W.heap[k]?
/-- A slice with the address A holds the runs V, in a block from n0 to n1 - 1. -/
def RunsZ (n0 n1 : Nat) (w : World) (A : Option Addr) (V : List Rn) : Prop :=
  V = [] ∨ ∃ a : Addr, A = some a ∧ n0 ≤ a.block ∧ a.block < n1 ∧ ∀ i (h : i < V.length), RunAt w (a.add (i * 3)) V[i]
theorem cell_kept {W W' : World} {p : Addr} {v : Value} (h : W'.heap[p.block]? = W.heap[p.block]?) (hc : W.cell? p = some v) : W'.cell? p = some v := by
  unfold World.cell? at hc ⊢; rw [h]; exact hc
theorem RunsZ.kept {n0 n1 : Nat} {W W' : World} {A : Option Addr} {V : List Rn} (h : RunsZ n0 n1 W A V) (hk : ∀ k, n0 ≤ k → k < n1 → W'.heap[k]? = W.heap[k]?) : RunsZ n0 n1 W' A V := by
  rcases h with h | ⟨a, rfl, h0, h1, h⟩
  · exact .inl h
  · refine .inr ⟨a, rfl, h0, h1, fun i hi => ?_⟩
    obtain ⟨r0, r1, r2⟩ := h i hi
    have e : W'.heap[(a.add (i * 3)).block]? = W.heap[(a.add (i * 3)).block]? := by rw [add_block]; exact hk _ h0 h1
    exact ⟨cell_kept e r0, cell_kept (p := ⟨_, _, none⟩) e r1, cell_kept (p := ⟨_, _, none⟩) e r2⟩
theorem RunsZ.some_ {n0 n1 : Nat} {W : World} {A : Option Addr} {V : List Rn} (h : RunsZ n0 n1 W A V) {i : Nat} (hi : i < V.length) : ∃ a, A = some a := by
  rcases h with hh | ⟨a, hh, _⟩
  · rw [hh] at hi; simp at hi
  · exact ⟨a, hh⟩
theorem RunsZ.at_ {n0 n1 : Nat} {W : World} {a : Addr} {V : List Rn} (h : RunsZ n0 n1 W (some a) V) {i : Nat} (hi : i < V.length) : RunAt W (a.add (i * 3)) V[i] := by
  rcases h with h | ⟨a', ha, _, _, h⟩
  · rw [h] at hi; simp at hi
  · cases ha; exact h i hi
theorem RunsZ.lt {n0 n1 : Nat} {W : World} {a : Addr} {V : List Rn} (h : RunsZ n0 n1 W (some a) V) {i : Nat} (hi : i < V.length) : (a.add (i * 3)).block < n1 := by
  rw [add_block]
  rcases h with h | ⟨a', ha, _, h1, h⟩
  · rw [h] at hi; simp at hi
  · cases ha; exact h1
theorem OwnRuns.runsZ {w : World} {base n0 n1 : Nat} {v : Value} {L : List Rn} (h : OwnRuns w base v L) (h0 : n0 ≤ base) (h1 : w.heap.size ≤ n1) : ∃ A c, v = .slice A L.length c ∧ L.length ≤ c ∧ RunsZ n0 n1 w A L := by
  obtain ⟨A, c, e, hc, hr⟩ := h.runs
  refine ⟨A, c, e, hc, ?_⟩
  rcases hr with hr | ⟨a, ha, hb, hr⟩
  · exact .inl hr
  · rcases h.2 with ⟨h2, h3⟩ | ⟨g, cap, cur, h2, hg, hh, _⟩
    · exact .inl (List.eq_nil_of_length_eq_zero h3)
    · rw [e, ha] at h2
      simp only [Value.slice.injEq, Option.some.injEq] at h2
      obtain ⟨rfl, _⟩ := h2
      exact .inr ⟨_, ha, by dsimp only; omega, by omega, hr⟩
theorem runsR_zip {L : List (Int × Int)} (h : Good L) : runsR L 0 (Tr.total L) 4096 = (lay 0 L, 0) := by
  have hp := total_pos h.2.1 h.1
  have hr : rangesR L 0 (Tr.total L) = 0 := by unfold rangesR; rw [if_neg h.1, if_neg (by omega)]
  unfold runsR
  rw [if_pos hr, clipL_all h.2.1 (Int.le_refl _) (by omega)]
  have := h.2.2.2.2
  rw [List.take_of_length_le (by rw [lay_length]; omega)]
theorem zipN_nil (N : Nat) (k : Int) (r : List Rn) : zipN N k [] r = [] := by cases N <;> rfl
theorem zipN_nil2 (N : Nat) (k : Int) (l : List Rn) : zipN N k l [] = [] := by cases N <;> cases l <;> rfl
/-- What zip leaves. -/
def ZipPost (w : World) (Z : List Pr) (J Jx : Nat → List Pr → World → Prop) (e : Ending) (W' : World) : Prop :=
  e = .returned (.tuple #[]) ∧ ∃ n1, w.heap.size ≤ n1 ∧ n1 ≤ W'.heap.size ∧ (J n1 Z W' ∨ ∃ q, q <+: Z ∧ Jx n1 q W')
set_option maxRecDepth 100000 in
set_option maxHeartbeats 4000000 in
theorem zip_any (g : Nat) (lb : Array Value) (eg : ∀ args w, (callFunc g args).run Try.prog w = .ok (.enter g args) w) (w : World) (pa pb : Option Addr) (A B : List (Int × Int)) (hA : Rep w pa A) (hB : Rep w pb B) (gA : Good A) (gB : Good B) (ht : Tr.total A = Tr.total B)
    (J Jx : Nat → List Pr → World → Prop) (h0 : ∀ W, Below w.heap.size w W → J W.heap.size [] W)
    (hk : ∀ n1 pre W W', w.heap.size ≤ n1 → n1 ≤ W.heap.size → J n1 pre W → Below W.heap.size W W' → J n1 pre W')
    (hY : ∀ n1 pre z post W, zipL A B = pre ++ z :: post → w.heap.size ≤ n1 → n1 ≤ W.heap.size → J n1 pre W → Calls Try.prog g (#[encP z] ++ lb) W fun e W' => KeptZ w.heap.size n1 W W' ∧ ∃ go : Bool, e = .returned (.bool go) ∧ ((go = true ∧ J n1 (pre ++ [z]) W') ∨ (go = false ∧ Jx n1 (pre ++ [z]) W'))) :
    Calls Try.prog 67 #[.agg #[.pointer pa], .agg #[.pointer pb], .func (.func g) #[] lb] w (ZipPost w (zipL A B) J Jx) := by
  obtain ⟨m, hm⟩ : ∃ m, A.length = m := ⟨_, rfl⟩
  obtain ⟨n, hn⟩ : ∃ n, B.length = n := ⟨_, rfl⟩
  obtain ⟨VA, hVA⟩ : ∃ V, lay 0 A = V := ⟨_, rfl⟩
  obtain ⟨VB, hVB⟩ : ∃ V, lay 0 B = V := ⟨_, rfl⟩
  have lA : VA.length = m := by rw [← hVA, lay_length, hm]
  have lB : VB.length = n := by rw [← hVB, lay_length, hn]
  have hz : zipN (m + n) 0 VA VB = zipL A B := by unfold zipL; rw [hm, hn, hVA, hVB]
  have hmm : (m : Int) ≤ 4096 := by have := gA.2.2.2.2; omega
  have hnn : (n : Int) ≤ 4096 := by have := gB.2.2.2.2; omega
  obtain ⟨x, hx⟩ : ∃ x, Tr.total A = x := ⟨_, rfl⟩
  have hx2 : Tr.total B = x := by rw [← ht]; exact hx
  have hru : ∀ (p : Option Addr) (L : List (Int × Int)) (V : List Rn) (k : Nat), Rep w p L → Good L → lay 0 L = V → V.length = k → Tr.total L = x → ∀ W, Below w.heap.size w W → Calls Try.prog 33 #[.agg #[.pointer p], .int .i64 0, .int .i64 x, .int .i64 4096] W fun e w' => ∃ B d, e = .returned (.tuple #[.slice B k d, .int .i64 0]) ∧ k ≤ d ∧ RunsZ w.heap.size w'.heap.size w' B V ∧ Below W.heap.size W w' := by
    intro p L V k hr gg hV hk hxx W hBW
    have := runs_any W p L 0 x 4096 (hr.below hBW)
    rw [← hxx, runsR_zip gg, hV] at this
    rw [← hxx]
    refine this.mono fun e w' ⟨v, h1, h2, h3⟩ => ?_
    obtain ⟨C, d, h4, h5, h6⟩ := h2.runsZ hBW.size (Nat.le_refl _)
    rw [hk] at h4 h5
    exact ⟨C, d, by rw [← h4]; exact h1, h5, h6, h3⟩
  have hsz : ∀ (p : Option Addr) (L : List (Int × Int)), Rep w p L → Tr.total L = x → ∀ W, Below w.heap.size w W → Calls Try.prog 26 #[.agg #[.pointer p]] W fun e w' => e = .returned (.int .i64 x) ∧ Below W.heap.size W w' := by
    intro p L hr hxx W hBW
    have := size_any W p L (hr.below hBW); rw [hxx] at this; exact this
  have RA := Lib.hid (hru pa A VA m hA gA hVA lA hx)
  have RB := Lib.hid (hru pb B VB n hB gB hVB lB hx2)
  have SA := Lib.hid (hsz pa A hA hx)
  have SB := Lib.hid (hsz pb B hB hx2)
  obtain ⟨wa, hwa⟩ : ∃ wa, (w.alloc (.cells #[.pointer pa] 26)).alloc (.cells #[.pointer pb] 26) = wa := ⟨_, rfl⟩
  have hBa : Below w.heap.size w wa := hwa ▸ Below.alloc2 w _ _
  have ba : BoxT wa w.heap.size (.pointer pa) := hwa ▸ (BoxT.new w _ _ (by decide)).alloc _
  have bb : BoxT wa (w.heap.size + 1) (.pointer pb) := by
    have := BoxT.new (w.alloc (.cells #[.pointer pa] 26)) (.pointer pb) 26 (by decide)
    rw [World.size_alloc] at this; exact hwa ▸ this
  have c0 := ba.cell
  have c1 := bb.cell
  have HJ := Lib.hid h0
  have HK := Lib.hid hk
  have HY := Lib.hid hY
  have HZ := Lib.hid hz
  have HLA := Lib.hid lA
  have HLB := Lib.hid lB
  have HWA := Lib.hid hwa
  clear hru hsz hA hB gA gB ht hm hn hVA hVB lA lB hz hx hx2 h0 hk hY hwa
  go_enter Try.func67, Try.ntmps67
  go_upto_region 1 with (fail)
  rw [HWA.out]
  go_region_held3 (fun W => W.cell? ⟨w.heap.size, 0, none⟩ = some (.pointer pa) ∧ W.cell? ⟨w.heap.size + 1, 0, none⟩ = some (.pointer pb))
    (first | (exact ⟨c0, c1⟩) | (exact ⟨(ba.next hb1).cell, (bb.next hb1).cell⟩) | (exact ⟨((ba.next hb1).next hb2).cell, ((bb.next hb1).next hb2).cell⟩))
    ((first
      | (go_at_call 26; refine (SA.out _ (by exact hBa.drew)).mono ?_; rintro e w1 ⟨rfl, hb1'⟩; have hb1 : Below wa.heap.size wa w1 := Below.of_drew hb1'; have hB1 := Below.next hBa hb1)
      | (go_at_call 33; refine (RA.out _ hB1).mono ?_; rintro e w2 ⟨I, d, rfl, hmd, hIA, hb2⟩; have hB2 := Below.next hB1 hb2)))
  have ba2 := (ba.next hb1).next hb2
  have bb2 := (bb.next hb1).next hb2
  clear c0 c1 ba bb hb1 hb2 hb1'
  have c0 := ba2.cell
  have c1 := bb2.cell
  go_wp2_with (fail)
  go_region_held3 (fun W => W.cell? ⟨w.heap.size, 0, none⟩ = some (.pointer pa) ∧ W.cell? ⟨w.heap.size + 1, 0, none⟩ = some (.pointer pb))
    (first | (exact ⟨c0, c1⟩) | (exact ⟨(ba2.next hb3).cell, (bb2.next hb3).cell⟩) | (exact ⟨((ba2.next hb3).next hb4).cell, ((bb2.next hb3).next hb4).cell⟩))
    ((first
      | (go_at_call 26; refine (SB.out _ (by exact hB2.drew)).mono ?_; rintro e w3 ⟨rfl, hb3'⟩; have hb3 : Below w2.heap.size w2 w3 := Below.of_drew hb3'; have hB3 := Below.next hB2 hb3)
      | (go_at_call 33; refine (RB.out _ hB3).mono ?_; rintro e w4 ⟨K, f, rfl, hnf, hKB, hb4⟩; have hB4 := Below.next hB3 hb4)))
  have hIA4 : RunsZ w.heap.size w4.heap.size w4 I VA := by
    have hb24 : Below w2.heap.size w2 w4 := Below.next hb3 hb4
    rcases hIA.kept (W' := w4) (fun k _ hk => hb24.block k hk) with h | ⟨a, ha, h0, h1, h⟩
    · exact .inl h
    · exact .inr ⟨a, ha, h0, Nat.lt_of_lt_of_le h1 hb24.size, h⟩
  have hJ4 := HJ.out w4 hB4
  have hn1 : w.heap.size ≤ w4.heap.size := hB4.size
  clear c0 c1 ba2 bb2 hb3 hb4 hb3' hB1 hB2 hB3 hIA hBa HWA RA RB SA SB HJ
  go_wp2_with (fail)
  have HI4 := Lib.hid hIA4
  have HK4 := Lib.hid hKB
  have HJ4 := Lib.hid hJ4
  clear hIA4 hKB hJ4
  go_loopw [10, 11, 12] (fun a i k wr => ∃ (i' k' N : Nat) (at_ : Int) (pre : List Pr), a = .int .i64 at_ ∧ i = .int .i64 i' ∧ k = .int .i64 k' ∧ i' ≤ m ∧ k' ≤ n ∧ (m - i') + (n - k') ≤ N ∧ Hid (pre ++ zipN N at_ (VA.drop i') (VB.drop k') = zipL A B) ∧ Hid (J w4.heap.size pre wr) ∧ w4.heap.size ≤ wr.heap.size ∧ Hid (∀ b, w.heap.size ≤ b → b < w4.heap.size → wr.heap[b]? = w4.heap[b]?)) (fun _ i k _ => (m - (intOf i).toNat) + (n - (intOf k).toNat))
  case atStart => exact ⟨0, 0, m + n, 0, [], rfl, rfl, rfl, by omega, by omega, by omega, Lib.hid (by rw [List.nil_append]; exact HZ.out), HJ4, Nat.le_refl _, Lib.hid fun _ _ _ => rfl⟩
  case round =>
    obtain ⟨i', k', N, at_, pre, rfl, rfl, rfl, hi, hk, hN, HP, HJr, hsr, HKr⟩ := hrel
    by_cases hlt : i' < m
    · by_cases hkt : k' < n
      · have hiL : i' < VA.length := by have := HLA.out; omega
        have hkL : k' < VB.length := by have := HLB.out; omega
        have rA := HI4.out.kept (W' := wr) HKr.out
        have rB := HK4.out.kept (W' := wr) HKr.out
        obtain ⟨a, rfl⟩ := rA.some_ hiL
        obtain ⟨b, rfl⟩ := rB.some_ hkL
        obtain ⟨f0, f1, f2⟩ := rA.at_ hiL
        obtain ⟨g0, g1, g2⟩ := rB.at_ hkL
        have la := Nat.lt_of_lt_of_le (rA.lt hiL) hsr
        have lb' := Nat.lt_of_lt_of_le (rB.lt hkL) hsr
        have eA : VA.drop i' = VA[i'] :: VA.drop (i' + 1) := List.drop_eq_getElem_cons hiL
        have eB : VB.drop k' = VB[k'] :: VB.drop (k' + 1) := List.drop_eq_getElem_cons hkL
        obtain ⟨X, hX⟩ : ∃ X, VA[i'] = X := ⟨_, rfl⟩
        obtain ⟨Y, hY'⟩ : ∃ Y, VB[k'] = Y := ⟨_, rfl⟩
        rw [hX] at f0 f1 f2 eA
        rw [hY'] at g0 g1 g2 eB
        have EX := Lib.hid hX
        have EY := Lib.hid hY'
        clear hX hY'
        obtain ⟨h, hh⟩ : ∃ h, min X.hi Y.hi = h := ⟨_, rfl⟩
        obtain ⟨N, rfl⟩ : ∃ N', N = N' + 1 := ⟨N - 1, by omega⟩
        have hP2 : pre ++ (⟨at_, h, X.tag, Y.tag⟩ :: zipN N h (if X.hi = h then VA.drop (i' + 1) else VA.drop i') (if Y.hi = h then VB.drop (k' + 1) else VB.drop k')) = zipL A B := by
          have := HP.out
          rw [eA, eB] at this
          rw [eA, eB]
          simp only [zipN, hh] at this
          exact this
        have HP2 := Lib.hid hP2
        have HX : Hid (X.hi = h ∨ Y.hi = h) := Lib.hid (by omega)
        have HH := Lib.hid hh
        clear eA eB hP2 HP hh rA rB
        go_wp2_with (fail)
        go_region
        rw [HH.out]
        generalize hw5 : World.drew _ = w5
        have b5 : BoxP w5 wr.heap.size ⟨at_, h, X.tag, Y.tag⟩ := hw5 ▸ (show BoxP (World.drew _) _ _ from BoxP.new wr ⟨at_, h, X.tag, Y.tag⟩)
        have d5 : Below wr.heap.size wr w5 := hw5 ▸ (Below.alloc1 wr _).drew
        have hs5 : w4.heap.size ≤ w5.heap.size := Nat.le_trans hsr d5.size
        have h5 := HY.out _ pre ⟨at_, h, X.tag, Y.tag⟩ _ w5 HP2.out.symm hn1 hs5 (HK.out w4.heap.size pre wr w5 hn1 hsr HJr.out d5)
        dsimp only [encP] at h5
        have H5 := Lib.hid h5
        clear h5 hw5 f0 f1 f2 g0 g1 g2
        have c0 := b5.c0
        have c1 := b5.c1
        have c2 := b5.c2
        have c3 := b5.c3
        go_wp2_with (fail)
        go_at_fn g
        refine H5.out.mono ?_
        rintro e w6 ⟨k6, go, rfl, hgo⟩
        have hs6 : w4.heap.size ≤ w6.heap.size := Nat.le_trans hs5 k6.1
        clear c0 c1 c2 c3 H5
        rcases hgo with ⟨rfl, hJ6⟩ | ⟨rfl, hJ6⟩
        · have HJ6 := Lib.hid hJ6
          have hk6 : ∀ b, w.heap.size ≤ b → b < w4.heap.size → w6.heap[b]? = w4.heap[b]? := fun b h0 h1 => (k6.2 b (by omega) (.inl ⟨h0, h1⟩)).trans ((d5.block b (by omega)).trans (HKr.out b h0 h1))
          have HK6 := Lib.hid hk6
          have b6 : BoxP w6 wr.heap.size ⟨at_, h, X.tag, Y.tag⟩ := (k6.2 _ b5.lt (.inr ⟨_, b5⟩)).trans b5
          have c1 := b6.c1
          have f1 := ((HI4.out.kept (W' := w6) hk6).at_ hiL).2.1
          have g1 := ((HK4.out.kept (W' := w6) hk6).at_ hkL).2.1
          rw [EX.out] at f1
          rw [EY.out] at g1
          clear hk6 hJ6
          by_cases hcx : X.hi = h
          · have t1 : (X.hi == h) = true := by simpa using hcx
            by_cases hcy : Y.hi = h
            · have t2 : (Y.hi == h) = true := by simpa using hcy
              go_wp2_with (fail)
              go_roundw
              case rel => exact ⟨i' + 1, k' + 1, N, h, pre ++ [⟨at_, h, X.tag, Y.tag⟩], rfl, by go_num, by go_num, by omega, by omega, by omega, Lib.hid (by have := HP2.out; rw [if_pos hcx, if_pos hcy] at this; rw [List.append_assoc]; exact this), HJ6, hs6, HK6⟩
              case measure => simp [intOf]; omega
            · have t2 : (Y.hi == h) = false := by simpa using hcy
              go_wp2_with (fail)
              go_roundw
              case rel => exact ⟨i' + 1, k', N, h, pre ++ [⟨at_, h, X.tag, Y.tag⟩], rfl, by go_num, rfl, by omega, by omega, by omega, Lib.hid (by have := HP2.out; rw [if_pos hcx, if_neg hcy] at this; rw [List.append_assoc]; exact this), HJ6, hs6, HK6⟩
              case measure => simp [intOf]; omega
          · have t1 : (X.hi == h) = false := by simpa using hcx
            have hcy : Y.hi = h := HX.out.resolve_left hcx
            have t2 : (Y.hi == h) = true := by simpa using hcy
            go_wp2_with (fail)
            go_roundw
            case rel => exact ⟨i', k' + 1, N, h, pre ++ [⟨at_, h, X.tag, Y.tag⟩], rfl, rfl, by go_num, by omega, by omega, by omega, Lib.hid (by have := HP2.out; rw [if_neg hcx, if_pos hcy] at this; rw [List.append_assoc]; exact this), HJ6, hs6, HK6⟩
            case measure => simp [intOf]; omega
        · go_wp2_with (fail)
          refine bodyPost_ret (v := .tuple #[]) (by simp [results, Try.results67, go_sem]) rfl ?_
          exact ⟨rfl, w4.heap.size, hn1, hs6, .inr ⟨_, by rw [← HP2.out]; simp, hJ6⟩⟩
      · obtain rfl : k' = n := by omega
        go_wp2_with (fail)
        refine bodyPost_ret (v := .tuple #[]) (by simp [results, Try.results67, go_sem]) rfl ?_
        have e := HP.out
        rw [show VB.drop k' = [] from List.drop_eq_nil_of_le (by rw [HLB.out]; exact Nat.le_refl _), zipN_nil2, List.append_nil] at e
        exact ⟨rfl, w4.heap.size, hn1, hsr, .inl (by rw [← e]; exact HJr.out)⟩
    · obtain rfl : i' = m := by omega
      go_wp2_with (fail)
      refine bodyPost_ret (v := .tuple #[]) (by simp [results, Try.results67, go_sem]) rfl ?_
      have e := HP.out
      rw [show VA.drop i' = [] from List.drop_eq_nil_of_le (by rw [HLA.out]; exact Nat.le_refl _), zipN_nil, List.append_nil] at e
      exact ⟨rfl, w4.heap.size, hn1, hsr, .inl (by rw [← e]; exact HJr.out)⟩
end
section
open Go.RowKit Go.Shelf

/-- Of the blocks that were there all but those of S are as they were; the streams are, too. -/
structure Spares (S : Nat → Prop) (W W' : World) : Prop where
  os : W'.os = W.os
  tape : W'.tape = W.tape
  output : W'.output = W.output
  size : W.heap.size ≤ W'.heap.size
  block : ∀ k, k < W.heap.size → ¬ S k → W'.heap[k]? = W.heap[k]?
theorem Spares.below {S : Nat → Prop} {m : Nat} {W W' : World} (h : Spares S W W') (hm : m ≤ W.heap.size) (hS : ∀ k, S k → m ≤ k) : Below m W W' :=
  ⟨h.os, h.tape, h.output, h.size, fun k hk => h.block k (by omega) fun s => by have := hS k s; omega⟩
theorem Spares.keptZ {S : Nat → Prop} {n0 n1 : Nat} {W W' : World} (h : Spares S W W') (hS : ∀ k, k < W.heap.size → S k → (k < n0 ∨ n1 ≤ k) ∧ ∀ z, ¬ BoxP W k z) : KeptZ n0 n1 W W' := by
  refine ⟨h.size, fun k hk hr => h.block k hk fun s => ?_⟩
  obtain ⟨a, b⟩ := hS k hk s
  rcases hr with ⟨h0, h1⟩ | ⟨z, hz⟩
  · omega
  · exact b z hz
theorem Spares.refl (S : Nat → Prop) (W : World) : Spares S W W := ⟨rfl, rfl, rfl, Nat.le_refl _, fun _ _ _ => rfl⟩
theorem Spares.of_below {S : Nat → Prop} {W W' : World} (h : Below W.heap.size W W') : Spares S W W' := ⟨h.os, h.tape, h.output, h.size, fun k hk _ => h.block k hk⟩
theorem Spares.set {S : Nat → Prop} {W W' : World} (h : Spares S W W') {p : Addr} (hp : S p.block) (v : Value) : Spares S W (W'.setCell p v) :=
  ⟨h.os, h.tape, h.output, by simp [World.setCell]; exact h.size, fun k hk hs => (Below.heap_setCell W' p v k (fun e => hs (e ▸ hp))).trans (h.block k hk hs)⟩
theorem Spares.grown {S : Nat → Prop} {W W' W'' : World} (h : Spares S W W') {row : Option Nat} (hg : W'.grownBy W'' row) (hr : ∀ k, row = some k → S k) : Spares S W W'' :=
  ⟨hg.os.trans h.os, hg.tape.trans h.tape, hg.output.trans h.output, Nat.le_trans h.size hg.size, fun k hk hs => (hg.block k (Nat.lt_of_lt_of_le hk h.size) (fun e => hs (hr k e.symm))).trans (h.block k hk hs)⟩
theorem boxed_not_pair {W : World} {c : Nat} {t : TypeId} {v : Value} (h : Boxed W c t v) (_ht : t ≠ 123) (z : Pr) : ¬ BoxP W c z := by
  intro hz
  unfold BoxP at hz
  rw [show W.heap[c]? = _ from h] at hz
  simp at hz
theorem OwnChs.set {w : World} {base : Nat} {v : Value} {L : List Ch} (h : OwnChs w base v L) {p : Addr} (hp : p.block < base) (x : Value) : OwnChs (w.setCell p x) base v L := by
  obtain ⟨h1, h2⟩ := h
  refine ⟨h1, ?_⟩
  rcases h2 with h2 | ⟨g, cap, cur, e, hg, hh, r⟩
  · exact .inl h2
  · refine .inr ⟨g, cap, cur, e, hg, ?_, r⟩
    rw [← hh]
    simp only [World.setCell, Array.getElem?_modify]
    rw [if_neg (by omega)]
theorem OwnChs.next {w w' : World} {base : Nat} {v : Value} {L : List Ch} (h : OwnChs w base v L) (hB : Below w.heap.size w w') : OwnChs w' base v L := by
  obtain ⟨h1, h2⟩ := h
  refine ⟨h1, ?_⟩
  rcases h2 with h2 | ⟨g, cap, cur, e, hg, hh, r⟩
  · exact .inl h2
  · exact .inr ⟨g, cap, cur, e, hg, (hB.block g (Array.getElem?_eq_some_iff.1 hh).1).trans hh, r⟩
theorem OwnChs.row {w : World} {base : Nat} {v : Value} {L : List Ch} (h : OwnChs w base v L) {k : Nat} (hk : v.ownBlock = some k) : base ≤ k ∧ k < w.heap.size ∧ ∀ z, ¬ BoxP w k z := by
  rcases h.2 with ⟨h1, _⟩ | ⟨g, cap, cur, e, hg, hh, _⟩
  · rw [h1] at hk; cases hk
  · rw [e] at hk
    have : g = k := by simpa [Value.ownBlock] using hk
    subst this
    exact ⟨hg, (Array.getElem?_eq_some_iff.1 hh).1, fun z hz => by unfold BoxP at hz; rw [show w.heap[g]? = _ from hh] at hz; simp at hz⟩
set_option maxRecDepth 100000 in
set_option maxHeartbeats 400000 in
theorem eq_yield (W : World) (c : Nat) (v : Value) (z : Pr) (x : Bool) (hx : (z.a == z.b) = x) (hb : Boxed W c 4 v) :
    Calls Try.prog 70 #[encP z, .pointer (some ⟨c, 0, none⟩)] W fun e W' => e = .returned (.bool x) ∧ Boxed W' c 4 (.bool x) ∧ Spares (fun k => k = c) W W' := by
  unfold encP
  go_enter Try.func70, Try.ntmps70
  go_upto_region 1 with (fail)
  generalize hw1 : World.alloc W _ = w1
  have b1 : BoxP w1 W.heap.size z := hw1 ▸ BoxP.new W z
  have d1 : Below W.heap.size W w1 := hw1 ▸ Below.alloc1 W _
  have v1 : Boxed w1 c 4 v := bx_next hb d1
  clear hw1
  have c2 := b1.c2
  have c3 := b1.c3
  have cc := v1.cell
  have cf := v1.frozen
  have cr := (v1.set (.bool x)).cell
  go_wp2_with (fail)
  go_ret
  exact ⟨rfl, v1.set _, (Spares.of_below (S := fun k => k = c) d1).set (p := ⟨c, 0, none⟩) rfl _⟩
set_option maxRecDepth 100000 in
set_option maxHeartbeats 400000 in
theorem diff_yield_eq (W : World) (c : Nat) (z : Pr) (hx : (z.a != z.b) = false) :
    Calls Try.prog 68 #[encP z, .pointer (some ⟨c, 0, none⟩)] W fun e W' => e = .returned (.bool true) ∧ Below W.heap.size W W' := by
  unfold encP
  go_enter Try.func68, Try.ntmps68
  go_upto_region 1 with (fail)
  generalize hw1 : World.alloc W _ = w1
  have b1 : BoxP w1 W.heap.size z := hw1 ▸ BoxP.new W z
  have d1 : Below W.heap.size W w1 := hw1 ▸ Below.alloc1 W _
  clear hw1
  have c2 := b1.c2
  have c3 := b1.c3
  go_wp2_with (fail)
  go_ret
  exact ⟨rfl, d1⟩
set_option maxRecDepth 100000 in
set_option maxHeartbeats 400000 in
theorem diff_yield_ne (W : World) (c n1 : Nat) (v : Value) (L : List Ch) (z : Pr) (hx : (z.a != z.b) = true) (hb : Boxed W c 68 v) (hO : OwnChs W n1 v L) (hc : c < n1) (hn : n1 ≤ W.heap.size) (hl : L.length ≤ 1000000) :
    Calls Try.prog 68 #[encP z, .pointer (some ⟨c, 0, none⟩)] W fun e W' => e = .returned (.bool true) ∧ ∃ v', Boxed W' c 68 v' ∧ OwnChs W' n1 v' (noteL L ⟨z.lo, z.hi, z.a, z.b⟩) ∧ Spares (fun k => k = c ∨ v.ownBlock = some k) W W' := by
  unfold encP
  have HO := Lib.hid hO
  clear hO
  go_enter Try.func68, Try.ntmps68
  go_upto_region 1 with (fail)
  generalize hw1 : World.alloc W _ = w1
  have b1 : BoxP w1 W.heap.size z := hw1 ▸ BoxP.new W z
  have d1 : Below W.heap.size W w1 := hw1 ▸ Below.alloc1 W _
  have v1 : Boxed w1 c 68 v := bx_next hb d1
  have O1 := HO.out.next d1
  have HN := Lib.hid (note_any w1 n1 v L ⟨z.lo, z.hi, z.a, z.b⟩ O1 (Nat.le_trans hn d1.size) hl)
  have nr : some c ≠ v.ownBlock := v1.not_row (by decide) O1
  have HR := Lib.hid nr
  have HO1 := Lib.hid O1
  clear hw1 O1 nr
  have c0 := b1.c0
  have c1 := b1.c1
  have c2 := b1.c2
  have c3 := b1.c3
  have cc := v1.cell
  go_wp2_with (fail)
  go_at_call 69
  refine HN.out.mono ?_
  rintro e w2 ⟨v', rfl, O2, hg, hat⟩
  obtain ⟨I, cI, rfl⟩ := O2.sliced
  have v2 : Boxed w2 c 68 v := v1.kept hg HR.out
  have HO2 := Lib.hid O2
  clear O2 cc c0 c1 c2 c3
  have cc := v2.cell
  have cf := v2.frozen
  go_wp2_with (fail)
  go_ret
  exact ⟨rfl, _, v2.set _, HO2.out.set (p := ⟨c, 0, none⟩) hc _, ((Spares.of_below (S := fun k => k = c ∨ v.ownBlock = some k) d1).grown hg (fun k h => .inr h)).set (p := ⟨c, 0, none⟩) (.inl rfl) _⟩
end
section
open Go.RowKit Go.Shelf
attribute [local go_sem] Oper.semAt_some

theorem IsTree.unique {n n' : Nat} {W : World} : ∀ {p : Option Addr} {T T' : Tr}, IsTree n W p T → IsTree n' W p T' → T.list = T'.list
  | p, .nil, .nil, _, _ => rfl
  | p, .nil, .node _ _ _ _, h, ⟨b, _, _, h', _⟩ => by have h : p = none := h; rw [h] at h'; cases h'
  | p, .node _ _ _ _, .nil, ⟨b, _, _, h', _⟩, h => by have h : p = none := h; rw [h] at h'; cases h'
  | p, .node l len tag r, .node l' len' tag' r', ⟨b, pl, pr, e, _, hn, hl, hr⟩, ⟨b', pl', pr', e', _, hn', hl', hr'⟩ => by
    rw [e] at e'
    simp only [Option.some.injEq, Addr.mk.injEq] at e'
    obtain ⟨rfl, _⟩ := e'
    have h0 : (some (Value.pointer pl)) = some (.pointer pl') := hn.c0.symm.trans hn'.c0
    have h1 : (some (Value.int .i64 len)) = some (.int .i64 len') := hn.c2.symm.trans hn'.c2
    have h2 : (some (Value.int .i64 tag)) = some (.int .i64 tag') := hn.c3.symm.trans hn'.c3
    have h3 : (some (Value.pointer pr)) = some (.pointer pr') := hn.c1.symm.trans hn'.c1
    simp only [Option.some.injEq, Value.pointer.injEq] at h0 h3
    simp only [Option.some.injEq, Value.int.injEq, true_and] at h1 h2
    subst h0 h3 h1 h2
    simp only [Tr.list]
    rw [IsTree.unique hl hl', IsTree.unique hr hr']
theorem Rep.unique {w : World} {p : Option Addr} {A B : List (Int × Int)} (h : Rep w p A) (h' : Rep w p B) : A = B := by
  obtain ⟨T, h1, _, rfl, _⟩ := h
  obtain ⟨T', h1', _, rfl, _⟩ := h'
  exact IsTree.unique h1 h1'
theorem Rep.block {w : World} {a : Addr} {A : List (Int × Int)} (h : Rep w (some a) A) : ∃ cs, w.heap[a.block]? = some (.cells cs 116 (0, 0)) := by
  obtain ⟨T, h1, _, _, _⟩ := h
  cases T with
  | nil => have h1 : some a = Option.none := h1; cases h1
  | node l len tag r =>
    obtain ⟨b, pl, pr, e, _, hn, _⟩ := h1
    cases e
    exact ⟨_, hn⟩
theorem eql_root {w : World} {p q : Option Addr} {A B : List (Int × Int)} (hA : Rep w p A) (hB : Rep w q B) : (binOp .eql 24 (.pointer p) (.pointer q)).run Try.prog w = .ok (.bool (decide (p = q))) w := by
  have hp : Try.prog.underlying 24 = some (.pointer 116) := by kernel_rfl
  cases q with
  | none =>
    have := run_eql_pointer_nil (P := Try.prog) w 24 p (by kernel_rfl)
    rw [this]; cases p <;> rfl
  | some b =>
    cases p with
    | none =>
      have h : ∀ d : Nat, (Op.equalIn (d + 1) 24 (.pointer none) (.pointer (some b))).run Try.prog w = .ok false w := fun d => by
        simp [Op.equalIn, run_underlying hp]
      simp only [binOp]
      simp [Op.equal, Op.maxDepth, h 9999]
    | some a =>
      have hi : ∃ j, Try.prog.info? 116 = some j ∧ j.size ≠ 0 := by
        have : (Try.prog.info? 116).map (fun j => j.size) = some 23 := by kernel_rfl
        cases e : Try.prog.info? 116 with
        | none => rw [e] at this; cases this
        | some j => rw [e] at this; simp at this; exact ⟨j, rfl, by rw [this]; decide⟩
      obtain ⟨j, hj, hs⟩ := hi
      by_cases e : a = b
      · subst e
        rw [run_eql_ptr_same w a hp hj]; simp
      · obtain ⟨ca, ha⟩ := hA.block
        obtain ⟨cb, hb⟩ := hB.block
        rw [run_eql_ptr_other w hp hj hs e ha hb]; simp [e]
/-- What Equal answers. -/
def EqualPost (w : World) (x : Bool) (e : Ending) (w' : World) : Prop := e = .returned (.bool x) ∧ Below w.heap.size w w'
set_option maxRecDepth 100000 in
set_option maxHeartbeats 2000000 in
theorem equal_self (w : World) (p q : Option Addr) (A B : List (Int × Int)) (hA : Rep w p A) (hB : Rep w q B) (hpq : p = q) :
    Calls Try.prog 36 #[.agg #[.pointer p], .agg #[.pointer q]] w (EqualPost w (true)) := by
  obtain ⟨wa, hwa⟩ : ∃ wa, (w.alloc (.cells #[.pointer p] 26)).alloc (.cells #[.pointer q] 26) = wa := ⟨_, rfl⟩
  have hBa : Below w.heap.size w wa := hwa ▸ Below.alloc2 w _ _
  have ba : BoxT wa w.heap.size (.pointer p) := hwa ▸ (BoxT.new w _ _ (by decide)).alloc _
  have bb : BoxT wa (w.heap.size + 1) (.pointer q) := by
    have := BoxT.new (w.alloc (.cells #[.pointer p] 26)) (.pointer q) 26 (by decide)
    rw [World.size_alloc] at this; exact hwa ▸ this
  have hc := eql_root (hA.below hBa) (hB.below hBa)
  rw [show decide (p = q) = true from by simp [hpq]] at hc
  have HWA := Lib.hid hwa
  clear hwa
  have c0 := ba.cell
  have c1 := bb.cell
  clear hA hB hpq
  go_enter Try.func36, Try.ntmps36
  go_upto_region 1 with (fail)
  rw [HWA.out]
  go_wp2_with (fail)
  go_ret
  exact ⟨rfl, hBa⟩
set_option maxRecDepth 100000 in
set_option maxHeartbeats 2000000 in
theorem equal_size (w : World) (p q : Option Addr) (A B : List (Int × Int)) (hA : Rep w p A) (hB : Rep w q B) (hpq : ¬ p = q) (ht : ¬ Tr.total A = Tr.total B) :
    Calls Try.prog 36 #[.agg #[.pointer p], .agg #[.pointer q]] w (EqualPost w (false)) := by
  obtain ⟨wa, hwa⟩ : ∃ wa, (w.alloc (.cells #[.pointer p] 26)).alloc (.cells #[.pointer q] 26) = wa := ⟨_, rfl⟩
  have hBa : Below w.heap.size w wa := hwa ▸ Below.alloc2 w _ _
  have ba : BoxT wa w.heap.size (.pointer p) := hwa ▸ (BoxT.new w _ _ (by decide)).alloc _
  have bb : BoxT wa (w.heap.size + 1) (.pointer q) := by
    have := BoxT.new (w.alloc (.cells #[.pointer p] 26)) (.pointer q) 26 (by decide)
    rw [World.size_alloc] at this; exact hwa ▸ this
  have hc := eql_root (hA.below hBa) (hB.below hBa)
  rw [show decide (p = q) = false from by simp [hpq]] at hc
  obtain ⟨x, hx⟩ : ∃ x, Tr.total A = x := ⟨_, rfl⟩
  obtain ⟨y, hy⟩ : ∃ y, Tr.total B = y := ⟨_, rfl⟩
  obtain ⟨m, hm⟩ : ∃ m, A.length = m := ⟨_, rfl⟩
  obtain ⟨n, hn⟩ : ∃ n, B.length = n := ⟨_, rfl⟩
  have t1 : (x != y) = true := by simp; omega
  have hsz : ∀ (p : Option Addr) (L : List (Int × Int)) (x : Int), Rep w p L → Tr.total L = x → ∀ W, Below w.heap.size w W → Calls Try.prog 26 #[.agg #[.pointer p]] W fun e w' => e = .returned (.int .i64 x) ∧ Below W.heap.size W w' := by
    intro p L x hr hxx W hBW
    have := size_any W p L (hr.below hBW); rw [hxx] at this; exact this
  have SA := Lib.hid (hsz p A x hA hx)
  have SB := Lib.hid (hsz q B y hB hy)
  have HWA := Lib.hid hwa
  clear hwa hsz hA hB hpq hx hy hm hn ht
  have c0 := ba.cell
  have c1 := bb.cell
  have tok1 : True := trivial
  have tok3 : True := trivial
  go_enter Try.func36, Try.ntmps36
  go_upto_region 1 with (fail)
  rw [HWA.out]
  go_wp2_with (fail)
  go_region_with ((first
    | (go_at_call 26; have _t := tok1; clear tok1; refine (SA.out _ (by exact hBa.drew)).mono ?_; rintro e w1 ⟨rfl, hb1'⟩; have hb1 : Below wa.heap.size wa w1 := Below.of_drew hb1'; have hB1 := Below.next hBa hb1; have c0' := (ba.next hb1).cell; have c1' := (bb.next hb1).cell)
    | (go_at_call 26; refine (SB.out _ hB1).mono ?_; rintro e w2 ⟨rfl, hb2⟩; have hB2 := Below.next hB1 hb2)))
  all_goals
    go_wp2_with (fail)
    go_ret
    exact ⟨rfl, hB2⟩
set_option maxRecDepth 100000 in
set_option maxHeartbeats 2000000 in
theorem equal_len (w : World) (p q : Option Addr) (A B : List (Int × Int)) (hA : Rep w p A) (hB : Rep w q B) (hpq : ¬ p = q) (ht : Tr.total A = Tr.total B) (hl : ¬ A.length = B.length) :
    Calls Try.prog 36 #[.agg #[.pointer p], .agg #[.pointer q]] w (EqualPost w (false)) := by
  obtain ⟨wa, hwa⟩ : ∃ wa, (w.alloc (.cells #[.pointer p] 26)).alloc (.cells #[.pointer q] 26) = wa := ⟨_, rfl⟩
  have hBa : Below w.heap.size w wa := hwa ▸ Below.alloc2 w _ _
  have ba : BoxT wa w.heap.size (.pointer p) := hwa ▸ (BoxT.new w _ _ (by decide)).alloc _
  have bb : BoxT wa (w.heap.size + 1) (.pointer q) := by
    have := BoxT.new (w.alloc (.cells #[.pointer p] 26)) (.pointer q) 26 (by decide)
    rw [World.size_alloc] at this; exact hwa ▸ this
  have hc := eql_root (hA.below hBa) (hB.below hBa)
  rw [show decide (p = q) = false from by simp [hpq]] at hc
  obtain ⟨x, hx⟩ : ∃ x, Tr.total A = x := ⟨_, rfl⟩
  obtain ⟨y, hy⟩ : ∃ y, Tr.total B = y := ⟨_, rfl⟩
  obtain ⟨m, hm⟩ : ∃ m, A.length = m := ⟨_, rfl⟩
  obtain ⟨n, hn⟩ : ∃ n, B.length = n := ⟨_, rfl⟩
  obtain rfl : x = y := by omega
  have t1 : (x != x) = false := by simp
  have t2 : ((m : Int) != (n : Int)) = true := by simp; omega
  have hsz : ∀ (p : Option Addr) (L : List (Int × Int)) (x : Int), Rep w p L → Tr.total L = x → ∀ W, Below w.heap.size w W → Calls Try.prog 26 #[.agg #[.pointer p]] W fun e w' => e = .returned (.int .i64 x) ∧ Below W.heap.size W w' := by
    intro p L x hr hxx W hBW
    have := size_any W p L (hr.below hBW); rw [hxx] at this; exact this
  have SA := Lib.hid (hsz p A x hA hx)
  have SB := Lib.hid (hsz q B x hB hy)
  have hle : ∀ (p : Option Addr) (L : List (Int × Int)) (m : Nat), Rep w p L → L.length = m → ∀ W, Below w.heap.size w W → Calls Try.prog 43 #[.agg #[.pointer p]] W fun e w' => e = .returned (.int .i64 m) ∧ Below W.heap.size W w' := by
    intro p L m hr hmm W hBW
    have := len_any W p L (hr.below hBW); rw [hmm] at this; exact this
  have LA := Lib.hid (hle p A m hA hm)
  have LB := Lib.hid (hle q B n hB hn)
  clear hle
  have HWA := Lib.hid hwa
  clear hwa hsz hA hB hpq hx hy hm hn ht hl
  have c0 := ba.cell
  have c1 := bb.cell
  have tok1 : True := trivial
  have tok3 : True := trivial
  go_enter Try.func36, Try.ntmps36
  go_upto_region 1 with (fail)
  rw [HWA.out]
  go_wp2_with (fail)
  go_region_held3 (fun W => W.cell? ⟨w.heap.size, 0, none⟩ = some (.pointer p) ∧ W.cell? ⟨w.heap.size + 1, 0, none⟩ = some (.pointer q))
    (first | (exact ⟨c0, c1⟩) | (exact ⟨(ba.next hb1).cell, (bb.next hb1).cell⟩) | (exact ⟨((ba.next hb1).next hb2).cell, ((bb.next hb1).next hb2).cell⟩) | (exact ⟨(((ba.next hb1).next hb2).next hb3).cell, (((bb.next hb1).next hb2).next hb3).cell⟩) | (exact ⟨((((ba.next hb1).next hb2).next hb3).next hb4).cell, ((((bb.next hb1).next hb2).next hb3).next hb4).cell⟩))
    ((first
      | (go_at_call 26; have _t := tok1; clear tok1; refine (SA.out _ (by exact hBa.drew)).mono ?_; rintro e w1 ⟨rfl, hb1'⟩; have hb1 : Below wa.heap.size wa w1 := Below.of_drew hb1'; have hB1 := Below.next hBa hb1)
      | (go_at_call 26; refine (SB.out _ hB1).mono ?_; rintro e w2 ⟨rfl, hb2⟩; have hB2 := Below.next hB1 hb2)
      | (go_at_call 43; have _t := tok3; clear tok3; refine (LA.out _ hB2).mono ?_; rintro e w3 ⟨rfl, hb3⟩; have hB3 := Below.next hB2 hb3)
      | (go_at_call 43; refine (LB.out _ hB3).mono ?_; rintro e w4 ⟨rfl, hb4⟩; have hB4 := Below.next hB3 hb4)))
  go_wp2_with (fail)
  go_ret
  exact ⟨rfl, hB4⟩
set_option maxRecDepth 100000 in
set_option maxHeartbeats 2000000 in
theorem equal_zip (w : World) (p q : Option Addr) (A B : List (Int × Int)) (hA : Rep w p A) (hB : Rep w q B) (gA : Good A) (gB : Good B) (hpq : ¬ p = q) (ht : Tr.total A = Tr.total B) (hl : A.length = B.length) :
    Calls Try.prog 36 #[.agg #[.pointer p], .agg #[.pointer q]] w (EqualPost w (allEq (zipL A B))) := by
  obtain ⟨wa, hwa⟩ : ∃ wa, (w.alloc (.cells #[.pointer p] 26)).alloc (.cells #[.pointer q] 26) = wa := ⟨_, rfl⟩
  have hBa : Below w.heap.size w wa := hwa ▸ Below.alloc2 w _ _
  have ba : BoxT wa w.heap.size (.pointer p) := hwa ▸ (BoxT.new w _ _ (by decide)).alloc _
  have bb : BoxT wa (w.heap.size + 1) (.pointer q) := by
    have := BoxT.new (w.alloc (.cells #[.pointer p] 26)) (.pointer q) 26 (by decide)
    rw [World.size_alloc] at this; exact hwa ▸ this
  have hc := eql_root (hA.below hBa) (hB.below hBa)
  rw [show decide (p = q) = false from by simp [hpq]] at hc
  obtain ⟨x, hx⟩ : ∃ x, Tr.total A = x := ⟨_, rfl⟩
  obtain ⟨y, hy⟩ : ∃ y, Tr.total B = y := ⟨_, rfl⟩
  obtain ⟨m, hm⟩ : ∃ m, A.length = m := ⟨_, rfl⟩
  obtain ⟨n, hn⟩ : ∃ n, B.length = n := ⟨_, rfl⟩
  obtain rfl : x = y := by omega
  obtain rfl : m = n := by omega
  have t1 : (x != x) = false := by simp
  have t2 : ((m : Int) != (m : Int)) = false := by simp
  have hsz : ∀ (p : Option Addr) (L : List (Int × Int)) (x : Int), Rep w p L → Tr.total L = x → ∀ W, Below w.heap.size w W → Calls Try.prog 26 #[.agg #[.pointer p]] W fun e w' => e = .returned (.int .i64 x) ∧ Below W.heap.size W w' := by
    intro p L x hr hxx W hBW
    have := size_any W p L (hr.below hBW); rw [hxx] at this; exact this
  have SA := Lib.hid (hsz p A x hA hx)
  have SB := Lib.hid (hsz q B x hB hy)
  have hle : ∀ (p : Option Addr) (L : List (Int × Int)) (m : Nat), Rep w p L → L.length = m → ∀ W, Below w.heap.size w W → Calls Try.prog 43 #[.agg #[.pointer p]] W fun e w' => e = .returned (.int .i64 m) ∧ Below W.heap.size W w' := by
    intro p L m hr hmm W hBW
    have := len_any W p L (hr.below hBW); rw [hmm] at this; exact this
  have LA := Lib.hid (hle p A m hA hm)
  have LB := Lib.hid (hle q B m hB hn)
  clear hle
  have HX := Lib.hid hx
  have HY := Lib.hid hy
  have RA := Lib.hid hA
  have RB := Lib.hid hB
  have HGA := Lib.hid gA
  have HGB := Lib.hid gB
  clear gA gB
  have HWA := Lib.hid hwa
  clear hwa hsz hA hB hpq hx hy hm hn ht hl
  have c0 := ba.cell
  have c1 := bb.cell
  have tok1 : True := trivial
  have tok3 : True := trivial
  go_enter Try.func36, Try.ntmps36
  go_upto_region 1 with (fail)
  rw [HWA.out]
  go_wp2_with (fail)
  go_region_held3 (fun W => W.cell? ⟨w.heap.size, 0, none⟩ = some (.pointer p) ∧ W.cell? ⟨w.heap.size + 1, 0, none⟩ = some (.pointer q))
    (first | (exact ⟨c0, c1⟩) | (exact ⟨(ba.next hb1).cell, (bb.next hb1).cell⟩) | (exact ⟨((ba.next hb1).next hb2).cell, ((bb.next hb1).next hb2).cell⟩) | (exact ⟨(((ba.next hb1).next hb2).next hb3).cell, (((bb.next hb1).next hb2).next hb3).cell⟩) | (exact ⟨((((ba.next hb1).next hb2).next hb3).next hb4).cell, ((((bb.next hb1).next hb2).next hb3).next hb4).cell⟩))
    ((first
      | (go_at_call 26; have _t := tok1; clear tok1; refine (SA.out _ (by exact hBa.drew)).mono ?_; rintro e w1 ⟨rfl, hb1'⟩; have hb1 : Below wa.heap.size wa w1 := Below.of_drew hb1'; have hB1 := Below.next hBa hb1)
      | (go_at_call 26; refine (SB.out _ hB1).mono ?_; rintro e w2 ⟨rfl, hb2⟩; have hB2 := Below.next hB1 hb2)
      | (go_at_call 43; have _t := tok3; clear tok3; refine (LA.out _ hB2).mono ?_; rintro e w3 ⟨rfl, hb3⟩; have hB3 := Below.next hB2 hb3)
      | (go_at_call 43; refine (LB.out _ hB3).mono ?_; rintro e w4 ⟨rfl, hb4⟩; have hB4 := Below.next hB3 hb4)))
  have ba4 := (((ba.next hb1).next hb2).next hb3).next hb4
  have bb4 := (((bb.next hb1).next hb2).next hb3).next hb4
  go_upto_region 6 with (fail)
  generalize hw5 : World.alloc w4 _ = w5
  have d5 : Below w4.heap.size w4 w5 := hw5 ▸ Below.alloc1 w4 _
  have v5 : Boxed w5 w4.heap.size 4 (.bool true) := hw5 ▸ Boxed.new w4 _ _
  have hB5 := Below.next hB4 d5
  have s4 : w.heap.size ≤ w4.heap.size := hB4.size
  have a5 := (ba4.next d5).cell
  have b5 := (bb4.next d5).cell
  have e5 : w5.heap.size = w4.heap.size + 1 := by rw [← hw5, World.size_alloc]
  clear c0 c1 ba bb hb1 hb2 hb3 hb4 hb1' hw5 ba4 bb4
  have hmf : ∀ (fn : Fn) (first cap : Array Value) (w : World), (Instr.makeFunc fn first cap).run Try.prog w = .ok (.func fn first cap) w := fun _ _ _ _ => rfl
  have hz := zip_any 70 #[.pointer (some ⟨w4.heap.size, 0, none⟩)] (enters_of Try.func70 (by kernel_rfl) rfl) w5 p q A B (RA.out.below hB5) (RB.out.below hB5) HGA.out HGB.out (HX.out.trans HY.out.symm)
    (fun n1 pre W => allEq pre = true ∧ Boxed W w4.heap.size 4 (.bool true) ∧ Below w.heap.size w W) (fun n1 pre W => allEq pre = false ∧ Boxed W w4.heap.size 4 (.bool false) ∧ Below w.heap.size w W)
    (fun W hW => ⟨rfl, bx_next v5 hW, hB5.trans (hW.mono hB5.size)⟩) (fun n1 pre W W' h1 h2 hJ hW => ⟨hJ.1, bx_next hJ.2.1 hW, hJ.2.2.trans (hW.mono hJ.2.2.size)⟩)
    (fun n1 pre z post W hZ h1 h2 hJ => by
      have hs : w4.heap.size < n1 := by omega
      refine (eq_yield W w4.heap.size _ z (z.a == z.b) rfl hJ.2.1).mono ?_
      rintro e W' ⟨rfl, hb, hsp⟩
      refine ⟨hsp.keptZ fun k hk e => ?_, _, rfl, ?_⟩
      · subst e; exact ⟨.inl (by omega), boxed_not_pair hJ.2.1 (by decide)⟩
      · have hBW : Below w.heap.size w W' := hJ.2.2.trans (hsp.below hJ.2.2.size (fun k e => by subst e; exact s4))
        rw [allEq_snoc]
        cases h : (z.a == z.b) with
        | true => rw [h] at hb; exact .inl ⟨rfl, by rw [Bool.and_true]; exact hJ.1, hb, hBW⟩
        | false => rw [h] at hb; exact .inr ⟨rfl, by simp, hb, hBW⟩)
  have HZ := Lib.hid hz
  clear hz
  go_wp2_with (fail)
  go_at_call 67
  refine HZ.out.mono ?_
  rintro e w6 ⟨rfl, n1, h1, h2, hJ⟩
  have hf : Boxed w6 w4.heap.size 4 (.bool (allEq (zipL A B))) ∧ Below w.heap.size w w6 := by
    rcases hJ with hJ | ⟨q, hq, hq1, hq2, hq3⟩
    · obtain ⟨j1, j2, j3⟩ := hJ; rw [j1]; exact ⟨j2, j3⟩
    · obtain ⟨t, ht⟩ := hq
      have : allEq (zipL A B) = false := by rw [← ht]; unfold allEq at hq1 ⊢; rw [List.all_append, hq1]; rfl
      rw [this]; exact ⟨hq2, hq3⟩
  have c6 := hf.1.cell
  have hB6 := hf.2
  clear hf hJ a5 b5
  go_wp2_with (fail)
  go_ret
  exact ⟨rfl, hB6⟩
/-- Equal tells whether two maps have the same runs. -/
theorem equal_any (w : World) (p q : Option Addr) (A B : List (Int × Int)) (hA : Rep w p A) (hB : Rep w q B) (gA : A = [] ∨ Good A) (gB : B = [] ∨ Good B) :
    Calls Try.prog 36 #[.agg #[.pointer p], .agg #[.pointer q]] w (EqualPost w (decide (A = B))) := by
  by_cases hpq : p = q
  · subst hpq
    rw [decide_eq_true (hA.unique hB)]
    exact equal_self w p p A B hA hB rfl
  · by_cases ht : Tr.total A = Tr.total B
    · by_cases hl : A.length = B.length
      · have hA0 : A ≠ [] := by
          rintro rfl
          have : B = [] := List.eq_nil_of_length_eq_zero hl.symm
          exact hpq ((hA.nil_iff.2 rfl).trans (hB.nil_iff.2 this).symm)
        have hB0 : B ≠ [] := by
          rintro rfl
          exact hA0 (List.eq_nil_of_length_eq_zero hl)
        have GA := gA.resolve_left hA0
        have GB := gB.resolve_left hB0
        have e : decide (A = B) = allEq (zipL A B) := by
          by_cases h : A = B
          · rw [decide_eq_true h, (allEq_iff GA GB ht).2 h]
          · rw [decide_eq_false h]
            cases h2 : allEq (zipL A B) with
            | false => rfl
            | true => exact absurd ((allEq_iff GA GB ht).1 h2) h
        rw [e]
        exact equal_zip w p q A B hA hB GA GB hpq ht hl
      · rw [decide_eq_false (fun h => hl (by rw [h]))]
        exact equal_len w p q A B hA hB hpq ht hl
    · rw [decide_eq_false (fun h => ht (by rw [h]))]
      exact equal_size w p q A B hA hB hpq ht
end
section
open Go.RowKit Go.Shelf

theorem infoMap : (Try.prog.info? 26).map (fun i => (i.zero, i.size, i.bytes)) = some (some (.agg #[.pointer none]), 1, 8) := by kernel_rfl
def ptrs (l : List (Option Addr)) : List Value := l.map Value.pointer
theorem ptrs_length (l : List (Option Addr)) : (ptrs l).length = l.length * 1 := by simp [ptrs]
theorem ptr_cell {w : World} {base : Nat} {g n c : Nat} {l : List (Option Addr)} (hn : l.length = n) (h : w.ownsRow base 26 1 (.slice (some ⟨g, 0, none⟩) n c) n (ptrs l)) {i : Nat} (hi : i < l.length) : w.cell? ⟨g, i, none⟩ = some (.pointer l[i]) := by
  rcases h.2 with ⟨h1, _⟩ | ⟨g', cap, cur, e, _, hh, _, _, _, ht⟩
  · simp at h1
  · simp only [Value.slice.injEq, Option.some.injEq, Addr.mk.injEq] at e
    obtain ⟨⟨rfl, _⟩, _, rfl⟩ := e
    rw [cell_of_row w g i cur _ _ hh]
    have h2 : (ptrs l)[i]? = some (.pointer l[i]) := by simp [ptrs, hi]
    rw [← ht, List.getElem?_take, if_pos (by omega)] at h2
    rw [← h2, Array.getElem?_toList]
theorem cell_one_new (w : World) (x : Value) (t : TypeId) : ∀ j u, [x][j]? = some u → (w.alloc (.cells #[x] t)).cell? ((⟨w.heap.size, 0, none⟩ : Addr).add j) = some u := by
  intro j u hj
  match j, hj with
  | 0, hj => simp at hj; subst hj; exact cell_of_row _ w.heap.size 0 _ _ _ (heap_alloc_new w _)
  | j + 1, hj => simp at hj
/-- The block g holds the pointers of maps. -/
def Ptrs (w : World) (g : Nat) (os : List (Option Addr)) : Prop := g < w.heap.size ∧ ∀ m (h : m < os.length), w.cell? ⟨g, m, none⟩ = some (.pointer os[m])
theorem Ptrs.below {w w' : World} {g : Nat} {os : List (Option Addr)} (h : Ptrs w g os) (hB : Below w.heap.size w w') : Ptrs w' g os :=
  ⟨Nat.lt_of_lt_of_le h.1 hB.size, fun m hm => (hB.cell (p := ⟨g, m, none⟩) h.1).trans (h.2 m hm)⟩
theorem Ptrs.cells {w : World} {g : Nat} {os : List (Option Addr)} (h : Ptrs w g os) : ∀ j u, (ptrs os)[j]? = some u → w.cell? ((⟨g, 0, none⟩ : Addr).add j) = some u := by
  intro j u hj
  rw [add_plain0]
  have hl : j < os.length := by
    refine Classical.byContradiction fun hn => ?_
    rw [List.getElem?_eq_none (by rw [ptrs_length]; omega)] at hj; cases hj
  rw [h.2 j hl]
  simp only [ptrs, List.getElem?_map, List.getElem?_eq_getElem hl, Option.map_some] at hj
  exact hj
/-- What alike returns. -/
def AlikeR (x : Int) (k : Nat) (os : List (Option Addr)) (LL : Nat → List (Int × Int)) (L0 : List (Int × Int)) : Prop :=
  (x = 1 ∧ none ∈ os) ∨ (none ∉ os ∧ ((x = 2 ∧ ∃ m, m < k ∧ Tr.total (LL m) ≠ Tr.total L0) ∨ (x = 0 ∧ ∀ m, m < k → Tr.total (LL m) = Tr.total L0)))
set_option maxRecDepth 100000 in
set_option maxHeartbeats 4000000 in
theorem alike_any (w : World) (f : Option Addr) (g k : Nat) (os : List (Option Addr)) (hk : os.length = k) (hO : Ptrs w g os) (hk2 : k ≤ 10) (L0 : List (Int × Int)) (LL : Nat → List (Int × Int)) (hf : Rep w f L0) (hos : ∀ m (h : m < os.length), Rep w os[m] (LL m)) :
    Calls Try.prog 66 #[.agg #[.pointer f], .slice (some ⟨g, 0, none⟩) k k] w fun e w' => (∃ x : Int, e = .returned (.int .i64 x) ∧ AlikeR x k (os ++ [f]) LL L0) ∧ Below w.heap.size w w' := by
  obtain ⟨i0, hi0, hz0, hz1, hz2⟩ := info_parts infoMap
  have hsf : ∀ W, Below w.heap.size w W → Calls Try.prog 26 #[.agg #[.pointer f]] W fun e w' => e = .returned (.int .i64 (Tr.total L0)) ∧ Below W.heap.size W w' := fun W hW => size_any W f L0 (hf.below hW)
  have hso : ∀ m (h : m < os.length) W, Below w.heap.size w W → Calls Try.prog 26 #[.agg #[.pointer os[m]]] W fun e w' => e = .returned (.int .i64 (Tr.total (LL m))) ∧ Below W.heap.size W w' := fun m h W hW => size_any W _ _ ((hos m h).below hW)
  have HSF := Lib.hid hsf
  have HSO := Lib.hid hso
  have HO := Lib.hid hO
  have HK := Lib.hid hk
  clear hO hk hf hos hsf hso
  go_enter Try.func66, Try.ntmps66
  go_upto_region 1 with (fail)
  generalize hwa : World.alloc w _ = wa
  have x2 : Boxed wa w.heap.size 26 (.pointer f) := hwa ▸ Boxed.new w _ _
  have ba : Below w.heap.size w wa := hwa ▸ Below.alloc1 w _
  have Oa := Lib.hid (HO.out.below ba)
  have hl2 : Hid ((ptrs os).length = k * 1) := by rw [ptrs_length, HK.out]; exact rfl
  have Oc : Hid (∀ b, some (⟨g, 0, none⟩ : Addr) = some b → ∀ j u, (ptrs os)[j]? = some u → (wa.alloc (.cells #[.pointer f] 26)).cell? (b.add j) = some u) := fun b hb j u hj => by cases hb; exact (Oa.out.below (Below.alloc1 wa _)).cells j u hj
  clear hwa
  have c2 := x2.cell
  go_wp2_with (at_builtin; (refine wpList_append_grows _ rfl (.tmp 9) (.tmp 11) 59 rfl 26 i0 (.agg #[.pointer none]) 1 8 Try.underlying59 hi0 hz0 hz1 hz2 rfl (by decide) (some ⟨g, 0, none⟩) k k (ptrs os) rfl (fun h => by cases h) hl2.out Oc.out ⟨wa.heap.size, 0, none⟩ 1 1 [.pointer f] rfl rfl (cell_one_new _ _ _) (by simp [Value.oneCell']) (by omega) (by unfold maxLen; omega) (by omega) ?_); intro v2 w2 hown hgrow; obtain ⟨g2, cap2, rfl⟩ := ownsRow_succ hown)
  have hO2 : w2.ownsRow (wa.heap.size + 1) 26 1 (.slice (some ⟨g2, 0, none⟩) (k + 1) cap2) (k + 1) (ptrs (os ++ [f])) := by
    have e : ptrs os ++ [Value.pointer f] = ptrs (os ++ [f]) := by simp [ptrs]
    rw [← e]; simpa using hown
  have hl : (os ++ [f]).length = k + 1 := by rw [List.length_append, HK.out]; rfl
  have b2' : Below wa.heap.size wa w2 := (Below.alloc1 wa _).grown hgrow (by simp) (fun k h => by cases h)
  have b2 := Below.next ba b2'
  have x3 := bx_next x2 b2'
  have O2 := Lib.hid (Oa.out.below b2')
  have HO2 := Lib.hid hO2
  have HL := Lib.hid hl
  have hlt2 : g2 < w2.heap.size := (hO2.lt g2 rfl).2
  clear hown hgrow hO2 hl Oa Oc x2 c2 b2'
  go_wp2_with (fail)
  go_loopw [14] (fun i W => ∃ j : Nat, j ≤ k + 1 ∧ i = .int .i64 j ∧ Hid (∀ m (h : m < (os ++ [f]).length), m < j → (os ++ [f])[m] ≠ none) ∧ Below w2.heap.size w2 W) (fun i _ => k + 1 - (intOf i).toNat)
  case atStart => exact ⟨0, Nat.zero_le _, rfl, fun m _ h => by omega, Below.refl _ _⟩
  case round =>
    obtain ⟨j, hj, rfl, hP, hB⟩ := hrel
    by_cases hlt : j < k + 1
    · have k1 : (j : Int) < (k : Int) + 1 := by omega
      have k2 : (j : Int) < ((k + 1 : Nat) : Int) := by omega
      have hjl : j < (os ++ [f]).length := by rw [HL.out]; exact hlt
      have hc := (hB.cell (p := ⟨g2, j, none⟩) hlt2).trans (ptr_cell HL.out HO2.out hjl)
      obtain ⟨P, hPe⟩ : ∃ P, (os ++ [f])[j] = P := ⟨_, rfl⟩
      rw [hPe] at hc
      have HPE := Lib.hid hPe
      clear hPe
      cases P with
      | none =>
        go_wp2_with (fail)
        go_ret
        exact ⟨⟨1, rfl, .inl ⟨rfl, by rw [← HPE.out]; exact List.getElem_mem hjl⟩⟩, Below.next b2 (Below.next hB (Below.alloc1 _ _))⟩
      | some q =>
        go_wp2_with (fail)
        exact ⟨⟨j + 1, by omega, by go_num, fun m h hm => by
          by_cases e : m = j
          · subst e; rw [HPE.out]; simp
          · exact hP.out m h (by omega), Below.next hB (Below.alloc1 _ _)⟩, by simp [intOf]; omega⟩
    · obtain rfl : j = k + 1 := by omega
      have x4 := bx_next x3 hB
      have b4 := Below.next b2 hB
      have O4 := Lib.hid (O2.out.below hB)
      have hno : none ∉ os ++ [f] := fun hm => by
        obtain ⟨m, hm, he⟩ := List.mem_iff_getElem.1 hm
        exact hP.out m hm (by have := HL.out; omega) he
      have HNO := Lib.hid hno
      clear x3 hB hP hno
      rename World => w5
      go_wp2_with (fail)
      go_loopw [24] (fun i W => ∃ j : Nat, j ≤ k ∧ i = .int .i64 j ∧ Hid (∀ m, m < j → Tr.total (LL m) = Tr.total L0) ∧ Below w5.heap.size w5 W) (fun i _ => k - (intOf i).toNat)
      case atStart => exact ⟨0, Nat.zero_le _, rfl, fun m h => by omega, Below.refl _ _⟩
      case round =>
        obtain ⟨j, hj, rfl, hP, hB⟩ := hrel
        by_cases hlt : j < k
        · have k1 : (j : Int) < (k : Int) := by omega
          have hjl : j < os.length := by have := HK.out; omega
          have hc := (O4.out.below hB).2 j hjl
          have hgl := (O4.out.below hB).1
          have HS := Lib.hid (HSO.out j hjl)
          obtain ⟨P, hPe⟩ : ∃ P, os[j] = P := ⟨_, rfl⟩
          rw [hPe] at hc HS
          clear hPe
          go_upto_region 10 with (fail)
          generalize hw6 : World.alloc wr _ = w6
          have d6 : Below wr.heap.size wr w6 := hw6 ▸ Below.alloc1 wr _
          have x8 : Boxed w6 wr.heap.size 26 (.pointer P) := hw6 ▸ Boxed.new wr _ _
          have x6 := bx_next (bx_next x4 hB) d6
          have B5 := Below.next hB d6
          have B6 := Below.next b4 B5
          clear hw6 hc
          have c8 := x8.cell
          have c2 := x6.cell
          obtain ⟨u, hu⟩ : ∃ u, Tr.total (LL j) = u := ⟨_, rfl⟩
          obtain ⟨v, hv⟩ : ∃ v, Tr.total L0 = v := ⟨_, rfl⟩
          rw [hu] at HS
          have HSF' := HSF
          rw [hv] at HSF'
          have HU := Lib.hid hu
          have HV := Lib.hid hv
          clear hu hv
          have tok1 : True := trivial
          go_wp2_with (fail)
          go_region_held3 (fun W => W.cell? ⟨wr.heap.size, 0, none⟩ = some (.pointer P) ∧ W.cell? ⟨w.heap.size, 0, none⟩ = some (.pointer f))
            (first | (exact ⟨c8, c2⟩) | (exact ⟨(bx_next x8 hb1).cell, (bx_next x6 hb1).cell⟩) | (exact ⟨(bx_next (bx_next x8 hb1) hb2).cell, (bx_next (bx_next x6 hb1) hb2).cell⟩))
            ((first
              | (go_at_call 26; have _t := tok1; clear tok1; refine (HS.out _ (by exact B6.drew)).mono ?_; rintro e w7 ⟨rfl, hb1'⟩; have hb1 : Below w6.heap.size w6 w7 := Below.of_drew hb1'; have B7 := Below.next B6 hb1)
              | (go_at_call 26; refine (HSF'.out _ B7).mono ?_; rintro e w8 ⟨rfl, hb2⟩; have B8 := Below.next B7 hb2; have B58 := Below.next (Below.next B5 hb1) hb2)))
          by_cases huv : u = v
          · have t1 : (u != v) = false := by simp [huv]
            go_wp2_with (fail)
            go_roundw
            case rel =>
              have hP2 : Hid (∀ m, m < j + 1 → Tr.total (LL m) = Tr.total L0) := fun m hm => by
                by_cases e : m = j
                · subst e; rw [HU.out, HV.out]; exact huv
                · exact hP.out m (by omega)
              (repeat apply Exists.intro)
              exact ⟨⟨j + 1, by omega, by go_num, hP2, B58⟩, rfl⟩
            case measure => simp [intOf]; omega
          · have t1 : (u != v) = true := by simp [huv]
            go_wp2_with (fail)
            go_ret
            exact ⟨⟨2, rfl, .inr ⟨HNO.out, .inl ⟨rfl, j, by omega, by rw [HU.out, HV.out]; exact huv⟩⟩⟩, B8⟩
        · obtain rfl : j = k := by omega
          go_wp2_with (fail)
          go_ret
          exact ⟨⟨0, rfl, .inr ⟨HNO.out, .inr ⟨rfl, hP.out⟩⟩⟩, Below.next b4 hB⟩
end
section
open Go.RowKit Go.Shelf

theorem ptrs_new (w : World) (q : Option Addr) : Ptrs (w.alloc (.cells #[.pointer q] 26)) w.heap.size [q] :=
  ⟨by simp, fun m hm => by
    have : m = 0 := by simp at hm; exact hm
    subst this
    exact cell_of_row _ w.heap.size 0 _ _ _ (heap_alloc_new w _)⟩
theorem zipL_length (A B : List (Int × Int)) : (zipL A B).length ≤ A.length + B.length := zipN_length _ _ _ _
/-- What Diff leaves. -/
def DiffPost (w : World) (r : Int × List Ch) (e : Ending) (w' : World) : Prop := ∃ v, e = .returned (.tuple #[v, .int .i64 r.1]) ∧ OwnChs w' w.heap.size v r.2 ∧ Below w.heap.size w w'
/-- What the function of Diff has made of some pairs. -/
def DiffJ (w : World) (c n1 : Nat) (pre : List Pr) (W : World) : Prop := ∃ v, Boxed W c 68 v ∧ OwnChs W n1 v (diffL pre) ∧ Below w.heap.size w W
theorem DiffJ.next {w W W' : World} {c n1 : Nat} {pre : List Pr} (h : DiffJ w c n1 pre W) (hB : Below W.heap.size W W') : DiffJ w c n1 pre W' := by
  obtain ⟨v, h1, h2, h3⟩ := h
  exact ⟨v, bx_next h1 hB, h2.next hB, h3.trans (hB.mono h3.size)⟩
theorem diff_yield (w : World) (c n0 n1 : Nat) (pre : List Pr) (z : Pr) (W : World) (hw : w.heap.size ≤ c) (hc : c < n0) (h1 : n0 ≤ n1) (h2 : n1 ≤ W.heap.size) (hJ : DiffJ w c n1 pre W) (hl : (diffL pre).length ≤ 1000000) :
    Calls Try.prog 68 (#[encP z] ++ #[.pointer (some ⟨c, 0, none⟩)]) W fun e W' => KeptZ n0 n1 W W' ∧ ∃ go : Bool, e = .returned (.bool go) ∧ ((go = true ∧ DiffJ w c n1 (pre ++ [z]) W') ∨ (go = false ∧ False)) := by
  obtain ⟨v, j1, j2, j3⟩ := hJ
  by_cases hz : z.a = z.b
  · refine (diff_yield_eq W c z (by simp [hz])).mono ?_
    rintro e W' ⟨rfl, hB⟩
    refine ⟨(Spares.of_below (S := fun _ => False) hB).keptZ (fun k _ h => h.elim), true, rfl, .inl ⟨rfl, ?_⟩⟩
    have : diffL (pre ++ [z]) = diffL pre := by rw [diffL_snoc]; unfold diffS; rw [if_pos hz]
    unfold DiffJ
    rw [this]
    exact DiffJ.next ⟨v, j1, j2, j3⟩ hB
  · refine (diff_yield_ne W c n1 v (diffL pre) z (by simp [hz]) j1 j2 (by omega) h2 hl).mono ?_
    rintro e W' ⟨rfl, v', k1, k2, k3⟩
    refine ⟨k3.keptZ (fun k hk h => ?_), true, rfl, .inl ⟨rfl, v', k1, ?_, ?_⟩⟩
    · rcases h with rfl | h
      · exact ⟨.inl hc, boxed_not_pair j1 (by decide)⟩
      · obtain ⟨a, _, b⟩ := j2.row h
        exact ⟨.inr a, b⟩
    · rw [diffL_snoc]; unfold diffS; rw [if_neg hz]; exact k2
    · refine j3.trans (k3.below j3.size fun k h => ?_)
      rcases h with rfl | h
      · exact hw
      · have := (j2.row h).1; omega
set_option maxRecDepth 100000 in
set_option maxHeartbeats 2000000 in
theorem diff_any (w : World) (p q : Option Addr) (A B : List (Int × Int)) (hA : Rep w p A) (hB : Rep w q B) (gA : A = [] ∨ Good A) (gB : B = [] ∨ Good B) :
    Calls Try.prog 34 #[.agg #[.pointer p], .agg #[.pointer q]] w (DiffPost w (diffR A B)) := by
  obtain ⟨wa, hwa⟩ : ∃ wa, (w.alloc (.cells #[.pointer p] 26)).alloc (.cells #[.pointer q] 26) = wa := ⟨_, rfl⟩
  have hBa : Below w.heap.size w wa := hwa ▸ Below.alloc2 w _ _
  have ba : BoxT wa w.heap.size (.pointer p) := hwa ▸ (BoxT.new w _ _ (by decide)).alloc _
  have bb : BoxT wa (w.heap.size + 1) (.pointer q) := by
    have := BoxT.new (w.alloc (.cells #[.pointer p] 26)) (.pointer q) 26 (by decide)
    rw [World.size_alloc] at this; exact hwa ▸ this
  have dg : Below wa.heap.size wa (wa.alloc (.cells #[.pointer q] 26)) := Below.alloc1 wa _
  have hal := alike_any (wa.alloc (.cells #[.pointer q] 26)) p wa.heap.size 1 [q] rfl (ptrs_new wa q) (by decide) A (fun _ => B) ((hA.below hBa).below dg) (fun m hm => by
    have : m = 0 := by simp at hm; exact hm
    subst this
    exact (hB.below hBa).below dg)
  have HAL := Lib.hid hal
  have HWA := Lib.hid hwa
  have HA := Lib.hid hA
  have HB := Lib.hid hB
  have GA := Lib.hid gA
  have GB := Lib.hid gB
  clear hal hwa hA hB gA gB
  have c0 := ba.cell
  have c1 := bb.cell
  go_enter Try.func34, Try.ntmps34
  go_upto_region 1 with (fail)
  rw [HWA.out]
  go_wp2_with (fail)
  go_at_call 66
  refine HAL.out.mono ?_
  rintro e w1 ⟨⟨x, rfl, hx⟩, b1⟩
  have B1 := Below.next (Below.next hBa dg) b1
  have ba1 := (ba.next dg).next b1
  have bb1 := (bb.next dg).next b1
  have HX := Lib.hid hx
  clear c0 c1 ba bb dg b1 hx HAL
  by_cases h0 : x = 0
  · subst h0
    have hx := HX.out
    have hno : none ∉ [q] ++ [p] := by
      rcases hx with ⟨h, _⟩ | ⟨h, _⟩
      · cases h
      · exact h
    have hA0 : A ≠ [] := fun h => hno (by rw [HA.out.nil_iff.2 h]; simp)
    have hB0 : B ≠ [] := fun h => hno (by rw [HB.out.nil_iff.2 h]; simp)
    have ht : Tr.total B = Tr.total A := by
      rcases hx with ⟨h, _⟩ | ⟨_, ⟨h, _⟩ | ⟨_, h⟩⟩
      · cases h
      · cases h
      · exact h 0 (by omega)
    have gA := GA.out.resolve_left hA0
    have gB := GB.out.resolve_left hB0
    have hr : diffR A B = (0, diffL (zipL A B)) := by unfold diffR; rw [if_neg (by simp [hA0, hB0]), if_neg (by rw [ht]; simp)]
    have HR := Lib.hid hr
    have hlen : (zipL A B).length ≤ 8192 := by have := zipL_length A B; have := gA.2.2.2.2; have := gB.2.2.2.2; omega
    obtain ⟨w4, hw4⟩ : ∃ w4, w1.alloc (.cells #[.slice none 0 0] 68) = w4 := ⟨_, rfl⟩
    have d4 : Below w1.heap.size w1 w4 := hw4 ▸ Below.alloc1 w1 _
    have v4 : Boxed w4 w1.heap.size 68 (.slice none 0 0) := hw4 ▸ Boxed.new w1 _ _
    have e4 : w4.heap.size = w1.heap.size + 1 := by rw [← hw4, World.size_alloc]
    have B4 := Below.next B1 d4
    have s1 : w.heap.size ≤ w1.heap.size := B1.size
    have a4 := (ba1.next d4).cell
    have b4 := (bb1.next d4).cell
    have hmf : ∀ (fn : Fn) (first cap : Array Value) (w : World), (Instr.makeFunc fn first cap).run Try.prog w = .ok (.func fn first cap) w := fun _ _ _ _ => rfl
    have hz := zip_any 68 #[.pointer (some ⟨w1.heap.size, 0, none⟩)] (enters_of Try.func68 (by kernel_rfl) rfl) w4 p q A B (HA.out.below B4) (HB.out.below B4) gA gB ht.symm
      (DiffJ w w1.heap.size) (fun _ _ _ => False)
      (fun W hW => ⟨_, bx_next v4 hW, World.ownsRow_nil _ _ _ _, B4.trans (hW.mono B4.size)⟩) (fun n1 pre W W' h1 h2 hJ hW => hJ.next hW)
      (fun n1 pre z post W hZ h1 h2 hJ => diff_yield w w1.heap.size w4.heap.size n1 pre z W s1 (by omega) h1 h2 hJ (by
        have := diffL_length pre
        have : pre.length ≤ (zipL A B).length := by rw [hZ]; simp
        omega))
    have HZ := Lib.hid hz
    have HW4 := Lib.hid hw4
    clear hz hx hno hA0 hB0 ht gA gB hr hlen hw4 HX
    go_upto_region 5 with (fail)
    rw [HW4.out]
    go_wp2_with (fail)
    go_at_call 67
    refine HZ.out.mono ?_
    rintro e w6 ⟨rfl, n1, h1, h2, hJ⟩
    obtain ⟨v, j1, j2, j3⟩ := hJ.resolve_right (fun ⟨_, _, h⟩ => h)
    obtain ⟨I, cI, rfl⟩ := j2.sliced
    have c6 := j1.cell
    have HJ2 := Lib.hid j2
    clear hJ j2 a4 b4
    go_wp2_with (fail)
    go_ret2
    rw [HR.out]
    refine ⟨.slice I (diffL (zipL A B)).length cI, rfl, ?_, j3⟩
    obtain ⟨k1, k2⟩ := HJ2.out
    refine ⟨k1, ?_⟩
    rcases k2 with k2 | ⟨g, cap, cur, e, hg, r⟩
    · exact .inl k2
    · exact .inr ⟨g, cap, cur, e, by omega, r⟩
  · have hr : diffR A B = (x, []) := by
      unfold diffR
      rcases HX.out with ⟨h, hm⟩ | ⟨hno, ⟨h, m, hm, hh⟩ | ⟨h, _⟩⟩
      · have : A = [] ∨ B = [] := by
          simp only [List.cons_append, List.nil_append, List.mem_cons, List.not_mem_nil, or_false] at hm
          rcases hm with h | h
          · exact .inr (HB.out.nil_iff.1 h.symm)
          · exact .inl (HA.out.nil_iff.1 h.symm)
        rw [if_pos this, h]
      · have : ¬ (A = [] ∨ B = []) := fun h => hno (by
          rcases h with h | h
          · rw [HA.out.nil_iff.2 h]; simp
          · rw [HB.out.nil_iff.2 h]; simp)
        rw [if_neg this, if_pos (fun e => hh e.symm), h]
      · exact absurd h h0
    have HR := Lib.hid hr
    have t1 : (x != 0) = true := by simpa using h0
    clear HX hr
    go_wp2_with (fail)
    go_ret2
    rw [HR.out]
    exact ⟨.slice none 0 0, rfl, World.ownsRow_nil _ _ _ _, B1⟩
end
end Go.Proofs.Ytfmplibjhohpgaa
