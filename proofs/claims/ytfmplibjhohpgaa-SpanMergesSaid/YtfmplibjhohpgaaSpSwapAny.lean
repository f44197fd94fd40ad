/- Swap of package span, whatever its arguments. -/
import Derived.Test.YtfmplibjhohpgaaSpSwap
namespace Go.Proofs.Ytfmplibjhohpgaa
open Go.RowKit

/-- The four boxes with which Swap begins. -/
def swapW (w : World) (p : Option Addr) (from_ to : Int) : World := (((w.alloc (.cells #[.pointer p] 26)).alloc (.cells #[.int .i64 from_] 3)).alloc (.cells #[.int .i64 to] 3)).alloc (.cells #[.pointer none] 26)
theorem swapW_below (w : World) (p : Option Addr) (from_ to : Int) : Below w.heap.size w (swapW w p from_ to) := Below.next (Below.next (Below.alloc2 w _ _) (Below.alloc1 _ _)) (Below.alloc1 _ _)
theorem swapW_boxes (w : World) (p : Option Addr) (from_ to : Int) {w1 : World} (hb1 : Below (swapW w p from_ to).heap.size (swapW w p from_ to) w1) :
    Boxed w1 (w.heap.size + 1) 3 (.int .i64 from_) ∧ Boxed w1 (w.heap.size + 1 + 1) 3 (.int .i64 to) ∧ Boxed w1 (w.heap.size + 1 + 1 + 1) 26 (.pointer none) := by
  refine ⟨?_, ?_, ?_⟩
  · have := (((Boxed.new (w.alloc (.cells #[.pointer p] 26)) 3 (.int .i64 from_)).alloc (.cells #[.int .i64 to] 3)).alloc (.cells #[.pointer none] 26)).kept (Below.grownBy hb1) (by simp)
    rwa [World.size_alloc] at this
  · have := ((Boxed.new ((w.alloc (.cells #[.pointer p] 26)).alloc (.cells #[.int .i64 from_] 3)) 3 (.int .i64 to)).alloc (.cells #[.pointer none] 26)).kept (Below.grownBy hb1) (by simp)
    rwa [World.size_alloc, World.size_alloc] at this
  · have := (Boxed.new (((w.alloc (.cells #[.pointer p] 26)).alloc (.cells #[.int .i64 from_] 3)).alloc (.cells #[.int .i64 to] 3)) 26 (.pointer none)).kept (Below.grownBy hb1) (by simp)
    rwa [World.size_alloc, World.size_alloc, World.size_alloc] at this
set_option maxRecDepth 100000 in
set_option maxHeartbeats 1000000 in
theorem swap_err (w : World) (p : Option Addr) (L : List (Int × Int)) (lo hi from_ to : Int) (h : Rep w p L) (x : Int) (hx : Hid (rangesR L lo hi = x)) (hx0 : (x == 0) = false) :
    Calls Try.prog 24 #[.agg #[.pointer p], .int .i64 lo, .int .i64 hi, .int .i64 from_, .int .i64 to] w fun e w' => e = .returned (.tuple #[.agg #[.pointer none], .int .i64 0, .int .i64 x]) ∧ Below w.heap.size w w' := by
  have hB0 := swapW_below w p from_ to
  have hr := ranges_any _ p L lo hi (h.below hB0)
  rw [hx.out] at hr
  have HR := Lib.hid hr
  have hx1 : (x != 0) = true := by simpa using hx0
  clear hr
  go_enter Try.func24, Try.ntmps24
  go_wp2_with (fail)
  go_at_call 57
  refine HR.out.mono ?_
  clear HR
  rintro e w1 ⟨rfl, hb1⟩
  obtain ⟨_, _, v10⟩ := swapW_boxes w p from_ to hb1
  have hB1 := Below.next hB0 hb1
  have c1 := v10.cell
  have f1 := v10.frozen
  have z1 := v10.lt
  go_wp2_with (fail)
  exact bodyPost_ret (v := .tuple #[.agg #[.pointer none], .int .i64 0, .int .i64 x]) (by simp [results, Try.results24, go_sem, (v10.set (.pointer none)).cell]) rfl ⟨rfl, hB1.setCell (p := ⟨w.heap.size + 1 + 1 + 1, 0, none⟩) (show w.heap.size ≤ w.heap.size + 1 + 1 + 1 by omega) _⟩
set_option maxRecDepth 100000 in
set_option maxHeartbeats 1000000 in
theorem swap_tag (w : World) (p : Option Addr) (L : List (Int × Int)) (lo hi from_ to : Int) (h : Rep w p L) (hx : Hid (rangesR L lo hi = 0)) (ht : (from_ < 0 ∨ 16 ≤ from_) ∨ (to < 0 ∨ 16 ≤ to)) :
    Calls Try.prog 24 #[.agg #[.pointer p], .int .i64 lo, .int .i64 hi, .int .i64 from_, .int .i64 to] w fun e w' => e = .returned (.tuple #[.agg #[.pointer none], .int .i64 0, .int .i64 2]) ∧ Below w.heap.size w w' := by
  have hB0 := swapW_below w p from_ to
  have hr := ranges_any _ p L lo hi (h.below hB0)
  rw [hx.out] at hr
  have HR := Lib.hid hr
  clear hr
  by_cases h1 : from_ < 0 ∨ 16 ≤ from_
  · have H1 := Lib.hid h1
    clear h1 ht
    go_enter Try.func24, Try.ntmps24
    go_wp2_with (fail)
    go_at_call 57
    refine HR.out.mono ?_
    clear HR
    rintro e w1 ⟨rfl, hb1⟩
    obtain ⟨v8, v9, v10⟩ := swapW_boxes w p from_ to hb1
    have hB1 := Below.next hB0 hb1
    have c8 := v8.cell
    have c1 := v10.cell
    have f1 := v10.frozen
    have z1 := v10.lt
    go_wp2_with (fail)
    go_at_call 52
    refine (isTag_no from_ w1 H1.out).mono ?_
    rintro e w' ⟨rfl, rfl⟩
    go_wp2_with (fail)
    exact bodyPost_ret (v := .tuple #[.agg #[.pointer none], .int .i64 0, .int .i64 2]) (by simp [results, Try.results24, go_sem, (v10.set (.pointer none)).cell]) rfl ⟨rfl, hB1.setCell (p := ⟨w.heap.size + 1 + 1 + 1, 0, none⟩) (show w.heap.size ≤ w.heap.size + 1 + 1 + 1 by omega) _⟩
  · have H1 : Hid (0 ≤ from_ ∧ from_ < 16) := Lib.hid (by omega)
    have H2 := Lib.hid (ht.resolve_left h1)
    clear h1 ht
    go_enter Try.func24, Try.ntmps24
    go_wp2_with (fail)
    go_at_call 57
    refine HR.out.mono ?_
    clear HR
    rintro e w1 ⟨rfl, hb1⟩
    obtain ⟨v8, v9, v10⟩ := swapW_boxes w p from_ to hb1
    have hB1 := Below.next hB0 hb1
    have c8 := v8.cell
    have c9 := v9.cell
    have c1 := v10.cell
    have f1 := v10.frozen
    have z1 := v10.lt
    go_wp2_with (fail)
    go_at_call 52
    refine (isTag_yes from_ w1 H1.out).mono ?_
    rintro e w' ⟨rfl, rfl⟩
    go_wp2_with (fail)
    go_at_call 52
    refine (isTag_no to w1 H2.out).mono ?_
    rintro e w' ⟨rfl, rfl⟩
    go_wp2_with (fail)
    exact bodyPost_ret (v := .tuple #[.agg #[.pointer none], .int .i64 0, .int .i64 2]) (by simp [results, Try.results24, go_sem, (v10.set (.pointer none)).cell]) rfl ⟨rfl, hB1.setCell (p := ⟨w.heap.size + 1 + 1 + 1, 0, none⟩) (show w.heap.size ≤ w.heap.size + 1 + 1 + 1 by omega) _⟩
theorem swap_any (w : World) (p : Option Addr) (L : List (Int × Int)) (lo hi from_ to : Int) (h : Rep w p L) :
    Calls Try.prog 24 #[.agg #[.pointer p], .int .i64 lo, .int .i64 hi, .int .i64 from_, .int .i64 to] w (SwapPost w L lo hi from_ to) := by
  have err : ∀ x : Int, rangesR L lo hi = x → (x == 0) = false → swapR L lo hi from_ to = (x, 0, []) → Calls Try.prog 24 #[.agg #[.pointer p], .int .i64 lo, .int .i64 hi, .int .i64 from_, .int .i64 to] w (SwapPost w L lo hi from_ to) := fun x hx hx0 hs =>
    (swap_err w p L lo hi from_ to h x hx hx0).mono fun e w' ⟨h1, h2⟩ => ⟨none, by rw [hs]; exact h1, by rw [hs]; exact Rep.none _, h2⟩
  by_cases hne : L = []
  · exact err 1 (by unfold rangesR; rw [if_pos hne]) rfl (by unfold swapR; rw [if_pos hne])
  · by_cases hr : lo < 0 ∨ hi < lo ∨ Tr.total L < hi
    · exact err 3 (by unfold rangesR; rw [if_neg hne, if_pos hr]) rfl (by unfold swapR; rw [if_neg hne, if_pos hr])
    · have hx : rangesR L lo hi = 0 := by unfold rangesR; rw [if_neg hne, if_neg hr]
      by_cases ht : (from_ < 0 ∨ 16 ≤ from_) ∨ (to < 0 ∨ 16 ≤ to)
      · have hs : swapR L lo hi from_ to = (2, 0, []) := by unfold swapR; rw [if_neg hne, if_neg hr, if_pos ht]
        exact (swap_tag w p L lo hi from_ to h hx ht).mono fun e w' ⟨h1, h2⟩ => ⟨none, by rw [hs]; exact h1, by rw [hs]; exact Rep.none _, h2⟩
      · obtain ⟨a, rfl⟩ : ∃ a, p = some a := by
          cases p with
          | none => exact (hne (h.nil_iff.1 rfl)).elim
          | some a => exact ⟨a, rfl⟩
        obtain ⟨g, T, hT, nT, bT, oT, eT, pT, p1, p2, nm⟩ := h.good
        have hv := vis_clipL lo hi T 0 oT
        rw [eT] at hv
        have hl := clipL_length lo hi 0 L
        have hg := g.2.2.2.2
        exact swap_run w a L lo hi from_ to h hx T hT bT oT p1 p2 (by omega) (by omega) (by have := Tr.pcs_list T; rw [eT] at this; omega) (by show _ ∧ _; omega) (by show _ ∧ _; omega) (by rw [hv]; omega) eT g.1
end Go.Proofs.Ytfmplibjhohpgaa
