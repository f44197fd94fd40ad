/- The walk over do: an update of both maps. -/
import Derived.Test.YtfmplibjhohpgaaSpRefSwapAny
import Derived.Test.YtfmplibjhohpgaaSpPieces
namespace Go.Proofs.Ytfmplibjhohpgaa
open Go.RowKit Go.Shelf

/-- Runs in a row of runs. -/
def RunsT (w : World) (A : Option Addr) (L : List Rn) : Prop := Runs w A L ∧ ∀ a : Addr, A = some a → ∃ cur, w.heap[a.block]? = some (.cells cur 35 (0, 0))
theorem RunsT.below {w w' : World} {A : Option Addr} {L : List Rn} (h : RunsT w A L) (hB : Below w.heap.size w w') : RunsT w' A L :=
  ⟨h.1.below hB, fun a e => by obtain ⟨cur, hc⟩ := h.2 a e; exact ⟨cur, (hB.block _ (Array.getElem?_eq_some_iff.1 hc).1).trans hc⟩⟩
theorem RunsT.set {w : World} {A : Option Addr} {L : List Rn} (h : RunsT w A L) {b : Nat} {cs : Array Value} {t : TypeId} {fr : Nat × Nat} (hb : w.heap[b]? = some (.cells cs t fr)) (ht : t ≠ 35) (i : Nat) (v : Value) : RunsT (w.setCell ⟨b, i, none⟩ v) A L := by
  have far : ∀ a : Addr, A = some a → ¬ a.block = b := fun a e => by
    obtain ⟨cur, hc⟩ := h.2 a e
    rintro rfl
    rw [hb] at hc
    cases hc
    exact ht rfl
  refine ⟨?_, fun a e => ?_⟩
  · rcases h.1 with h1 | ⟨a, rfl, h1, h2⟩
    · exact .inl h1
    · refine .inr ⟨a, rfl, by simpa [World.setCell] using h1, fun j hj => ?_⟩
      obtain ⟨g0, g1, g2⟩ := h2 j hj
      have hf : ¬ (a.add (j * 3)).block = b := by rw [add_block]; exact far a rfl
      exact ⟨(cell_far w b i v hf).trans g0, (cell_far w b i v (p := ⟨(a.add (j * 3)).block, (a.add (j * 3)).off + 1, none⟩) hf).trans g1, (cell_far w b i v (p := ⟨(a.add (j * 3)).block, (a.add (j * 3)).off + 2, none⟩) hf).trans g2⟩
  · obtain ⟨cur, hc⟩ := h.2 a e
    exact ⟨cur, (Below.heap_setCell w ⟨b, i, none⟩ v a.block (far a e)).trans hc⟩
theorem OwnRuns.runsT {w : World} {base : Nat} {A : Option Addr} {n c : Nat} {L : List Rn} (h : OwnRuns w base (.slice A n c) L) : RunsT w A L := by
  refine ⟨h.toRuns, fun a e => ?_⟩
  rcases h.2 with ⟨h1, _⟩ | ⟨g, cap, cur, h1, _, hh, _⟩
  · simp only [Value.slice.injEq] at h1; rw [h1.1] at e; cases e
  · simp only [Value.slice.injEq] at h1
    rw [h1.1] at e
    cases e
    exact ⟨cur, hh⟩
theorem boxM_set0 {W : World} {b : Nat} {x : Int} {v : Value} (h : BoxM W b x v) (y : Int) : BoxM (W.setCell ⟨b, 0, none⟩ (.int .i64 y)) b y v := by
  unfold BoxM at h ⊢
  simp [World.setCell, Array.getElem?_modify, h]
/-- The program's map and the document's with the same runs, after an update. -/
def DoPost (w : World) (L' : List (Int × Int)) (e : Ending) (w' : World) : Prop :=
  ∃ p A c, e = .returned (.tuple #[.agg #[.pointer p], .agg #[.int .i64 (Tr.total L'), .slice A L'.length c], .bool true]) ∧ Rep w' p L' ∧ RunsT w' A (lay 0 L') ∧ L'.length ≤ c ∧ Below w.heap.size w w'
theorem boxed_at {w W : World} {B : Nat} {t : TypeId} {v : Value} (h : Boxed (w.alloc (.cells #[v] t)) B t v) (hB : Below (w.alloc (.cells #[v] t)).heap.size (w.alloc (.cells #[v] t)) W) : Boxed W B t v := bx_next h hB
set_option maxRecDepth 100000 in
set_option maxHeartbeats 4000000 in
theorem do_swap_ok (w : World) (p : Option Addr) (A : Option Addr) (n c : Nat) (x : Ac) (L : List (Int × Int)) (size : Int) (hL : L = [] ∨ Good L) (h : Rep w p L) (hA : RunsT w A (lay 0 L)) (hn : L.length = n) (hnc : n ≤ c) (hsz : Tr.total L = size)
    (hs : x.swap = true) (N : List (Int × Int)) (hN : actR L x = (0, N)) :
    Calls Try.prog 32 #[.agg #[.pointer p], .agg #[.int .i64 size, .slice A n c], .agg #[.bool x.swap, .int .i64 x.lo, .int .i64 x.hi, .int .i64 x.frm, .int .i64 x.to]] w (DoPost w N) := by
  have hup : ∀ W, Below w.heap.size w W → Calls Try.prog 24 #[.agg #[.pointer p], .int .i64 x.lo, .int .i64 x.hi, .int .i64 x.frm, .int .i64 x.to] W fun e w' => ∃ p, e = .returned (.tuple #[.agg #[.pointer p], .int .i64 (swapR L x.lo x.hi x.frm x.to).2.1, .int .i64 0]) ∧ Rep w' p N ∧ Below W.heap.size W w' := fun W hW => by
    have := swap_any W p L x.lo x.hi x.frm x.to (h.below hW)
    unfold actR at hN
    rw [if_pos hs] at hN
    simp only [Prod.mk.injEq] at hN
    refine this.mono fun e w' ⟨p, h1, h2, h3⟩ => ?_
    rw [hN.1] at h1
    rw [hN.2] at h2
    exact ⟨p, h1, h2, h3⟩
  have hre : ∀ W, Below w.heap.size w W → Calls Try.prog 65 #[.agg #[.int .i64 size, .slice A n c], .int .i64 x.lo, .int .i64 x.hi, .int .i64 x.frm, .int .i64 x.to, .bool false] W fun e w' => ∃ A' c', e = .returned (.tuple #[.agg #[.int .i64 (Tr.total N), .slice A' N.length c'], .int .i64 (swapR L x.lo x.hi x.frm x.to).2.1, .int .i64 0]) ∧ OwnRuns w' W.heap.size (.slice A' N.length c') (lay 0 N) ∧ N.length ≤ c' ∧ Below W.heap.size W w' := fun W hW => by
    have := rswap_any W L size A n c x.lo x.hi x.frm x.to hL (hA.1.below hW) hn hnc hsz
    unfold actR at hN
    rw [if_pos hs] at hN
    simp only [Prod.mk.injEq] at hN
    rw [hN.1, hN.2] at this
    refine this.mono fun e w' ⟨A', c', k, h1, h2, h3, h4, h5⟩ => ?_
    subst h2
    exact ⟨A', c', h1, h3, h4, h5⟩
  generalize (swapR L x.lo x.hi x.frm x.to).2.1 = cnt at *
  obtain ⟨wa, hwa⟩ : ∃ wa, (((((w.alloc (.cells #[.pointer p] 26)).alloc (.cells #[.int .i64 size, .slice A n c] 31)).alloc (.cells #[.bool x.swap, .int .i64 x.lo, .int .i64 x.hi, .int .i64 x.frm, .int .i64 x.to] 40)).alloc (.cells #[.pointer none] 26)).alloc (.cells #[.int .i64 0, .slice none 0 0] 31)).alloc (.cells #[.pointer p] 26) = wa := ⟨_, rfl⟩
  have e1 : (w.alloc (.cells #[.pointer p] 26)).heap.size = w.heap.size + 1 := World.size_alloc _ _
  have B5 := Below.alloc1 (((((w.alloc (.cells #[.pointer p] 26)).alloc (.cells #[.int .i64 size, .slice A n c] 31)).alloc (.cells #[.bool x.swap, .int .i64 x.lo, .int .i64 x.hi, .int .i64 x.frm, .int .i64 x.to] 40)).alloc (.cells #[.pointer none] 26)).alloc (.cells #[.int .i64 0, .slice none 0 0] 31)) (.cells #[.pointer p] 26)
  have B4 := Below.alloc1 ((((w.alloc (.cells #[.pointer p] 26)).alloc (.cells #[.int .i64 size, .slice A n c] 31)).alloc (.cells #[.bool x.swap, .int .i64 x.lo, .int .i64 x.hi, .int .i64 x.frm, .int .i64 x.to] 40)).alloc (.cells #[.pointer none] 26)) (.cells #[.int .i64 0, .slice none 0 0] 31)
  have B3 := Below.alloc1 (((w.alloc (.cells #[.pointer p] 26)).alloc (.cells #[.int .i64 size, .slice A n c] 31)).alloc (.cells #[.bool x.swap, .int .i64 x.lo, .int .i64 x.hi, .int .i64 x.frm, .int .i64 x.to] 40)) (.cells #[.pointer none] 26)
  have B2 := Below.alloc1 ((w.alloc (.cells #[.pointer p] 26)).alloc (.cells #[.int .i64 size, .slice A n c] 31)) (.cells #[.bool x.swap, .int .i64 x.lo, .int .i64 x.hi, .int .i64 x.frm, .int .i64 x.to] 40)
  have B1 := Below.alloc1 (w.alloc (.cells #[.pointer p] 26)) (.cells #[.int .i64 size, .slice A n c] 31)
  have x3 : Boxed wa w.heap.size 26 (.pointer p) := hwa ▸ bx_next (bx_next (bx_next (bx_next (bx_next (Boxed.new w _ _) B1) B2) B3) B4) B5
  have x4 : BoxM wa (w.heap.size + 1) size (.slice A n c) := by
    have := ((((BoxM.new (w.alloc (.cells #[.pointer p] 26)) size (.slice A n c)).next B2).next B3).next B4).next B5
    simp only [World.size_alloc] at this; exact hwa ▸ this
  have x5 : BoxA wa (w.heap.size + 1 + 1) x := by
    have := (((BoxA.new ((w.alloc (.cells #[.pointer p] 26)).alloc (.cells #[.int .i64 size, .slice A n c] 31)) x).next B3).next B4).next B5
    simp only [World.size_alloc] at this; exact hwa ▸ this
  have x6 : Boxed wa (w.heap.size + 1 + 1 + 1) 26 (.pointer none) := by
    have := bx_next (bx_next (Boxed.new (((w.alloc (.cells #[.pointer p] 26)).alloc (.cells #[.int .i64 size, .slice A n c] 31)).alloc (.cells #[.bool x.swap, .int .i64 x.lo, .int .i64 x.hi, .int .i64 x.frm, .int .i64 x.to] 40)) 26 (.pointer none)) B4) B5
    simp only [World.size_alloc] at this; exact hwa ▸ this
  have x7 : BoxM wa (w.heap.size + 1 + 1 + 1 + 1) 0 (.slice none 0 0) := by
    have := (BoxM.new ((((w.alloc (.cells #[.pointer p] 26)).alloc (.cells #[.int .i64 size, .slice A n c] 31)).alloc (.cells #[.bool x.swap, .int .i64 x.lo, .int .i64 x.hi, .int .i64 x.frm, .int .i64 x.to] 40)).alloc (.cells #[.pointer none] 26)) 0 (.slice none 0 0)).next B5
    simp only [World.size_alloc] at this; exact hwa ▸ this
  have x11 : Boxed wa (w.heap.size + 1 + 1 + 1 + 1 + 1) 26 (.pointer p) := by
    have := Boxed.new (((((w.alloc (.cells #[.pointer p] 26)).alloc (.cells #[.int .i64 size, .slice A n c] 31)).alloc (.cells #[.bool x.swap, .int .i64 x.lo, .int .i64 x.hi, .int .i64 x.frm, .int .i64 x.to] 40)).alloc (.cells #[.pointer none] 26)).alloc (.cells #[.int .i64 0, .slice none 0 0] 31)) 26 (.pointer p)
    simp only [World.size_alloc] at this; exact hwa ▸ this
  have hBa : Below w.heap.size w wa := hwa ▸ Below.next (Below.next (Below.next (Below.next (Below.next (Below.alloc1 _ _) B1) B2) B3) B4) B5
  have HWA := Lib.hid hwa
  have HS := Lib.hid hs
  have HUP := Lib.hid hup
  have HRE := Lib.hid hre
  have HH := Lib.hid h
  have HA := Lib.hid hA
  clear hwa hs hup hre B1 B2 B3 B4 B5 e1 hN h hA
  go_enter Try.func32, Try.ntmps32
  go_upto_region 3 with (fail)
  rw [HWA.out]
  clear HWA
  have c3 := x3.cell
  obtain ⟨a0, a1, a2, a3, a4⟩ := x5.act
  simp only [Nat.zero_add] at a1 a2 a3 a4
  rw [HS.out] at a0
  go_wp2_with (fail)
  go_at_call 24
  refine (HUP.out _ hBa).mono ?_
  rintro e w1 ⟨p1, rfl, hp1, b1⟩
  have hB1 := Below.next hBa b1
  have y3 := bx_next x3 b1
  have y4 := x4.next b1
  have y5 := x5.next b1
  have y6 := bx_next x6 b1
  have y7 := x7.next b1
  have y11 := bx_next x11 b1
  have hsz1 := y11.lt
  clear b1 x3 x4 x5 x6 x7 x11 hBa c3 a0 a1 a2 a3 a4
  have c11 := y11.cell
  have f11 := y11.frozen
  go_upto_region 6 with (fail)
  have z3 : Boxed (w1.setCell ⟨w.heap.size + 1 + 1 + 1 + 1 + 1, 0, none⟩ (.pointer p1)) w.heap.size 26 (.pointer p) := boxed_far y3 (by omega)
  have z4 : BoxM (w1.setCell ⟨w.heap.size + 1 + 1 + 1 + 1 + 1, 0, none⟩ (.pointer p1)) (w.heap.size + 1) size (.slice A n c) := y4.far (by omega) _ _ _
  have z5 : BoxA (w1.setCell ⟨w.heap.size + 1 + 1 + 1 + 1 + 1, 0, none⟩ (.pointer p1)) (w.heap.size + 1 + 1) x := y5.far (by omega) _
  have z6 : Boxed (w1.setCell ⟨w.heap.size + 1 + 1 + 1 + 1 + 1, 0, none⟩ (.pointer p1)) (w.heap.size + 1 + 1 + 1) 26 (.pointer none) := boxed_far y6 (by omega)
  have z7 : BoxM (w1.setCell ⟨w.heap.size + 1 + 1 + 1 + 1 + 1, 0, none⟩ (.pointer p1)) (w.heap.size + 1 + 1 + 1 + 1) 0 (.slice none 0 0) := y7.far (by omega) _ _ _
  have z11 : Boxed (w1.setCell ⟨w.heap.size + 1 + 1 + 1 + 1 + 1, 0, none⟩ (.pointer p1)) (w.heap.size + 1 + 1 + 1 + 1 + 1) 26 (.pointer p1) := y11.set _
  have hB2 : Below w.heap.size w (w1.setCell ⟨w.heap.size + 1 + 1 + 1 + 1 + 1, 0, none⟩ (.pointer p1)) := hB1.setCell (p := ⟨w.heap.size + 1 + 1 + 1 + 1 + 1, 0, none⟩) (show w.heap.size ≤ w.heap.size + 1 + 1 + 1 + 1 + 1 by omega) _
  have hp2 : Rep (w1.setCell ⟨w.heap.size + 1 + 1 + 1 + 1 + 1, 0, none⟩ (.pointer p1)) p1 N := hp1.set_ ⟨_, _, _, y11, by decide⟩ _ _ _
  generalize w1.setCell ⟨w.heap.size + 1 + 1 + 1 + 1 + 1, 0, none⟩ (.pointer p1) = w2 at *
  clear y3 y4 y5 y6 y7 y11 hp1 hB1 c11 f11
  have c40 := z4.c0
  have c41 := z4.c1
  obtain ⟨a0, a1, a2, a3, a4⟩ := z5.act
  simp only [Nat.zero_add] at a1 a2 a3 a4
  rw [HS.out] at a0
  go_wp2_with (fail)
  go_at_call 65
  refine (HRE.out _ hB2).mono ?_
  rintro e w3 ⟨A1, c1, rfl, hR1, hc1, b3⟩
  have hB3 := Below.next hB2 b3
  have s3 := bx_next z3 b3
  have s4 := z4.next b3
  have s5 := z5.next b3
  have s6 := bx_next z6 b3
  have s7 := z7.next b3
  have s11 := bx_next z11 b3
  have hp3 := hp2.below b3
  have z7l := z7.lt
  clear b3 z3 z4 z5 z6 z7 z11 hp2 hB2 c40 c41 a0 a1 a2 a3 a4
  go_upto_region 7 with (fail)
  generalize hw4 : World.alloc w3 _ = w4
  have d4 : Below w3.heap.size w3 w4 := hw4 ▸ Below.alloc1 w3 _
  have x12 : BoxM w4 w3.heap.size (Tr.total N) (.slice A1 N.length c1) := hw4 ▸ BoxM.new w3 _ _
  have s11l := s11.lt
  have x3 := bx_next s3 d4
  have x4 := s4.next d4
  have x5 := s5.next d4
  have x6 := bx_next s6 d4
  have x7 := s7.next d4
  have x11 := bx_next s11 d4
  have hp4 := hp3.below d4
  have hR4 := hR1.next d4
  have hB4 := Below.next hB3 d4
  clear hw4 d4 s3 s4 s5 s6 s7 s11 hp3 hR1 hB3
  obtain ⟨a0, -, -, -, -⟩ := x5.act
  rw [HS.out] at a0
  have c3 := x3.cell
  have c40 := x4.c0
  have c41 := x4.c1
  have c11 := x11.cell
  have c120 := x12.c0
  have c121 := x12.c1
  have c6 := x6.cell
  have f6 := x6.frozen
  have c70 := x7.c0
  have c71 := x7.c1
  have f70 := x7.frozen 0
  have f71 := x7.frozen 1
  have x12l := x12.lt
  go_wp2_with (fail)
  go_region
  have v7 : BoxM (w4.setCell ⟨w.heap.size + 1 + 1 + 1, 0, none⟩ (.pointer p1)) (w.heap.size + 1 + 1 + 1 + 1) 0 (.slice none 0 0) := x7.far (by omega) _ _ _
  have v7' : BoxM ((w4.setCell ⟨w.heap.size + 1 + 1 + 1, 0, none⟩ (.pointer p1)).setCell ⟨w.heap.size + 1 + 1 + 1 + 1, 0, none⟩ (.int .i64 (Tr.total N))) (w.heap.size + 1 + 1 + 1 + 1) (Tr.total N) (.slice none 0 0) := boxM_set0 v7 _
  have q6 : Boxed (((w4.setCell ⟨w.heap.size + 1 + 1 + 1, 0, none⟩ (.pointer p1)).setCell ⟨w.heap.size + 1 + 1 + 1 + 1, 0, none⟩ (.int .i64 (Tr.total N))).setCell ⟨w.heap.size + 1 + 1 + 1 + 1, 1, none⟩ (.slice A1 N.length c1)).drew (w.heap.size + 1 + 1 + 1) 26 (.pointer p1) := boxed_far (boxed_far (x6.set (.pointer p1)) (by omega)) (by omega)
  have q7 : BoxM (((w4.setCell ⟨w.heap.size + 1 + 1 + 1, 0, none⟩ (.pointer p1)).setCell ⟨w.heap.size + 1 + 1 + 1 + 1, 0, none⟩ (.int .i64 (Tr.total N))).setCell ⟨w.heap.size + 1 + 1 + 1 + 1, 1, none⟩ (.slice A1 N.length c1)).drew (w.heap.size + 1 + 1 + 1 + 1) (Tr.total N) (.slice A1 N.length c1) := boxM_set v7 _ _
  have P1 : Rep (w4.setCell ⟨w.heap.size + 1 + 1 + 1, 0, none⟩ (.pointer p1)) p1 N := hp4.set_ ⟨_, _, _, x6, by decide⟩ _ _ _
  have P2 : Rep ((w4.setCell ⟨w.heap.size + 1 + 1 + 1, 0, none⟩ (.pointer p1)).setCell ⟨w.heap.size + 1 + 1 + 1 + 1, 0, none⟩ (.int .i64 (Tr.total N))) p1 N := P1.set_ ⟨_, _, _, v7, by decide⟩ _ _ _
  have P3 : Rep (((w4.setCell ⟨w.heap.size + 1 + 1 + 1, 0, none⟩ (.pointer p1)).setCell ⟨w.heap.size + 1 + 1 + 1 + 1, 0, none⟩ (.int .i64 (Tr.total N))).setCell ⟨w.heap.size + 1 + 1 + 1 + 1, 1, none⟩ (.slice A1 N.length c1)) p1 N := P2.set_ ⟨_, _, _, v7', by decide⟩ _ _ _
  have R3 : OwnRuns (((w4.setCell ⟨w.heap.size + 1 + 1 + 1, 0, none⟩ (.pointer p1)).setCell ⟨w.heap.size + 1 + 1 + 1 + 1, 0, none⟩ (.int .i64 (Tr.total N))).setCell ⟨w.heap.size + 1 + 1 + 1 + 1, 1, none⟩ (.slice A1 N.length c1)) w2.heap.size (.slice A1 N.length c1) (lay 0 N) := ((hR4.set (p := ⟨w.heap.size + 1 + 1 + 1, 0, none⟩) (show w.heap.size + 1 + 1 + 1 < w2.heap.size by omega) _).set (p := ⟨w.heap.size + 1 + 1 + 1 + 1, 0, none⟩) (show w.heap.size + 1 + 1 + 1 + 1 < w2.heap.size by omega) _).set (p := ⟨w.heap.size + 1 + 1 + 1 + 1, 1, none⟩) (show w.heap.size + 1 + 1 + 1 + 1 < w2.heap.size by omega) _
  have B3 : Below w.heap.size w (((w4.setCell ⟨w.heap.size + 1 + 1 + 1, 0, none⟩ (.pointer p1)).setCell ⟨w.heap.size + 1 + 1 + 1 + 1, 0, none⟩ (.int .i64 (Tr.total N))).setCell ⟨w.heap.size + 1 + 1 + 1 + 1, 1, none⟩ (.slice A1 N.length c1)) := ((hB4.setCell (p := ⟨w.heap.size + 1 + 1 + 1, 0, none⟩) (show w.heap.size ≤ w.heap.size + 1 + 1 + 1 by omega) _).setCell (p := ⟨w.heap.size + 1 + 1 + 1 + 1, 0, none⟩) (show w.heap.size ≤ w.heap.size + 1 + 1 + 1 + 1 by omega) _).setCell (p := ⟨w.heap.size + 1 + 1 + 1 + 1, 1, none⟩) (show w.heap.size ≤ w.heap.size + 1 + 1 + 1 + 1 by omega) _
  have Dd : Below (((w4.setCell ⟨w.heap.size + 1 + 1 + 1, 0, none⟩ (.pointer p1)).setCell ⟨w.heap.size + 1 + 1 + 1 + 1, 0, none⟩ (.int .i64 (Tr.total N))).setCell ⟨w.heap.size + 1 + 1 + 1 + 1, 1, none⟩ (.slice A1 N.length c1)).heap.size (((w4.setCell ⟨w.heap.size + 1 + 1 + 1, 0, none⟩ (.pointer p1)).setCell ⟨w.heap.size + 1 + 1 + 1 + 1, 0, none⟩ (.int .i64 (Tr.total N))).setCell ⟨w.heap.size + 1 + 1 + 1 + 1, 1, none⟩ (.slice A1 N.length c1)) (((w4.setCell ⟨w.heap.size + 1 + 1 + 1, 0, none⟩ (.pointer p1)).setCell ⟨w.heap.size + 1 + 1 + 1 + 1, 0, none⟩ (.int .i64 (Tr.total N))).setCell ⟨w.heap.size + 1 + 1 + 1 + 1, 1, none⟩ (.slice A1 N.length c1)).drew := Quiet.below ⟨1, rfl⟩ _
  have P4 := P3.below Dd
  have R4 := R3.next Dd
  have B4 := Below.next B3 Dd
  generalize (((w4.setCell ⟨w.heap.size + 1 + 1 + 1, 0, none⟩ (.pointer p1)).setCell ⟨w.heap.size + 1 + 1 + 1 + 1, 0, none⟩ (.int .i64 (Tr.total N))).setCell ⟨w.heap.size + 1 + 1 + 1 + 1, 1, none⟩ (.slice A1 N.length c1)).drew = wf at *
  go_wp2_with (fail)
  exact bodyPost_ret (v := .tuple #[.agg #[.pointer p1], .agg #[.int .i64 (Tr.total N), .slice A1 N.length c1], .bool true]) (by simp [results, Try.results32, go_sem, q6.cell, q7.c0, q7.c1]) rfl ⟨p1, A1, c1, rfl, P4, R4.runsT, hc1, B4⟩
set_option maxRecDepth 100000 in
set_option maxHeartbeats 4000000 in
theorem do_set_ok (w : World) (p : Option Addr) (A : Option Addr) (n c : Nat) (x : Ac) (L : List (Int × Int)) (size : Int) (hL : L = [] ∨ Good L) (h : Rep w p L) (hA : RunsT w A (lay 0 L)) (hn : L.length = n) (hnc : n ≤ c) (hsz : Tr.total L = size)
    (hs : x.swap = false) (N : List (Int × Int)) (hN : actR L x = (0, N)) :
    Calls Try.prog 32 #[.agg #[.pointer p], .agg #[.int .i64 size, .slice A n c], .agg #[.bool x.swap, .int .i64 x.lo, .int .i64 x.hi, .int .i64 x.frm, .int .i64 x.to]] w (DoPost w N) := by
  have hup : ∀ W, Below w.heap.size w W → Calls Try.prog 25 #[.agg #[.pointer p], .int .i64 x.lo, .int .i64 x.hi, .int .i64 x.to] W fun e w' => ∃ p, e = .returned (.tuple #[.agg #[.pointer p], .int .i64 0]) ∧ Rep w' p N ∧ Below W.heap.size W w' := fun W hW => by
    have := set_any W p L x.lo x.hi x.to (h.below hW)
    unfold actR at hN
    rw [if_neg (by rw [hs]; simp)] at hN
    unfold SetPost at this
    rw [hN] at this
    exact this
  have hre : ∀ W, Below w.heap.size w W → Calls Try.prog 65 #[.agg #[.int .i64 size, .slice A n c], .int .i64 x.lo, .int .i64 x.hi, .int .i64 x.frm, .int .i64 x.to, .bool true] W fun e w' => ∃ A' c' k, e = .returned (.tuple #[.agg #[.int .i64 (Tr.total N), .slice A' N.length c'], .int .i64 k, .int .i64 0]) ∧ OwnRuns w' W.heap.size (.slice A' N.length c') (lay 0 N) ∧ N.length ≤ c' ∧ Below W.heap.size W w' := fun W hW => by
    have := rset_any W L size A n c x.lo x.hi x.frm x.to hL (hA.1.below hW) hn hnc hsz
    unfold actR at hN
    rw [if_neg (by rw [hs]; simp)] at hN
    rw [hN] at this
    refine this.mono fun e w' ⟨A', c', k, h1, _, h3, h4, h5⟩ => ?_
    exact ⟨A', c', k, h1, h3, h4, h5⟩
  obtain ⟨wa, hwa⟩ : ∃ wa, (((((w.alloc (.cells #[.pointer p] 26)).alloc (.cells #[.int .i64 size, .slice A n c] 31)).alloc (.cells #[.bool x.swap, .int .i64 x.lo, .int .i64 x.hi, .int .i64 x.frm, .int .i64 x.to] 40)).alloc (.cells #[.pointer none] 26)).alloc (.cells #[.int .i64 0, .slice none 0 0] 31)).alloc (.cells #[.pointer p] 26) = wa := ⟨_, rfl⟩
  have e1 : (w.alloc (.cells #[.pointer p] 26)).heap.size = w.heap.size + 1 := World.size_alloc _ _
  have B5 := Below.alloc1 (((((w.alloc (.cells #[.pointer p] 26)).alloc (.cells #[.int .i64 size, .slice A n c] 31)).alloc (.cells #[.bool x.swap, .int .i64 x.lo, .int .i64 x.hi, .int .i64 x.frm, .int .i64 x.to] 40)).alloc (.cells #[.pointer none] 26)).alloc (.cells #[.int .i64 0, .slice none 0 0] 31)) (.cells #[.pointer p] 26)
  have B4 := Below.alloc1 ((((w.alloc (.cells #[.pointer p] 26)).alloc (.cells #[.int .i64 size, .slice A n c] 31)).alloc (.cells #[.bool x.swap, .int .i64 x.lo, .int .i64 x.hi, .int .i64 x.frm, .int .i64 x.to] 40)).alloc (.cells #[.pointer none] 26)) (.cells #[.int .i64 0, .slice none 0 0] 31)
  have B3 := Below.alloc1 (((w.alloc (.cells #[.pointer p] 26)).alloc (.cells #[.int .i64 size, .slice A n c] 31)).alloc (.cells #[.bool x.swap, .int .i64 x.lo, .int .i64 x.hi, .int .i64 x.frm, .int .i64 x.to] 40)) (.cells #[.pointer none] 26)
  have B2 := Below.alloc1 ((w.alloc (.cells #[.pointer p] 26)).alloc (.cells #[.int .i64 size, .slice A n c] 31)) (.cells #[.bool x.swap, .int .i64 x.lo, .int .i64 x.hi, .int .i64 x.frm, .int .i64 x.to] 40)
  have B1 := Below.alloc1 (w.alloc (.cells #[.pointer p] 26)) (.cells #[.int .i64 size, .slice A n c] 31)
  have x3 : Boxed wa w.heap.size 26 (.pointer p) := hwa ▸ bx_next (bx_next (bx_next (bx_next (bx_next (Boxed.new w _ _) B1) B2) B3) B4) B5
  have x4 : BoxM wa (w.heap.size + 1) size (.slice A n c) := by
    have := ((((BoxM.new (w.alloc (.cells #[.pointer p] 26)) size (.slice A n c)).next B2).next B3).next B4).next B5
    simp only [World.size_alloc] at this; exact hwa ▸ this
  have x5 : BoxA wa (w.heap.size + 1 + 1) x := by
    have := (((BoxA.new ((w.alloc (.cells #[.pointer p] 26)).alloc (.cells #[.int .i64 size, .slice A n c] 31)) x).next B3).next B4).next B5
    simp only [World.size_alloc] at this; exact hwa ▸ this
  have x6 : Boxed wa (w.heap.size + 1 + 1 + 1) 26 (.pointer none) := by
    have := bx_next (bx_next (Boxed.new (((w.alloc (.cells #[.pointer p] 26)).alloc (.cells #[.int .i64 size, .slice A n c] 31)).alloc (.cells #[.bool x.swap, .int .i64 x.lo, .int .i64 x.hi, .int .i64 x.frm, .int .i64 x.to] 40)) 26 (.pointer none)) B4) B5
    simp only [World.size_alloc] at this; exact hwa ▸ this
  have x7 : BoxM wa (w.heap.size + 1 + 1 + 1 + 1) 0 (.slice none 0 0) := by
    have := (BoxM.new ((((w.alloc (.cells #[.pointer p] 26)).alloc (.cells #[.int .i64 size, .slice A n c] 31)).alloc (.cells #[.bool x.swap, .int .i64 x.lo, .int .i64 x.hi, .int .i64 x.frm, .int .i64 x.to] 40)).alloc (.cells #[.pointer none] 26)) 0 (.slice none 0 0)).next B5
    simp only [World.size_alloc] at this; exact hwa ▸ this
  have x11 : Boxed wa (w.heap.size + 1 + 1 + 1 + 1 + 1) 26 (.pointer p) := by
    have := Boxed.new (((((w.alloc (.cells #[.pointer p] 26)).alloc (.cells #[.int .i64 size, .slice A n c] 31)).alloc (.cells #[.bool x.swap, .int .i64 x.lo, .int .i64 x.hi, .int .i64 x.frm, .int .i64 x.to] 40)).alloc (.cells #[.pointer none] 26)).alloc (.cells #[.int .i64 0, .slice none 0 0] 31)) 26 (.pointer p)
    simp only [World.size_alloc] at this; exact hwa ▸ this
  have hBa : Below w.heap.size w wa := hwa ▸ Below.next (Below.next (Below.next (Below.next (Below.next (Below.alloc1 _ _) B1) B2) B3) B4) B5
  have HWA := Lib.hid hwa
  have HS := Lib.hid hs
  have HUP := Lib.hid hup
  have HRE := Lib.hid hre
  have HH := Lib.hid h
  have HA := Lib.hid hA
  clear hwa hs hup hre B1 B2 B3 B4 B5 e1 hN h hA
  go_enter Try.func32, Try.ntmps32
  go_upto_region 3 with (fail)
  rw [HWA.out]
  clear HWA
  have c3 := x3.cell
  obtain ⟨a0, a1, a2, a3, a4⟩ := x5.act
  simp only [Nat.zero_add] at a1 a2 a3 a4
  rw [HS.out] at a0
  go_wp2_with (fail)
  go_at_call 25
  refine (HUP.out _ hBa).mono ?_
  rintro e w1 ⟨p1, rfl, hp1, b1⟩
  have hB1 := Below.next hBa b1
  have y3 := bx_next x3 b1
  have y4 := x4.next b1
  have y5 := x5.next b1
  have y6 := bx_next x6 b1
  have y7 := x7.next b1
  have y11 := bx_next x11 b1
  have hsz1 := y11.lt
  clear b1 x3 x4 x5 x6 x7 x11 hBa c3 a0 a1 a2 a3 a4
  have c11 := y11.cell
  have f11 := y11.frozen
  go_upto_region 6 with (fail)
  have z3 : Boxed (w1.setCell ⟨w.heap.size + 1 + 1 + 1 + 1 + 1, 0, none⟩ (.pointer p1)) w.heap.size 26 (.pointer p) := boxed_far y3 (by omega)
  have z4 : BoxM (w1.setCell ⟨w.heap.size + 1 + 1 + 1 + 1 + 1, 0, none⟩ (.pointer p1)) (w.heap.size + 1) size (.slice A n c) := y4.far (by omega) _ _ _
  have z5 : BoxA (w1.setCell ⟨w.heap.size + 1 + 1 + 1 + 1 + 1, 0, none⟩ (.pointer p1)) (w.heap.size + 1 + 1) x := y5.far (by omega) _
  have z6 : Boxed (w1.setCell ⟨w.heap.size + 1 + 1 + 1 + 1 + 1, 0, none⟩ (.pointer p1)) (w.heap.size + 1 + 1 + 1) 26 (.pointer none) := boxed_far y6 (by omega)
  have z7 : BoxM (w1.setCell ⟨w.heap.size + 1 + 1 + 1 + 1 + 1, 0, none⟩ (.pointer p1)) (w.heap.size + 1 + 1 + 1 + 1) 0 (.slice none 0 0) := y7.far (by omega) _ _ _
  have z11 : Boxed (w1.setCell ⟨w.heap.size + 1 + 1 + 1 + 1 + 1, 0, none⟩ (.pointer p1)) (w.heap.size + 1 + 1 + 1 + 1 + 1) 26 (.pointer p1) := y11.set _
  have hB2 : Below w.heap.size w (w1.setCell ⟨w.heap.size + 1 + 1 + 1 + 1 + 1, 0, none⟩ (.pointer p1)) := hB1.setCell (p := ⟨w.heap.size + 1 + 1 + 1 + 1 + 1, 0, none⟩) (show w.heap.size ≤ w.heap.size + 1 + 1 + 1 + 1 + 1 by omega) _
  have hp2 : Rep (w1.setCell ⟨w.heap.size + 1 + 1 + 1 + 1 + 1, 0, none⟩ (.pointer p1)) p1 N := hp1.set_ ⟨_, _, _, y11, by decide⟩ _ _ _
  generalize w1.setCell ⟨w.heap.size + 1 + 1 + 1 + 1 + 1, 0, none⟩ (.pointer p1) = w2 at *
  clear y3 y4 y5 y6 y7 y11 hp1 hB1 c11 f11
  have c40 := z4.c0
  have c41 := z4.c1
  obtain ⟨a0, a1, a2, a3, a4⟩ := z5.act
  simp only [Nat.zero_add] at a1 a2 a3 a4
  rw [HS.out] at a0
  go_wp2_with (fail)
  go_at_call 65
  refine (HRE.out _ hB2).mono ?_
  rintro e w3 ⟨A1, c1, k, rfl, hR1, hc1, b3⟩
  have hB3 := Below.next hB2 b3
  have s3 := bx_next z3 b3
  have s4 := z4.next b3
  have s5 := z5.next b3
  have s6 := bx_next z6 b3
  have s7 := z7.next b3
  have s11 := bx_next z11 b3
  have hp3 := hp2.below b3
  have z7l := z7.lt
  clear b3 z3 z4 z5 z6 z7 z11 hp2 hB2 c40 c41 a0 a1 a2 a3 a4
  go_upto_region 7 with (fail)
  generalize hw4 : World.alloc w3 _ = w4
  have d4 : Below w3.heap.size w3 w4 := hw4 ▸ Below.alloc1 w3 _
  have x12 : BoxM w4 w3.heap.size (Tr.total N) (.slice A1 N.length c1) := hw4 ▸ BoxM.new w3 _ _
  have s11l := s11.lt
  have x3 := bx_next s3 d4
  have x4 := s4.next d4
  have x5 := s5.next d4
  have x6 := bx_next s6 d4
  have x7 := s7.next d4
  have x11 := bx_next s11 d4
  have hp4 := hp3.below d4
  have hR4 := hR1.next d4
  have hB4 := Below.next hB3 d4
  clear hw4 d4 s3 s4 s5 s6 s7 s11 hp3 hR1 hB3
  obtain ⟨a0, -, -, -, -⟩ := x5.act
  rw [HS.out] at a0
  have c3 := x3.cell
  have c40 := x4.c0
  have c41 := x4.c1
  have c11 := x11.cell
  have c120 := x12.c0
  have c121 := x12.c1
  have c6 := x6.cell
  have f6 := x6.frozen
  have c70 := x7.c0
  have c71 := x7.c1
  have f70 := x7.frozen 0
  have f71 := x7.frozen 1
  have x12l := x12.lt
  go_wp2_with (fail)
  go_region
  have v7 : BoxM (w4.setCell ⟨w.heap.size + 1 + 1 + 1, 0, none⟩ (.pointer p1)) (w.heap.size + 1 + 1 + 1 + 1) 0 (.slice none 0 0) := x7.far (by omega) _ _ _
  have v7' : BoxM ((w4.setCell ⟨w.heap.size + 1 + 1 + 1, 0, none⟩ (.pointer p1)).setCell ⟨w.heap.size + 1 + 1 + 1 + 1, 0, none⟩ (.int .i64 (Tr.total N))) (w.heap.size + 1 + 1 + 1 + 1) (Tr.total N) (.slice none 0 0) := boxM_set0 v7 _
  have q6 : Boxed (((w4.setCell ⟨w.heap.size + 1 + 1 + 1, 0, none⟩ (.pointer p1)).setCell ⟨w.heap.size + 1 + 1 + 1 + 1, 0, none⟩ (.int .i64 (Tr.total N))).setCell ⟨w.heap.size + 1 + 1 + 1 + 1, 1, none⟩ (.slice A1 N.length c1)).drew (w.heap.size + 1 + 1 + 1) 26 (.pointer p1) := boxed_far (boxed_far (x6.set (.pointer p1)) (by omega)) (by omega)
  have q7 : BoxM (((w4.setCell ⟨w.heap.size + 1 + 1 + 1, 0, none⟩ (.pointer p1)).setCell ⟨w.heap.size + 1 + 1 + 1 + 1, 0, none⟩ (.int .i64 (Tr.total N))).setCell ⟨w.heap.size + 1 + 1 + 1 + 1, 1, none⟩ (.slice A1 N.length c1)).drew (w.heap.size + 1 + 1 + 1 + 1) (Tr.total N) (.slice A1 N.length c1) := boxM_set v7 _ _
  have P1 : Rep (w4.setCell ⟨w.heap.size + 1 + 1 + 1, 0, none⟩ (.pointer p1)) p1 N := hp4.set_ ⟨_, _, _, x6, by decide⟩ _ _ _
  have P2 : Rep ((w4.setCell ⟨w.heap.size + 1 + 1 + 1, 0, none⟩ (.pointer p1)).setCell ⟨w.heap.size + 1 + 1 + 1 + 1, 0, none⟩ (.int .i64 (Tr.total N))) p1 N := P1.set_ ⟨_, _, _, v7, by decide⟩ _ _ _
  have P3 : Rep (((w4.setCell ⟨w.heap.size + 1 + 1 + 1, 0, none⟩ (.pointer p1)).setCell ⟨w.heap.size + 1 + 1 + 1 + 1, 0, none⟩ (.int .i64 (Tr.total N))).setCell ⟨w.heap.size + 1 + 1 + 1 + 1, 1, none⟩ (.slice A1 N.length c1)) p1 N := P2.set_ ⟨_, _, _, v7', by decide⟩ _ _ _
  have R3 : OwnRuns (((w4.setCell ⟨w.heap.size + 1 + 1 + 1, 0, none⟩ (.pointer p1)).setCell ⟨w.heap.size + 1 + 1 + 1 + 1, 0, none⟩ (.int .i64 (Tr.total N))).setCell ⟨w.heap.size + 1 + 1 + 1 + 1, 1, none⟩ (.slice A1 N.length c1)) w2.heap.size (.slice A1 N.length c1) (lay 0 N) := ((hR4.set (p := ⟨w.heap.size + 1 + 1 + 1, 0, none⟩) (show w.heap.size + 1 + 1 + 1 < w2.heap.size by omega) _).set (p := ⟨w.heap.size + 1 + 1 + 1 + 1, 0, none⟩) (show w.heap.size + 1 + 1 + 1 + 1 < w2.heap.size by omega) _).set (p := ⟨w.heap.size + 1 + 1 + 1 + 1, 1, none⟩) (show w.heap.size + 1 + 1 + 1 + 1 < w2.heap.size by omega) _
  have B3 : Below w.heap.size w (((w4.setCell ⟨w.heap.size + 1 + 1 + 1, 0, none⟩ (.pointer p1)).setCell ⟨w.heap.size + 1 + 1 + 1 + 1, 0, none⟩ (.int .i64 (Tr.total N))).setCell ⟨w.heap.size + 1 + 1 + 1 + 1, 1, none⟩ (.slice A1 N.length c1)) := ((hB4.setCell (p := ⟨w.heap.size + 1 + 1 + 1, 0, none⟩) (show w.heap.size ≤ w.heap.size + 1 + 1 + 1 by omega) _).setCell (p := ⟨w.heap.size + 1 + 1 + 1 + 1, 0, none⟩) (show w.heap.size ≤ w.heap.size + 1 + 1 + 1 + 1 by omega) _).setCell (p := ⟨w.heap.size + 1 + 1 + 1 + 1, 1, none⟩) (show w.heap.size ≤ w.heap.size + 1 + 1 + 1 + 1 by omega) _
  have Dd : Below (((w4.setCell ⟨w.heap.size + 1 + 1 + 1, 0, none⟩ (.pointer p1)).setCell ⟨w.heap.size + 1 + 1 + 1 + 1, 0, none⟩ (.int .i64 (Tr.total N))).setCell ⟨w.heap.size + 1 + 1 + 1 + 1, 1, none⟩ (.slice A1 N.length c1)).heap.size (((w4.setCell ⟨w.heap.size + 1 + 1 + 1, 0, none⟩ (.pointer p1)).setCell ⟨w.heap.size + 1 + 1 + 1 + 1, 0, none⟩ (.int .i64 (Tr.total N))).setCell ⟨w.heap.size + 1 + 1 + 1 + 1, 1, none⟩ (.slice A1 N.length c1)) (((w4.setCell ⟨w.heap.size + 1 + 1 + 1, 0, none⟩ (.pointer p1)).setCell ⟨w.heap.size + 1 + 1 + 1 + 1, 0, none⟩ (.int .i64 (Tr.total N))).setCell ⟨w.heap.size + 1 + 1 + 1 + 1, 1, none⟩ (.slice A1 N.length c1)).drew := Quiet.below ⟨1, rfl⟩ _
  have P4 := P3.below Dd
  have R4 := R3.next Dd
  have B4 := Below.next B3 Dd
  generalize (((w4.setCell ⟨w.heap.size + 1 + 1 + 1, 0, none⟩ (.pointer p1)).setCell ⟨w.heap.size + 1 + 1 + 1 + 1, 0, none⟩ (.int .i64 (Tr.total N))).setCell ⟨w.heap.size + 1 + 1 + 1 + 1, 1, none⟩ (.slice A1 N.length c1)).drew = wf at *
  go_wp2_with (fail)
  exact bodyPost_ret (v := .tuple #[.agg #[.pointer p1], .agg #[.int .i64 (Tr.total N), .slice A1 N.length c1], .bool true]) (by simp [results, Try.results32, go_sem, q6.cell, q7.c0, q7.c1]) rfl ⟨p1, A1, c1, rfl, P4, R4.runsT, hc1, B4⟩
end Go.Proofs.Ytfmplibjhohpgaa
