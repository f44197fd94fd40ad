/- The walk over Get of package span. -/
import Derived.Test.YtfmplibjhohpgaaSpSwapL
namespace Go.Proofs.Ytfmplibjhohpgaa
open Go.RowKit Go.Shelf
attribute [local go_sem] Oper.semAt_some

theorem ownFrom_boxed {β : Type} (B b : Nat) (t : TypeId) (v : Value) : OwnFrom B (fun (_ : β) W => Boxed W b t v) := by
  intro s A C row hv hg hr
  refine hv.kept hg fun e => ?_
  obtain ⟨_, o, ho, hc⟩ := hr b e.symm
  rw [show A.heap[b]? = _ from hv] at ho; cases ho; cases hc
set_option maxRecDepth 100000 in
set_option maxHeartbeats 400000 in
theorem get_nil (w : World) (at_ : Int) : Calls Try.prog 23 #[.agg #[.pointer none], .int .i64 at_] w fun e w' => e = .returned (.tuple #[.int .i64 0, .int .i64 1]) ∧ Below w.heap.size w w' := by
  go_enter Try.func23, Try.ntmps23
  go_wp2_with (fail)
  refine bodyPost_ret (v := .tuple #[.int .i64 0, .int .i64 1]) (by simp [results, Try.results23, go_sem]) rfl ⟨rfl, Below.next (Below.alloc2 w _ _) (Below.alloc1 _ _)⟩
set_option maxRecDepth 100000 in
set_option maxHeartbeats 2000000 in
theorem get_yes (w : World) (a : Addr) (L : List (Int × Int)) (at_ : Int) (h : Rep w (some a) L) (h0 : 0 ≤ at_) (h1 : at_ < Tr.total L) (h2 : Tr.total L ≤ 1099511627776) (T : Tr) (hT : Tree w (some a) T) (oT : T.Ok) (hp : T.pcs ≤ 1099511627776) (x0 : Rn) (vl : List Rn) (hv : Hid (vis at_ (at_ + 1) T 0 = x0 :: vl)) :
    Calls Try.prog 23 #[.agg #[.pointer (some a)], .int .i64 at_] w fun e w' => e = .returned (.tuple #[.int .i64 x0.tag, .int .i64 0]) ∧ Below w.heap.size w w' := by
  have i1 : IntKind.i64.wrap (at_ + 1) = at_ + 1 := IntWalk.i64_in _ (by omega)
  have hB0 : Below w.heap.size w (((w.alloc (.cells #[.pointer (some a)] 26)).alloc (.cells #[.int .i64 0] 3)).alloc (.cells #[.int .i64 0] 27)) := Below.next (Below.alloc2 w _ _) (Below.alloc1 _ _)
  have hr := size_any _ (some a) L (h.below hB0)
  have HR := Lib.hid hr
  clear hr
  refine (callsIn_wide (n := 3)).1 ?_
  refine callsIn_of_wp_marks Try.func23 rfl trivial ?_ rfl
  simp only [Try.ntmps23, List.size_toArray, List.length_cons, List.length_nil, Nat.reduceAdd, Nat.reduceSub, Array.replicate_succ, Array.replicate_zero, List.push_toArray, List.append_toArray, List.nil_append, List.cons_append]
  gi_wp2_with (fail)
  refine ⟨trivial, ?_⟩
  refine (callsIn_wide.2 HR.out).mono ?_
  clear HR
  rintro e w1 ⟨rfl, hb1⟩
  have hB1 : Below w.heap.size w w1 := Below.next hB0 hb1
  have b2 := ((((BoxT.new w (.pointer (some a)) 26 (by decide)).alloc (.cells #[.int .i64 0] 3)).alloc (.cells #[.int .i64 0] 27)).next hb1)
  have v4 : Boxed w1 (w.heap.size + 1) 3 (.int .i64 0) := by
    have := ((Boxed.new (w.alloc (.cells #[.pointer (some a)] 26)) 3 (.int .i64 0)).alloc (.cells #[.int .i64 0] 27)).kept (Below.grownBy hb1) (by simp)
    rwa [World.size_alloc] at this
  have v5 : Boxed w1 (w.heap.size + 1 + 1) 27 (.int .i64 0) := by
    have := (Boxed.new ((w.alloc (.cells #[.pointer (some a)] 26)).alloc (.cells #[.int .i64 0] 3)) 27 (.int .i64 0)).kept (Below.grownBy hb1) (by simp)
    rwa [World.size_alloc, World.size_alloc] at this
  have hT1 := hT.below hB1
  have c1 := b2.cell
  have z1 := b2.lt
  have z4 := v4.lt
  have z5 := v5.lt
  have hge : ¬ Tr.total L ≤ at_ := by omega
  gi_wp2_with (fail)
  refine ⟨trivial, ?_⟩
  refine (within_any 2 (some a) at_ (at_ + 1) _).mono ?_
  rintro e w' ⟨rfl, rfl⟩
  gi_wp2_with (fail)
  obtain ⟨W0, hW0⟩ : ∃ W0, ((w1.alloc (.cells #[.pointer (some a)] 24)).alloc (.cells #[.int .i64 at_] 3)).alloc (.cells #[.int .i64 (at_ + 1)] 3) = W0 := ⟨_, rfl⟩
  rw [hW0]
  have s0 : W0.heap.size = w1.heap.size + 1 + 1 + 1 := by rw [← hW0]; simp
  have hBw : Below w1.heap.size w1 W0 := by
    rw [← hW0]; exact (((Below.refl _ _).alloc (Nat.le_refl _) _).alloc (by simp) _).alloc (by simp; omega) _
  have k0 : W0.cell? ⟨w1.heap.size, 0, none⟩ = some (.pointer (some a)) := by rw [← hW0]; exact (((Boxed.new w1 24 (.pointer (some a))).alloc (.cells #[.int .i64 at_] 3)).alloc (.cells #[.int .i64 (at_ + 1)] 3)).cell
  have k1 : W0.cell? ⟨w1.heap.size + 1, 0, none⟩ = some (.int .i64 at_) := by rw [← hW0]; have := ((Boxed.new (w1.alloc (.cells #[.pointer (some a)] 24)) 3 (.int .i64 at_)).alloc (.cells #[.int .i64 (at_ + 1)] 3)).cell; rw [World.size_alloc] at this; exact this
  have k2 : W0.cell? ⟨w1.heap.size + 1 + 1, 0, none⟩ = some (.int .i64 (at_ + 1)) := by rw [← hW0]; have := (Boxed.new ((w1.alloc (.cells #[.pointer (some a)] 24)).alloc (.cells #[.int .i64 at_] 3)) 3 (.int .i64 (at_ + 1))).cell; rw [World.size_alloc, World.size_alloc] at this; exact this
  have u4 : Boxed W0 (w.heap.size + 1) 3 (.int .i64 0) := v4.kept (Below.grownBy hBw) (by simp)
  have u5 : Boxed W0 (w.heap.size + 1 + 1) 27 (.int .i64 0) := v5.kept (Below.grownBy hBw) (by simp)
  have hBW : Below w.heap.size w W0 := Below.next hB1 hBw
  clear hW0
  have hIo : OwnFrom W0.heap.size (fun (pre : List Rn) W => (pre = [] ∧ Boxed W (w.heap.size + 1) 3 (.int .i64 0)) ∧ (Boxed W (w.heap.size + 1 + 1) 27 (.int .i64 0) ∧ Below w.heap.size w W)) :=
    OwnFrom.and (OwnFrom.and (ownFrom_pure _ (fun pre => pre = [])) (ownFrom_boxed _ _ _ _)) (OwnFrom.and (ownFrom_boxed _ _ _ _) (ownFrom_below (Nat.le_refl _) (by omega)))
  have hXo : ∀ x : Rn, OwnFrom W0.heap.size (fun (_ : List Rn) W => Boxed W (w.heap.size + 1) 3 (.int .i64 x.tag) ∧ (Boxed W (w.heap.size + 1 + 1) 27 (.int .i64 0) ∧ Below w.heap.size w W)) := fun x =>
    OwnFrom.and (ownFrom_boxed _ _ _ _) (OwnFrom.and (ownFrom_boxed _ _ _ _) (ownFrom_below (Nat.le_refl _) (by omega)))
  refine wpIn_rangeFunc_ownH (F := Fence.wide) rfl (by omega) (gf := 79) (lb := #[.pointer (some ⟨w1.heap.size, 0, none⟩), .pointer (some ⟨w1.heap.size + 1, 0, none⟩), .pointer (some ⟨w1.heap.size + 1 + 1, 0, none⟩)]) rfl trivial (enters_of Try.func79 (by kernel_rfl) rfl)
    (within_stops (3 - 1) w.heap.size (w1.heap.size) (w1.heap.size + 1) (w1.heap.size + 1 + 1) at_ (at_ + 1) (some a) T W0 k0 k1 k2 (by omega) (by omega) (by omega) (by omega) (IsTree.below hBW hT) oT hp) belowK_t (belowK_b (by omega)) (Below.refl _ _) (fun _ => rfl)
    (fun (pre : List Rn) W => (pre = [] ∧ Boxed W (w.heap.size + 1) 3 (.int .i64 0)) ∧ (Boxed W (w.heap.size + 1 + 1) 27 (.int .i64 0) ∧ Below w.heap.size w W))
    (fun c pre' W => c = Code.ret ∧ ∃ x : Rn, pre' = [x] ∧ (Boxed W (w.heap.size + 1) 3 (.int .i64 x.tag) ∧ (Boxed W (w.heap.size + 1 + 1) 27 (.int .i64 0) ∧ Below w.heap.size w W)))
    hIo (fun c s A B row ⟨h1, x, h2, h3⟩ hg hr => ⟨h1, x, h2, hXo x [] A B row h3 hg hr⟩)
    ⟨⟨rfl, u4⟩, u5, hBW⟩
    (fun x a' W => ∃ Bx, BoxR W Bx x ∧ a' = { tmps := #[Value.agg #[Value.pointer (some a)], Value.int IntKind.i64 at_, Value.pointer (some { block := w.heap.size, off := 0 }), undef, Value.pointer (some { block := w.heap.size + 1, off := 0 }), Value.pointer (some { block := w.heap.size + 1 + 1, off := 0 }),
          Value.pointer (some { block := Bx, off := 0 }), Value.bool false, Value.pointer (some { block := w.heap.size, off := 0 }), Value.pointer (some a), Value.bool false, Value.bool (decide (at_ < 0) || decide (Tr.total L ≤ at_)), Value.int IntKind.i64 at_, Value.bool (decide (at_ < 0)), Value.bool (decide (at_ < 0)), Value.int IntKind.i64 at_,
          Value.agg #[Value.pointer (some a)], Value.int IntKind.i64 (Tr.total L), Value.bool (decide (Tr.total L ≤ at_)), Value.bool (decide (at_ < 0) || decide (Tr.total L ≤ at_)), Value.pointer (some { block := w.heap.size, off := 0 }), Value.pointer (some a), Value.int IntKind.i64 at_, Value.int IntKind.i64 at_, Value.int IntKind.i64 (at_ + 1),
          Value.func (Fn.func 79) #[] #[Value.pointer (some { block := w1.heap.size, off := 0 }), Value.pointer (some { block := w1.heap.size + 1, off := 0 }), Value.pointer (some { block := w1.heap.size + 1 + 1, off := 0 })],
          Value.agg #[Value.int IntKind.i64 x.lo, Value.int IntKind.i64 x.hi, Value.int IntKind.i64 x.tag], undef, undef], defers := [] })
    (fun x a' _ A B row ⟨Bx, hb, ha⟩ hg hr => ⟨Bx, (hg.block Bx (Array.getElem?_eq_some_iff.1 hb).1 (fun e => by
      obtain ⟨_, o, ho, hc⟩ := hr Bx e.symm
      rw [show A.heap[Bx]? = _ from hb] at ho; cases ho; cases hc)).trans hb, ha⟩) ?assign ?body ?done ?stop
  case assign =>
    intro l pre x W K hI hK
    dsimp only [encR]
    gi_wp2
    exact hK _ _ ((KeepsOthers.alloc _ _).from _) ((Below.refl _ _).alloc hI.2.2.size _) (OwnFrom.alloc hIo _ hI) ⟨W.heap.size, heap_alloc_new W _, rfl⟩
  case body =>
    rintro l pre x a' W hl ⟨r, hr⟩ ⟨⟨rfl, e4⟩, e5, hB⟩ ⟨Bx, hBx, rfl⟩ hlt
    have x2 : W.cell? ⟨Bx, 2, none⟩ = some (.int .i64 x.tag) := cell_of_row W Bx 2 _ _ _ hBx
    have y4 := e4.cell
    have f4 := e4.frozen
    have y5 := e5.cell
    have f5 := e5.frozen
    have xz := (Array.getElem?_eq_some_iff.1 hBx).1
    have e4' := e4.lt
    have e5' := e5.lt
    gi_wp2_with (fail)
    exact ⟨((KeepsOthers.setCell _ _ _).trans (KeepsOthers.setCell _ _ _)).from _, rfl, x, rfl, (e4.set _).other (by omega) _, (e5.other (by omega) _).set _, (hB.setCell (p := ⟨w.heap.size + 1, 0, none⟩) (show w.heap.size ≤ w.heap.size + 1 by omega) _).setCell (p := ⟨w.heap.size + 1 + 1, 0, none⟩) (show w.heap.size ≤ w.heap.size + 1 + 1 by omega) _⟩
  case done => 
    rintro D ys W hD rfl ⟨⟨hn, _⟩, _⟩ hK
    have hv' := hv.out
    rw [hn] at hv'
    cases hv'
  case stop =>
    rintro D c pre' W hD hpre ⟨rfl, x, rfl, e4, e5, hB⟩ hK
    have y4 := e4.cell
    have y5 := e5.cell
    gi_wp2
    have hx : x = x0 := by
      obtain ⟨t, ht⟩ := hpre
      rw [hv.out] at ht
      exact (List.cons.inj ht).1
    subst hx
    refine ⟨by simp, .inl ⟨_, _, rfl, run_takeDeferred hK, ?_⟩⟩
    refine ⟨.tuple #[.int .i64 x.tag, .int .i64 0], ?_, rfl, ?_⟩
    · have r4 := (e4.kept (grownBy_putObj' W D (.deferred .none)) (by simp; omega)).cell
      have r5 := (e5.kept (grownBy_putObj' W D (.deferred .none)) (by simp; omega)).cell
      simp [results, Try.results23, go_sem, r4, r5]
    · exact hB.trans (belowK_b (w := w) (Nat.le_refl _) W D _ _ (by omega) hK rfl rfl)
set_option maxRecDepth 100000 in
set_option maxHeartbeats 1000000 in
theorem get_out (w : World) (a : Addr) (L : List (Int × Int)) (at_ : Int) (h : Rep w (some a) L) (h0 : at_ < 0 ∨ Tr.total L ≤ at_) :
    Calls Try.prog 23 #[.agg #[.pointer (some a)], .int .i64 at_] w fun e w' => e = .returned (.tuple #[.int .i64 0, .int .i64 3]) ∧ Below w.heap.size w w' := by
  have hB0 : Below w.heap.size w (((w.alloc (.cells #[.pointer (some a)] 26)).alloc (.cells #[.int .i64 0] 3)).alloc (.cells #[.int .i64 0] 27)) := Below.next (Below.alloc2 w _ _) (Below.alloc1 _ _)
  by_cases hn : at_ < 0
  · go_enter Try.func23, Try.ntmps23
    go_wp2_with (fail)
    exact bodyPost_ret (v := .tuple #[.int .i64 0, .int .i64 3]) (by simp [results, Try.results23, go_sem]) rfl ⟨rfl, Below.next (Below.alloc2 w _ _) (Below.alloc1 _ _)⟩
  · have hr := size_any _ (some a) L (h.below hB0)
    have HR := Lib.hid hr
    have hge : Tr.total L ≤ at_ := by omega
    clear hr h0
    go_enter Try.func23, Try.ntmps23
    go_wp2_with (fail)
    go_at_call 26
    refine HR.out.mono ?_
    clear HR
    rintro e w1 ⟨rfl, hb1⟩
    have hB1 : Below w.heap.size w w1 := Below.next hB0 hb1
    have v4 : Boxed w1 (w.heap.size + 1) 3 (.int .i64 0) := by
      have := ((Boxed.new (w.alloc (.cells #[.pointer (some a)] 26)) 3 (.int .i64 0)).alloc (.cells #[.int .i64 0] 27)).kept (Below.grownBy hb1) (by simp)
      rwa [World.size_alloc] at this
    have v5 : Boxed w1 (w.heap.size + 1 + 1) 27 (.int .i64 0) := by
      have := (Boxed.new ((w.alloc (.cells #[.pointer (some a)] 26)).alloc (.cells #[.int .i64 0] 3)) 27 (.int .i64 0)).kept (Below.grownBy hb1) (by simp)
      rwa [World.size_alloc, World.size_alloc] at this
    have c4 := v4.cell
    have f4 := v4.frozen
    have z4 := v4.lt
    have c5 := v5.cell
    have f5 := v5.frozen
    have z5 := v5.lt
    go_wp2_with (fail)
    have r4 := ((v4.set (.int .i64 0)).other (B' := w.heap.size + 1 + 1) (by omega) (.int .i64 3)).cell
    have r5 := ((v5.other (B' := w.heap.size + 1) (by omega) (.int .i64 0)).set (.int .i64 3)).cell
    exact bodyPost_ret (v := .tuple #[.int .i64 0, .int .i64 3]) (by simp [results, Try.results23, go_sem, r4, r5]) rfl ⟨rfl, (hB1.setCell (p := ⟨w.heap.size + 1, 0, none⟩) (show w.heap.size ≤ w.heap.size + 1 by omega) _).setCell (p := ⟨w.heap.size + 1 + 1, 0, none⟩) (show w.heap.size ≤ w.heap.size + 1 + 1 by omega) _⟩
/-- What Get returns. -/
def getR (L : List (Int × Int)) (at_ : Int) : Int × Int := if L = [] then (0, 1) else if at_ < 0 ∨ Tr.total L ≤ at_ then (0, 3) else (atL L at_, 0)
theorem get_any (w : World) (p : Option Addr) (L : List (Int × Int)) (at_ : Int) (h : Rep w p L) :
    Calls Try.prog 23 #[.agg #[.pointer p], .int .i64 at_] w fun e w' => e = .returned (.tuple #[.int .i64 (getR L at_).1, .int .i64 (getR L at_).2]) ∧ Below w.heap.size w w' := by
  cases p with
  | none =>
    have e : getR L at_ = (0, 1) := by unfold getR; rw [if_pos (h.nil_iff.1 rfl)]
    rw [e]; exact get_nil w at_
  | some a =>
    obtain ⟨g, T, hT, nT, bT, oT, eT, pT, p1, p2, nm⟩ := h.good
    by_cases hr : at_ < 0 ∨ Tr.total L ≤ at_
    · have e : getR L at_ = (0, 3) := by unfold getR; rw [if_neg g.1, if_pos hr]
      rw [e]; exact get_out w a L at_ h hr
    · have e : getR L at_ = (atL L at_, 0) := by unfold getR; rw [if_neg g.1, if_neg hr]
      have hv := vis_clipL at_ (at_ + 1) T 0 oT
      rw [eT] at hv
      have c1 := clipL_chain (lo := at_) (hi := at_ + 1) (k := 0) g.2.1 (by omega) (by omega)
      have c2 := (clipL_facts (lo := at_) (hi := at_ + 1) (k := 0) g.2.1).2 0 (Int.le_refl _) (by omega) (by omega)
      rw [e]
      cases hc : clipL at_ (at_ + 1) 0 L with
      | nil =>
        rw [hc] at c1
        have c1 : max 0 at_ = at_ + 1 := c1
        omega
      | cons x0 vl =>
        rw [hc] at c1 c2 hv
        obtain ⟨d1, d2, _⟩ := c1
        simp only [segs, List.map_cons, atL] at c2
        rw [if_pos (by omega), show max 0 at_ - 0 + 0 = at_ from by omega] at c2
        rw [← c2]
        exact get_yes w a L at_ h (by omega) (by omega) g.2.2.2.1 T hT oT p2 x0 vl hv
end Go.Proofs.Ytfmplibjhohpgaa
