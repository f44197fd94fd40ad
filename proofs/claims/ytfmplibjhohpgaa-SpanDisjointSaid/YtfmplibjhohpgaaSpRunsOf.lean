/- The walk over Runs of package span. -/
import Derived.Test.YtfmplibjhohpgaaSpFind
import Derived.RangeFuncBox
import Derived.Maps.AppendAt
namespace Go.Proofs.Ytfmplibjhohpgaa
open Go.RowKit Go.Shelf
attribute [local go_sem] Oper.semAt_some
attribute [local go_sem ↓] run_max run_min

theorem infoRun : (Try.prog.info? 35).map (fun i => (i.zero, i.size, i.bytes)) = some (some (.agg #[.int .i64 0, .int .i64 0, .int .i64 0]), 3, 24) := by kernel_rfl
/-- The cells of runs. -/
def cellsR (L : List Rn) : List Value := L.flatMap fun x => [.int .i64 x.lo, .int .i64 x.hi, .int .i64 x.tag]
theorem cellsR_snoc (L : List Rn) (x : Rn) : cellsR (L ++ [x]) = cellsR L ++ [.int .i64 x.lo, .int .i64 x.hi, .int .i64 x.tag] := by simp [cellsR]
/-- The slice v owns the runs L, in blocks from base on. -/
def OwnRuns (w : World) (base : Nat) (v : Value) (L : List Rn) : Prop := w.ownsRow base 35 3 v L.length (cellsR L)
theorem OwnRuns.mono {w : World} {base base' : Nat} {v : Value} {L : List Rn} (h : OwnRuns w base v L) (hb : base' ≤ base) : OwnRuns w base' v L := by
  obtain ⟨h1, h2⟩ := h
  refine ⟨h1, ?_⟩
  rcases h2 with h2 | ⟨g, cap, cur, e, hg, r⟩
  · exact .inl h2
  · exact .inr ⟨g, cap, cur, e, by omega, r⟩
theorem cell_three_new (w : World) (x y z : Value) (t : TypeId) : ∀ j u, [x, y, z][j]? = some u → (w.alloc (.cells #[x, y, z] t)).cell? ((⟨w.heap.size, 0, none⟩ : Addr).add j) = some u := by
  intro j u hj
  have hh := heap_alloc_new w (.cells #[x, y, z] t)
  match j, hj with
  | 0, hj => simp at hj; subst hj; exact cell_of_row _ w.heap.size 0 _ _ _ hh
  | 1, hj => simp at hj; subst hj; exact cell_of_row _ w.heap.size (0 + 1) _ _ _ hh
  | 2, hj => simp at hj; subst hj; exact cell_of_row _ w.heap.size (0 + 2) _ _ _ hh
  | j + 3, hj => simp at hj
/-- The box of a run. -/
def BoxR (W : World) (b : Nat) (x : Rn) : Prop := W.heap[b]? = some (.cells #[.int .i64 x.lo, .int .i64 x.hi, .int .i64 x.tag] 35 (0, 0))
set_option maxRecDepth 100000 in
set_option maxHeartbeats 400000 in
theorem runs_err (w : World) (p : Option Addr) (L : List (Int × Int)) (lo hi most : Int) (h : Rep w p L) (x : Int) (hx : Hid (rangesR L lo hi = x)) (hx0 : (x == 0) = false) :
    Calls Try.prog 33 #[.agg #[.pointer p], .int .i64 lo, .int .i64 hi, .int .i64 most] w fun e w' => e = .returned (.tuple #[.slice none 0 0, .int .i64 x]) ∧ Below w.heap.size w w' := by
  have hr := ranges_any ((w.alloc (.cells #[.pointer p] 26)).alloc (.cells #[.int .i64 most] 3)) p L lo hi (h.below (Below.alloc2 _ _ _))
  rw [hx.out] at hr
  have HR := Lib.hid hr
  have hx1 : (x != 0) = true := by simpa using hx0
  clear hr
  go_enter Try.func33, Try.ntmps33
  go_wp2_with (fail)
  go_at_call 57
  refine HR.out.mono ?_
  clear HR
  rintro e w1 ⟨rfl, hb1⟩
  go_wp2_with (fail)
  go_ret2
  exact ⟨rfl, Below.next (Below.alloc2 _ _ _) hb1⟩
set_option maxRecDepth 100000 in
set_option maxHeartbeats 2000000 in
theorem runs_yes (w : World) (a : Addr) (L : List (Int × Int)) (lo hi most : Int) (h : Rep w (some a) L) (hx : Hid (rangesR L lo hi = 0)) (T : Tr) (hT : Tree w (some a) T) (oT : T.Ok) (hp : T.pcs ≤ 1099511627776) (hlen : (vis lo hi T 0).length ≤ 4096) :
    Calls Try.prog 33 #[.agg #[.pointer (some a)], .int .i64 lo, .int .i64 hi, .int .i64 most] w fun e w' => ∃ v, e = .returned (.tuple #[v, .int .i64 0]) ∧ OwnRuns w' w.heap.size v ((vis lo hi T 0).take most.toNat) ∧ Below w.heap.size w w' := by
  have hr := ranges_any ((w.alloc (.cells #[.pointer (some a)] 26)).alloc (.cells #[.int .i64 most] 3)) (some a) L lo hi (h.below (Below.alloc2 _ _ _))
  rw [hx.out] at hr
  have HR := Lib.hid hr
  clear hr
  obtain ⟨i0, hi0, hz0, hz1, hz2⟩ := info_parts infoRun
  refine (callsIn_wide (n := 3)).1 ?_
  refine callsIn_of_wp_marks Try.func33 rfl trivial ?_ rfl
  simp only [Try.ntmps33, List.size_toArray, List.length_cons, List.length_nil, Nat.reduceAdd, Nat.reduceSub, Array.replicate_succ, Array.replicate_zero, List.push_toArray, List.append_toArray, List.nil_append, List.cons_append]
  gi_wp2_with (fail)
  refine ⟨trivial, ?_⟩
  refine (callsIn_wide.2 HR.out).mono ?_
  clear HR
  rintro e w1 ⟨rfl, hb1⟩
  have hB1 : Below w.heap.size w w1 := Below.next (Below.alloc2 _ _ _) hb1
  have b1 := (((BoxT.new w (.pointer (some a)) 26 (by decide)).alloc (.cells #[.int .i64 most] 3)).next hb1)
  have m1 := ((BoxT.new (w.alloc (.cells #[.pointer (some a)] 26)) (.int .i64 most) 3 (by decide)).next hb1)
  rw [World.size_alloc] at m1
  have hT1 := hT.below hB1
  have c1 := b1.cell
  have z1 := b1.lt
  have z2 := m1.lt
  have c2 : (w1.alloc (.cells #[.slice none 0 0] 22)).cell? ⟨w.heap.size, 0, none⟩ = some (.pointer (some a)) := (b1.alloc _).cell
  gi_wp2_with (fail)
  refine ⟨trivial, ?_⟩
  refine (within_any 2 (some a) lo hi _).mono ?_
  rintro e w' ⟨rfl, rfl⟩
  gi_wp2_with (fail)
  obtain ⟨W0, hW0⟩ : ∃ W0, (((w1.alloc (.cells #[.slice none 0 0] 22)).alloc (.cells #[.pointer (some a)] 24)).alloc (.cells #[.int .i64 lo] 3)).alloc (.cells #[.int .i64 hi] 3) = W0 := ⟨_, rfl⟩
  rw [hW0]
  have s0 : W0.heap.size = w1.heap.size + 1 + 1 + 1 + 1 := by rw [← hW0]; simp
  have hB0 : Below w1.heap.size w1 W0 := by
    rw [← hW0]; exact ((((Below.refl _ _).alloc (Nat.le_refl _) _).alloc (by simp) _).alloc (by simp; omega) _).alloc (by simp; omega) _
  have bO : Boxed W0 w1.heap.size 22 (.slice none 0 0) := by
    rw [← hW0]; exact (((Boxed.new w1 _ _).alloc _).alloc _).alloc _
  have k0 : W0.cell? ⟨w1.heap.size + 1, 0, none⟩ = some (.pointer (some a)) := by rw [← hW0]; have := (((Boxed.new (w1.alloc (.cells #[.slice none 0 0] 22)) 24 (.pointer (some a))).alloc (.cells #[.int .i64 lo] 3)).alloc (.cells #[.int .i64 hi] 3)).cell; rw [World.size_alloc] at this; exact this
  have k1 : W0.cell? ⟨w1.heap.size + 1 + 1, 0, none⟩ = some (.int .i64 lo) := by rw [← hW0]; have := ((Boxed.new ((w1.alloc (.cells #[.slice none 0 0] 22)).alloc (.cells #[.pointer (some a)] 24)) 3 (.int .i64 lo)).alloc (.cells #[.int .i64 hi] 3)).cell; rw [World.size_alloc, World.size_alloc] at this; exact this
  have k2 : W0.cell? ⟨w1.heap.size + 1 + 1 + 1, 0, none⟩ = some (.int .i64 hi) := by rw [← hW0]; have := (Boxed.new (((w1.alloc (.cells #[.slice none 0 0] 22)).alloc (.cells #[.pointer (some a)] 24)).alloc (.cells #[.int .i64 lo] 3)) 3 (.int .i64 hi)).cell; rw [World.size_alloc, World.size_alloc, World.size_alloc] at this; exact this
  clear hW0 c1 c2
  have hIo : OwnFrom W0.heap.size (fun (pre : List Rn) W => (∃ v, Boxed W w1.heap.size 22 v ∧ W.ownsRow w1.heap.size 35 3 v pre.length (cellsR pre) ∧ (pre.length : Int) ≤ max most 0) ∧ Below w1.heap.size w1 W) :=
    OwnFrom.and (Own.from (holdsRow_own w1.heap.size w1.heap.size 22 35 3 (fun pre : List Rn => pre.length) (fun pre => cellsR pre) (fun pre _ => (pre.length : Int) ≤ max most 0)) _) (ownFrom_below (Nat.le_refl _) (by omega))
  refine wpIn_rangeFunc_ownH (F := Fence.wide) rfl (by omega) (gf := 79) (lb := #[.pointer (some ⟨w1.heap.size + 1, 0, none⟩), .pointer (some ⟨w1.heap.size + 1 + 1, 0, none⟩), .pointer (some ⟨w1.heap.size + 1 + 1 + 1, 0, none⟩)]) rfl trivial (enters_of Try.func79 (by kernel_rfl) rfl)
    (within_stops (3 - 1) w1.heap.size (w1.heap.size + 1) (w1.heap.size + 1 + 1) (w1.heap.size + 1 + 1 + 1) lo hi (some a) T W0 k0 k1 k2 (by omega) (by omega) (by omega) hB0.size (IsTree.below hB0 hT1) oT hp) belowK_t (belowK_b (by omega)) (Below.refl _ _) (fun _ => rfl)
    (fun (pre : List Rn) W => (∃ v, Boxed W w1.heap.size 22 v ∧ W.ownsRow w1.heap.size 35 3 v pre.length (cellsR pre) ∧ (pre.length : Int) ≤ max most 0) ∧ Below w1.heap.size w1 W)
    (fun c pre' W => c = Code.exit 0 ∧ ∃ (pre : List Rn) (x : Rn), pre' = pre ++ [x] ∧ most ≤ pre.length ∧ (∃ v, Boxed W w1.heap.size 22 v ∧ W.ownsRow w1.heap.size 35 3 v pre.length (cellsR pre) ∧ (pre.length : Int) ≤ max most 0) ∧ Below w1.heap.size w1 W)
    hIo (fun c s A B row ⟨h1, pre, x, h2, h3, h4⟩ hg hr => ⟨h1, pre, x, h2, h3, hIo pre A B row h4 hg hr⟩)
    ⟨⟨_, bO, World.ownsRow_nil _ _ _ _, by simp; omega⟩, hB0⟩
    (fun x a' W => ∃ Bx, BoxR W Bx x ∧ a' = { tmps := #[Value.agg #[Value.pointer (some a)], Value.int IntKind.i64 lo, Value.int IntKind.i64 hi, Value.int IntKind.i64 most, Value.pointer (some ⟨w.heap.size, 0, none⟩), undef, undef, Value.pointer (some ⟨w.heap.size + 1, 0, none⟩), Value.slice none 0 0, Value.int IntKind.i64 0, Value.int IntKind.i64 0, Value.pointer (some ⟨w1.heap.size, 0, none⟩), Value.pointer (some ⟨Bx, 0, none⟩),
          Value.agg #[Value.pointer (some a)], Value.int IntKind.i64 lo, Value.int IntKind.i64 hi, Value.int IntKind.i64 0, Value.int IntKind.i64 0, Value.bool false, undef, Value.pointer (some ⟨w.heap.size, 0, none⟩), Value.pointer (some a), Value.int IntKind.i64 lo, Value.int IntKind.i64 hi,
          Value.func (Fn.func 79) #[] #[Value.pointer (some ⟨w1.heap.size + 1, 0, none⟩), Value.pointer (some ⟨w1.heap.size + 1 + 1, 0, none⟩), Value.pointer (some ⟨w1.heap.size + 1 + 1 + 1, 0, none⟩)],
          Value.agg #[Value.int IntKind.i64 x.lo, Value.int IntKind.i64 x.hi, Value.int IntKind.i64 x.tag], undef, undef, undef, undef, undef, undef, undef, undef, undef], defers := [] })
    (fun x a' _ A B row ⟨Bx, hb, ha⟩ hg hr => ⟨Bx, (hg.block Bx (Array.getElem?_eq_some_iff.1 hb).1 (fun e => by
      obtain ⟨_, o, ho, hc⟩ := hr Bx e.symm
      rw [show A.heap[Bx]? = _ from hb] at ho; cases ho; cases hc)).trans hb, ha⟩) ?assign ?body ?done ?stop
  case assign =>
    intro l pre x W K hI hK
    dsimp only [encR]
    gi_wp2
    exact hK _ _ ((KeepsOthers.alloc _ _).from _) ((Below.refl _ _).alloc hI.2.size _) (OwnFrom.alloc hIo _ hI) ⟨W.heap.size, heap_alloc_new W _, rfl⟩
  case body =>
    rintro l pre x a' W hl ⟨r, hr⟩ ⟨⟨v, hv, hrow, hml⟩, hB⟩ ⟨Bx, hBx, rfl⟩ hlt
    have hc := hv.cell
    have hm := (m1.below hB m1.lt).cell
    have x0 : W.cell? ⟨Bx, 0, none⟩ = some (.int .i64 x.lo) := cell_of_row W Bx 0 _ _ _ hBx
    have x1 : W.cell? ⟨Bx, 1, none⟩ = some (.int .i64 x.hi) := cell_of_row W Bx 1 _ _ _ hBx
    have x2 : W.cell? ⟨Bx, 2, none⟩ = some (.int .i64 x.tag) := cell_of_row W Bx 2 _ _ _ hBx
    obtain ⟨A, cap, rfl⟩ : ∃ A cap, v = .slice A pre.length cap := by
      rcases hrow.2 with ⟨h1, h2⟩ | ⟨g, cap, _, h1, _⟩
      · exact ⟨none, 0, by rw [h1, h2]⟩
      · exact ⟨_, cap, h1⟩
    by_cases hmo : most ≤ (pre.length : Int)
    · gi_wp2_with (fail)
      exact ⟨KeepsFrom.refl _ _, rfl, pre, x, rfl, hmo, ⟨_, hv, hrow, hml⟩, hB⟩
    · gi_wp2_with (gi_at_builtin; refine wpListIn_append_own _ rfl _ _ 22 rfl w1.heap.size 35 i0 (.agg #[.int .i64 0, .int .i64 0, .int .i64 0]) 3 24 Try.underlying22 hi0 hz0 hz1 hz2 rfl (by decide) _ _ _ rfl (hrow.alloc _) ⟨W.heap.size, 0, none⟩ 1 1 [.int .i64 x.lo, .int .i64 x.hi, .int .i64 x.tag] rfl rfl (cell_three_new _ _ _ _ _) (by simp [Value.oneCell']) (by unfold maxLen; omega) (by omega) (by have := hB.size; simp; omega) ?_; intro v' w2 hown' hgrow _; obtain ⟨g', cap', rfl⟩ := ownsRow_succ hown'; obtain ⟨hv1, hv2, hr2, hk2, hb2⟩ := hv.appended (by decide) hrow hB.size (Nat.le_refl _) hown' hgrow; have hc1 := hv1.cell; have hf1 := hv1.frozen)
      exact ⟨hk2.from _, hb2, ⟨_, hv2, by rw [cellsR_snoc]; simpa using hr2, by simp; omega⟩, hB.trans hb2⟩
  case done =>
    rintro D ys W hD rfl ⟨⟨v, hv, hrow, hml⟩, hB⟩ hK
    have hc := hv.cell
    gi_wp2
    refine ⟨by simp, .inl ⟨_, _, rfl, run_takeDeferred hK, ?_⟩⟩
    refine ⟨_, results_tmp2 rfl _ _ _, v, rfl, ?_, (hB1.trans (hB.mono (by omega))).trans (belowK_b (w := w) (Nat.le_refl _) W D _ _ (by omega) hK rfl rfl)⟩
    rw [List.take_of_length_le (by omega)]
    exact OwnRuns.mono (ownsRow_putObj hrow _ hK rfl) (by omega)
  case stop =>
    rintro D c pre' W hD hpre ⟨rfl, pre, x, rfl, hmo, ⟨v, hv, hrow, hml⟩, hB⟩ hK
    have hc := hv.cell
    gi_wp2
    refine ⟨by simp, .inl ⟨_, _, rfl, run_takeDeferred hK, ?_⟩⟩
    refine ⟨_, results_tmp2 rfl _ _ _, v, rfl, ?_, (hB1.trans (hB.mono (by omega))).trans (belowK_b (w := w) (Nat.le_refl _) W D _ _ (by omega) hK rfl rfl)⟩
    obtain ⟨t, ht⟩ := hpre
    have e : (vis lo hi T 0).take most.toNat = pre := by
      rw [← ht, show most.toNat = pre.length from by omega, List.append_assoc, List.take_left]
    rw [e]
    exact OwnRuns.mono (ownsRow_putObj hrow _ hK rfl) (by omega)
end Go.Proofs.Ytfmplibjhohpgaa
