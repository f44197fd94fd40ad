/- The walk over Swap of package span. -/
import Derived.Test.YtfmplibjhohpgaaSpPush
import Derived.Test.YtfmplibjhohpgaaSpGet
namespace Go.Proofs.Ytfmplibjhohpgaa
open Go.RowKit Go.Shelf
attribute [local go_sem] Oper.semAt_some

theorem ownFrom_boxedF {β : Type} (B b : Nat) (t : TypeId) (f : β → Value) : OwnFrom B (fun (s : β) W => Boxed W b t (f s)) := fun s A C row hv hg hr => ownFrom_boxed (β := β) B b t (f s) s A C row hv hg hr
theorem midR_length (from_ to : Int) (V : List Rn) : (midR from_ to V).length ≤ V.length := by
  obtain ⟨n, hn⟩ : ∃ n, V.length = n := ⟨_, rfl⟩
  induction n generalizing V with
  | zero => obtain rfl := List.eq_nil_of_length_eq_zero hn; exact Nat.le_refl _
  | succ n ih =>
    rcases nil_or_snoc V with rfl | ⟨V, x, rfl⟩
    · simp at hn
    · have := ih V (by simpa using hn)
      rw [midR_snoc, List.length_append]
      exact Nat.le_trans (pushRn_length _ _) (by simpa using this)
theorem midN_snoc (from_ : Int) (V : List Rn) (x : Rn) : midN from_ (V ++ [x]) = midN from_ V + if x.tag = from_ then x.hi - x.lo else 0 := by
  unfold midN
  rw [segs_append, Tr.totalOf_append]
  simp only [segs, List.map_cons, List.map_nil, Tr.totalOf_cons]
  simp [Tr.totalOf]
theorem OwnRuns.row_cells {w : World} {base : Nat} {v : Value} {L : List Rn} (h : OwnRuns w base v L) (j : Nat) (o : Obj) (hj : v.ownBlock = some j) (ho : w.heap[j]? = some o) : o.isCells = true := by
  rcases h.2 with ⟨h1, _⟩ | ⟨g, cap, cur, h1, _, hh, _⟩
  · rw [h1] at hj; simp [Value.ownBlock] at hj
  · rw [h1] at hj
    simp [Value.ownBlock] at hj
    subst hj
    rw [hh] at ho
    cases ho; rfl
theorem OwnRuns.row_ge {w : World} {base : Nat} {v : Value} {L : List Rn} (h : OwnRuns w base v L) (j : Nat) (hj : v.ownBlock = some j) : base ≤ j ∧ j < w.heap.size := by
  rcases h.2 with ⟨h1, _⟩ | ⟨g, cap, cur, h1, hg, hh, _⟩
  · rw [h1] at hj; simp [Value.ownBlock] at hj
  · rw [h1] at hj
    simp [Value.ownBlock] at hj
    subst hj
    exact ⟨hg, (Array.getElem?_eq_some_iff.1 hh).1⟩
theorem OwnRuns.set_far {w : World} {base g i : Nat} {v x : Value} {L : List Rn} (h : OwnRuns w base v L) (hne : v.ownBlock ≠ some g) : OwnRuns (w.setCell ⟨g, i, none⟩ x) base v L :=
  World.ownsRow.kept h (grown_set w g i x) (.inr hne)
theorem boxed_far {W : World} {B g i : Nat} {t : TypeId} {v x : Value} (h : Boxed W B t v) (hne : ¬ B = g) : Boxed (W.setCell ⟨g, i, none⟩ x) B t v :=
  h.kept (grown_set W g i x) (fun e => hne (by cases e; rfl))
theorem push_round {W w2 : World} {n₀ : Nat} {v v' u : Value} {m m' : List Rn} (hv : Boxed W n₀ 22 v) (hn : Boxed W (n₀ + 1) 3 u) (hO : OwnRuns W n₀ v m) (hg : W.grownBy w2 v.ownBlock) (hP : OwnRuns w2 n₀ v' m') :
    KeepsOthers W (w2.setCell ⟨n₀, 0, none⟩ v') ∧ Below n₀ W (w2.setCell ⟨n₀, 0, none⟩ v') ∧ Boxed (w2.setCell ⟨n₀, 0, none⟩ v') n₀ 22 v' ∧ OwnRuns (w2.setCell ⟨n₀, 0, none⟩ v') n₀ v' m' ∧ Boxed (w2.setCell ⟨n₀, 0, none⟩ v') (n₀ + 1) 3 u ∧ Boxed w2 n₀ 22 v := by
  have hv2 : Boxed w2 n₀ 22 v := hv.kept hg (hv.not_row (by decide) hO)
  have hn2 : Boxed w2 (n₀ + 1) 3 u := hn.kept hg (hn.not_row (by decide) hO)
  have hb : Below n₀ W w2 := ⟨hg.os, hg.tape, hg.output, hg.size, fun k hk => hg.block k (by have := hv.lt; omega) (fun e => by have := (hO.row_ge k e.symm).1; omega)⟩
  refine ⟨(KeepsOthers.of_grownBy hg hO.row_cells).trans (KeepsOthers.setCell _ _ _), hb.setCell (p := ⟨n₀, 0, none⟩) (Nat.le_refl _) _, hv2.set _, hP.set_far (fun e => hv2.not_row (by decide) hP e.symm), boxed_far hn2 (by omega), hv2⟩
theorem IsTree.putObj_ {W : World} {D : Nat} {o : Obj} (ho : W.heap[D]? = some o) (hc : o.isCells = false) (o' : Obj) {n : Nat} : ∀ {p : Option Addr} {T : Tr}, IsTree n W p T → IsTree n (W.putObj D o') p T
  | _, .nil, ht => ht
  | _, .node _ _ _ _, ⟨b', pl, pr, hp, hb, hn, hl, hr⟩ => by
    refine ⟨b', pl, pr, hp, hb, ?_, IsTree.putObj_ ho hc o' hl, IsTree.putObj_ ho hc o' hr⟩
    have hne : ¬ some b' = some D := by
      intro e
      cases e
      unfold IsNode Made at hn
      rw [hn] at ho
      cases ho; cases hc
    exact ((grownBy_putObj' W D o').block b' (Array.getElem?_eq_some_iff.1 hn).1 hne).trans hn
theorem totalOf_bounds {L : List (Int × Int)} (h : Tr.OkL L) (tag : Int) : 0 ≤ Tr.totalOf tag L ∧ Tr.totalOf tag L ≤ Tr.total L := by
  induction L with
  | nil => simp [Tr.totalOf, Tr.total]
  | cons x l ih =>
    have h' := Tr.OkL.cons.1 h
    have := ih h'.2
    rw [Tr.totalOf_cons, Tr.total_cons]
    split <;> omega
theorem wrap64_add (x y : Int) : wrap64 (wrap64 x + wrap64 y) = wrap64 (x + y) := by unfold wrap64; omega
/-- What Swap returns, and where. -/
def SwapPost (w : World) (L : List (Int × Int)) (lo hi from_ to : Int) (e : Ending) (w' : World) : Prop :=
  ∃ p, e = .returned (.tuple #[.agg #[.pointer p], .int .i64 (swapR L lo hi from_ to).2.1, .int .i64 (swapR L lo hi from_ to).1]) ∧ Rep w' p (swapR L lo hi from_ to).2.2 ∧ Below w.heap.size w w'
set_option maxRecDepth 100000 in
set_option maxHeartbeats 4000000 in
theorem swap_run (w : World) (a : Addr) (L : List (Int × Int)) (lo hi from_ to : Int) (h : Rep w (some a) L) (hx : Hid (rangesR L lo hi = 0)) (T : Tr) (hT : Tree w (some a) T) (bT : T.Bal) (oT : T.Ok) (hp1 : 1 ≤ T.pcs) (hp2 : T.pcs ≤ 1099511627776) (h0 : 0 ≤ lo) (h1 : lo ≤ hi) (h2 : hi ≤ T.pcs)
    (hf : Hid (0 ≤ from_ ∧ from_ < 16)) (ht : Hid (0 ≤ to ∧ to < 16)) (hlen : (vis lo hi T 0).length ≤ 4096) (eT : T.list = L) (gL : L ≠ []) :
    Calls Try.prog 24 #[.agg #[.pointer (some a)], .int .i64 lo, .int .i64 hi, .int .i64 from_, .int .i64 to] w (SwapPost w L lo hi from_ to) := by
  obtain ⟨s1, s2, s3, s4, s5, s6⟩ := Tr.split_list T lo oT bT h0 (by omega)
  obtain ⟨r1, r2, r3, r4, r5, r6⟩ := Tr.split_list (Tr.split T lo).2 (hi - lo) s4 s2 (by omega) (by omega)
  obtain ⟨t1, t2⟩ := Tr.split_takeP T lo oT h0 (by omega)
  obtain ⟨t3, t4⟩ := Tr.split_takeP (Tr.split T lo).2 (hi - lo) s4 (by omega) (by omega)
  have oL := (Tr.ok_list T).1 oT
  have pL := Tr.pcs_list T
  have hvc := vis_clipL lo hi T 0 oT
  have ch0 : Chain lo (vis lo hi T 0) hi := by
    have := clipL_chain (lo := lo) (hi := hi) (k := 0) oL (by omega) (by omega)
    rw [hvc]; rw [show max 0 lo = lo from by omega] at this; exact this
  obtain ⟨m1, m2, m3⟩ := midR_chain (from_ := from_) (to := to) ch0
  have m4 : Tr.OkL (segs (midR from_ to (vis lo hi T 0))) := by rw [m2]; exact (swapM_facts ht.out.1 ht.out.2 _ (by rw [hvc]; exact (clipL_facts oL).1)).1
  have m5 := m1.fine h0 (by omega) m4
  have m6 := m1.total
  obtain ⟨n1, n2, _⟩ := Tr.bld_facts (midR from_ to (vis lo hi T 0)).length (segs (midR from_ to (vis lo hi T 0))) (by rw [segs_length]; exact Nat.le_refl _)
  have CH := Lib.hid (And.intro m2 n1)
  obtain ⟨B, hBd⟩ : ∃ B, Tr.bld (midR from_ to (vis lo hi T 0)).length (segs (midR from_ to (vis lo hi T 0))) = B := ⟨_, rfl⟩
  rw [hBd] at n1 n2
  have u1 : B.Ok := by rw [Tr.ok_list, n1]; exact m4
  have u2 : B.pcs = hi - lo := by rw [Tr.pcs_list, n1]; exact m6
  have u3 : (Tr.concat (Tr.split T lo).1 B).Ok := by rw [Tr.ok_list, Tr.concat_list]; exact concatL_ok ((Tr.ok_list _).1 s3) ((Tr.ok_list _).1 u1)
  have u4 : (Tr.concat (Tr.split T lo).1 B).pcs = hi := by rw [Tr.pcs_list, Tr.concat_list, concatL_total, ← Tr.pcs_list, ← Tr.pcs_list, s5, u2]; omega
  have eD : (Tr.concat (Tr.concat (Tr.split T lo).1 B) (Tr.split (Tr.split T lo).2 (hi - lo)).2).list = swapL T.list lo hi from_ to := by
    rw [Tr.concat_list, Tr.concat_list, t1, t4, t2, n1, m2, hvc]; rfl
  have bD := Tr.concat_bal _ _ (Tr.concat_bal _ _ s1 n2) r2
  have nz : Tr.concat (Tr.concat (Tr.split T lo).1 B) (Tr.split (Tr.split T lo).2 (hi - lo)).2 ≠ .nil := by
    intro e0
    rw [e0] at eD
    have e1 := swapL_total (from_ := from_) oL h0 h1 (by rw [← pL]; omega) ht.out.1 ht.out.2
    rw [← eD, show Tr.total Tr.nil.list = 0 from rfl, ← pL] at e1
    omega
  have NZ := Lib.hid nz
  have HBD := Lib.hid hBd
  have ED := Lib.hid eD
  have M5 := Lib.hid m5
  have M6 := Lib.hid m6
  have M3 := Lib.hid m3
  clear t1 t2 t3 t4 hvc ch0 m1 m2 m3 m4 m5 m6 hBd eD n1 oL pL nz
  have hB0 : Below w.heap.size w ((((w.alloc (.cells #[.pointer (some a)] 26)).alloc (.cells #[.int .i64 from_] 3)).alloc (.cells #[.int .i64 to] 3)).alloc (.cells #[.pointer none] 26)) := Below.next (Below.next (Below.alloc2 w _ _) (Below.alloc1 _ _)) (Below.alloc1 _ _)
  have hr := ranges_any _ (some a) L lo hi (h.below hB0)
  rw [hx.out] at hr
  have HR := Lib.hid hr
  clear hr
  refine (callsIn_wide (n := 3)).1 ?_
  refine callsIn_of_wp_marks Try.func24 rfl trivial ?_ rfl
  simp only [Try.ntmps24, List.size_toArray, List.length_cons, List.length_nil, Nat.reduceAdd, Nat.reduceSub, Array.replicate_succ, Array.replicate_zero, List.push_toArray, List.append_toArray, List.nil_append, List.cons_append]
  gi_wp2_with (fail)
  refine ⟨trivial, ?_⟩
  refine (callsIn_wide.2 HR.out).mono ?_
  clear HR
  rintro e w1 ⟨rfl, hb1⟩
  have hB1 : Below w.heap.size w w1 := Below.next hB0 hb1
  have v5 : Boxed w1 w.heap.size 26 (.pointer (some a)) := ((((Boxed.new w 26 (.pointer (some a))).alloc (.cells #[.int .i64 from_] 3)).alloc (.cells #[.int .i64 to] 3)).alloc (.cells #[.pointer none] 26)).kept (Below.grownBy hb1) (by simp)
  have v8 : Boxed w1 (w.heap.size + 1) 3 (.int .i64 from_) := by
    have := (((Boxed.new (w.alloc (.cells #[.pointer (some a)] 26)) 3 (.int .i64 from_)).alloc (.cells #[.int .i64 to] 3)).alloc (.cells #[.pointer none] 26)).kept (Below.grownBy hb1) (by simp)
    rwa [World.size_alloc] at this
  have v9 : Boxed w1 (w.heap.size + 1 + 1) 3 (.int .i64 to) := by
    have := ((Boxed.new ((w.alloc (.cells #[.pointer (some a)] 26)).alloc (.cells #[.int .i64 from_] 3)) 3 (.int .i64 to)).alloc (.cells #[.pointer none] 26)).kept (Below.grownBy hb1) (by simp)
    rwa [World.size_alloc, World.size_alloc] at this
  have v10 : Boxed w1 (w.heap.size + 1 + 1 + 1) 26 (.pointer none) := by
    have := (Boxed.new (((w.alloc (.cells #[.pointer (some a)] 26)).alloc (.cells #[.int .i64 from_] 3)).alloc (.cells #[.int .i64 to] 3)) 26 (.pointer none)).kept (Below.grownBy hb1) (by simp)
    rwa [World.size_alloc, World.size_alloc, World.size_alloc] at this
  have hT1 := hT.below hB1
  clear hb1
  have c5 := v5.cell
  have c8 := v8.cell
  have c9 := v9.cell
  have z10 := v10.lt
  gi_wp2_with (fail)
  refine ⟨trivial, ?_⟩
  refine (callsIn_wide.2 (isTag_yes from_ w1 hf.out)).mono ?_
  rintro e w' ⟨rfl, rfl⟩
  gi_wp2_with (fail)
  refine ⟨trivial, ?_⟩
  refine (callsIn_wide.2 (isTag_yes to w1 ht.out)).mono ?_
  rintro e w' ⟨rfl, rfl⟩
  have c5' : ((w1.alloc (.cells #[.slice none 0 0] 22)).alloc (.cells #[.int .i64 0] 3)).cell? ⟨w.heap.size, 0, none⟩ = some (.pointer (some a)) := ((v5.alloc _).alloc _).cell
  have z5 := v5.lt
  gi_wp2_with (fail)
  refine ⟨trivial, ?_⟩
  refine (within_any 2 (some a) lo hi _).mono ?_
  rintro e w' ⟨rfl, rfl⟩
  gi_wp2_with (fail)
  obtain ⟨W0, hW0⟩ : ∃ W0, ((((w1.alloc (.cells #[.slice none 0 0] 22)).alloc (.cells #[.int .i64 0] 3)).alloc (.cells #[.pointer (some a)] 24)).alloc (.cells #[.int .i64 lo] 3)).alloc (.cells #[.int .i64 hi] 3) = W0 := ⟨_, rfl⟩
  rw [hW0]
  have s0 : W0.heap.size = w1.heap.size + 1 + 1 + 1 + 1 + 1 := by rw [← hW0]; simp
  have hB0 : Below w1.heap.size w1 W0 := by
    rw [← hW0]; exact (((((Below.refl _ _).alloc (Nat.le_refl _) _).alloc (by simp) _).alloc (by simp; omega) _).alloc (by simp; omega) _).alloc (by simp; omega) _
  have bO : Boxed W0 w1.heap.size 22 (.slice none 0 0) := by
    rw [← hW0]; exact ((((Boxed.new w1 _ _).alloc _).alloc _).alloc _).alloc _
  have bN : Boxed W0 (w1.heap.size + 1) 3 (.int .i64 0) := by
    rw [← hW0]; have := (((Boxed.new (w1.alloc (.cells #[.slice none 0 0] 22)) 3 (.int .i64 0)).alloc (.cells #[.pointer (some a)] 24)).alloc (.cells #[.int .i64 lo] 3)).alloc (.cells #[.int .i64 hi] 3); rw [World.size_alloc] at this; exact this
  have k0 : W0.cell? ⟨w1.heap.size + 1 + 1, 0, none⟩ = some (.pointer (some a)) := by
    rw [← hW0]; have := (((Boxed.new ((w1.alloc (.cells #[.slice none 0 0] 22)).alloc (.cells #[.int .i64 0] 3)) 24 (.pointer (some a))).alloc (.cells #[.int .i64 lo] 3)).alloc (.cells #[.int .i64 hi] 3)).cell; rw [World.size_alloc, World.size_alloc] at this; exact this
  have k1 : W0.cell? ⟨w1.heap.size + 1 + 1 + 1, 0, none⟩ = some (.int .i64 lo) := by
    rw [← hW0]; have := ((Boxed.new (((w1.alloc (.cells #[.slice none 0 0] 22)).alloc (.cells #[.int .i64 0] 3)).alloc (.cells #[.pointer (some a)] 24)) 3 (.int .i64 lo)).alloc (.cells #[.int .i64 hi] 3)).cell; rw [World.size_alloc, World.size_alloc, World.size_alloc] at this; exact this
  have k2 : W0.cell? ⟨w1.heap.size + 1 + 1 + 1 + 1, 0, none⟩ = some (.int .i64 hi) := by
    rw [← hW0]; have := (Boxed.new ((((w1.alloc (.cells #[.slice none 0 0] 22)).alloc (.cells #[.int .i64 0] 3)).alloc (.cells #[.pointer (some a)] 24)).alloc (.cells #[.int .i64 lo] 3)) 3 (.int .i64 hi)).cell; rw [World.size_alloc, World.size_alloc, World.size_alloc, World.size_alloc] at this; exact this
  clear hW0 c5'
  have hIo : OwnFrom W0.heap.size (fun (pre : List Rn) W => (∃ v, Boxed W w1.heap.size 22 v ∧ W.ownsRow w1.heap.size 35 3 v (midR from_ to pre).length (cellsR (midR from_ to pre)) ∧ True) ∧ (Boxed W (w1.heap.size + 1) 3 (.int .i64 (wrap64 (midN from_ pre))) ∧ Below w1.heap.size w1 W)) :=
    OwnFrom.and (Own.from (holdsRow_own w1.heap.size w1.heap.size 22 35 3 (fun pre : List Rn => (midR from_ to pre).length) (fun pre => cellsR (midR from_ to pre)) (fun _ _ => True)) _) (OwnFrom.and (ownFrom_boxedF _ _ _ (fun pre : List Rn => Value.int .i64 (wrap64 (midN from_ pre)))) (ownFrom_below (Nat.le_refl _) (by omega)))
  refine wpIn_rangeFunc_ownH (F := Fence.wide) rfl (by omega) (gf := 79) (lb := #[.pointer (some ⟨w1.heap.size + 1 + 1, 0, none⟩), .pointer (some ⟨w1.heap.size + 1 + 1 + 1, 0, none⟩), .pointer (some ⟨w1.heap.size + 1 + 1 + 1 + 1, 0, none⟩)]) rfl trivial (enters_of Try.func79 (by kernel_rfl) rfl)
    (within_stops (3 - 1) w1.heap.size (w1.heap.size + 1 + 1) (w1.heap.size + 1 + 1 + 1) (w1.heap.size + 1 + 1 + 1 + 1) lo hi (some a) T W0 k0 k1 k2 (by omega) (by omega) (by omega) hB0.size (IsTree.below hB0 hT1) oT hp2) belowK_t (belowK_b (by omega)) (Below.refl _ _) (fun _ => rfl)
    (fun (pre : List Rn) W => (∃ v, Boxed W w1.heap.size 22 v ∧ W.ownsRow w1.heap.size 35 3 v (midR from_ to pre).length (cellsR (midR from_ to pre)) ∧ True) ∧ (Boxed W (w1.heap.size + 1) 3 (.int .i64 (wrap64 (midN from_ pre))) ∧ Below w1.heap.size w1 W))
    (fun _ _ _ => False) hIo (fun _ _ _ _ _ hf _ _ => hf.elim)
    ⟨⟨_, bO, World.ownsRow_nil _ _ _ _, trivial⟩, by rw [show wrap64 (midN from_ []) = 0 from by simp [midN, segs, Tr.totalOf, wrap64]]; exact bN, hB0⟩
    (fun x a' W => ∃ Bx v, (BoxR W Bx x ∧ Boxed W w1.heap.size 22 v ∧ v.ownBlock ≠ some Bx ∧ w1.heap.size ≤ Bx) ∧ a' = { tmps := #[Value.agg #[Value.pointer (some a)], Value.int IntKind.i64 lo, Value.int IntKind.i64 hi, Value.int IntKind.i64 from_, Value.int IntKind.i64 to, Value.pointer (some { block := w.heap.size, off := 0 }), undef, undef,
          Value.pointer (some { block := w.heap.size + 1, off := 0 }), Value.pointer (some { block := w.heap.size + 1 + 1, off := 0 }), Value.pointer (some { block := w.heap.size + 1 + 1 + 1, off := 0 }), Value.int IntKind.i64 0, Value.int IntKind.i64 0, Value.int IntKind.i64 0,
          Value.pointer (some { block := w1.heap.size, off := 0 }), Value.pointer (some { block := w1.heap.size + 1, off := 0 }), Value.pointer (some { block := Bx, off := 0 }), undef, undef, undef, undef, undef, undef,
          Value.agg #[Value.pointer (some a)], Value.int IntKind.i64 lo, Value.int IntKind.i64 hi, Value.int IntKind.i64 0, Value.int IntKind.i64 0, Value.bool false, undef, undef, Value.int IntKind.i64 from_, Value.bool true, Value.bool false, Value.bool false, Value.int IntKind.i64 to, Value.bool true,
          Value.bool false, Value.bool false, undef, Value.pointer (some { block := w.heap.size, off := 0 }), Value.pointer (some a), Value.int IntKind.i64 lo, Value.int IntKind.i64 hi,
          Value.func (Fn.func 79) #[] #[Value.pointer (some { block := w1.heap.size + 1 + 1, off := 0 }), Value.pointer (some { block := w1.heap.size + 1 + 1 + 1, off := 0 }), Value.pointer (some { block := w1.heap.size + 1 + 1 + 1 + 1, off := 0 })],
          Value.agg #[Value.int IntKind.i64 x.lo, Value.int IntKind.i64 x.hi, Value.int IntKind.i64 x.tag], undef, undef, undef, undef, undef, undef, undef, undef, undef, undef, undef, undef, undef, undef, undef, undef, undef, undef, undef, undef, undef, undef, undef, undef, undef, undef, undef, undef, undef, undef, undef, undef, undef, undef, undef, undef, undef, undef, undef, undef, undef, undef, undef, undef, undef, undef, undef], defers := [] })
    (fun x a' _ A B row ⟨Bx, v, ⟨hb, hb1, hb2, hb3⟩, ha⟩ hg hr => ⟨Bx, v, ⟨(hg.block Bx (Array.getElem?_eq_some_iff.1 hb).1 (fun e => by
      obtain ⟨_, o, ho, hc⟩ := hr Bx e.symm
      rw [show A.heap[Bx]? = _ from hb] at ho; cases ho; cases hc)).trans hb, ownFrom_boxed (β := Unit) _ _ _ _ () A B row hb1 hg hr, hb2, hb3⟩, ha⟩) ?assign ?body ?done ?stop
  case assign =>
    intro l pre x W K hI hK
    dsimp only [encR]
    gi_wp2
    have hI' := hI
    obtain ⟨⟨v, hv, hrow, -⟩, _, hB⟩ := hI'
    exact hK _ _ ((KeepsOthers.alloc _ _).from _) ((Below.refl _ _).alloc hI.2.2.size _) (OwnFrom.alloc hIo _ hI) ⟨W.heap.size, v, ⟨heap_alloc_new W _, hv.alloc _, fun e => by have := (OwnRuns.row_ge (L := midR from_ to pre) hrow _ e).2; omega, hB.size⟩, rfl⟩
  case body =>
    rintro l pre x a' W hl ⟨r, hr⟩ ⟨⟨v, hv, hrow, -⟩, hn, hB⟩ ⟨Bx, v_, ⟨hBx, hv_, hne, hge⟩, rfl⟩ hlt
    obtain rfl : v = v_ := by
      have := (show W.heap[w1.heap.size]? = _ from hv).symm.trans hv_
      simpa using this
    have hO : OwnRuns W w1.heap.size v (midR from_ to pre) := hrow
    obtain ⟨A, c, rfl⟩ := hO.sliced
    have ml := midR_length from_ to pre
    have u8 := v8.kept (Below.grownBy hB) (by simp)
    have u9 := v9.kept (Below.grownBy hB) (by simp)
    have y8 := u8.cell
    have y9 := u9.cell
    have e8 := u8.lt
    have e9 := u9.lt
    have yv := hv.cell
    have fv := hv.frozen
    have ev := hv.lt
    have yn := hn.cell
    have fn := hn.frozen
    have en := hn.lt
    have x0 : W.cell? ⟨Bx, 0, none⟩ = some (.int .i64 x.lo) := cell_of_row W Bx 0 _ _ _ hBx
    have x1 : W.cell? ⟨Bx, 1, none⟩ = some (.int .i64 x.hi) := cell_of_row W Bx 1 _ _ _ hBx
    have x2 : W.cell? ⟨Bx, 2, none⟩ = some (.int .i64 x.tag) := cell_of_row W Bx 2 _ _ _ hBx
    have xf : W.frozen? ⟨Bx, 2, none⟩ = false := by unfold BoxR at hBx; simp [World.frozen?, hBx]
    have ex := (Array.getElem?_eq_some_iff.1 hBx).1
    have nb1 : ¬ Bx = w1.heap.size + 1 := by
      rintro rfl
      unfold BoxR at hBx
      rw [show W.heap[w1.heap.size + 1]? = _ from hn] at hBx
      simp at hBx
    have nb0 : ¬ Bx = w1.heap.size := by
      rintro rfl
      unfold BoxR at hBx
      rw [show W.heap[w1.heap.size]? = _ from hv] at hBx
      simp at hBx
    have nb1' : ¬ w1.heap.size + 1 = Bx := fun e => nb1 e.symm
    have nb0' : ¬ w1.heap.size = Bx := fun e => nb0 e.symm
    have HO := Lib.hid hO
    have HRow := Lib.hid hrow
    clear hO hrow
    by_cases he : x.tag = from_
    · have t1 : (x.tag == from_) = true := by simpa using he
      gi_wp2_with (fail)
      have g1 : Boxed ((W.setCell ⟨w1.heap.size + 1, 0, none⟩ (.int .i64 (wrap64 (wrap64 (midN from_ pre) + wrap64 (x.hi - x.lo))))).setCell ⟨Bx, 2, none⟩ (.int .i64 to)) w1.heap.size 22 (.slice A (midR from_ to pre).length c) := boxed_far (boxed_far hv (by omega)) nb0'
      have g2 : Boxed ((W.setCell ⟨w1.heap.size + 1, 0, none⟩ (.int .i64 (wrap64 (wrap64 (midN from_ pre) + wrap64 (x.hi - x.lo))))).setCell ⟨Bx, 2, none⟩ (.int .i64 to)) (w1.heap.size + 1) 3 (.int .i64 (wrap64 (wrap64 (midN from_ pre) + wrap64 (x.hi - x.lo)))) := boxed_far (hn.set _) nb1'
      have g3 : OwnRuns ((W.setCell ⟨w1.heap.size + 1, 0, none⟩ (.int .i64 (wrap64 (wrap64 (midN from_ pre) + wrap64 (x.hi - x.lo))))).setCell ⟨Bx, 2, none⟩ (.int .i64 to)) w1.heap.size (.slice A (midR from_ to pre).length c) (midR from_ to pre) := (HO.out.set_far (fun e => hn.not_row (by decide) HRow.out e.symm)).set_far hne
      have g4 : KeepsOthers W ((W.setCell ⟨w1.heap.size + 1, 0, none⟩ (.int .i64 (wrap64 (wrap64 (midN from_ pre) + wrap64 (x.hi - x.lo))))).setCell ⟨Bx, 2, none⟩ (.int .i64 to)) := (KeepsOthers.setCell _ _ _).trans (KeepsOthers.setCell _ _ _)
      have g5 : Below w1.heap.size W ((W.setCell ⟨w1.heap.size + 1, 0, none⟩ (.int .i64 (wrap64 (wrap64 (midN from_ pre) + wrap64 (x.hi - x.lo))))).setCell ⟨Bx, 2, none⟩ (.int .i64 to)) := ((Below.refl _ _).setCell (p := ⟨w1.heap.size + 1, 0, none⟩) (show w1.heap.size ≤ w1.heap.size + 1 by omega) _).setCell (p := ⟨Bx, 2, none⟩) hge _
      have er : recol from_ to x = ⟨x.lo, x.hi, to⟩ := by unfold recol; rw [if_pos he]
      have en' : wrap64 (wrap64 (midN from_ pre) + wrap64 (x.hi - x.lo)) = wrap64 (midN from_ (pre ++ [x])) := by rw [wrap64_add, midN_snoc, if_pos he]
      have EN := Lib.hid en'
      clear en'
      generalize World.setCell (World.setCell W _ _) _ _ = W1 at *
      refine ⟨trivial, ?_⟩
      refine ((callsIn_wide.2 (push_any W1 w1.heap.size _ (midR from_ to pre) ⟨x.lo, x.hi, to⟩ g3 (by have := g1.lt; omega) (by omega))).inRound l).mono ?_
      rintro e w2 ⟨v', rfl, hP, hg, -⟩
      rw [← er, ← midR_snoc] at hP
      obtain ⟨q1, q2, q3, q4, q5, q6⟩ := push_round g1 g2 g3 hg hP
      obtain ⟨A', c', rfl⟩ := hP.sliced
      have j1 := q6.cell
      have j2 := q6.frozen
      have j3 := q6.lt
      gi_wp2_with (fail)
      rw [EN.out] at q5
      exact ⟨(g4.trans q1).from _, g5.trans q2, ⟨_, q3, q4, trivial⟩, q5, hB.trans (g5.trans q2)⟩
    · have t1 : (x.tag == from_) = false := by simpa using he
      gi_wp2_with (fail)
      have er : recol from_ to x = x := by unfold recol; rw [if_neg he]
      have en' : midN from_ pre = midN from_ (pre ++ [x]) := by rw [midN_snoc, if_neg he]; omega
      refine ⟨trivial, ?_⟩
      refine ((callsIn_wide.2 (push_any W w1.heap.size _ (midR from_ to pre) x HO.out (by omega) (by omega))).inRound l).mono ?_
      rintro e w2 ⟨v', rfl, hP, hg, -⟩
      have hP : OwnRuns w2 w1.heap.size v' (midR from_ to (pre ++ [x])) := by rw [midR_snoc, er]; exact hP
      obtain ⟨q1, q2, q3, q4, q5, q6⟩ := push_round hv hn HO.out hg hP
      obtain ⟨A', c', rfl⟩ := hP.sliced
      have j1 := q6.cell
      have j2 := q6.frozen
      have j3 := q6.lt
      gi_wp2_with (fail)
      rw [en'] at q5
      exact ⟨q1.from _, q2, ⟨_, q3, q4, trivial⟩, q5, hB.trans q2⟩
  case done =>
    rintro D ys W hD rfl ⟨⟨v, hv, hrow, -⟩, hn, hB⟩ hK
    have hDl : D < W.heap.size := (Array.getElem?_eq_some_iff.1 hK).1
    have hO : OwnRuns W w1.heap.size v (midR from_ to (vis lo hi T 0)) := hrow
    obtain ⟨A, c, rfl, hc, hRm⟩ := hO.runs
    have a5 := v5.kept (Below.grownBy hB) (by simp)
    have a10 := v10.kept (Below.grownBy hB) (by simp)
    have y5 := a5.cell
    have e5 := a5.lt
    have bB := Lib.hid hB
    clear hO hrow
    gi_wp2_with (fail)
    refine ⟨trivial, ?_⟩
    refine (callsIn_wide.2 (split_any T W (some a) lo (IsTree.below hB hT1 |> fun t => by exact t.mono hB.size) bT oT h0 (by omega) hp2)).mono ?_
    rintro e w2 ⟨pa, pr, rfl, hA, hR, hb2⟩
    have b5 := hv.kept (Below.grownBy hb2) (by simp)
    gi_wp2_with (fail)
    refine ⟨trivial, ?_⟩
    refine (callsIn_wide.2 (split_any (Tr.split T lo).2 w2 pr (hi - lo) hR s2 s4 (by omega) (by omega) (by omega))).mono ?_
    rintro e w3 ⟨pm, pb, rfl, hM, hBt, hb3⟩
    have b6 := b5.kept (Below.grownBy hb3) (by simp)
    have y14 := b6.cell
    have e14 := b6.lt
    gi_wp2_with (fail)
    refine ⟨trivial, ?_⟩
    refine (callsIn_wide.2 (build_any (midR from_ to (vis lo hi T 0)).length (midR from_ to (vis lo hi T 0)) w3 A c (Nat.le_refl _) (by have := M3.out; omega) hc ((hRm.below hb2).below hb3) M5.out (by rw [M6.out]; omega))).mono ?_
    rintro e w4 ⟨pl, rfl, hL4, hb4⟩
    rw [HBD.out] at hL4
    gi_wp2_with (fail)
    refine ⟨trivial, ?_⟩
    refine (callsIn_wide.2 (concat_any (Tr.split T lo).1 B w4 pa pl ((hA.below hb3).below hb4) hL4 s1 n2 s3 u1 (by rw [u2]; omega))).mono ?_
    rintro e w5 ⟨pc, rfl, hC, hb5⟩
    gi_wp2_with (fail)
    refine ⟨trivial, ?_⟩
    refine (callsIn_wide.2 (concat_any _ (Tr.split (Tr.split T lo).2 (hi - lo)).2 w5 pc pb hC ((hBt.below hb4).below hb5) (Tr.concat_bal _ _ s1 n2) r2 u3 r4 (by rw [u4]; omega))).mono ?_
    rintro e w6 ⟨pd, rfl, hD6, hb6⟩
    obtain ⟨d, rfl⟩ : ∃ d, pd = some d := by
      cases hD0 : Tr.concat (Tr.concat (Tr.split T lo).1 B) (Tr.split (Tr.split T lo).2 (hi - lo)).2 with
      | nil => exact (NZ.out hD0).elim
      | node _ _ _ _ => rw [hD0] at hD6; obtain ⟨b, _, _, hh, _⟩ := hD6; exact ⟨_, hh⟩
    have hB6 : Below w.heap.size w w6 := (hB1.trans (((((bB.out.trans (hb2.mono bB.out.size)).trans (hb3.mono (by have := hb2.size; have := bB.out.size; omega))).trans (hb4.mono (by have := hb3.size; have := hb2.size; have := bB.out.size; omega))).trans (hb5.mono (by have := hb4.size; have := hb3.size; have := hb2.size; have := bB.out.size; omega))).trans (hb6.mono (by have := hb5.size; have := hb4.size; have := hb3.size; have := hb2.size; have := bB.out.size; omega)) |>.mono hB1.size))
    have p10 := ((((a10.kept (Below.grownBy hb2) (by simp)).kept (Below.grownBy hb3) (by simp)).kept (Below.grownBy hb4) (by simp)).kept (Below.grownBy hb5) (by simp)).kept (Below.grownBy hb6) (by simp)
    have p15 := ((((hn.kept (Below.grownBy hb2) (by simp)).kept (Below.grownBy hb3) (by simp)).kept (Below.grownBy hb4) (by simp)).kept (Below.grownBy hb5) (by simp)).kept (Below.grownBy hb6) (by simp)
    by_cases hfew : 4096 < (Tr.concat (Tr.concat (Tr.split T lo).1 B) (Tr.split (Tr.split T lo).2 (hi - lo)).2).num
    · gi_wp2_with (fail)
      refine ⟨trivial, ?_⟩
      refine (callsIn_wide.2 (few_no w6 d _ hD6 NZ.out hfew)).mono ?_
      rintro e w7 ⟨rfl, hb7⟩
      have g10 := p10.kept (Below.grownBy hb7) (by simp)
      have y10 := g10.cell
      have f10 := g10.frozen
      have e10 := g10.lt
      have e7 : w.heap.size + 1 + 1 + 1 < (w7.alloc (.cells #[.pointer none] 26)).heap.size := by rw [World.size_alloc]; omega
      gi_wp2_with (fail)
      have hE : swapR L lo hi from_ to = (5, 0, []) := by
        unfold swapR
        have hx' := hx.out
        unfold rangesR at hx'
        rw [if_neg gL] at hx' ⊢
        by_cases hr0 : lo < 0 ∨ hi < lo ∨ Tr.total L < hi
        · rw [if_pos hr0] at hx'; cases hx'
        · rw [if_neg hr0, if_neg (by have := hf.out; have := ht.out; omega), if_pos]
          rw [← eT, ← ED.out, ← Tr.num_list]; exact hfew
      have kD := (hb7.block D (by have := hb6.size; have := hb5.size; have := hb4.size; have := hb3.size; have := hb2.size; omega)).trans ((hb6.block D (by have := hb5.size; have := hb4.size; have := hb3.size; have := hb2.size; omega)).trans ((hb5.block D (by have := hb4.size; have := hb3.size; have := hb2.size; omega)).trans ((hb4.block D (by have := hb3.size; have := hb2.size; omega)).trans ((hb3.block D (by have := hb2.size; omega)).trans ((hb2.block D (by omega)).trans hK)))))
      have d7 : D < w7.heap.size := (Array.getElem?_eq_some_iff.1 kD).1
      have hB7 : Below w.heap.size w w7 := hB6.trans (hb7.mono hB6.size)
      generalize hwf : World.alloc _ _ = wf
      have kF : wf.heap[D]? = some (.deferred (some [])) := by
        rw [← hwf, heap_alloc_old _ _ (show D < (w7.setCell ⟨w.heap.size + 1 + 1 + 1, 0, none⟩ _).heap.size by simpa [World.setCell] using d7), Below.heap_setCell w7 ⟨w.heap.size + 1 + 1 + 1, 0, none⟩ _ D (by show D ≠ w.heap.size + 1 + 1 + 1; omega)]; exact kD
      have gF : Boxed wf (w.heap.size + 1 + 1 + 1) 26 (.pointer none) := hwf ▸ (g10.set _).alloc _
      have bF : Below w.heap.size w wf := hwf ▸ Below.alloc (hB7.setCell (p := ⟨w.heap.size + 1 + 1 + 1, 0, none⟩) (show w.heap.size ≤ w.heap.size + 1 + 1 + 1 by omega) _) (by have := hB7.size; simp [World.setCell]; omega) _
      clear hwf
      refine ⟨by simp, .inl ⟨_, _, rfl, run_takeDeferred kF, ?_⟩⟩
      refine ⟨.tuple #[.agg #[.pointer none], .int .i64 0, .int .i64 5], ?_, none, by rw [hE], by rw [hE]; exact Rep.none _, bF.trans (belowK_b (w := w) (Nat.le_refl _) wf D _ _ (by omega) kF rfl rfl)⟩
      have r10 := (gF.kept (grownBy_putObj' wf D (.deferred .none)) (by simp; omega)).cell
      simp [results, Try.results24, go_sem, r10]
    · gi_wp2_with (fail)
      refine ⟨trivial, ?_⟩
      refine (callsIn_wide.2 (few_yes w6 d _ hD6 NZ.out (by omega))).mono ?_
      rintro e w7 ⟨rfl, hb7⟩
      have g10 := p10.kept (Below.grownBy hb7) (by simp)
      have g15 := p15.kept (Below.grownBy hb7) (by simp)
      have y10 := g10.cell
      have f10 := g10.frozen
      have e10 := g10.lt
      have y15 := g15.cell
      have e15 := g15.lt
      gi_wp2_with (fail)
      gi_region
      gi_wp2_with (fail)
      have hE : swapR L lo hi from_ to = (0, midN from_ (clipL lo hi 0 L), swapL L lo hi from_ to) := by
        unfold swapR
        have hx' := hx.out
        unfold rangesR at hx'
        rw [if_neg gL] at hx' ⊢
        by_cases hr0 : lo < 0 ∨ hi < lo ∨ Tr.total L < hi
        · rw [if_pos hr0] at hx'; cases hx'
        · rw [if_neg hr0, if_neg (by have := hf.out; have := ht.out; omega), if_neg]
          rw [← eT, ← ED.out, ← Tr.num_list]; omega
      have hG := (swapR_good (.inr h.good.1) lo hi from_ to)
      rw [hE] at hG
      have kD := (hb7.block D (by have := hb6.size; have := hb5.size; have := hb4.size; have := hb3.size; have := hb2.size; omega)).trans ((hb6.block D (by have := hb5.size; have := hb4.size; have := hb3.size; have := hb2.size; omega)).trans ((hb5.block D (by have := hb4.size; have := hb3.size; have := hb2.size; omega)).trans ((hb4.block D (by have := hb3.size; have := hb2.size; omega)).trans ((hb3.block D (by have := hb2.size; omega)).trans ((hb2.block D (by omega)).trans hK)))))
      have d7 : D < w7.heap.size := (Array.getElem?_eq_some_iff.1 kD).1
      have hB7 : Below w.heap.size w w7 := hB6.trans (hb7.mono hB6.size)
      have hD7 := Tree.set_ (b := w.heap.size + 1 + 1 + 1) ⟨_, _, _, g10, by decide⟩ 0 none (.pointer (some d)) (hD6.below hb7)
      have hNv : wrap64 (midN from_ (vis lo hi T 0)) = midN from_ (clipL lo hi 0 L) := by
        have hvc := vis_clipL lo hi T 0 oT
        rw [eT] at hvc
        have oL : Tr.OkL L := h.good.1.2.1
        have b := totalOf_bounds (clipL_facts (lo := lo) (hi := hi) (k := 0) oL).1 from_
        have c := (clipL_chain (lo := lo) (hi := hi) (k := 0) oL (by omega) (by have := Tr.pcs_list T; rw [eT] at this; omega)).total
        rw [hvc]
        unfold midN wrap64
        omega
      generalize hwf : World.drew _ = wf
      have kF : wf.heap[D]? = some (.deferred (some [])) := by
        rw [← hwf]
        show (World.alloc _ _).heap[D]? = _
        rw [heap_alloc_old _ _ (show D < (w7.setCell ⟨w.heap.size + 1 + 1 + 1, 0, none⟩ _).heap.size by simpa [World.setCell] using d7), Below.heap_setCell w7 ⟨w.heap.size + 1 + 1 + 1, 0, none⟩ _ D (by show D ≠ w.heap.size + 1 + 1 + 1; omega)]; exact kD
      have gF : Boxed wf (w.heap.size + 1 + 1 + 1) 26 (.pointer (some d)) := hwf ▸ ((g10.set _).alloc _)
      have bF : Below w.heap.size w wf := hwf ▸ (Below.alloc (hB7.setCell (p := ⟨w.heap.size + 1 + 1 + 1, 0, none⟩) (show w.heap.size ≤ w.heap.size + 1 + 1 + 1 by omega) _) (by have := hB7.size; simp [World.setCell]; omega) _).drew
      have tF : Tree wf (some d) (Tr.concat (Tr.concat (Tr.split T lo).1 B) (Tr.split (Tr.split T lo).2 (hi - lo)).2) := hwf ▸ ((hD7.below (Below.alloc1 _ _)).drewN 1)
      clear hwf
      have bP := belowK_b (w := w) (Nat.le_refl _) wf D _ (Obj.deferred .none) (by omega) kF rfl rfl
      refine ⟨by simp, .inl ⟨_, _, rfl, run_takeDeferred kF, ?_⟩⟩
      refine ⟨.tuple #[.agg #[.pointer (some d)], .int .i64 (midN from_ (clipL lo hi 0 L)), .int .i64 0], ?_, some d, by rw [hE], ?_, bF.trans bP⟩
      · have r10 := (gF.kept (grownBy_putObj' wf D (.deferred .none)) (by simp; omega)).cell
        simp [results, Try.results24, go_sem, r10, hNv]
      · rw [hE]
        exact ⟨_, IsTree.mono (grownBy_putObj' wf D _).size (IsTree.putObj_ kF rfl _ tF), bD, by rw [ED.out, eT], hG⟩
  case stop =>
    rintro D c pre' W hD hpre hf hK
    exact hf.elim
end Go.Proofs.Ytfmplibjhohpgaa
