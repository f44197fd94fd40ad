/- The function that Merge hands to zip. The walk over the function that Merge hands to zip. The walk over Merge of package span, whatever the maps. -/
import Derived.Test.YtfmplibjhohpgaaSpDiff
import Derived.Test.YtfmplibjhohpgaaSpSwap
import Derived.Test.YtfmplibjhohpgaaSpMergeP
namespace Go.Proofs.Ytfmplibjhohpgaa
section
open Go.RowKit Go.Shelf
attribute [local go_sem] Oper.semAt_some

/-- The lists of Merge, in their boxes. -/
def MR (c2 c3 n1 : Nat) (s : List Rn × List Ch) (W : World) : Prop :=
  ∃ v2 v3, Boxed W c2 68 v2 ∧ OwnChs W n1 v2 s.2 ∧ Boxed W c3 22 v3 ∧ OwnRuns W n1 v3 s.1
/-- The blocks that a round may turn. -/
def TQ (c2 c3 : Nat) (v2 v3 : Value) (Bx k : Nat) : Prop := k = c2 ∨ k = c3 ∨ v2.ownBlock = some k ∨ v3.ownBlock = some k ∨ k = Bx
/-- What holds between two rounds. -/
structure MI (We : World) (c2 c3 n0 n1 : Nat) (z : Pr) (s : List Rn × List Ch) (W : World) : Prop where
  r : MR c2 c3 n1 s W
  p : BoxP W We.heap.size z
  k : ∀ k, k < We.heap.size → ((n0 ≤ k ∧ k < n1) ∨ ∃ z', BoxP We k z') → W.heap[k]? = We.heap[k]?
  b : Below c3 We W
theorem OwnChs.cells_ {w : World} {base : Nat} {v : Value} {L : List Ch} (h : OwnChs w base v L) {k : Nat} (hk : v.ownBlock = some k) : ∃ cs, w.heap[k]? = some (.cells cs 74 (0, 0)) := by
  rcases h.2 with ⟨h1, _⟩ | ⟨g, cap, cur, e, hg, hh, _⟩
  · rw [h1] at hk; cases hk
  · rw [e] at hk
    have : g = k := by simpa [Value.ownBlock] using hk
    subst this; exact ⟨_, hh⟩
theorem OwnRuns.cells_ {w : World} {base : Nat} {v : Value} {L : List Rn} (h : OwnRuns w base v L) {k : Nat} (hk : v.ownBlock = some k) : ∃ cs, w.heap[k]? = some (.cells cs 35 (0, 0)) := by
  rcases h.2 with ⟨h1, _⟩ | ⟨g, cap, cur, e, hg, hh, _⟩
  · rw [h1] at hk; cases hk
  · rw [e] at hk
    have : g = k := by simpa [Value.ownBlock] using hk
    subst this; exact ⟨_, hh⟩
theorem OwnChs.kept_by {w w' : World} {base : Nat} {v : Value} {L : List Ch} (h : OwnChs w base v L) (hk : ∀ k, v.ownBlock = some k → w'.heap[k]? = w.heap[k]?) : OwnChs w' base v L := by
  obtain ⟨h1, h2⟩ := h
  refine ⟨h1, ?_⟩
  rcases h2 with h2 | ⟨g, cap, cur, e, hg, hh, r⟩
  · exact .inl h2
  · exact .inr ⟨g, cap, cur, e, hg, (hk g (by rw [e]; rfl)).trans hh, r⟩
theorem OwnRuns.kept_by {w w' : World} {base : Nat} {v : Value} {L : List Rn} (h : OwnRuns w base v L) (hk : ∀ k, v.ownBlock = some k → w'.heap[k]? = w.heap[k]?) : OwnRuns w' base v L := by
  obtain ⟨h1, h2⟩ := h
  refine ⟨h1, ?_⟩
  rcases h2 with h2 | ⟨g, cap, cur, e, hg, hh, r⟩
  · exact .inl h2
  · exact .inr ⟨g, cap, cur, e, hg, (hk g (by rw [e]; rfl)).trans hh, r⟩
theorem ownFrom_MI (We : World) (c2 c3 n0 n1 : Nat) (z : Pr) (f : List Rn → List Rn × List Ch) {B : Nat} (hB : We.heap.size < B) (_h2 : c2 < B) (h3 : c3 < B) : OwnFrom B (fun pre W => MI We c2 c3 n0 n1 z (f pre) W) := by
  rintro pre W W' row ⟨⟨v2, v3, b2, o2, b3, o3⟩, hp, hk, hb⟩ hg hr
  have key : ∀ (k : Nat) (cs : Array Value) (t : TypeId), W.heap[k]? = some (Obj.cells cs t (0, 0)) → W'.heap[k]? = W.heap[k]? := fun k cs t h => hg.block k (Array.getElem?_eq_some_iff.1 h).1 (fun e => by
    obtain ⟨_, o, ho, hc⟩ := hr k e.symm
    rw [h] at ho; cases ho; cases hc)
  have low : ∀ k, k < B → k < W.heap.size → W'.heap[k]? = W.heap[k]? := fun k h h' => hg.block k h' (fun e => by have := (hr k e.symm).1; omega)
  refine ⟨⟨v2, v3, (key _ _ _ b2).trans b2, o2.kept_by fun k e => ?_, (key _ _ _ b3).trans b3, o3.kept_by fun k e => ?_⟩, (key _ _ _ hp).trans hp, fun k h h' => ?_, hb.grown hg (by have := hb.size; have := Boxed.lt b3; omega) (fun k e => by have := (hr k e).1; omega)⟩
  · obtain ⟨cs, h⟩ := o2.cells_ e; exact key _ _ _ h
  · obtain ⟨cs, h⟩ := o3.cells_ e; exact key _ _ _ h
  · exact (low k (by omega) (by have := hb.size; omega)).trans (hk k h h')
/-- A round ends. -/
theorem MI.step {We W W' : World} {c2 c3 n0 n1 Bx : Nat} {z : Pr} {s s' : List Rn × List Ch} {v2 v3 : Value} {x : Rn} (h : MI We c2 c3 n0 n1 z s W) (h32 : c3 < c2) (h20 : c2 < n0) (h01 : n0 ≤ n1) (hn1 : n1 ≤ We.heap.size) (b2 : Boxed W c2 68 v2) (o2 : OwnChs W n1 v2 s.2) (b3 : Boxed W c3 22 v3) (o3 : OwnRuns W n1 v3 s.1)
    (hx : BoxR W Bx x) (hBx : We.heap.size < Bx) (hs : Spares (TQ c2 c3 v2 v3 Bx) W W') (hr : MR c2 c3 n1 s' W') (B : Nat) : KeepsFrom B W W' ∧ Below c3 W W' ∧ MI We c2 c3 n0 n1 z s' W' := by
  have t : ∀ k, TQ c2 c3 v2 v3 Bx k → (∃ (cs : Array Value) (t : TypeId), W.heap[k]? = some (Obj.cells cs t (0, 0)) ∧ t ≠ 123) ∧ c3 ≤ k ∧ (k < n0 ∨ n1 ≤ k) := by
    rintro k (rfl | rfl | e | e | rfl)
    · exact ⟨⟨_, _, b2, by decide⟩, by omega, .inl h20⟩
    · exact ⟨⟨_, _, b3, by decide⟩, Nat.le_refl _, .inl (by omega)⟩
    · obtain ⟨cs, hh⟩ := o2.cells_ e
      have := (o2.row e).1
      exact ⟨⟨_, _, hh, by decide⟩, by omega, .inr this⟩
    · obtain ⟨cs, hh⟩ := o3.cells_ e
      have := (o3.row_ge k e).1
      exact ⟨⟨_, _, hh, by decide⟩, by omega, .inr this⟩
    · exact ⟨⟨_, _, hx, by decide⟩, by omega, .inr (by omega)⟩
  have np : ∀ k z', BoxP W k z' → ¬ TQ c2 c3 v2 v3 Bx k := fun k z' hz ht => by
    obtain ⟨⟨cs, t', hh, hne⟩, _⟩ := t k ht
    unfold BoxP at hz
    rw [hh] at hz
    simp at hz
    exact hne hz.2
  have hB : Below c3 W W' := hs.below (by have := Boxed.lt b3; omega) fun k hk => (t k hk).2.1
  refine ⟨KeepsOthers.from ⟨hs.size, fun k o hk ho => ?_⟩ _, hB, hr, ?_, fun k hk hk' => ?_, h.b.trans hB⟩
  · refine (hs.block k (Array.getElem?_eq_some_iff.1 hk).1 fun ht => ?_).trans hk
    obtain ⟨⟨cs, t', hh, _⟩, _⟩ := t k ht
    rw [hh] at hk; cases hk; cases ho
  · exact (hs.block _ (BoxP.lt h.p) (np _ _ h.p)).trans h.p
  · have hW := h.k k hk hk'
    refine (hs.block k (by have := h.b.size; omega) fun ht => ?_).trans hW
    rcases hk' with ⟨a, b⟩ | ⟨z', hz'⟩
    · have := (t k ht).2.2; omega
    · exact np k z' (by unfold BoxP at hz' ⊢; rw [hW]; exact hz') ht
theorem rows_apart {W : World} {n1 : Nat} {v2 v3 : Value} {C : List Ch} {R : List Rn} (o2 : OwnChs W n1 v2 C) (o3 : OwnRuns W n1 v3 R) {k : Nat} (e : v2.ownBlock = some k) (e' : v3.ownBlock = some k) : False := by
  obtain ⟨_, h⟩ := o2.cells_ e
  obtain ⟨_, h'⟩ := o3.cells_ e'
  rw [h] at h'; simp at h'
/-- The end of push: the slice of runs is stored. -/
theorem mr_push {W1 w2 : World} {c2 c3 n1 : Nat} {v2 v3 v3' : Value} {C : List Ch} {R R' : List Rn} (h32 : c3 < c2) (h21 : c2 < n1) (b2 : Boxed W1 c2 68 v2) (o2 : OwnChs W1 n1 v2 C) (b3 : Boxed W1 c3 22 v3) (o3 : OwnRuns W1 n1 v3 R)
    (hg : W1.grownBy w2 v3.ownBlock) (hP : OwnRuns w2 n1 v3' R') : Boxed w2 c3 22 v3 ∧ MR c2 c3 n1 (R', C) (w2.setCell ⟨c3, 0, none⟩ v3') := by
  have q3 : Boxed w2 c3 22 v3 := b3.kept hg (b3.not_row (by decide) o3)
  have q2 : Boxed w2 c2 68 v2 := b2.kept hg (b2.not_row (by decide) o3)
  have p2 : OwnChs w2 n1 v2 C := o2.kept_by fun k e => hg.block k (o2.row e).2.1 (fun e' => rows_apart o2 o3 e e'.symm)
  exact ⟨q3, v2, v3', boxed_far q2 (by omega), p2.set (p := ⟨c3, 0, none⟩) (show c3 < n1 by omega) _, q3.set _, hP.set (p := ⟨c3, 0, none⟩) (show c3 < n1 by omega) _⟩
/-- The end of note: the slice of changes is stored. -/
theorem mr_note {W1 w2 : World} {c2 c3 n1 Bx : Nat} {v2 v2' v3 : Value} {C C' : List Ch} {R : List Rn} {x : Rn} (h32 : c3 < c2) (h21 : c2 < n1) (b2 : Boxed W1 c2 68 v2) (o2 : OwnChs W1 n1 v2 C) (b3 : Boxed W1 c3 22 v3) (o3 : OwnRuns W1 n1 v3 R) (hx : BoxR W1 Bx x) (hBx : c2 < Bx)
    (hg : W1.grownBy w2 v2.ownBlock) (hP : OwnChs w2 n1 v2' C') : Boxed w2 c2 68 v2 ∧ Boxed (w2.setCell ⟨c2, 0, none⟩ v2') c2 68 v2' ∧ OwnChs (w2.setCell ⟨c2, 0, none⟩ v2') n1 v2' C' ∧ Boxed (w2.setCell ⟨c2, 0, none⟩ v2') c3 22 v3 ∧ OwnRuns (w2.setCell ⟨c2, 0, none⟩ v2') n1 v3 R ∧ BoxR (w2.setCell ⟨c2, 0, none⟩ v2') Bx x := by
  have q2 : Boxed w2 c2 68 v2 := b2.kept hg (b2.not_row (by decide) o2)
  have q3 : Boxed w2 c3 22 v3 := b3.kept hg (b3.not_row (by decide) o2)
  have p3 : OwnRuns w2 n1 v3 R := o3.kept_by fun k e => hg.block k (o3.row_ge k e).2 (fun e' => rows_apart o2 o3 e'.symm e)
  have x2 : BoxR w2 Bx x := (hg.block Bx (Array.getElem?_eq_some_iff.1 hx).1 (fun e => by
    obtain ⟨_, h⟩ := o2.cells_ e.symm
    unfold BoxR at hx
    rw [h] at hx; simp at hx)).trans hx
  exact ⟨q2, q2.set _, hP.set (p := ⟨c2, 0, none⟩) h21 _, boxed_far q3 (by omega), p3.set (p := ⟨c2, 0, none⟩) h21 _, (Below.heap_setCell w2 ⟨c2, 0, none⟩ _ Bx (by dsimp only; omega)).trans x2⟩
end
section
open Go.RowKit Go.Shelf
attribute [local go_sem] Oper.semAt_some

theorem fold_snoc (z : Pr) (s : List Rn × List Ch) (pre : List Rn) (x : Rn) : (pre ++ [x]).foldl (mstep z) s = mstep z (pre.foldl (mstep z) s) x := by simp
set_option maxRecDepth 100000 in
set_option maxHeartbeats 4000000 in
theorem merge_yield (W : World) (a : Addr) (T : Tr) (c1 c2 c3 n0 n1 : Nat) (z : Pr) (s : List Rn × List Ch) (b1 : Boxed W c1 26 (.pointer (some a))) (hT : IsTree c3 W (some a) T) (oT : T.Ok) (hp : T.pcs ≤ 1099511627776) (_h13 : c1 < c3) (h32 : c3 < c2) (h20 : c2 < n0) (h01 : n0 ≤ n1) (hn1 : n1 ≤ W.heap.size)
    (hr : MR c2 c3 n1 s W) (l1 : s.1.length + (vis z.lo z.hi T 0).length ≤ 900000) (l2 : s.2.length + (vis z.lo z.hi T 0).length ≤ 900000) :
    Calls Try.prog 74 #[encP z, .pointer (some ⟨c1, 0, none⟩), .pointer (some ⟨c2, 0, none⟩), .pointer (some ⟨c3, 0, none⟩)] W fun e W' => e = .returned (.bool true) ∧ MI W c2 c3 n0 n1 z ((vis z.lo z.hi T 0).foldl (mstep z) s) W' := by
  have hr0 := hr
  obtain ⟨v2, v3, b2, o2, b3, o3⟩ := hr
  have z1 := b1.lt
  have z2 := b2.lt
  have z3 := b3.lt
  have HR0 := Lib.hid hr0
  unfold encP
  refine (callsIn_wide (n := 3)).1 ?_
  refine callsIn_of_wp_marks Try.func74 rfl trivial ?_ rfl
  simp only [Try.ntmps74, List.size_toArray, List.length_cons, List.length_nil, Nat.reduceAdd, Nat.reduceSub, Array.replicate_succ, Array.replicate_zero, List.push_toArray, List.append_toArray, List.nil_append, List.cons_append]
  have p0 : BoxP (W.alloc (.cells #[.int .i64 z.lo, .int .i64 z.hi, .int .i64 z.a, .int .i64 z.b] 123)) W.heap.size z := BoxP.new W z
  have d1 : (W.alloc (.cells #[.int .i64 z.lo, .int .i64 z.hi, .int .i64 z.a, .int .i64 z.b] 123)).cell? ⟨c1, 0, none⟩ = some (.pointer (some a)) := (b1.alloc _).cell
  have d2 := p0.c0
  have d3 := p0.c1
  clear hr0 o2 o3 b2 b3
  gi_wp2_with (fail)
  refine ⟨trivial, ?_⟩
  refine (within_any 2 (some a) z.lo z.hi _).mono ?_
  rintro e w' ⟨rfl, rfl⟩
  gi_wp2_with (fail)
  obtain ⟨W0, hW0⟩ : ∃ W0, (((W.alloc (.cells #[.int .i64 z.lo, .int .i64 z.hi, .int .i64 z.a, .int .i64 z.b] 123)).alloc (.cells #[.pointer (some a)] 24)).alloc (.cells #[.int .i64 z.lo] 3)).alloc (.cells #[.int .i64 z.hi] 3) = W0 := ⟨_, rfl⟩
  rw [hW0]
  have s0 : W0.heap.size = W.heap.size + 1 + 1 + 1 + 1 := by rw [← hW0]; simp
  have hB0 : Below W.heap.size W W0 := by
    rw [← hW0]; exact ((((Below.refl _ _).alloc (Nat.le_refl _) _).alloc (by simp) _).alloc (by simp; omega) _).alloc (by simp; omega) _
  have hp0 : BoxP W0 W.heap.size z := by
    rw [← hW0]; exact ((p0.next (Below.alloc1 _ _)).next (Below.alloc1 _ _)).next (Below.alloc1 _ _)
  have k0 : W0.cell? ⟨W.heap.size + 1, 0, none⟩ = some (.pointer (some a)) := by rw [← hW0]; have := (((Boxed.new (W.alloc (.cells #[.int .i64 z.lo, .int .i64 z.hi, .int .i64 z.a, .int .i64 z.b] 123)) 24 (.pointer (some a))).alloc (.cells #[.int .i64 z.lo] 3)).alloc (.cells #[.int .i64 z.hi] 3)).cell; rw [World.size_alloc] at this; exact this
  have k1 : W0.cell? ⟨W.heap.size + 1 + 1, 0, none⟩ = some (.int .i64 z.lo) := by rw [← hW0]; have := ((Boxed.new ((W.alloc (.cells #[.int .i64 z.lo, .int .i64 z.hi, .int .i64 z.a, .int .i64 z.b] 123)).alloc (.cells #[.pointer (some a)] 24)) 3 (.int .i64 z.lo)).alloc (.cells #[.int .i64 z.hi] 3)).cell; rw [World.size_alloc, World.size_alloc] at this; exact this
  have k2 : W0.cell? ⟨W.heap.size + 1 + 1 + 1, 0, none⟩ = some (.int .i64 z.hi) := by rw [← hW0]; have := (Boxed.new (((W.alloc (.cells #[.int .i64 z.lo, .int .i64 z.hi, .int .i64 z.a, .int .i64 z.b] 123)).alloc (.cells #[.pointer (some a)] 24)).alloc (.cells #[.int .i64 z.lo] 3)) 3 (.int .i64 z.hi)).cell; rw [World.size_alloc, World.size_alloc, World.size_alloc] at this; exact this
  have hMI0 : MI W c2 c3 n0 n1 z s W0 := by
    obtain ⟨v2, v3, b2, o2, b3, o3⟩ := HR0.out
    exact ⟨⟨v2, v3, bx_next b2 hB0, o2.next hB0, bx_next b3 hB0, o3.next hB0⟩, hp0, fun k hk _ => hB0.block k hk, hB0.mono (by omega)⟩
  clear hW0 d1 d2 d3 p0 hp0
  have hIo : OwnFrom W0.heap.size (fun (pre : List Rn) W' => MI W c2 c3 n0 n1 z (pre.foldl (mstep z) s) W') := ownFrom_MI W c2 c3 n0 n1 z (fun pre => pre.foldl (mstep z) s) (by omega) (by omega) (by omega)
  refine wpIn_rangeFunc_ownH (F := Fence.wide) rfl (by omega) (gf := 79) (lb := #[.pointer (some ⟨W.heap.size + 1, 0, none⟩), .pointer (some ⟨W.heap.size + 1 + 1, 0, none⟩), .pointer (some ⟨W.heap.size + 1 + 1 + 1, 0, none⟩)]) rfl trivial (enters_of Try.func79 (by kernel_rfl) rfl)
    (within_stops (3 - 1) c3 (W.heap.size + 1) (W.heap.size + 1 + 1) (W.heap.size + 1 + 1 + 1) z.lo z.hi (some a) T W0 k0 k1 k2 (by omega) (by omega) (by omega) (by omega) (IsTree.below (hB0.mono (by omega)) hT) oT hp) belowK_t (belowK_b (by omega)) (Below.refl _ _) (fun _ => rfl)
    (fun (pre : List Rn) W' => MI W c2 c3 n0 n1 z (pre.foldl (mstep z) s) W')
    (fun _ _ _ => False) hIo (fun _ _ _ _ _ hf _ _ => hf.elim) hMI0
    (fun x a' W' => ∃ Bx v3, (BoxR W' Bx x ∧ Boxed W' c3 22 v3 ∧ v3.ownBlock ≠ some Bx ∧ W.heap.size < Bx) ∧ a' = { tmps := #[Value.agg #[Value.int IntKind.i64 z.lo, Value.int IntKind.i64 z.hi, Value.int IntKind.i64 z.a, Value.int IntKind.i64 z.b], Value.pointer (some { block := c1, off := 0 }), Value.pointer (some { block := c2, off := 0 }),
          Value.pointer (some { block := c3, off := 0 }), Value.pointer (some { block := W.heap.size, off := 0 }), Value.bool false, Value.pointer (some { block := Bx, off := 0 }), undef, Value.pointer (some { block := c1, off := 0 }), Value.pointer (some a),
          Value.pointer (some { block := W.heap.size, off := 0 }), Value.int IntKind.i64 z.lo, Value.pointer (some { block := W.heap.size, off := 1 }), Value.int IntKind.i64 z.hi,
          Value.func (Fn.func 79) #[] #[Value.pointer (some { block := W.heap.size + 1, off := 0 }), Value.pointer (some { block := W.heap.size + 1 + 1, off := 0 }), Value.pointer (some { block := W.heap.size + 1 + 1 + 1, off := 0 })],
          Value.agg #[Value.int IntKind.i64 x.lo, Value.int IntKind.i64 x.hi, Value.int IntKind.i64 x.tag], undef, undef, undef, undef, undef, undef, undef, undef, undef, undef, undef, undef, undef, undef, undef, undef, undef, undef, undef, undef, undef, undef, undef, undef, undef, undef, undef, undef, undef, undef, undef, undef, undef, undef, undef, undef, undef], defers := [] })
    (fun x a' _ A B row ⟨Bx, v, ⟨hb, hb1, hb2, hb3⟩, ha⟩ hg hr => ⟨Bx, v, ⟨(hg.block Bx (Array.getElem?_eq_some_iff.1 hb).1 (fun e => by
      obtain ⟨_, o, ho, hc⟩ := hr Bx e.symm
      rw [show A.heap[Bx]? = _ from hb] at ho; cases ho; cases hc)).trans hb, ownFrom_boxed (β := Unit) _ _ _ _ () A B row hb1 hg hr, hb2, hb3⟩, ha⟩) ?assign ?body ?done ?stop
  case assign =>
    intro l pre x W' K hI hK
    dsimp only [encR]
    gi_wp2
    have hI' := hI
    obtain ⟨⟨v2', v3', _, _, b3', o3'⟩, hp', _, hb'⟩ := hI'
    exact hK _ _ ((KeepsOthers.alloc _ _).from _) ((Below.refl _ _).alloc (by have := hb'.size; omega) _) (OwnFrom.alloc hIo _ hI) ⟨W'.heap.size, v3', ⟨heap_alloc_new W' _, b3'.alloc _, fun e => by have := (o3'.row_ge _ e).2; omega, hp'.lt⟩, rfl⟩
  case body =>
    rintro l pre x a' W' hl ⟨r, hr⟩ hI ⟨Bx, v_, ⟨hBx, hv_, hne, hge⟩, rfl⟩ hlt
    have HI := Lib.hid hI
    obtain ⟨⟨v2, v3, b2, o2, b3, o3⟩, hpb, _, hbb⟩ := hI
    obtain rfl : v3 = v_ := by
      have := (show W'.heap[c3]? = _ from b3).symm.trans hv_
      simpa using this
    obtain ⟨A3, k3, rfl⟩ := o3.sliced
    obtain ⟨A2, k2', rfl⟩ := o2.sliced
    have ml := mfold_length z pre s
    have HB2 := Lib.hid b2
    have HO2 := Lib.hid o2
    have HB3 := Lib.hid b3
    have HO3 := Lib.hid o3
    have HBX := Lib.hid hBx
    have y2 := b2.cell
    have f2 := b2.frozen
    have e2 := b2.lt
    have y3 := b3.cell
    have f3 := b3.frozen
    have e3 := b3.lt
    have pa := hpb.c2
    have pb := hpb.c3
    have pl := hpb.lt
    have x0 : W'.cell? ⟨Bx, 0, none⟩ = some (.int .i64 x.lo) := cell_of_row W' Bx 0 _ _ _ hBx
    have x1 : W'.cell? ⟨Bx, 1, none⟩ = some (.int .i64 x.hi) := cell_of_row W' Bx 1 _ _ _ hBx
    have x2 : W'.cell? ⟨Bx, 2, none⟩ = some (.int .i64 x.tag) := cell_of_row W' Bx 2 _ _ _ hBx
    have xf : W'.frozen? ⟨Bx, 2, none⟩ = false := by unfold BoxR at hBx; simp [World.frozen?, hBx]
    have ex := (Array.getElem?_eq_some_iff.1 hBx).1
    have nb3 : ¬ Bx = c3 := by omega
    have nb2 : ¬ Bx = c2 := by omega
    have nb3' : ¬ c3 = Bx := by omega
    have nb2' : ¬ c2 = Bx := by omega
    have nbp : ¬ Bx = W.heap.size := by omega
    have nbp' : ¬ W.heap.size = Bx := by omega
    have hne2 : (Value.slice A2 (pre.foldl (mstep z) s).2.length k2').ownBlock ≠ some Bx := fun e => by
      obtain ⟨_, h⟩ := o2.cells_ e
      unfold BoxR at hBx
      rw [h] at hBx; simp at hBx
    have st : ∀ v, Boxed (W'.setCell ⟨Bx, 2, none⟩ v) c2 68 (.slice A2 (pre.foldl (mstep z) s).2.length k2') ∧ OwnChs (W'.setCell ⟨Bx, 2, none⟩ v) n1 (.slice A2 (pre.foldl (mstep z) s).2.length k2') (pre.foldl (mstep z) s).2 ∧ Boxed (W'.setCell ⟨Bx, 2, none⟩ v) c3 22 (.slice A3 (pre.foldl (mstep z) s).1.length k3) ∧ OwnRuns (W'.setCell ⟨Bx, 2, none⟩ v) n1 (.slice A3 (pre.foldl (mstep z) s).1.length k3) (pre.foldl (mstep z) s).1 := fun v =>
      ⟨boxed_far HB2.out nb2', HO2.out.kept_by (fun k e => Below.heap_setCell W' ⟨Bx, 2, none⟩ v k (fun e' => hne2 (by rw [e]; exact congrArg some e'))), boxed_far HB3.out nb3', HO3.out.set_far hne⟩
    have ST := Lib.hid st
    have sp : ∀ v, Spares (TQ c2 c3 (.slice A2 (pre.foldl (mstep z) s).2.length k2') (.slice A3 (pre.foldl (mstep z) s).1.length k3) Bx) W' (W'.setCell ⟨Bx, 2, none⟩ v) := fun v => (Spares.refl _ W').set (p := ⟨Bx, 2, none⟩) (.inr (.inr (.inr (.inr rfl)))) v
    have SP := Lib.hid sp
    clear b2 o2 b3 o3 hBx hv_ st sp hbb
    by_cases hab : z.a = z.b
    · have t1 : (z.a == z.b) = true := by simpa using hab
      have g3 := ST.out (.int .i64 z.a)
      have hsp := SP.out (.int .i64 z.a)
      have HMS : Hid (mstep z (pre.foldl (mstep z) s) x = (pushRn (pre.foldl (mstep z) s).1 ⟨x.lo, x.hi, z.a⟩, (pre.foldl (mstep z) s).2)) := by show _ = _; unfold mstep; rw [if_pos (.inl hab)]
      clear hab ST SP
      gi_wp2_with (fail)
      refine ⟨trivial, ?_⟩
      refine ((callsIn_wide.2 (push_any (W'.setCell ⟨Bx, 2, none⟩ (.int .i64 z.a)) n1 _ (pre.foldl (mstep z) s).1 ⟨x.lo, x.hi, z.a⟩ g3.2.2.2 (by have := hsp.size; omega) (by omega))).inRound l).mono ?_
      rintro e w2 ⟨v', rfl, hP, hg, -⟩
      obtain ⟨q3, qM⟩ := mr_push h32 (by omega) g3.1 g3.2.1 g3.2.2.1 g3.2.2.2 hg hP
      obtain ⟨A', c', rfl⟩ := hP.sliced
      have j1 := q3.cell
      have j2 := q3.frozen
      have j3 := q3.lt
      have HS := Lib.hid ((hsp).grown hg (fun k h => .inr (.inr (.inr (.inl h)))))
      have HM := Lib.hid qM
      clear hP qM
      gi_wp2_with (fail)
      obtain ⟨e1, e2, e3⟩ := HI.out.step h32 h20 h01 hn1 HB2.out HO2.out HB3.out HO3.out HBX.out hge (HS.out.set (p := ⟨c3, 0, none⟩) (.inr (.inl rfl)) _) (s' := mstep z (pre.foldl (mstep z) s) x) (by rw [HMS.out]; exact HM.out) W0.heap.size
      exact ⟨e1, e2, by have e := e3; rw [← fold_snoc] at e; exact e⟩
    · have t1 : (z.a == z.b) = false := by simpa using hab
      by_cases hbx : z.b = x.tag
      · have t2 : (z.b == x.tag) = true := by simpa using hbx
        have g3 := ST.out (.int .i64 z.a)
        have hsp := SP.out (.int .i64 z.a)
        have HMS : Hid (mstep z (pre.foldl (mstep z) s) x = (pushRn (pre.foldl (mstep z) s).1 ⟨x.lo, x.hi, z.a⟩, (pre.foldl (mstep z) s).2)) := by show _ = _; unfold mstep; rw [if_pos (.inr hbx)]
        clear hab hbx ST SP
        gi_wp2_with (fail)
        refine ⟨trivial, ?_⟩
        refine ((callsIn_wide.2 (push_any (W'.setCell ⟨Bx, 2, none⟩ (.int .i64 z.a)) n1 _ (pre.foldl (mstep z) s).1 ⟨x.lo, x.hi, z.a⟩ g3.2.2.2 (by have := hsp.size; omega) (by omega))).inRound l).mono ?_
        rintro e w2 ⟨v', rfl, hP, hg, -⟩
        obtain ⟨q3, qM⟩ := mr_push h32 (by omega) g3.1 g3.2.1 g3.2.2.1 g3.2.2.2 hg hP
        obtain ⟨A', c', rfl⟩ := hP.sliced
        have j1 := q3.cell
        have j2 := q3.frozen
        have j3 := q3.lt
        have HS := Lib.hid ((hsp).grown hg (fun k h => .inr (.inr (.inr (.inl h)))))
        have HM := Lib.hid qM
        clear hP qM
        gi_wp2_with (fail)
        obtain ⟨e1, e2, e3⟩ := HI.out.step h32 h20 h01 hn1 HB2.out HO2.out HB3.out HO3.out HBX.out hge (HS.out.set (p := ⟨c3, 0, none⟩) (.inr (.inl rfl)) _) (s' := mstep z (pre.foldl (mstep z) s) x) (by rw [HMS.out]; exact HM.out) W0.heap.size
        exact ⟨e1, e2, by have e := e3; rw [← fold_snoc] at e; exact e⟩
      · have t2 : (z.b == x.tag) = false := by simpa using hbx
        by_cases hax : z.a = x.tag
        · have t3 : (z.a == x.tag) = true := by simpa using hax
          have g3 := ST.out (.int .i64 z.b)
          have hsp := SP.out (.int .i64 z.b)
          have HMS : Hid (mstep z (pre.foldl (mstep z) s) x = (pushRn (pre.foldl (mstep z) s).1 ⟨x.lo, x.hi, z.b⟩, (pre.foldl (mstep z) s).2)) := by show _ = _; unfold mstep; rw [if_neg (fun h => h.elim hab hbx), if_pos hax]
          clear hab hbx hax ST SP
          gi_wp2_with (fail)
          refine ⟨trivial, ?_⟩
          refine ((callsIn_wide.2 (push_any (W'.setCell ⟨Bx, 2, none⟩ (.int .i64 z.b)) n1 _ (pre.foldl (mstep z) s).1 ⟨x.lo, x.hi, z.b⟩ g3.2.2.2 (by have := hsp.size; omega) (by omega))).inRound l).mono ?_
          rintro e w2 ⟨v', rfl, hP, hg, -⟩
          obtain ⟨q3, qM⟩ := mr_push h32 (by omega) g3.1 g3.2.1 g3.2.2.1 g3.2.2.2 hg hP
          obtain ⟨A', c', rfl⟩ := hP.sliced
          have j1 := q3.cell
          have j2 := q3.frozen
          have j3 := q3.lt
          have HS := Lib.hid ((hsp).grown hg (fun k h => .inr (.inr (.inr (.inl h)))))
          have HM := Lib.hid qM
          clear hP qM
          gi_wp2_with (fail)
          obtain ⟨e1, e2, e3⟩ := HI.out.step h32 h20 h01 hn1 HB2.out HO2.out HB3.out HO3.out HBX.out hge (HS.out.set (p := ⟨c3, 0, none⟩) (.inr (.inl rfl)) _) (s' := mstep z (pre.foldl (mstep z) s) x) (by rw [HMS.out]; exact HM.out) W0.heap.size
          exact ⟨e1, e2, by have e := e3; rw [← fold_snoc] at e; exact e⟩
        · have t3 : (z.a == x.tag) = false := by simpa using hax
          have HMS : Hid (mstep z (pre.foldl (mstep z) s) x = (pushRn (pre.foldl (mstep z) s).1 x, noteL (pre.foldl (mstep z) s).2 ⟨x.lo, x.hi, z.a, z.b⟩)) := by show _ = _; unfold mstep; rw [if_neg (fun h => h.elim hab hbx), if_neg hax]
          clear hab hbx hax ST SP
          gi_wp2_with (fail)
          refine ⟨trivial, ?_⟩
          refine ((callsIn_wide.2 (note_any W' n1 _ (pre.foldl (mstep z) s).2 ⟨x.lo, x.hi, z.a, z.b⟩ HO2.out (by omega) (by omega))).inRound l).mono ?_
          rintro e w1 ⟨v2', rfl, hP2, hg2, -⟩
          obtain ⟨q2, g1, g2, g4, g5, g6⟩ := mr_note h32 (by omega) HB2.out HO2.out HB3.out HO3.out HBX.out (by omega) hg2 hP2
          obtain ⟨A2', c2', rfl⟩ := hP2.sliced
          have i1 := q2.cell
          have i2 := q2.frozen
          have i3 := q2.lt
          have g3 := And.intro g1 (And.intro g2 (And.intro g4 g5))
          have hsp := ((Spares.refl (TQ c2 c3 (.slice A2 (pre.foldl (mstep z) s).2.length k2') (.slice A3 (pre.foldl (mstep z) s).1.length k3) Bx) W').grown hg2 (fun k h => .inr (.inr (.inl h)))).set (p := ⟨c2, 0, none⟩) (.inl rfl) (.slice A2' (noteL (pre.foldl (mstep z) s).2 ⟨x.lo, x.hi, z.a, z.b⟩).length c2')
          have G3 := Lib.hid g3
          have HSP := Lib.hid hsp
          have m3 := g4.cell
          have m30 : (w1.setCell ⟨c2, 0, none⟩ (.slice A2' (noteL (pre.foldl (mstep z) s).2 ⟨x.lo, x.hi, z.a, z.b⟩).length c2')).cell? ⟨Bx, 0, none⟩ = some (.int .i64 x.lo) := cell_of_row _ Bx 0 _ _ _ g6
          have m31 : (w1.setCell ⟨c2, 0, none⟩ (.slice A2' (noteL (pre.foldl (mstep z) s).2 ⟨x.lo, x.hi, z.a, z.b⟩).length c2')).cell? ⟨Bx, 1, none⟩ = some (.int .i64 x.hi) := cell_of_row _ Bx 1 _ _ _ g6
          have m32 : (w1.setCell ⟨c2, 0, none⟩ (.slice A2' (noteL (pre.foldl (mstep z) s).2 ⟨x.lo, x.hi, z.a, z.b⟩).length c2')).cell? ⟨Bx, 2, none⟩ = some (.int .i64 x.tag) := cell_of_row _ Bx 2 _ _ _ g6
          clear g1 g2 g4 g5 g6 g3 hsp hP2 hg2
          gi_wp2_with (fail)
          have g3 := G3.out
          have hsp := HSP.out
          refine ⟨trivial, ?_⟩
          refine ((callsIn_wide.2 (push_any (w1.setCell ⟨c2, 0, none⟩ (.slice A2' (noteL (pre.foldl (mstep z) s).2 ⟨x.lo, x.hi, z.a, z.b⟩).length c2')) n1 _ (pre.foldl (mstep z) s).1 x g3.2.2.2 (by have := hsp.size; omega) (by omega))).inRound l).mono ?_
          rintro e w2 ⟨v', rfl, hP, hg, -⟩
          obtain ⟨q3, qM⟩ := mr_push h32 (by omega) g3.1 g3.2.1 g3.2.2.1 g3.2.2.2 hg hP
          obtain ⟨A', c', rfl⟩ := hP.sliced
          have j1 := q3.cell
          have j2 := q3.frozen
          have j3 := q3.lt
          have HS := Lib.hid ((HSP.out).grown hg (fun k h => .inr (.inr (.inr (.inl h)))))
          have HM := Lib.hid qM
          clear hP qM
          gi_wp2_with (fail)
          obtain ⟨e1, e2, e3⟩ := HI.out.step h32 h20 h01 hn1 HB2.out HO2.out HB3.out HO3.out HBX.out hge (HS.out.set (p := ⟨c3, 0, none⟩) (.inr (.inl rfl)) _) (s' := mstep z (pre.foldl (mstep z) s) x) (by rw [HMS.out]; exact HM.out) W0.heap.size
          exact ⟨e1, e2, by have e := e3; rw [← fold_snoc] at e; exact e⟩
  case done =>
    rintro D ys W' hD rfl hI hK
    gi_wp2
    refine ⟨by simp, .inl ⟨_, _, rfl, run_takeDeferred hK, ?_⟩⟩
    exact ⟨_, results_tmp rfl _ _ _, rfl, hIo.putObj (s := vis z.lo z.hi T 0) _ hI hD hK rfl⟩
  case stop =>
    rintro D c pre' W' hD hpre hf
    exact hf.elim
end
section
open Go.RowKit Go.Shelf
attribute [local go_sem] Oper.semAt_some

theorem ptrs_new2 (w : World) (p q : Option Addr) : Ptrs (w.alloc (.cells #[.pointer p, .pointer q] 26)) w.heap.size [p, q] :=
  ⟨by simp, fun m hm => by
    have hh := heap_alloc_new w (.cells #[.pointer p, .pointer q] 26)
    match m, hm with
    | 0, _ => exact cell_of_row _ w.heap.size 0 _ _ _ hh
    | 1, _ => exact cell_of_row _ w.heap.size 1 _ _ _ hh
    | m + 2, hm => exact absurd (show m + 2 < 2 from hm) (by omega)⟩
/-- What Merge leaves. -/
def MergePost (w : World) (r : Int × List (Int × Int) × List Ch) (e : Ending) (w' : World) : Prop :=
  ∃ p v, e = .returned (.tuple #[.agg #[.pointer p], v, .int .i64 r.1]) ∧ Rep w' p r.2.1 ∧ OwnChs w' w.heap.size v r.2.2 ∧ Below w.heap.size w w'
/-- What Merge's function has made of some pairs. -/
def MJ (w : World) (O : List (Int × Int)) (c2 c3 n1 : Nat) (pre : List Pr) (W : World) : Prop := MR c2 c3 n1 (mergeL O pre) W ∧ Below w.heap.size w W
theorem MR.next {c2 c3 n1 : Nat} {s : List Rn × List Ch} {W W' : World} (h : MR c2 c3 n1 s W) (hB : Below W.heap.size W W') : MR c2 c3 n1 s W' := by
  obtain ⟨v2, v3, b2, o2, b3, o3⟩ := h
  exact ⟨v2, v3, bx_next b2 hB, o2.next hB, bx_next b3 hB, o3.next hB⟩
set_option maxRecDepth 100000 in
set_option maxHeartbeats 4000000 in
theorem merge_any (w : World) (po pa pb : Option Addr) (O A B : List (Int × Int)) (hO : Rep w po O) (hA : Rep w pa A) (hB : Rep w pb B) (gO : O = [] ∨ Good O) (gA : A = [] ∨ Good A) (gB : B = [] ∨ Good B) :
    Calls Try.prog 44 #[.agg #[.pointer po], .agg #[.pointer pa], .agg #[.pointer pb]] w (MergePost w (mergeR O A B)) := by
  obtain ⟨wa, hwa⟩ : ∃ wa, (((w.alloc (.cells #[.pointer po] 26)).alloc (.cells #[.pointer pa] 26)).alloc (.cells #[.pointer pb] 26)).alloc (.cells #[.pointer none] 26) = wa := ⟨_, rfl⟩
  have hBa : Below w.heap.size w wa := hwa ▸ Below.next (Below.next (Below.alloc2 w _ _) (Below.alloc1 _ _)) (Below.alloc1 _ _)
  have x3 : Boxed wa w.heap.size 26 (.pointer po) := hwa ▸ (((Boxed.new w _ _).alloc _).alloc _).alloc _
  have x4 : Boxed wa (w.heap.size + 1) 26 (.pointer pa) := by
    have := ((Boxed.new (w.alloc (.cells #[.pointer po] 26)) 26 (.pointer pa)).alloc (.cells #[.pointer pb] 26)).alloc (.cells #[.pointer none] 26)
    rw [World.size_alloc] at this; exact hwa ▸ this
  have x5 : Boxed wa (w.heap.size + 1 + 1) 26 (.pointer pb) := by
    have := (Boxed.new ((w.alloc (.cells #[.pointer po] 26)).alloc (.cells #[.pointer pa] 26)) 26 (.pointer pb)).alloc (.cells #[.pointer none] 26)
    rw [World.size_alloc, World.size_alloc] at this; exact hwa ▸ this
  have x6 : Boxed wa (w.heap.size + 1 + 1 + 1) 26 (.pointer none) := by
    have := Boxed.new (((w.alloc (.cells #[.pointer po] 26)).alloc (.cells #[.pointer pa] 26)).alloc (.cells #[.pointer pb] 26)) 26 (.pointer none)
    rw [World.size_alloc, World.size_alloc, World.size_alloc] at this; exact hwa ▸ this
  have dg : Below wa.heap.size wa (wa.alloc (.cells #[.pointer pa, .pointer pb] 26)) := Below.alloc1 wa _
  have hal := alike_any (wa.alloc (.cells #[.pointer pa, .pointer pb] 26)) po wa.heap.size 2 [pa, pb] rfl (ptrs_new2 wa pa pb) (by decide) O (fun m => if m = 0 then A else B) ((hO.below hBa).below dg) (fun m hm => by
    match m, hm with
    | 0, _ => exact (hA.below hBa).below dg
    | 1, _ => exact (hB.below hBa).below dg
    | m + 2, hm => exact absurd (show m + 2 < 2 from hm) (by omega))
  have HAL := Lib.hid hal
  have HWA := Lib.hid hwa
  have HO := Lib.hid hO
  have HA := Lib.hid hA
  have HB := Lib.hid hB
  have GO := Lib.hid gO
  have GA := Lib.hid gA
  have GB := Lib.hid gB
  clear hal hwa hO hA hB gO gA gB
  have c3 := x3.cell
  have c4 := x4.cell
  have c5 := x5.cell
  go_enter Try.func44, Try.ntmps44
  go_upto_region 1 with (fail)
  rw [HWA.out]
  go_wp2_with (fail)
  go_at_call 66
  refine HAL.out.mono ?_
  rintro e w1 ⟨⟨x, rfl, hx⟩, b1⟩
  have b1' := Below.next dg b1
  have B1 := Below.next hBa b1'
  have y3 := bx_next x3 b1'
  have y4 := bx_next x4 b1'
  have y5 := bx_next x5 b1'
  have y6 := bx_next x6 b1'
  have HX := Lib.hid hx
  clear c3 c4 c5 x3 x4 x5 x6 dg b1 b1' hx HAL
  by_cases h0 : x = 0
  · subst h0
    have hx := HX.out
    have hno : none ∉ [pa, pb] ++ [po] := by
      rcases hx with ⟨h, _⟩ | ⟨h, _⟩
      · cases h
      · exact h
    have hO0 : O ≠ [] := fun h => hno (by rw [HO.out.nil_iff.2 h]; simp)
    have hA0 : A ≠ [] := fun h => hno (by rw [HA.out.nil_iff.2 h]; simp)
    have hB0 : B ≠ [] := fun h => hno (by rw [HB.out.nil_iff.2 h]; simp)
    have hts : Tr.total A = Tr.total O ∧ Tr.total B = Tr.total O := by
      rcases hx with ⟨h, _⟩ | ⟨_, ⟨h, _⟩ | ⟨_, h⟩⟩
      · cases h
      · cases h
      · exact ⟨h 0 (by omega), h 1 (by omega)⟩
    obtain ⟨tA, tB⟩ := hts
    have gO := GO.out.resolve_left hO0
    have gA := GA.out.resolve_left hA0
    have gB := GB.out.resolve_left hB0
    obtain ⟨R, C, hRC⟩ : ∃ R C, mergeL O (zipL A B) = (R, C) := ⟨_, _, rfl⟩
    have hr : mergeR O A B = if 4096 < (R.length : Int) then (5, [], []) else (0, segs R, C) := by
      unfold mergeR; rw [if_neg (by simp [hO0, hA0, hB0]), if_neg (by simp [tA, tB]), hRC]
    have hgood : (R.length : Int) ≤ 4096 → Good (segs R) ∧ Tr.total (segs R) = Tr.total O ∧ Fine R := fun h => by
      have := mergeL_good gO gA gB tA tB (by rw [hRC]; exact h)
      rwa [hRC] at this
    obtain ⟨nr, hnr⟩ : ∃ nr, R.length = nr := ⟨_, rfl⟩
    have hcnt := mergeL_count (Z2 := []) gO.2.1 gA.2.1 gB.2.1 tA tB gO.2.2.2.2 gA.2.2.2.2 gB.2.2.2.2 (by rw [List.append_nil])
    rw [hRC] at hcnt
    dsimp only at hcnt
    rw [hnr] at hr hgood hcnt
    obtain ⟨ao, rfl⟩ : ∃ ao, po = some ao := by
      cases po with
      | none => exact absurd (HO.out.nil_iff.1 rfl) hO0
      | some ao => exact ⟨ao, rfl⟩
    obtain ⟨_, T, hT, nT, bT, oT, eT, pT, p1, p2, nm⟩ := (HO.out.below B1).good
    have hvis : ∀ lo hi, vis lo hi T 0 = clipL lo hi 0 O := fun lo hi => by rw [vis_clipL lo hi T 0 oT, eT]
    obtain ⟨w4, hw4⟩ : ∃ w4, w1.alloc (.cells #[.slice none 0 0] 22) = w4 := ⟨_, rfl⟩
    obtain ⟨w5, hw5⟩ : ∃ w5, w4.alloc (.cells #[.slice none 0 0] 68) = w5 := ⟨_, rfl⟩
    have e4 : w4.heap.size = w1.heap.size + 1 := by rw [← hw4, World.size_alloc]
    have e5 : w5.heap.size = w1.heap.size + 1 + 1 := by rw [← hw5, World.size_alloc, e4]
    have d4 : Below w1.heap.size w1 w4 := hw4 ▸ Below.alloc1 w1 _
    have d5 : Below w4.heap.size w4 w5 := hw5 ▸ Below.alloc1 w4 _
    have d15 := Below.next d4 d5
    have v3 : Boxed w5 w1.heap.size 22 (.slice none 0 0) := bx_next (hw4 ▸ Boxed.new w1 _ _) d5
    have v2 : Boxed w5 (w1.heap.size + 1) 68 (.slice none 0 0) := by rw [← e4]; exact hw5 ▸ Boxed.new w4 _ _
    have B5 := Below.next B1 d15
    have s1 : w.heap.size ≤ w1.heap.size := B1.size
    have u3 := bx_next y3 d15
    have u4 := bx_next y4 d15
    have u5 := bx_next y5 d15
    have u6 := bx_next y6 d15
    have z3 := y3.lt
    have hmf : ∀ (fn : Fn) (first cap : Array Value) (w : World), (Instr.makeFunc fn first cap).run Try.prog w = .ok (.func fn first cap) w := fun _ _ _ _ => rfl
    have hz := zip_any 74 #[.pointer (some ⟨w.heap.size, 0, none⟩), .pointer (some ⟨w1.heap.size + 1, 0, none⟩), .pointer (some ⟨w1.heap.size, 0, none⟩)] (enters_of Try.func74 (by kernel_rfl) rfl) w5 pa pb A B (HA.out.below B5) (HB.out.below B5) gA gB (tA.trans tB.symm)
      (fun n1 pre W => MJ w O (w1.heap.size + 1) w1.heap.size n1 pre W ∧ Below w1.heap.size w1 W) (fun _ _ _ => False)
      (fun W hW => ⟨⟨⟨_, _, bx_next v2 hW, World.ownsRow_nil _ _ _ _, bx_next v3 hW, World.ownsRow_nil _ _ _ _⟩, B5.trans (hW.mono B5.size)⟩, d15.trans (hW.mono d15.size)⟩) (fun n1 pre W W' h1 h2 hJ hW => ⟨⟨hJ.1.1.next hW, hJ.1.2.trans (hW.mono hJ.1.2.size)⟩, hJ.2.trans (hW.mono hJ.2.size)⟩)
      (fun n1 pre z post W hZ h1 h2 hJ => by
        obtain ⟨⟨j1, j2⟩, j3⟩ := hJ
        have lc := mergeL_count gO.2.1 gA.2.1 gB.2.1 tA tB gO.2.2.2.2 gA.2.2.2.2 gB.2.2.2.2 hZ
        have cl : (vis z.lo z.hi T 0).length ≤ 4096 := by
          rw [hvis]; have := clipL_length z.lo z.hi 0 O; have := gO.2.2.2.2; omega
        refine (merge_yield W ao T w.heap.size (w1.heap.size + 1) w1.heap.size w5.heap.size n1 z (mergeL O pre) (bx_next y3 j3) (IsTree.below j3 hT) oT p2 z3 (by omega) (by omega) h1 h2 j1 (by omega) (by omega)).mono ?_
        rintro e W' ⟨rfl, m1, m2, m3, m4⟩
        refine ⟨⟨m4.size, fun k hk hk' => m3 k hk hk'⟩, true, rfl, .inl ⟨rfl, ⟨?_, ?_⟩, ?_⟩⟩
        · rw [hvis] at m1; rw [mergeL_snoc]; exact m1
        · exact j2.trans (m4.mono s1)
        · exact j3.trans m4)
    have HZ := Lib.hid hz
    have HW4 := Lib.hid hw4
    have HW5 := Lib.hid hw5
    have HR := Lib.hid hr
    have HG := Lib.hid hgood
    have HRC := Lib.hid hRC
    have HNR := Lib.hid hnr
    have c4 := u4.cell
    have c5 := u5.cell
    clear hz hx hno hO0 hA0 hB0 tA tB gO gA gB hr hgood hRC hnr hw4 hw5 HX hT nT bT oT eT pT p1 p2 nm hvis
    go_upto_region 5 with (fail)
    rw [HW4.out]
    go_upto_region 6 with (fail)
    rw [HW5.out]
    go_wp2_with (fail)
    go_at_call 67
    refine HZ.out.mono ?_
    rintro e w6 ⟨rfl, n1, h1, h2, hJ⟩
    obtain ⟨⟨⟨q2, q3, k2, o2, k3, o3⟩, B6⟩, B16⟩ := hJ.resolve_right (fun ⟨_, _, h⟩ => h)
    rw [HRC.out] at o2 o3
    dsimp only at o2 o3
    obtain ⟨I, cI, rfl⟩ := o2.sliced
    obtain ⟨J, cJ, rfl, hcJ, hRJ⟩ := o3.runs
    have t6 := bx_next y6 (B16)
    have HO2 := Lib.hid o2
    have c10 := k3.cell
    have c11 := k2.cell
    have f6 := t6.frozen
    have c6 := t6.cell
    rw [HNR.out] at c10 hcJ
    clear hJ o2 o3 c4 c5 HZ
    have r6 := (t6.set (.pointer none)).cell
    have l6 := t6.lt
    have ne6 : ¬ w1.heap.size + 1 = w.heap.size + 1 + 1 + 1 := by have := y6.lt; omega
    have NE6 := Lib.hid ne6
    by_cases hf : 4096 < (nr : Int)
    · have hf' : decide (4096 < (nr : Int)) = true := decide_eq_true hf
      go_wp2_with (fail)
      refine bodyPost_ret (v := .tuple #[.agg #[.pointer none], .slice none 0 0, .int .i64 5]) (by simp [results, Try.results44, go_sem, r6]) rfl ?_
      have hr := HR.out
      rw [if_pos hf] at hr
      rw [hr]
      exact ⟨none, .slice none 0 0, rfl, Rep.none _, World.ownsRow_nil _ _ _ _, B6.setCell (p := ⟨w.heap.size + 1 + 1 + 1, 0, none⟩) (show w.heap.size ≤ w.heap.size + 1 + 1 + 1 by omega) _⟩
    · have hf' : decide (4096 < (nr : Int)) = false := decide_eq_false hf
      obtain ⟨gR, tR, fR⟩ := HG.out (by omega)
      have hbd : ∀ W, Below w6.heap.size w6 W → Calls Try.prog 53 #[.slice J nr cJ] W fun e w' => ∃ pl, e = .returned (.pointer pl) ∧ Rep w' pl (segs R) ∧ Below W.heap.size W w' := fun W hW => by
        have := build_any R.length R W J cJ (Nat.le_refl _) (by rw [HNR.out]; omega) (by rw [HNR.out]; exact hcJ) (hRJ.below hW) fR (by have := gR.2.2.2.1; omega)
        rw [HNR.out] at this
        refine this.mono fun e w' ⟨pl, h1, h2, h3⟩ => ⟨pl, h1, ?_, h3⟩
        obtain ⟨n1, n2, _⟩ := Tr.bld_facts nr (segs R) (by rw [segs_length, HNR.out]; exact Nat.le_refl _)
        exact ⟨_, h2, n2, n1, .inr gR⟩
      have HBD := Lib.hid hbd
      have HRR : Hid (mergeR O A B = (0, segs R, C)) := by show _ = _; rw [HR.out, if_neg hf]
      have K2 := Lib.hid k2
      have T6 := Lib.hid t6
      clear hbd gR tR fR hRJ r6 k2 k3 t6 hf
      go_wp2_with (fail)
      go_region_with ((go_at_call 53; refine (HBD.out _ (Quiet.below ⟨1, rfl⟩ _)).mono ?_; rintro e w7 ⟨pl, rfl, hL, b7'⟩; have b7 : Below w6.heap.size w6 w7 := Below.of_drew b7'; have t7 := bx_next T6.out b7; have k7 := bx_next K2.out b7; have e7 := t7.cell; have g7 := t7.frozen; have e8 := k7.cell; have l7 := t7.lt; have r7 := (t7.set (.pointer pl)).cell; have e9 := (boxed_far (x := .pointer pl) (i := 0) k7 ne6).cell))
      all_goals
        go_wp2_with (fail)
        refine bodyPost_ret (v := .tuple #[.agg #[.pointer pl], .slice I C.length cI, .int .i64 0]) (by simp [results, Try.results44, go_sem, r7]) rfl ?_
        have B7 := Below.next B6 b7
        have O7 := HO2.out.next b7
        rw [HRR.out]
        refine ⟨pl, _, rfl, hL.set_ ⟨_, _, _, t7, by decide⟩ _ _ _, ?_, B7.setCell (p := ⟨w.heap.size + 1 + 1 + 1, 0, none⟩) (show w.heap.size ≤ w.heap.size + 1 + 1 + 1 by omega) _⟩
        have h3 := O7.set (p := ⟨w.heap.size + 1 + 1 + 1, 0, none⟩) (show w.heap.size + 1 + 1 + 1 < n1 by have := y6.lt; omega) (.pointer pl)
        obtain ⟨k1, k2⟩ := h3
        refine ⟨k1, ?_⟩
        rcases k2 with k2 | ⟨g, cap, cur, e, hg, r⟩
        · exact .inl k2
        · exact .inr ⟨g, cap, cur, e, by omega, r⟩
  · have hr : mergeR O A B = (x, [], []) := by
      unfold mergeR
      rcases HX.out with ⟨h, hm⟩ | ⟨hno, ⟨h, m, hm, hh⟩ | ⟨h, _⟩⟩
      · have : O = [] ∨ A = [] ∨ B = [] := by
          simp only [List.cons_append, List.nil_append, List.mem_cons, List.not_mem_nil, or_false] at hm
          rcases hm with h | h | h
          · exact .inr (.inl (HA.out.nil_iff.1 h.symm))
          · exact .inr (.inr (HB.out.nil_iff.1 h.symm))
          · exact .inl (HO.out.nil_iff.1 h.symm)
        rw [if_pos this, h]
      · have : ¬ (O = [] ∨ A = [] ∨ B = []) := fun h => hno (by
          rcases h with h | h | h
          · rw [HO.out.nil_iff.2 h]; simp
          · rw [HA.out.nil_iff.2 h]; simp
          · rw [HB.out.nil_iff.2 h]; simp)
        have h2 : Tr.total A ≠ Tr.total O ∨ Tr.total B ≠ Tr.total O := by
          match m, hm with
          | 0, _ => exact .inl hh
          | 1, _ => exact .inr hh
          | m + 2, hm => exact absurd hm (by omega)
        rw [if_neg this, if_pos h2, h]
      · exact absurd h h0
    have HR := Lib.hid hr
    have t1 : (x != 0) = true := by simpa using h0
    have c6 := y6.cell
    have f6 := y6.frozen
    have r6 := (y6.set (.pointer none)).cell
    clear HX hr
    go_wp2_with (fail)
    refine bodyPost_ret (v := .tuple #[.agg #[.pointer none], .slice none 0 0, .int .i64 x]) (by simp [results, Try.results44, go_sem, r6]) rfl ?_
    rw [HR.out]
    exact ⟨none, .slice none 0 0, rfl, Rep.none _, World.ownsRow_nil _ _ _ _, B1.setCell (p := ⟨w.heap.size + 1 + 1 + 1, 0, none⟩) (show w.heap.size ≤ w.heap.size + 1 + 1 + 1 by omega) _⟩
end
end Go.Proofs.Ytfmplibjhohpgaa
