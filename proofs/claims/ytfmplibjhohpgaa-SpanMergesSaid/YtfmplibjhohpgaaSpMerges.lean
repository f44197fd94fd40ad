/- The walk over SpanMerges. -/
import Derived.Test.YtfmplibjhohpgaaSpDisj
import Derived.Test.YtfmplibjhohpgaaSpOwnA
import Derived.Test.YtfmplibjhohpgaaSpRefMerge
import Derived.Test.YtfmplibjhohpgaaSpPlayed
namespace Go.Proofs.Ytfmplibjhohpgaa
open Go.RowKit Go.Shelf
attribute [local go_sem] Oper.semAt_some

/-- What played returns: both maps, and true. -/
def PlayV (w : World) (v : Value) (L : List (Int × Int)) : Prop := ∃ p A c, v = .tuple #[.agg #[.pointer p], .agg #[.int .i64 (Tr.total L), .slice A L.length c], .bool true] ∧ Rep w p L ∧ RunsT w A (lay 0 L) ∧ L.length ≤ c
/-- A value is the document's map. -/
def RefV (w : World) (v : Value) (L : List (Int × Int)) : Prop := ∃ A c, v = .agg #[.int .i64 (Tr.total L), .slice A L.length c] ∧ RunsT w A (lay 0 L) ∧ L.length ≤ c
/-- A value is the address of a variable for the document's map. -/
def BoxW (w : World) (n0 : Nat) (v : Value) : Prop := ∃ j x u, v = .pointer (some ⟨j, 0, none⟩) ∧ n0 ≤ j ∧ BoxM w j x u
/-- A value is the address of a variable with the document's map. -/
def BoxRIs (w : World) (n0 : Nat) (v : Value) (L : List (Int × Int)) : Prop := ∃ j A c, v = .pointer (some ⟨j, 0, none⟩) ∧ n0 ≤ j ∧ BoxM w j (Tr.total L) (.slice A L.length c) ∧ RunsT w A (lay 0 L) ∧ L.length ≤ c
section
variable {w w' : World} {v : Value} {L : List (Int × Int)} {n0 : Nat}
theorem PlayV.below (h : PlayV w v L) (b : Below w.heap.size w w') : PlayV w' v L := by obtain ⟨p, A, c, e, h1, h2, h3⟩ := h; exact ⟨p, A, c, e, h1.below b, h2.below b, h3⟩
theorem RefV.below (h : RefV w v L) (b : Below w.heap.size w w') : RefV w' v L := by obtain ⟨A, c, e, h2, h3⟩ := h; exact ⟨A, c, e, h2.below b, h3⟩
theorem BoxW.below (h : BoxW w n0 v) (b : Below w.heap.size w w') : BoxW w' n0 v := by obtain ⟨j, x, u, e, n, h⟩ := h; exact ⟨j, x, u, e, n, h.next b⟩
theorem BoxRIs.below (h : BoxRIs w n0 v L) (b : Below w.heap.size w w') : BoxRIs w' n0 v L := by obtain ⟨j, A, c, e, n, h, r, q⟩ := h; exact ⟨j, A, c, e, n, h.next b, r.below b, q⟩
section
variable {g i : Nat} {cs : Array Value} {t : TypeId} {fr : Nat × Nat} (hg : w.heap[g]? = some (.cells cs t fr)) (h1 : t ≠ 35) (h2 : t ≠ 116) (z : Value)
include hg h1 h2
theorem PlayV.set (h : PlayV w v L) : PlayV (w.setCell ⟨g, i, none⟩ z) v L := by obtain ⟨p, A, c, e, a, b, q⟩ := h; exact ⟨p, A, c, e, a.set_ ⟨_, _, _, hg, h2⟩ _ _ _, b.set hg h1 _ _, q⟩
omit h1 in
theorem MapV.set (h : MapV w v L) : MapV (w.setCell ⟨g, i, none⟩ z) v L := by obtain ⟨p, e, a⟩ := h; exact ⟨p, e, a.set_ ⟨_, _, _, hg, h2⟩ _ _ _⟩
omit h2 in
theorem RefV.set (h : RefV w v L) : RefV (w.setCell ⟨g, i, none⟩ z) v L := by obtain ⟨A, c, e, b, q⟩ := h; exact ⟨A, c, e, b.set hg h1 _ _, q⟩
omit h1 h2 in
theorem BoxV.set' (h3 : t ≠ 26) (h : BoxV w n0 v) : BoxV (w.setCell ⟨g, i, none⟩ z) n0 v := by
  obtain ⟨j, y, e, n, h⟩ := h
  refine ⟨j, y, e, n, boxed_far h (fun c => ?_)⟩
  subst c
  have h' : w.heap[j]? = _ := h
  rw [hg] at h'; simp at h'; exact h3 h'.2.1
omit h1 in
theorem BoxIs.set' (h3 : t ≠ 26) (h : BoxIs w n0 v L) : BoxIs (w.setCell ⟨g, i, none⟩ z) n0 v L := by
  obtain ⟨j, y, e, n, h, r⟩ := h
  refine ⟨j, y, e, n, boxed_far h (fun c => ?_), r.set_ ⟨_, _, _, hg, h2⟩ _ _ _⟩
  subst c
  have h' : w.heap[j]? = _ := h
  rw [hg] at h'; simp at h'; exact h3 h'.2.1
omit h1 h2 in
theorem BoxW.set (h3 : t ≠ 31) (h : BoxW w n0 v) : BoxW (w.setCell ⟨g, i, none⟩ z) n0 v := by
  obtain ⟨j, x, y, e, n, h⟩ := h
  refine ⟨j, x, y, e, n, h.far (fun c => ?_) _ _ _⟩
  subst c
  have h' : w.heap[j]? = _ := h
  rw [hg] at h'; simp at h'; exact h3 h'.2.1
omit h2 in
theorem BoxRIs.set (h3 : t ≠ 31) (h : BoxRIs w n0 v L) : BoxRIs (w.setCell ⟨g, i, none⟩ z) n0 v L := by
  obtain ⟨j, A, c, e, n, h, r, q⟩ := h
  refine ⟨j, A, c, e, n, h.far (fun c => ?_) _ _ _, r.set hg h1 _ _, q⟩
  subst c
  have h' : w.heap[j]? = _ := h
  rw [hg] at h'; simp at h'; exact h3 h'.2.1
end
/-- A slice of updates that grew lies in a block of its own. -/
theorem OwnActs.apart {l : List Ac} (h : OwnActs w n0 v l) {j : Nat} {cs : Array Value} {t : TypeId} {fr : Nat × Nat} (hj : w.heap[j]? = some (.cells cs t fr)) (ht : t ≠ 40) : some j ≠ v.ownBlock := by
  rcases h.2 with ⟨e, _⟩ | ⟨g, cap, cur, e, _, hh, _⟩
  · rw [e]; simp [Value.ownBlock]
  · rw [e]; simp only [Value.ownBlock]; intro c; simp only [Option.some.injEq] at c; subst c; rw [hh] at hj; simp at hj; exact ht hj.2.1.symm
theorem BoxV.grown {l : List Ac} {x : Value} (h : BoxV w n0 v) (ho : OwnActs w n0 x l) (hg : w.grownBy w' x.ownBlock) : BoxV w' n0 v := by
  obtain ⟨i, u, e, n, h⟩ := h
  exact ⟨i, u, e, n, (hg.block i h.lt (ho.apart h (by decide))).trans h⟩
theorem BoxW.grown {l : List Ac} {x : Value} (h : BoxW w n0 v) (ho : OwnActs w n0 x l) (hg : w.grownBy w' x.ownBlock) : BoxW w' n0 v := by
  obtain ⟨i, y, u, e, n, h⟩ := h
  exact ⟨i, y, u, e, n, (hg.block i (Array.getElem?_eq_some_iff.1 h).1 (ho.apart h (by decide))).trans h⟩
theorem below_grown {w0 : World} {l : List Ac} {x : Value} (hB : Below w0.heap.size w0 w) (ho : OwnActs w w0.heap.size x l) (hg : w.grownBy w' x.ownBlock) : Below w0.heap.size w0 w' := by
  refine ⟨hg.os.trans hB.os, hg.tape.trans hB.tape, hg.output.trans hB.output, Nat.le_trans hB.size hg.size, fun i hi => (hg.block i (Nat.lt_of_lt_of_le hi hB.size) ?_).trans (hB.block i hi)⟩
  rcases ho.2 with ⟨e, _⟩ | ⟨g, cap, cur, e, hb, _⟩
  · rw [e]; simp [Value.ownBlock]
  · rw [e]; simp only [Value.ownBlock]; intro c; simp only [Option.some.injEq] at c; omega
end
/-- The box of the sizes. -/
def BoxS (W : World) (b : Nat) (s0 s1 s2 : Int) : Prop := W.heap[b]? = some (.cells #[.int .i64 s0, .int .i64 s1, .int .i64 s2] 91 (0, 0))
theorem BoxS.new (w : World) (s0 s1 s2 : Int) : BoxS (w.alloc (.cells #[.int .i64 s0, .int .i64 s1, .int .i64 s2] 91)) w.heap.size s0 s1 s2 := heap_alloc_new w _
theorem BoxS.next {W W' : World} {b : Nat} {s0 s1 s2 : Int} (h : BoxS W b s0 s1 s2) (hB : Below W.heap.size W W') : BoxS W' b s0 s1 s2 := (hB.block b (Array.getElem?_eq_some_iff.1 h).1).trans h
/-- What a statement `a, p, ok := played(size, append(append([]Act{}, base...), l...))` has come to. -/
structure MG (n0 b4 : Nat) (ix : Nat) (sz : Int) (A0 A : Option Addr) (m0 c0 m c : Nat) (l0 l : List Ac) (L : List (Int × Int)) (d : Nat → Prop) (u1 u2 u3 v0 v1 v2 v3 v4 v5 v6 v7 v8 v9 v10 v11 : Value) (w : World) : Prop where
  k0 : d 0 → v0 = .pointer (some ⟨b4, ix, none⟩)
  k1 : d 1 → v1 = .int .i64 sz
  k2 : d 2 → OwnActs w n0 v2 [] ∨ d 4
  k3 : d 3 → v3 = .slice A0 m0 c0
  k4 : d 4 → OwnActs w n0 v4 l0 ∨ d 6
  k5 : d 5 → v5 = .slice A m c
  k6 : d 6 → OwnActs w n0 v6 (l0 ++ l) ∨ d 7
  k7 : d 7 → PlayV w v7 L
  k8 : d 8 → PlayV w v8 L
  k9 : d 9 → MapV w v9 L
  k10 : d 10 → RefV w v10 L
  k11 : d 11 → v11 = .bool true
  k12 : d 12 → BoxV w n0 u1
  k13 : d 13 → BoxW w n0 u2
  k14 : d 12 → d 14 → BoxIs w n0 u1 L
  k15 : d 13 → d 15 → BoxRIs w n0 u2 L
  k16 : d 16 → u3 = .bool true
section
variable {n0 b4 : Nat} {ix : Nat} {sz : Int} {A0 A : Option Addr} {m0 c0 m c : Nat} {l0 l : List Ac} {L : List (Int × Int)} {d : Nat → Prop} {u1 u2 u3 v0 v1 v2 v3 v4 v5 v6 v7 v8 v9 v10 v11 : Value} {w : World}
theorem MG.start (e : d = fun _ => False) : MG n0 b4 ix sz A0 A m0 c0 m c l0 l L d u1 u2 u3 v0 v1 v2 v3 v4 v5 v6 v7 v8 v9 v10 v11 w := by
  subst e; exact ⟨fun h => h.elim, fun h => h.elim, fun h => h.elim, fun h => h.elim, fun h => h.elim, fun h => h.elim, fun h => h.elim, fun h => h.elim, fun h => h.elim, fun h => h.elim, fun h => h.elim, fun h => h.elim, fun h => h.elim, fun h => h.elim, fun h => h.elim, fun h => h.elim, fun h => h.elim⟩
theorem MG.next (h : MG n0 b4 ix sz A0 A m0 c0 m c l0 l L d u1 u2 u3 v0 v1 v2 v3 v4 v5 v6 v7 v8 v9 v10 v11 w) {d' : Nat → Prop} (hd : ∀ j, d' j → d j) (hu : ∀ j, d j → d' j) {w' : World} (b : Below w.heap.size w w') : MG n0 b4 ix sz A0 A m0 c0 m c l0 l L d' u1 u2 u3 v0 v1 v2 v3 v4 v5 v6 v7 v8 v9 v10 v11 w' :=
  ⟨fun q => h.k0 (hd _ q), fun q => h.k1 (hd _ q), fun q => (h.k2 (hd _ q)).imp (fun x => x.below b) (hu _), fun q => h.k3 (hd _ q), fun q => (h.k4 (hd _ q)).imp (fun x => x.below b) (hu _), fun q => h.k5 (hd _ q), fun q => (h.k6 (hd _ q)).imp (fun x => x.below b) (hu _), fun q => (h.k7 (hd _ q)).below b, fun q => (h.k8 (hd _ q)).below b, fun q => (h.k9 (hd _ q)).below b, fun q => (h.k10 (hd _ q)).below b, fun q => h.k11 (hd _ q), fun q => (h.k12 (hd _ q)).below b, fun q => (h.k13 (hd _ q)).below b, fun q r => (h.k14 (hd _ q) (hd _ r)).below b, fun q r => (h.k15 (hd _ q) (hd _ r)).below b, fun q => h.k16 (hd _ q)⟩
theorem MG.put1 (h : MG n0 b4 ix sz A0 A m0 c0 m c l0 l L d u1 u2 u3 v0 v1 v2 v3 v4 v5 v6 v7 v8 v9 v10 v11 w) {d' : Nat → Prop} (hd : ∀ j, j ≠ 14 → d' j → d j) (hu : ∀ j, d j → d' j) {i : Nat} {y : Value} {p : Option Addr} (d4 : d 4) (d6 : d 6) (d7 : d 7) (_d12 : d 12) (e : u1 = .pointer (some ⟨i, 0, none⟩)) (hp : Rep w p L) (hi : n0 ≤ i) (hb : Boxed w i 26 y) : MG n0 b4 ix sz A0 A m0 c0 m c l0 l L d' u1 u2 u3 v0 v1 v2 v3 v4 v5 v6 v7 v8 v9 v10 v11 (w.setCell ⟨i, 0, none⟩ (.pointer p)) :=
  ⟨fun q => h.k0 (hd _ (by decide) q), fun q => h.k1 (hd _ (by decide) q), fun _ => .inr (hu _ d4), fun q => h.k3 (hd _ (by decide) q), fun _ => .inr (hu _ d6), fun q => h.k5 (hd _ (by decide) q), fun _ => .inr (hu _ d7), fun q => (h.k7 (hd _ (by decide) q)).set hb (by decide) (by decide) _, fun q => (h.k8 (hd _ (by decide) q)).set hb (by decide) (by decide) _, fun q => (h.k9 (hd _ (by decide) q)).set hb (by decide) _, fun q => (h.k10 (hd _ (by decide) q)).set hb (by decide) _, fun q => h.k11 (hd _ (by decide) q), fun q => (h.k12 (hd _ (by decide) q)).put hb _, fun q => (h.k13 (hd _ (by decide) q)).set hb _ (by decide), fun _ _ => ⟨i, p, e, hi, hb.set _, hp.set_ ⟨_, _, _, hb, by decide⟩ _ _ _⟩, fun q r => (h.k15 (hd _ (by decide) q) (hd _ (by decide) r)).set hb (by decide) _ (by decide), fun q => h.k16 (hd _ (by decide) q)⟩
theorem MG.put2 (h : MG n0 b4 ix sz A0 A m0 c0 m c l0 l L d u1 u2 u3 v0 v1 v2 v3 v4 v5 v6 v7 v8 v9 v10 v11 w) {d' : Nat → Prop} (hd : ∀ j, j ≠ 15 → d' j → d j) (hu : ∀ j, d j → d' j) {i : Nat} {x : Int} {y : Value} {B : Option Addr} {k : Nat} (d4 : d 4) (d6 : d 6) (d7 : d 7) (_d13 : d 13) (e : u2 = .pointer (some ⟨i, 0, none⟩)) (hp : RunsT w B (lay 0 L)) (hk : L.length ≤ k) (hi : n0 ≤ i) (hb : BoxM w i x y) : MG n0 b4 ix sz A0 A m0 c0 m c l0 l L d' u1 u2 u3 v0 v1 v2 v3 v4 v5 v6 v7 v8 v9 v10 v11 ((w.setCell ⟨i, 0, none⟩ (.int .i64 (Tr.total L))).setCell ⟨i, 1, none⟩ (.slice B L.length k)) := by
  have hb2 := boxM_set0 hb (Tr.total L)
  exact ⟨fun q => h.k0 (hd _ (by decide) q), fun q => h.k1 (hd _ (by decide) q), fun _ => .inr (hu _ d4), fun q => h.k3 (hd _ (by decide) q), fun _ => .inr (hu _ d6), fun q => h.k5 (hd _ (by decide) q), fun _ => .inr (hu _ d7), fun q => ((h.k7 (hd _ (by decide) q)).set hb (by decide) (by decide) _).set hb2 (by decide) (by decide) _, fun q => ((h.k8 (hd _ (by decide) q)).set hb (by decide) (by decide) _).set hb2 (by decide) (by decide) _, fun q => ((h.k9 (hd _ (by decide) q)).set hb (by decide) _).set hb2 (by decide) _, fun q => ((h.k10 (hd _ (by decide) q)).set hb (by decide) _).set hb2 (by decide) _, fun q => h.k11 (hd _ (by decide) q), fun q => ((h.k12 (hd _ (by decide) q)).set' hb _ (by decide)).set' hb2 _ (by decide), fun _ => ⟨i, _, _, e, hi, boxM_set hb _ _⟩, fun q r => ((h.k14 (hd _ (by decide) q) (hd _ (by decide) r)).set' hb (by decide) _ (by decide)).set' hb2 (by decide) _ (by decide), fun _ _ => ⟨i, B, k, e, hi, boxM_set hb _ _, (hp.set hb (by decide) _ _).set hb2 (by decide) _ _, hk⟩, fun q => h.k16 (hd _ (by decide) q)⟩
end
set_option maxRecDepth 100000 in
set_option maxHeartbeats 2000000 in
theorem merges_many (w : World) (s0 s1 s2 : Int) (A0 A B : Option Addr) (m0 c0 m c n cB : Nat) (h : ¬ (m0 : Int) ≤ 40 ∨ ((m0 : Int) ≤ 40 ∧ ¬ (m : Int) ≤ 40) ∨ ((m0 : Int) ≤ 40 ∧ (m : Int) ≤ 40 ∧ ¬ (n : Int) ≤ 40)) :
    Calls Try.prog 13 #[.agg #[.int .i64 s0, .int .i64 s1, .int .i64 s2], .slice A0 m0 c0, .slice A m c, .slice B n cB] w (FromsPost w) := by
  rcases h with h1 | ⟨h1, h2⟩ | ⟨h1, h2, h3⟩
  all_goals
    go_enter Try.func13, Try.ntmps13
    go_wp2_with (fail)
    go_at_call 18
    refine (awake_any _).mono ?_
    rintro e wz ⟨rfl, bz⟩
    go_wp2_with (fail)
    go_ret
    exact ⟨rfl, Below.next (Below.alloc1 _ _) bz⟩
set_option maxRecDepth 100000 in
set_option maxHeartbeats 16000000 in
theorem merges_main (w : World) (s0 s1 s2 : Int) (A0 A B : Option Addr) (m0 c0 m c n cB : Nat) (l0 l lk : List Ac) (hm0 : l0.length = m0) (hm : l.length = m) (hn : lk.length = n) (hA0 : Acts w A0 l0) (hA : Acts w A l) (hB : Acts w B lk) (hn0 : A0 = none → c0 = 0) (hnA : A = none → c = 0) (hnB : B = none → cB = 0) (hc0 : m0 ≤ c0) (hmc : m ≤ c) (hnd : n ≤ cB) (hb0 : (m0 : Int) ≤ 40) (hab : (m : Int) ≤ 40) (hkb : (n : Int) ≤ 40) :
    Calls Try.prog 13 #[.agg #[.int .i64 s0, .int .i64 s1, .int .i64 s2], .slice A0 m0 c0, .slice A m c, .slice B n cB] w (FromsPost w) := by
  have gO := moreL_good l0 (newR_good s0)
  have gA := moreL_good (l0 ++ l) (newR_good s1)
  have gB := moreL_good (l0 ++ lk) (newR_good s2)
  have hpl : ∀ W, Below w.heap.size w W → Calls Try.prog 37 #[.int .i64 s0, .slice A0 m0 c0] W (DoPost W (moreL (newR s0).2 l0)) := fun W hW => played_any W s0 A0 l0 m0 c0 hm0 (hA0.below hW) hc0 (by omega)
  generalize hO : moreL (newR s0).2 l0 = LO at *
  generalize hLA : moreL (newR s1).2 (l0 ++ l) = LA at *
  generalize hLB : moreL (newR s2).2 (l0 ++ lk) = LB at *
  obtain ⟨R, hR⟩ : ∃ R, mergeR LO LA LB = R := ⟨_, rfl⟩
  have hRD : R.2.2.length ≤ 20000 := by
    rw [← hR]; unfold mergeR
    by_cases q1 : LO = [] ∨ LA = [] ∨ LB = []
    · rw [if_pos q1]; simp
    rw [if_neg q1]
    by_cases q2 : Tr.total LA ≠ Tr.total LO ∨ Tr.total LB ≠ Tr.total LO
    · rw [if_pos q2]; simp
    rw [if_neg q2]
    by_cases q3 : 4096 < ((mergeL LO (zipL LA LB)).1.length : Int)
    · rw [if_pos q3]; simp
    rw [if_neg q3]
    have g1 := gO.resolve_left (fun e => q1 (.inl e))
    have g2 := gA.resolve_left (fun e => q1 (.inr (.inl e)))
    have g3 := gB.resolve_left (fun e => q1 (.inr (.inr e)))
    have t1 : Tr.total LA = Tr.total LO := Decidable.byContradiction fun e => q2 (.inl e)
    have t2 : Tr.total LB = Tr.total LO := Decidable.byContradiction fun e => q2 (.inr e)
    exact (mergeL_count (Z2 := []) g1.2.1 g2.2.1 g3.2.1 t1 t2 g1.2.2.2.2 g2.2.2.2.2 g3.2.2.2.2 (by rw [List.append_nil])).2
  obtain ⟨err, RL, RD⟩ := R
  dsimp only at hRD
  have HPL := Lib.hid hpl
  have HO := Lib.hid hO
  have HLA := Lib.hid hLA
  have HLB := Lib.hid hLB
  have HR := Lib.hid hR
  have HRD := Lib.hid hRD
  have GO := Lib.hid gO
  have GA := Lib.hid gA
  have GB := Lib.hid gB
  have HL0 := Lib.hid hm0
  have HAL := Lib.hid hm
  have HKL := Lib.hid hn
  have HX0 := Lib.hid hA0
  have HXA := Lib.hid hA
  have HXB := Lib.hid hB
  have HN0 := Lib.hid hn0
  have HAN := Lib.hid hnA
  have HKN := Lib.hid hnB
  have HC0 := Lib.hid hc0
  have HAC := Lib.hid hmc
  have HKC := Lib.hid hnd
  clear hpl hO hLA hLB hR hRD gO gA gB hm0 hm hn hA0 hA hB hn0 hnA hnB hc0 hmc hnd
  go_enter Try.func13, Try.ntmps13
  go_upto_region 1 with (fail)
  generalize hwa : World.alloc w _ = wa
  have hBa : Below w.heap.size w wa := hwa ▸ Below.alloc1 w _
  have hSa : BoxS wa w.heap.size s0 s1 s2 := hwa ▸ BoxS.new w s0 s1 s2
  clear hwa
  go_upto_region 3 with (fail)
  have c40 : wa.cell? ⟨w.heap.size, 0, none⟩ = some (.int .i64 s0) := cell_of_row wa w.heap.size 0 _ _ _ hSa
  go_wp2_with (fail)
  go_at_call 37
  refine (HPL.out wa hBa).mono ?_
  rintro e w1 ⟨po, P0, k0, rfl, ho, hP0, hk0, b1⟩
  clear c40 HPL
  go_upto_region 4 with (fail)
  generalize hb : World.alloc (World.alloc w1 _) _ = w3
  have d3 : Below w1.heap.size w1 w3 := hb ▸ Below.alloc2 w1 _ _
  have x9 : Boxed w3 w1.heap.size 26 (.pointer po) := hb ▸ (Boxed.new w1 _ _).alloc _
  have x10 : BoxM w3 (w1.heap.size + 1) (Tr.total LO) (.slice P0 LO.length k0) := by
    have t := BoxM.new (w1.alloc (.cells #[.pointer po] 26)) (Tr.total LO) (.slice P0 LO.length k0)
    rw [World.size_alloc] at t; exact hb ▸ t
  have b3 := Below.next b1 d3
  have B3 := Below.next hBa b3
  have hS := hSa.next b3
  have ho3 := ho.below d3
  have hP3 := hP0.below d3
  clear hb b1 d3 b3 hSa ho hP0 hBa
  have HAA0 := Lib.hid (HX0.out.below B3)
  have HAA := Lib.hid (HXA.out.below B3)
  refine wp_name fun a0 ha0 => ?_
  have e4 : a0.eval (.tmp 4) = .pointer (some ⟨w.heap.size, 0, none⟩) := by rw [ha0]; rfl
  have e1 : a0.eval (.tmp 1) = .slice A0 m0 c0 := by rw [ha0]; rfl
  have e2 : a0.eval (.tmp 2) = .slice A m c := by rw [ha0]; rfl
  have hz : a0.tmps.size = 111 := by rw [ha0]; rfl
  have HA0 := Lib.hid ha0
  clear ha0
  refine wp_region_steps (fun d a W => Fr [12, 13, 14, 47, 48, 49, 50, 51, 52, 53, 54, 46, 55, 56, 57] a0 a ∧ Below w3.heap.size w3 W ∧ MG w3.heap.size w.heap.size 1 s1 A0 A m0 c0 m c l0 l LA d (a.eval (.tmp 12)) (a.eval (.tmp 13)) (a.eval (.tmp 14)) (a.eval (.tmp 47)) (a.eval (.tmp 48)) (a.eval (.tmp 49)) (a.eval (.tmp 50)) (a.eval (.tmp 51)) (a.eval (.tmp 52)) (a.eval (.tmp 53)) (a.eval (.tmp 54)) (a.eval (.tmp 46)) (a.eval (.tmp 55)) (a.eval (.tmp 56)) (a.eval (.tmp 57)) W) (by kernel_rfl) (by kernel_rfl) ⟨Fr.refl _ _, (Below.refl _ _).drew, MG.start rfl⟩ ?_ ?_
  · refine ⟨⟨rfl, ?_⟩, ⟨rfl, ?_⟩, ⟨rfl, ?_⟩, ⟨rfl, ?_⟩, ⟨rfl, ?_⟩, ⟨rfl, ?_⟩, ⟨rfl, ?_⟩, ⟨rfl, ?_⟩, ⟨rfl, ?_⟩, ⟨rfl, ?_⟩, ⟨rfl, ?_⟩, ⟨rfl, ?_⟩, ⟨rfl, ?_⟩, ⟨rfl, ?_⟩, ⟨rfl, ?_⟩, ⟨rfl, ?_⟩, ⟨rfl, ?_⟩, trivial⟩
    · intro d d' a W ⟨hF, hB, hJ⟩ hn hcl hw hk hu hself
      have q4 := (hF.same 4 (by decide)).trans e4
      have qc : a.eval (.const (.int .i64 1)) = .int .i64 1 := rfl
      refine wp_yields (v := .pointer (some ⟨w.heap.size, 1, none⟩)) (w' := W) ?_ ?_
      · clear hJ hF hB hn hcl hw hk hu hself
        generalize a.eval = ρ at *
        go_simp
      · have h := hJ.next (d' := fun j => d' j ∧ j ≠ 0) (fun j q => hk j q.2 q.1) (fun j q => ⟨hu j q, fun e => hn (by subst e; exact q)⟩) (Below.refl _ _)
        refine ⟨hF.put (by decide) _, hB, ?_⟩
        dsimp only
        rw [put_same a 47 _ (by rw [hF.size, hz]; decide), put_other a (s := 12) (t := 47) _ (by decide), put_other a (s := 13) (t := 47) _ (by decide), put_other a (s := 14) (t := 47) _ (by decide), put_other a (s := 48) (t := 47) _ (by decide), put_other a (s := 49) (t := 47) _ (by decide), put_other a (s := 50) (t := 47) _ (by decide), put_other a (s := 51) (t := 47) _ (by decide), put_other a (s := 52) (t := 47) _ (by decide), put_other a (s := 53) (t := 47) _ (by decide), put_other a (s := 54) (t := 47) _ (by decide), put_other a (s := 46) (t := 47) _ (by decide), put_other a (s := 55) (t := 47) _ (by decide), put_other a (s := 56) (t := 47) _ (by decide), put_other a (s := 57) (t := 47) _ (by decide)]
        exact ⟨fun _ => rfl, fun q => h.k1 ⟨q, by decide⟩, fun q => (h.k2 ⟨q, by decide⟩).imp id And.left, fun q => h.k3 ⟨q, by decide⟩, fun q => (h.k4 ⟨q, by decide⟩).imp id And.left, fun q => h.k5 ⟨q, by decide⟩, fun q => (h.k6 ⟨q, by decide⟩).imp id And.left, fun q => h.k7 ⟨q, by decide⟩, fun q => h.k8 ⟨q, by decide⟩, fun q => h.k9 ⟨q, by decide⟩, fun q => h.k10 ⟨q, by decide⟩, fun q => h.k11 ⟨q, by decide⟩, fun q => h.k12 ⟨q, by decide⟩, fun q => h.k13 ⟨q, by decide⟩, fun q r => h.k14 ⟨q, by decide⟩ ⟨r, by decide⟩, fun q r => h.k15 ⟨q, by decide⟩ ⟨r, by decide⟩, fun q => h.k16 ⟨q, by decide⟩⟩
    · intro d d' a W ⟨hF, hB, hJ⟩ hn hcl hw hk hu hself
      have q1 := hJ.k0 (hw 0 rfl)
      have z0 : W.cell? ⟨w.heap.size, 1, none⟩ = some (.int .i64 s1) := cell_of_row W w.heap.size 1 _ _ _ (hS.next hB)
      refine wp_yields (v := .int .i64 s1) (w' := W) ?_ ?_
      · clear hJ hF hB hn hcl hw hk hu hself
        generalize a.eval = ρ at *
        go_simp
      · have h := hJ.next (d' := fun j => d' j ∧ j ≠ 1) (fun j q => hk j q.2 q.1) (fun j q => ⟨hu j q, fun e => hn (by subst e; exact q)⟩) (Below.refl _ _)
        refine ⟨hF.put (by decide) _, hB, ?_⟩
        dsimp only
        rw [put_same a 48 _ (by rw [hF.size, hz]; decide), put_other a (s := 12) (t := 48) _ (by decide), put_other a (s := 13) (t := 48) _ (by decide), put_other a (s := 14) (t := 48) _ (by decide), put_other a (s := 47) (t := 48) _ (by decide), put_other a (s := 49) (t := 48) _ (by decide), put_other a (s := 50) (t := 48) _ (by decide), put_other a (s := 51) (t := 48) _ (by decide), put_other a (s := 52) (t := 48) _ (by decide), put_other a (s := 53) (t := 48) _ (by decide), put_other a (s := 54) (t := 48) _ (by decide), put_other a (s := 46) (t := 48) _ (by decide), put_other a (s := 55) (t := 48) _ (by decide), put_other a (s := 56) (t := 48) _ (by decide), put_other a (s := 57) (t := 48) _ (by decide)]
        exact ⟨fun q => h.k0 ⟨q, by decide⟩, fun _ => rfl, fun q => (h.k2 ⟨q, by decide⟩).imp id And.left, fun q => h.k3 ⟨q, by decide⟩, fun q => (h.k4 ⟨q, by decide⟩).imp id And.left, fun q => h.k5 ⟨q, by decide⟩, fun q => (h.k6 ⟨q, by decide⟩).imp id And.left, fun q => h.k7 ⟨q, by decide⟩, fun q => h.k8 ⟨q, by decide⟩, fun q => h.k9 ⟨q, by decide⟩, fun q => h.k10 ⟨q, by decide⟩, fun q => h.k11 ⟨q, by decide⟩, fun q => h.k12 ⟨q, by decide⟩, fun q => h.k13 ⟨q, by decide⟩, fun q r => h.k14 ⟨q, by decide⟩ ⟨r, by decide⟩, fun q r => h.k15 ⟨q, by decide⟩ ⟨r, by decide⟩, fun q => h.k16 ⟨q, by decide⟩⟩
    · intro d d' a W ⟨hF, hB, hJ⟩ hn hcl hw hk hu hself
      refine wp_yields (v := .slice (some ⟨W.heap.size, 0, none⟩) 0 0) (w' := W.alloc (.cells #[] 40)) ?_ ?_
      · clear hJ hF hB hn hcl hw hk hu hself
        generalize a.eval = ρ at *
        go_simp
      · have h := hJ.next (d' := fun j => d' j ∧ j ≠ 2) (fun j q => hk j q.2 q.1) (fun j q => ⟨hu j q, fun e => hn (by subst e; exact q)⟩) (Below.alloc1 W (.cells #[] 40))
        refine ⟨hF.put (by decide) _, Below.next hB (Below.alloc1 W _), ?_⟩
        dsimp only
        rw [put_same a 49 _ (by rw [hF.size, hz]; decide), put_other a (s := 12) (t := 49) _ (by decide), put_other a (s := 13) (t := 49) _ (by decide), put_other a (s := 14) (t := 49) _ (by decide), put_other a (s := 47) (t := 49) _ (by decide), put_other a (s := 48) (t := 49) _ (by decide), put_other a (s := 50) (t := 49) _ (by decide), put_other a (s := 51) (t := 49) _ (by decide), put_other a (s := 52) (t := 49) _ (by decide), put_other a (s := 53) (t := 49) _ (by decide), put_other a (s := 54) (t := 49) _ (by decide), put_other a (s := 46) (t := 49) _ (by decide), put_other a (s := 55) (t := 49) _ (by decide), put_other a (s := 56) (t := 49) _ (by decide), put_other a (s := 57) (t := 49) _ (by decide)]
        exact ⟨fun q => h.k0 ⟨q, by decide⟩, fun q => h.k1 ⟨q, by decide⟩, fun _ => .inl (OwnActs.empty W hB.size), fun q => h.k3 ⟨q, by decide⟩, fun q => (h.k4 ⟨q, by decide⟩).imp id And.left, fun q => h.k5 ⟨q, by decide⟩, fun q => (h.k6 ⟨q, by decide⟩).imp id And.left, fun q => h.k7 ⟨q, by decide⟩, fun q => h.k8 ⟨q, by decide⟩, fun q => h.k9 ⟨q, by decide⟩, fun q => h.k10 ⟨q, by decide⟩, fun q => h.k11 ⟨q, by decide⟩, fun q => h.k12 ⟨q, by decide⟩, fun q => h.k13 ⟨q, by decide⟩, fun q r => h.k14 ⟨q, by decide⟩ ⟨r, by decide⟩, fun q r => h.k15 ⟨q, by decide⟩ ⟨r, by decide⟩, fun q => h.k16 ⟨q, by decide⟩⟩
    · intro d d' a W ⟨hF, hB, hJ⟩ hn hcl hw hk hu hself
      have q1 := (hF.same 1 (by decide)).trans e1
      refine wp_yields (v := .slice A0 m0 c0) (w' := W) ?_ ?_
      · clear hJ hF hB hn hcl hw hk hu hself
        generalize a.eval = ρ at *
        go_simp
      · have h := hJ.next (d' := fun j => d' j ∧ j ≠ 3) (fun j q => hk j q.2 q.1) (fun j q => ⟨hu j q, fun e => hn (by subst e; exact q)⟩) (Below.refl _ _)
        refine ⟨hF.put (by decide) _, hB, ?_⟩
        dsimp only
        rw [put_same a 50 _ (by rw [hF.size, hz]; decide), put_other a (s := 12) (t := 50) _ (by decide), put_other a (s := 13) (t := 50) _ (by decide), put_other a (s := 14) (t := 50) _ (by decide), put_other a (s := 47) (t := 50) _ (by decide), put_other a (s := 48) (t := 50) _ (by decide), put_other a (s := 49) (t := 50) _ (by decide), put_other a (s := 51) (t := 50) _ (by decide), put_other a (s := 52) (t := 50) _ (by decide), put_other a (s := 53) (t := 50) _ (by decide), put_other a (s := 54) (t := 50) _ (by decide), put_other a (s := 46) (t := 50) _ (by decide), put_other a (s := 55) (t := 50) _ (by decide), put_other a (s := 56) (t := 50) _ (by decide), put_other a (s := 57) (t := 50) _ (by decide)]
        exact ⟨fun q => h.k0 ⟨q, by decide⟩, fun q => h.k1 ⟨q, by decide⟩, fun q => (h.k2 ⟨q, by decide⟩).imp id And.left, fun _ => rfl, fun q => (h.k4 ⟨q, by decide⟩).imp id And.left, fun q => h.k5 ⟨q, by decide⟩, fun q => (h.k6 ⟨q, by decide⟩).imp id And.left, fun q => h.k7 ⟨q, by decide⟩, fun q => h.k8 ⟨q, by decide⟩, fun q => h.k9 ⟨q, by decide⟩, fun q => h.k10 ⟨q, by decide⟩, fun q => h.k11 ⟨q, by decide⟩, fun q => h.k12 ⟨q, by decide⟩, fun q => h.k13 ⟨q, by decide⟩, fun q r => h.k14 ⟨q, by decide⟩ ⟨r, by decide⟩, fun q r => h.k15 ⟨q, by decide⟩ ⟨r, by decide⟩, fun q => h.k16 ⟨q, by decide⟩⟩
    · intro d d' a W ⟨hF, hB, hJ⟩ hn hcl hw hk hu hself
      have q1 := (hJ.k2 (hw 2 rfl)).resolve_right hn
      have q2 := hJ.k3 (hw 3 rfl)
      refine wp_append_acts W (.tmp 49) (.tmp 50) (by rfl) w3.heap.size _ [] l0 A0 m0 c0 rfl q1 q2 HL0.out (HAA0.out.below hB) HN0.out HC0.out (by simp) (by omega) hB.size fun v' w' ho hg => ?_
      refine ⟨hF.put (by decide) _, below_grown hB q1 hg, ?_⟩
      dsimp only
      rw [put_same a 51 _ (by rw [hF.size, hz]; decide), put_other a (s := 12) (t := 51) _ (by decide), put_other a (s := 13) (t := 51) _ (by decide), put_other a (s := 14) (t := 51) _ (by decide), put_other a (s := 47) (t := 51) _ (by decide), put_other a (s := 48) (t := 51) _ (by decide), put_other a (s := 49) (t := 51) _ (by decide), put_other a (s := 50) (t := 51) _ (by decide), put_other a (s := 52) (t := 51) _ (by decide), put_other a (s := 53) (t := 51) _ (by decide), put_other a (s := 54) (t := 51) _ (by decide), put_other a (s := 46) (t := 51) _ (by decide), put_other a (s := 55) (t := 51) _ (by decide), put_other a (s := 56) (t := 51) _ (by decide), put_other a (s := 57) (t := 51) _ (by decide)]
      exact ⟨fun q => hJ.k0 (hk 0 (by decide) q), fun q => hJ.k1 (hk 1 (by decide) q), fun _ => .inr hself, fun q => hJ.k3 (hk 3 (by decide) q), fun _ => .inl (by simpa using ho), fun q => hJ.k5 (hk 5 (by decide) q), fun q => (hn (hcl 6 _ 4 rfl rfl (hk 6 (by decide) q))).elim, fun q => (hn (hcl 6 _ 4 rfl rfl (hcl 7 _ 6 rfl rfl (hk 7 (by decide) q)))).elim, fun q => (hn (hcl 6 _ 4 rfl rfl (hcl 7 _ 6 rfl rfl (hcl 8 _ 7 rfl rfl (hk 8 (by decide) q))))).elim, fun q => (hn (hcl 6 _ 4 rfl rfl (hcl 7 _ 6 rfl rfl (hcl 8 _ 7 rfl rfl (hcl 9 _ 8 rfl rfl (hk 9 (by decide) q)))))).elim, fun q => (hn (hcl 6 _ 4 rfl rfl (hcl 7 _ 6 rfl rfl (hcl 8 _ 7 rfl rfl (hcl 10 _ 8 rfl rfl (hk 10 (by decide) q)))))).elim, fun q => (hn (hcl 6 _ 4 rfl rfl (hcl 7 _ 6 rfl rfl (hcl 8 _ 7 rfl rfl (hcl 11 _ 8 rfl rfl (hk 11 (by decide) q)))))).elim, fun q => (hJ.k12 (hk 12 (by decide) q)).grown q1 hg, fun q => (hJ.k13 (hk 13 (by decide) q)).grown q1 hg, fun _ r => (hn (hcl 6 _ 4 rfl rfl (hcl 7 _ 6 rfl rfl (hcl 8 _ 7 rfl rfl (hcl 9 _ 8 rfl rfl (hcl 14 _ 9 rfl rfl (hk 14 (by decide) r))))))).elim, fun _ r => (hn (hcl 6 _ 4 rfl rfl (hcl 7 _ 6 rfl rfl (hcl 8 _ 7 rfl rfl (hcl 10 _ 8 rfl rfl (hcl 15 _ 10 rfl rfl (hk 15 (by decide) r))))))).elim, fun q => (hn (hcl 6 _ 4 rfl rfl (hcl 7 _ 6 rfl rfl (hcl 8 _ 7 rfl rfl (hcl 11 _ 8 rfl rfl (hcl 16 _ 11 rfl rfl (hk 16 (by decide) q))))))).elim⟩
    · intro d d' a W ⟨hF, hB, hJ⟩ hn hcl hw hk hu hself
      have q1 := (hF.same 2 (by decide)).trans e2
      refine wp_yields (v := .slice A m c) (w' := W) ?_ ?_
      · clear hJ hF hB hn hcl hw hk hu hself
        generalize a.eval = ρ at *
        go_simp
      · have h := hJ.next (d' := fun j => d' j ∧ j ≠ 5) (fun j q => hk j q.2 q.1) (fun j q => ⟨hu j q, fun e => hn (by subst e; exact q)⟩) (Below.refl _ _)
        refine ⟨hF.put (by decide) _, hB, ?_⟩
        dsimp only
        rw [put_same a 52 _ (by rw [hF.size, hz]; decide), put_other a (s := 12) (t := 52) _ (by decide), put_other a (s := 13) (t := 52) _ (by decide), put_other a (s := 14) (t := 52) _ (by decide), put_other a (s := 47) (t := 52) _ (by decide), put_other a (s := 48) (t := 52) _ (by decide), put_other a (s := 49) (t := 52) _ (by decide), put_other a (s := 50) (t := 52) _ (by decide), put_other a (s := 51) (t := 52) _ (by decide), put_other a (s := 53) (t := 52) _ (by decide), put_other a (s := 54) (t := 52) _ (by decide), put_other a (s := 46) (t := 52) _ (by decide), put_other a (s := 55) (t := 52) _ (by decide), put_other a (s := 56) (t := 52) _ (by decide), put_other a (s := 57) (t := 52) _ (by decide)]
        exact ⟨fun q => h.k0 ⟨q, by decide⟩, fun q => h.k1 ⟨q, by decide⟩, fun q => (h.k2 ⟨q, by decide⟩).imp id And.left, fun q => h.k3 ⟨q, by decide⟩, fun q => (h.k4 ⟨q, by decide⟩).imp id And.left, fun _ => rfl, fun q => (h.k6 ⟨q, by decide⟩).imp id And.left, fun q => h.k7 ⟨q, by decide⟩, fun q => h.k8 ⟨q, by decide⟩, fun q => h.k9 ⟨q, by decide⟩, fun q => h.k10 ⟨q, by decide⟩, fun q => h.k11 ⟨q, by decide⟩, fun q => h.k12 ⟨q, by decide⟩, fun q => h.k13 ⟨q, by decide⟩, fun q r => h.k14 ⟨q, by decide⟩ ⟨r, by decide⟩, fun q r => h.k15 ⟨q, by decide⟩ ⟨r, by decide⟩, fun q => h.k16 ⟨q, by decide⟩⟩
    · intro d d' a W ⟨hF, hB, hJ⟩ hn hcl hw hk hu hself
      have q1 := (hJ.k4 (hw 4 rfl)).resolve_right hn
      have q2 := hJ.k5 (hw 5 rfl)
      refine wp_append_acts W (.tmp 51) (.tmp 52) (by rfl) w3.heap.size _ l0 l A m c rfl q1 q2 HAL.out (HAA.out.below hB) HAN.out HAC.out (by have := HL0.out; omega) (by omega) hB.size fun v' w' ho hg => ?_
      refine ⟨hF.put (by decide) _, below_grown hB q1 hg, ?_⟩
      dsimp only
      rw [put_same a 53 _ (by rw [hF.size, hz]; decide), put_other a (s := 12) (t := 53) _ (by decide), put_other a (s := 13) (t := 53) _ (by decide), put_other a (s := 14) (t := 53) _ (by decide), put_other a (s := 47) (t := 53) _ (by decide), put_other a (s := 48) (t := 53) _ (by decide), put_other a (s := 49) (t := 53) _ (by decide), put_other a (s := 50) (t := 53) _ (by decide), put_other a (s := 51) (t := 53) _ (by decide), put_other a (s := 52) (t := 53) _ (by decide), put_other a (s := 54) (t := 53) _ (by decide), put_other a (s := 46) (t := 53) _ (by decide), put_other a (s := 55) (t := 53) _ (by decide), put_other a (s := 56) (t := 53) _ (by decide), put_other a (s := 57) (t := 53) _ (by decide)]
      exact ⟨fun q => hJ.k0 (hk 0 (by decide) q), fun q => hJ.k1 (hk 1 (by decide) q), fun _ => .inr (hu 4 (hw 4 rfl)), fun q => hJ.k3 (hk 3 (by decide) q), fun _ => .inr hself, fun q => hJ.k5 (hk 5 (by decide) q), fun _ => .inl ho, fun q => (hn (hcl 7 _ 6 rfl rfl (hk 7 (by decide) q))).elim, fun q => (hn (hcl 7 _ 6 rfl rfl (hcl 8 _ 7 rfl rfl (hk 8 (by decide) q)))).elim, fun q => (hn (hcl 7 _ 6 rfl rfl (hcl 8 _ 7 rfl rfl (hcl 9 _ 8 rfl rfl (hk 9 (by decide) q))))).elim, fun q => (hn (hcl 7 _ 6 rfl rfl (hcl 8 _ 7 rfl rfl (hcl 10 _ 8 rfl rfl (hk 10 (by decide) q))))).elim, fun q => (hn (hcl 7 _ 6 rfl rfl (hcl 8 _ 7 rfl rfl (hcl 11 _ 8 rfl rfl (hk 11 (by decide) q))))).elim, fun q => (hJ.k12 (hk 12 (by decide) q)).grown q1 hg, fun q => (hJ.k13 (hk 13 (by decide) q)).grown q1 hg, fun _ r => (hn (hcl 7 _ 6 rfl rfl (hcl 8 _ 7 rfl rfl (hcl 9 _ 8 rfl rfl (hcl 14 _ 9 rfl rfl (hk 14 (by decide) r)))))).elim, fun _ r => (hn (hcl 7 _ 6 rfl rfl (hcl 8 _ 7 rfl rfl (hcl 10 _ 8 rfl rfl (hcl 15 _ 10 rfl rfl (hk 15 (by decide) r)))))).elim, fun q => (hn (hcl 7 _ 6 rfl rfl (hcl 8 _ 7 rfl rfl (hcl 11 _ 8 rfl rfl (hcl 16 _ 11 rfl rfl (hk 16 (by decide) q)))))).elim⟩
    · intro d d' a W ⟨hF, hB, hJ⟩ hn hcl hw hk hu hself
      have q1 := hJ.k1 (hw 1 rfl)
      obtain ⟨B9, k9, q2, hk2, hA2⟩ := ((hJ.k6 (hw 6 rfl)).resolve_right hn).acts
      refine wp_enters (f := 37) (args := #[.int .i64 s1, .slice B9 (l0 ++ l).length k9]) ?_ (played_any W s1 B9 (l0 ++ l) _ k9 rfl hA2 hk2 (by rw [List.length_append]; have := HL0.out; have := HAL.out; omega)) ?_
      · have qf : a.eval (.func 37) = .func (.func 37) #[] #[] := rfl
        clear hJ hF hB hn hcl hw hk hu hself hA2 hk2
        generalize a.eval = ρ at *
        go_simp
      · rintro e W' ⟨p, A9, c9, rfl, hp, hr, hc, b⟩
        have h := hJ.next (d' := fun j => d' j ∧ j ≠ 7) (fun j q => hk j q.2 q.1) (fun j q => ⟨hu j q, fun e => hn (by subst e; exact q)⟩) b
        refine ⟨_, rfl, hF.put (by decide) _, Below.next hB b, ?_⟩
        dsimp only
        rw [put_same a 54 _ (by rw [hF.size, hz]; decide), put_other a (s := 12) (t := 54) _ (by decide), put_other a (s := 13) (t := 54) _ (by decide), put_other a (s := 14) (t := 54) _ (by decide), put_other a (s := 47) (t := 54) _ (by decide), put_other a (s := 48) (t := 54) _ (by decide), put_other a (s := 49) (t := 54) _ (by decide), put_other a (s := 50) (t := 54) _ (by decide), put_other a (s := 51) (t := 54) _ (by decide), put_other a (s := 52) (t := 54) _ (by decide), put_other a (s := 53) (t := 54) _ (by decide), put_other a (s := 46) (t := 54) _ (by decide), put_other a (s := 55) (t := 54) _ (by decide), put_other a (s := 56) (t := 54) _ (by decide), put_other a (s := 57) (t := 54) _ (by decide)]
        rw [HLA.out] at hp hr hc ⊢
        exact ⟨fun q => h.k0 ⟨q, by decide⟩, fun q => h.k1 ⟨q, by decide⟩, fun q => (h.k2 ⟨q, by decide⟩).imp id And.left, fun q => h.k3 ⟨q, by decide⟩, fun q => (h.k4 ⟨q, by decide⟩).imp id And.left, fun q => h.k5 ⟨q, by decide⟩, fun _ => .inr hself, fun _ => ⟨p, A9, c9, rfl, hp, hr, hc⟩, fun q => h.k8 ⟨q, by decide⟩, fun q => h.k9 ⟨q, by decide⟩, fun q => h.k10 ⟨q, by decide⟩, fun q => h.k11 ⟨q, by decide⟩, fun q => h.k12 ⟨q, by decide⟩, fun q => h.k13 ⟨q, by decide⟩, fun q r => h.k14 ⟨q, by decide⟩ ⟨r, by decide⟩, fun q r => h.k15 ⟨q, by decide⟩ ⟨r, by decide⟩, fun q => h.k16 ⟨q, by decide⟩⟩
    · intro d d' a W ⟨hF, hB, hJ⟩ hn hcl hw hk hu hself
      obtain ⟨p, B, k, q1, hp, hr, hc⟩ := hJ.k7 (hw 7 rfl)
      refine wp_yields (v := .tuple #[.agg #[.pointer p], .agg #[.int .i64 (Tr.total LA), .slice B LA.length k], .bool true]) (w' := W) ?_ ?_
      · clear hJ hF hB hn hcl hw hk hu hself
        generalize a.eval = ρ at *
        go_simp
      · have h := hJ.next (d' := fun j => d' j ∧ j ≠ 8) (fun j q => hk j q.2 q.1) (fun j q => ⟨hu j q, fun e => hn (by subst e; exact q)⟩) (Below.refl _ _)
        refine ⟨hF.put (by decide) _, hB, ?_⟩
        dsimp only
        rw [put_same a 46 _ (by rw [hF.size, hz]; decide), put_other a (s := 12) (t := 46) _ (by decide), put_other a (s := 13) (t := 46) _ (by decide), put_other a (s := 14) (t := 46) _ (by decide), put_other a (s := 47) (t := 46) _ (by decide), put_other a (s := 48) (t := 46) _ (by decide), put_other a (s := 49) (t := 46) _ (by decide), put_other a (s := 50) (t := 46) _ (by decide), put_other a (s := 51) (t := 46) _ (by decide), put_other a (s := 52) (t := 46) _ (by decide), put_other a (s := 53) (t := 46) _ (by decide), put_other a (s := 54) (t := 46) _ (by decide), put_other a (s := 55) (t := 46) _ (by decide), put_other a (s := 56) (t := 46) _ (by decide), put_other a (s := 57) (t := 46) _ (by decide)]
        exact ⟨fun q => h.k0 ⟨q, by decide⟩, fun q => h.k1 ⟨q, by decide⟩, fun q => (h.k2 ⟨q, by decide⟩).imp id And.left, fun q => h.k3 ⟨q, by decide⟩, fun q => (h.k4 ⟨q, by decide⟩).imp id And.left, fun q => h.k5 ⟨q, by decide⟩, fun q => (h.k6 ⟨q, by decide⟩).imp id And.left, fun q => h.k7 ⟨q, by decide⟩, fun _ => ⟨p, B, k, rfl, hp, hr, hc⟩, fun q => h.k9 ⟨q, by decide⟩, fun q => h.k10 ⟨q, by decide⟩, fun q => h.k11 ⟨q, by decide⟩, fun q => h.k12 ⟨q, by decide⟩, fun q => h.k13 ⟨q, by decide⟩, fun q r => h.k14 ⟨q, by decide⟩ ⟨r, by decide⟩, fun q r => h.k15 ⟨q, by decide⟩ ⟨r, by decide⟩, fun q => h.k16 ⟨q, by decide⟩⟩
    · intro d d' a W ⟨hF, hB, hJ⟩ hn hcl hw hk hu hself
      obtain ⟨p, B, k, q1, hp, hr, hc⟩ := hJ.k8 (hw 8 rfl)
      refine wp_yields (v := .agg #[.pointer p]) (w' := W) ?_ ?_
      · clear hJ hF hB hn hcl hw hk hu hself
        generalize a.eval = ρ at *
        go_simp
      · have h := hJ.next (d' := fun j => d' j ∧ j ≠ 9) (fun j q => hk j q.2 q.1) (fun j q => ⟨hu j q, fun e => hn (by subst e; exact q)⟩) (Below.refl _ _)
        refine ⟨hF.put (by decide) _, hB, ?_⟩
        dsimp only
        rw [put_same a 55 _ (by rw [hF.size, hz]; decide), put_other a (s := 12) (t := 55) _ (by decide), put_other a (s := 13) (t := 55) _ (by decide), put_other a (s := 14) (t := 55) _ (by decide), put_other a (s := 47) (t := 55) _ (by decide), put_other a (s := 48) (t := 55) _ (by decide), put_other a (s := 49) (t := 55) _ (by decide), put_other a (s := 50) (t := 55) _ (by decide), put_other a (s := 51) (t := 55) _ (by decide), put_other a (s := 52) (t := 55) _ (by decide), put_other a (s := 53) (t := 55) _ (by decide), put_other a (s := 54) (t := 55) _ (by decide), put_other a (s := 46) (t := 55) _ (by decide), put_other a (s := 56) (t := 55) _ (by decide), put_other a (s := 57) (t := 55) _ (by decide)]
        exact ⟨fun q => h.k0 ⟨q, by decide⟩, fun q => h.k1 ⟨q, by decide⟩, fun q => (h.k2 ⟨q, by decide⟩).imp id And.left, fun q => h.k3 ⟨q, by decide⟩, fun q => (h.k4 ⟨q, by decide⟩).imp id And.left, fun q => h.k5 ⟨q, by decide⟩, fun q => (h.k6 ⟨q, by decide⟩).imp id And.left, fun q => h.k7 ⟨q, by decide⟩, fun q => h.k8 ⟨q, by decide⟩, fun _ => ⟨p, rfl, hp⟩, fun q => h.k10 ⟨q, by decide⟩, fun q => h.k11 ⟨q, by decide⟩, fun q => h.k12 ⟨q, by decide⟩, fun q => h.k13 ⟨q, by decide⟩, fun q r => h.k14 ⟨q, by decide⟩ ⟨r, by decide⟩, fun q r => h.k15 ⟨q, by decide⟩ ⟨r, by decide⟩, fun q => h.k16 ⟨q, by decide⟩⟩
    · intro d d' a W ⟨hF, hB, hJ⟩ hn hcl hw hk hu hself
      obtain ⟨p, B, k, q1, hp, hr, hc⟩ := hJ.k8 (hw 8 rfl)
      refine wp_yields (v := .agg #[.int .i64 (Tr.total LA), .slice B LA.length k]) (w' := W) ?_ ?_
      · clear hJ hF hB hn hcl hw hk hu hself
        generalize a.eval = ρ at *
        go_simp
      · have h := hJ.next (d' := fun j => d' j ∧ j ≠ 10) (fun j q => hk j q.2 q.1) (fun j q => ⟨hu j q, fun e => hn (by subst e; exact q)⟩) (Below.refl _ _)
        refine ⟨hF.put (by decide) _, hB, ?_⟩
        dsimp only
        rw [put_same a 56 _ (by rw [hF.size, hz]; decide), put_other a (s := 12) (t := 56) _ (by decide), put_other a (s := 13) (t := 56) _ (by decide), put_other a (s := 14) (t := 56) _ (by decide), put_other a (s := 47) (t := 56) _ (by decide), put_other a (s := 48) (t := 56) _ (by decide), put_other a (s := 49) (t := 56) _ (by decide), put_other a (s := 50) (t := 56) _ (by decide), put_other a (s := 51) (t := 56) _ (by decide), put_other a (s := 52) (t := 56) _ (by decide), put_other a (s := 53) (t := 56) _ (by decide), put_other a (s := 54) (t := 56) _ (by decide), put_other a (s := 46) (t := 56) _ (by decide), put_other a (s := 55) (t := 56) _ (by decide), put_other a (s := 57) (t := 56) _ (by decide)]
        exact ⟨fun q => h.k0 ⟨q, by decide⟩, fun q => h.k1 ⟨q, by decide⟩, fun q => (h.k2 ⟨q, by decide⟩).imp id And.left, fun q => h.k3 ⟨q, by decide⟩, fun q => (h.k4 ⟨q, by decide⟩).imp id And.left, fun q => h.k5 ⟨q, by decide⟩, fun q => (h.k6 ⟨q, by decide⟩).imp id And.left, fun q => h.k7 ⟨q, by decide⟩, fun q => h.k8 ⟨q, by decide⟩, fun q => h.k9 ⟨q, by decide⟩, fun _ => ⟨B, k, rfl, hr, hc⟩, fun q => h.k11 ⟨q, by decide⟩, fun q => h.k12 ⟨q, by decide⟩, fun q => h.k13 ⟨q, by decide⟩, fun q r => h.k14 ⟨q, by decide⟩ ⟨r, by decide⟩, fun q r => h.k15 ⟨q, by decide⟩ ⟨r, by decide⟩, fun q => h.k16 ⟨q, by decide⟩⟩
    · intro d d' a W ⟨hF, hB, hJ⟩ hn hcl hw hk hu hself
      obtain ⟨p, B, k, q1, hp, hr, hc⟩ := hJ.k8 (hw 8 rfl)
      refine wp_yields (v := .bool true) (w' := W) ?_ ?_
      · clear hJ hF hB hn hcl hw hk hu hself
        generalize a.eval = ρ at *
        go_simp
      · have h := hJ.next (d' := fun j => d' j ∧ j ≠ 11) (fun j q => hk j q.2 q.1) (fun j q => ⟨hu j q, fun e => hn (by subst e; exact q)⟩) (Below.refl _ _)
        refine ⟨hF.put (by decide) _, hB, ?_⟩
        dsimp only
        rw [put_same a 57 _ (by rw [hF.size, hz]; decide), put_other a (s := 12) (t := 57) _ (by decide), put_other a (s := 13) (t := 57) _ (by decide), put_other a (s := 14) (t := 57) _ (by decide), put_other a (s := 47) (t := 57) _ (by decide), put_other a (s := 48) (t := 57) _ (by decide), put_other a (s := 49) (t := 57) _ (by decide), put_other a (s := 50) (t := 57) _ (by decide), put_other a (s := 51) (t := 57) _ (by decide), put_other a (s := 52) (t := 57) _ (by decide), put_other a (s := 53) (t := 57) _ (by decide), put_other a (s := 54) (t := 57) _ (by decide), put_other a (s := 46) (t := 57) _ (by decide), put_other a (s := 55) (t := 57) _ (by decide), put_other a (s := 56) (t := 57) _ (by decide)]
        exact ⟨fun q => h.k0 ⟨q, by decide⟩, fun q => h.k1 ⟨q, by decide⟩, fun q => (h.k2 ⟨q, by decide⟩).imp id And.left, fun q => h.k3 ⟨q, by decide⟩, fun q => (h.k4 ⟨q, by decide⟩).imp id And.left, fun q => h.k5 ⟨q, by decide⟩, fun q => (h.k6 ⟨q, by decide⟩).imp id And.left, fun q => h.k7 ⟨q, by decide⟩, fun q => h.k8 ⟨q, by decide⟩, fun q => h.k9 ⟨q, by decide⟩, fun q => h.k10 ⟨q, by decide⟩, fun _ => rfl, fun q => h.k12 ⟨q, by decide⟩, fun q => h.k13 ⟨q, by decide⟩, fun q r => h.k14 ⟨q, by decide⟩ ⟨r, by decide⟩, fun q r => h.k15 ⟨q, by decide⟩ ⟨r, by decide⟩, fun q => h.k16 ⟨q, by decide⟩⟩
    · intro d d' a W ⟨hF, hB, hJ⟩ hn hcl hw hk hu hself
      refine wp_yields (v := .pointer (some ⟨W.heap.size, 0, none⟩)) (w' := W.alloc (.cells #[.pointer none] 26)) ?_ ?_
      · clear hJ hF hB hn hcl hw hk hu hself
        generalize a.eval = ρ at *
        go_simp
      · have h := hJ.next (d' := fun j => d' j ∧ j ≠ 12) (fun j q => hk j q.2 q.1) (fun j q => ⟨hu j q, fun e => hn (by subst e; exact q)⟩) (Below.alloc1 W (.cells #[.pointer none] 26))
        refine ⟨hF.put (by decide) _, Below.next hB (Below.alloc1 W _), ?_⟩
        dsimp only
        rw [put_same a 12 _ (by rw [hF.size, hz]; decide), put_other a (s := 13) (t := 12) _ (by decide), put_other a (s := 14) (t := 12) _ (by decide), put_other a (s := 47) (t := 12) _ (by decide), put_other a (s := 48) (t := 12) _ (by decide), put_other a (s := 49) (t := 12) _ (by decide), put_other a (s := 50) (t := 12) _ (by decide), put_other a (s := 51) (t := 12) _ (by decide), put_other a (s := 52) (t := 12) _ (by decide), put_other a (s := 53) (t := 12) _ (by decide), put_other a (s := 54) (t := 12) _ (by decide), put_other a (s := 46) (t := 12) _ (by decide), put_other a (s := 55) (t := 12) _ (by decide), put_other a (s := 56) (t := 12) _ (by decide), put_other a (s := 57) (t := 12) _ (by decide)]
        exact ⟨fun q => h.k0 ⟨q, by decide⟩, fun q => h.k1 ⟨q, by decide⟩, fun q => (h.k2 ⟨q, by decide⟩).imp id And.left, fun q => h.k3 ⟨q, by decide⟩, fun q => (h.k4 ⟨q, by decide⟩).imp id And.left, fun q => h.k5 ⟨q, by decide⟩, fun q => (h.k6 ⟨q, by decide⟩).imp id And.left, fun q => h.k7 ⟨q, by decide⟩, fun q => h.k8 ⟨q, by decide⟩, fun q => h.k9 ⟨q, by decide⟩, fun q => h.k10 ⟨q, by decide⟩, fun q => h.k11 ⟨q, by decide⟩, fun _ => ⟨_, _, rfl, hB.size, Boxed.new W _ _⟩, fun q => h.k13 ⟨q, by decide⟩, fun _ r => (hn (hcl 14 _ 12 rfl rfl (hk 14 (by decide) r))).elim, fun q r => h.k15 ⟨q, by decide⟩ ⟨r, by decide⟩, fun q => h.k16 ⟨q, by decide⟩⟩
    · intro d d' a W ⟨hF, hB, hJ⟩ hn hcl hw hk hu hself
      refine wp_yields (v := .pointer (some ⟨W.heap.size, 0, none⟩)) (w' := W.alloc (.cells #[.int .i64 0, .slice none 0 0] 31)) ?_ ?_
      · clear hJ hF hB hn hcl hw hk hu hself
        generalize a.eval = ρ at *
        go_simp
      · have h := hJ.next (d' := fun j => d' j ∧ j ≠ 13) (fun j q => hk j q.2 q.1) (fun j q => ⟨hu j q, fun e => hn (by subst e; exact q)⟩) (Below.alloc1 W (.cells #[.int .i64 0, .slice none 0 0] 31))
        refine ⟨hF.put (by decide) _, Below.next hB (Below.alloc1 W _), ?_⟩
        dsimp only
        rw [put_same a 13 _ (by rw [hF.size, hz]; decide), put_other a (s := 12) (t := 13) _ (by decide), put_other a (s := 14) (t := 13) _ (by decide), put_other a (s := 47) (t := 13) _ (by decide), put_other a (s := 48) (t := 13) _ (by decide), put_other a (s := 49) (t := 13) _ (by decide), put_other a (s := 50) (t := 13) _ (by decide), put_other a (s := 51) (t := 13) _ (by decide), put_other a (s := 52) (t := 13) _ (by decide), put_other a (s := 53) (t := 13) _ (by decide), put_other a (s := 54) (t := 13) _ (by decide), put_other a (s := 46) (t := 13) _ (by decide), put_other a (s := 55) (t := 13) _ (by decide), put_other a (s := 56) (t := 13) _ (by decide), put_other a (s := 57) (t := 13) _ (by decide)]
        exact ⟨fun q => h.k0 ⟨q, by decide⟩, fun q => h.k1 ⟨q, by decide⟩, fun q => (h.k2 ⟨q, by decide⟩).imp id And.left, fun q => h.k3 ⟨q, by decide⟩, fun q => (h.k4 ⟨q, by decide⟩).imp id And.left, fun q => h.k5 ⟨q, by decide⟩, fun q => (h.k6 ⟨q, by decide⟩).imp id And.left, fun q => h.k7 ⟨q, by decide⟩, fun q => h.k8 ⟨q, by decide⟩, fun q => h.k9 ⟨q, by decide⟩, fun q => h.k10 ⟨q, by decide⟩, fun q => h.k11 ⟨q, by decide⟩, fun q => h.k12 ⟨q, by decide⟩, fun _ => ⟨_, _, _, rfl, hB.size, BoxM.new W _ _⟩, fun q r => h.k14 ⟨q, by decide⟩ ⟨r, by decide⟩, fun _ r => (hn (hcl 15 _ 13 rfl rfl (hk 15 (by decide) r))).elim, fun q => h.k16 ⟨q, by decide⟩⟩
    · intro d d' a W ⟨hF, hB, hJ⟩ hn hcl hw hk hu hself
      have d8 := hcl 9 _ 8 rfl rfl (hw 9 rfl)
      have d7 := hcl 8 _ 7 rfl rfl d8
      have d6 := hcl 7 _ 6 rfl rfl d7
      have d4 := hcl 6 _ 4 rfl rfl d6
      obtain ⟨i, y, q1, hi, hb⟩ := hJ.k12 (hw 12 rfl)
      obtain ⟨p, q2, hp⟩ := hJ.k9 (hw 9 rfl)
      have z0 := hb.cell
      have z1 := hb.frozen
      refine wp_skips (w' := W.setCell ⟨i, 0, none⟩ (.pointer p)) ?_ ?_
      · clear hJ hF hB hn hcl hw hk hu hself hp hb d8 d7 d6 d4
        generalize a.eval = ρ at *
        go_simp
      · exact ⟨hF, hB.setCell (p := ⟨i, 0, none⟩) hi _, hJ.put1 hk hu d4 d6 d7 (hw 12 rfl) q1 hp hi hb⟩
    · intro d d' a W ⟨hF, hB, hJ⟩ hn hcl hw hk hu hself
      have d8 := hcl 10 _ 8 rfl rfl (hw 10 rfl)
      have d7 := hcl 8 _ 7 rfl rfl d8
      have d6 := hcl 7 _ 6 rfl rfl d7
      have d4 := hcl 6 _ 4 rfl rfl d6
      obtain ⟨i, x, y, q1, hi, hb⟩ := hJ.k13 (hw 13 rfl)
      obtain ⟨B, k, q2, hp, hc⟩ := hJ.k10 (hw 10 rfl)
      have z0 := hb.c0
      have z1 := hb.c1
      have z2 := hb.frozen 0
      have z3 := hb.frozen 1
      refine wp_skips (w' := (W.setCell ⟨i, 0, none⟩ (.int .i64 (Tr.total LA))).setCell ⟨i, 1, none⟩ (.slice B LA.length k)) ?_ ?_
      · clear hJ hF hB hn hcl hw hk hu hself hp hb d8 d7 d6 d4
        generalize a.eval = ρ at *
        go_simp
      · exact ⟨hF, (hB.setCell (p := ⟨i, 0, none⟩) hi _).setCell (p := ⟨i, 1, none⟩) hi _, hJ.put2 hk hu d4 d6 d7 (hw 13 rfl) q1 hp hc hi hb⟩
    · intro d d' a W ⟨hF, hB, hJ⟩ hn hcl hw hk hu hself
      have q1 := hJ.k11 (hw 11 rfl)
      refine wp_yields (v := .bool true) (w' := W) ?_ ?_
      · clear hJ hF hB hn hcl hw hk hu hself
        generalize a.eval = ρ at *
        go_simp
      · have h := hJ.next (d' := fun j => d' j ∧ j ≠ 16) (fun j q => hk j q.2 q.1) (fun j q => ⟨hu j q, fun e => hn (by subst e; exact q)⟩) (Below.refl _ _)
        refine ⟨hF.put (by decide) _, hB, ?_⟩
        dsimp only
        rw [put_same a 14 _ (by rw [hF.size, hz]; decide), put_other a (s := 12) (t := 14) _ (by decide), put_other a (s := 13) (t := 14) _ (by decide), put_other a (s := 47) (t := 14) _ (by decide), put_other a (s := 48) (t := 14) _ (by decide), put_other a (s := 49) (t := 14) _ (by decide), put_other a (s := 50) (t := 14) _ (by decide), put_other a (s := 51) (t := 14) _ (by decide), put_other a (s := 52) (t := 14) _ (by decide), put_other a (s := 53) (t := 14) _ (by decide), put_other a (s := 54) (t := 14) _ (by decide), put_other a (s := 46) (t := 14) _ (by decide), put_other a (s := 55) (t := 14) _ (by decide), put_other a (s := 56) (t := 14) _ (by decide), put_other a (s := 57) (t := 14) _ (by decide)]
        exact ⟨fun q => h.k0 ⟨q, by decide⟩, fun q => h.k1 ⟨q, by decide⟩, fun q => (h.k2 ⟨q, by decide⟩).imp id And.left, fun q => h.k3 ⟨q, by decide⟩, fun q => (h.k4 ⟨q, by decide⟩).imp id And.left, fun q => h.k5 ⟨q, by decide⟩, fun q => (h.k6 ⟨q, by decide⟩).imp id And.left, fun q => h.k7 ⟨q, by decide⟩, fun q => h.k8 ⟨q, by decide⟩, fun q => h.k9 ⟨q, by decide⟩, fun q => h.k10 ⟨q, by decide⟩, fun q => h.k11 ⟨q, by decide⟩, fun q => h.k12 ⟨q, by decide⟩, fun q => h.k13 ⟨q, by decide⟩, fun q r => h.k14 ⟨q, by decide⟩ ⟨r, by decide⟩, fun q r => h.k15 ⟨q, by decide⟩ ⟨r, by decide⟩, fun _ => rfl⟩
  · intro d a W ⟨hF, hB, hJ⟩ hall
    obtain ⟨i, p, E1, hi, hbi, hp⟩ := hJ.k14 (hall 12 (by decide)) (hall 14 (by decide))
    obtain ⟨j, P, kP, E2, hj, hbj, hP, hkP⟩ := hJ.k15 (hall 13 (by decide)) (hall 15 (by decide))
    have E3 := hJ.k16 (hall 16 (by decide))
    clear hJ hall
    rw [hF.shape (by rw [hz]; decide)]
    clear hF
    simp only [List.foldl]
    rw [E1, E2, E3]
    clear E1 E2 E3
    generalize a.eval (.tmp 46) = z46
    generalize a.eval (.tmp 47) = z47
    generalize a.eval (.tmp 48) = z48
    generalize a.eval (.tmp 49) = z49
    generalize a.eval (.tmp 50) = z50
    generalize a.eval (.tmp 51) = z51
    generalize a.eval (.tmp 52) = z52
    generalize a.eval (.tmp 53) = z53
    generalize a.eval (.tmp 54) = z54
    generalize a.eval (.tmp 55) = z55
    generalize a.eval (.tmp 56) = z56
    generalize a.eval (.tmp 57) = z57
    rw [HA0.out]
    simp only [Act.put, List.setIfInBounds_toArray, List.set_cons_zero, List.set_cons_succ]
    have B4 := Below.next B3 hB
    have x94 := bx_next x9 hB
    have x104 := x10.next hB
    have hS4 := hS.next hB
    have ho4 := ho3.below hB
    have hP04 := hP3.below hB
    generalize hW4 : W = w4 at *
    clear hB x9 x10 hS ho3 hP3 HAA0 HAA B3 hz HA0 e4 e1 e2 hi hj hW4
    clear a a0
    have HAA0 := Lib.hid (HX0.out.below B4)
    have HKA := Lib.hid (HXB.out.below B4)
    have hS := hS4
    clear hS4
    go_upto_region 5 with (fail)
    refine wp_name fun a0 ha0 => ?_
    have e4 : a0.eval (.tmp 4) = .pointer (some ⟨w.heap.size, 0, none⟩) := by rw [ha0]; rfl
    have e1 : a0.eval (.tmp 1) = .slice A0 m0 c0 := by rw [ha0]; rfl
    have e3 : a0.eval (.tmp 3) = .slice B n cB := by rw [ha0]; rfl
    have hz : a0.tmps.size = 111 := by rw [ha0]; rfl
    have HA0 := Lib.hid ha0
    clear ha0
    refine wp_region_steps (fun d a W => Fr [15, 16, 17, 59, 60, 61, 62, 63, 64, 65, 66, 58, 67, 68, 69] a0 a ∧ Below w4.heap.size w4 W ∧ MG w4.heap.size w.heap.size 2 s2 A0 B m0 c0 n cB l0 lk LB d (a.eval (.tmp 15)) (a.eval (.tmp 16)) (a.eval (.tmp 17)) (a.eval (.tmp 59)) (a.eval (.tmp 60)) (a.eval (.tmp 61)) (a.eval (.tmp 62)) (a.eval (.tmp 63)) (a.eval (.tmp 64)) (a.eval (.tmp 65)) (a.eval (.tmp 66)) (a.eval (.tmp 58)) (a.eval (.tmp 67)) (a.eval (.tmp 68)) (a.eval (.tmp 69)) W) (by kernel_rfl) (by kernel_rfl) ⟨Fr.refl _ _, (Below.refl _ _).drew, MG.start rfl⟩ ?_ ?_
    · refine ⟨⟨rfl, ?_⟩, ⟨rfl, ?_⟩, ⟨rfl, ?_⟩, ⟨rfl, ?_⟩, ⟨rfl, ?_⟩, ⟨rfl, ?_⟩, ⟨rfl, ?_⟩, ⟨rfl, ?_⟩, ⟨rfl, ?_⟩, ⟨rfl, ?_⟩, ⟨rfl, ?_⟩, ⟨rfl, ?_⟩, ⟨rfl, ?_⟩, ⟨rfl, ?_⟩, ⟨rfl, ?_⟩, ⟨rfl, ?_⟩, ⟨rfl, ?_⟩, trivial⟩
      · intro d d' a W ⟨hF, hB, hJ⟩ hn hcl hw hk hu hself
        have q4 := (hF.same 4 (by decide)).trans e4
        have qc : a.eval (.const (.int .i64 2)) = .int .i64 2 := rfl
        refine wp_yields (v := .pointer (some ⟨w.heap.size, 2, none⟩)) (w' := W) ?_ ?_
        · clear hJ hF hB hn hcl hw hk hu hself
          generalize a.eval = ρ at *
          go_simp
        · have h := hJ.next (d' := fun j => d' j ∧ j ≠ 0) (fun j q => hk j q.2 q.1) (fun j q => ⟨hu j q, fun e => hn (by subst e; exact q)⟩) (Below.refl _ _)
          refine ⟨hF.put (by decide) _, hB, ?_⟩
          dsimp only
          rw [put_same a 59 _ (by rw [hF.size, hz]; decide), put_other a (s := 15) (t := 59) _ (by decide), put_other a (s := 16) (t := 59) _ (by decide), put_other a (s := 17) (t := 59) _ (by decide), put_other a (s := 60) (t := 59) _ (by decide), put_other a (s := 61) (t := 59) _ (by decide), put_other a (s := 62) (t := 59) _ (by decide), put_other a (s := 63) (t := 59) _ (by decide), put_other a (s := 64) (t := 59) _ (by decide), put_other a (s := 65) (t := 59) _ (by decide), put_other a (s := 66) (t := 59) _ (by decide), put_other a (s := 58) (t := 59) _ (by decide), put_other a (s := 67) (t := 59) _ (by decide), put_other a (s := 68) (t := 59) _ (by decide), put_other a (s := 69) (t := 59) _ (by decide)]
          exact ⟨fun _ => rfl, fun q => h.k1 ⟨q, by decide⟩, fun q => (h.k2 ⟨q, by decide⟩).imp id And.left, fun q => h.k3 ⟨q, by decide⟩, fun q => (h.k4 ⟨q, by decide⟩).imp id And.left, fun q => h.k5 ⟨q, by decide⟩, fun q => (h.k6 ⟨q, by decide⟩).imp id And.left, fun q => h.k7 ⟨q, by decide⟩, fun q => h.k8 ⟨q, by decide⟩, fun q => h.k9 ⟨q, by decide⟩, fun q => h.k10 ⟨q, by decide⟩, fun q => h.k11 ⟨q, by decide⟩, fun q => h.k12 ⟨q, by decide⟩, fun q => h.k13 ⟨q, by decide⟩, fun q r => h.k14 ⟨q, by decide⟩ ⟨r, by decide⟩, fun q r => h.k15 ⟨q, by decide⟩ ⟨r, by decide⟩, fun q => h.k16 ⟨q, by decide⟩⟩
      · intro d d' a W ⟨hF, hB, hJ⟩ hn hcl hw hk hu hself
        have q1 := hJ.k0 (hw 0 rfl)
        have z0 : W.cell? ⟨w.heap.size, 2, none⟩ = some (.int .i64 s2) := cell_of_row W w.heap.size 2 _ _ _ (hS.next hB)
        refine wp_yields (v := .int .i64 s2) (w' := W) ?_ ?_
        · clear hJ hF hB hn hcl hw hk hu hself
          generalize a.eval = ρ at *
          go_simp
        · have h := hJ.next (d' := fun j => d' j ∧ j ≠ 1) (fun j q => hk j q.2 q.1) (fun j q => ⟨hu j q, fun e => hn (by subst e; exact q)⟩) (Below.refl _ _)
          refine ⟨hF.put (by decide) _, hB, ?_⟩
          dsimp only
          rw [put_same a 60 _ (by rw [hF.size, hz]; decide), put_other a (s := 15) (t := 60) _ (by decide), put_other a (s := 16) (t := 60) _ (by decide), put_other a (s := 17) (t := 60) _ (by decide), put_other a (s := 59) (t := 60) _ (by decide), put_other a (s := 61) (t := 60) _ (by decide), put_other a (s := 62) (t := 60) _ (by decide), put_other a (s := 63) (t := 60) _ (by decide), put_other a (s := 64) (t := 60) _ (by decide), put_other a (s := 65) (t := 60) _ (by decide), put_other a (s := 66) (t := 60) _ (by decide), put_other a (s := 58) (t := 60) _ (by decide), put_other a (s := 67) (t := 60) _ (by decide), put_other a (s := 68) (t := 60) _ (by decide), put_other a (s := 69) (t := 60) _ (by decide)]
          exact ⟨fun q => h.k0 ⟨q, by decide⟩, fun _ => rfl, fun q => (h.k2 ⟨q, by decide⟩).imp id And.left, fun q => h.k3 ⟨q, by decide⟩, fun q => (h.k4 ⟨q, by decide⟩).imp id And.left, fun q => h.k5 ⟨q, by decide⟩, fun q => (h.k6 ⟨q, by decide⟩).imp id And.left, fun q => h.k7 ⟨q, by decide⟩, fun q => h.k8 ⟨q, by decide⟩, fun q => h.k9 ⟨q, by decide⟩, fun q => h.k10 ⟨q, by decide⟩, fun q => h.k11 ⟨q, by decide⟩, fun q => h.k12 ⟨q, by decide⟩, fun q => h.k13 ⟨q, by decide⟩, fun q r => h.k14 ⟨q, by decide⟩ ⟨r, by decide⟩, fun q r => h.k15 ⟨q, by decide⟩ ⟨r, by decide⟩, fun q => h.k16 ⟨q, by decide⟩⟩
      · intro d d' a W ⟨hF, hB, hJ⟩ hn hcl hw hk hu hself
        refine wp_yields (v := .slice (some ⟨W.heap.size, 0, none⟩) 0 0) (w' := W.alloc (.cells #[] 40)) ?_ ?_
        · clear hJ hF hB hn hcl hw hk hu hself
          generalize a.eval = ρ at *
          go_simp
        · have h := hJ.next (d' := fun j => d' j ∧ j ≠ 2) (fun j q => hk j q.2 q.1) (fun j q => ⟨hu j q, fun e => hn (by subst e; exact q)⟩) (Below.alloc1 W (.cells #[] 40))
          refine ⟨hF.put (by decide) _, Below.next hB (Below.alloc1 W _), ?_⟩
          dsimp only
          rw [put_same a 61 _ (by rw [hF.size, hz]; decide), put_other a (s := 15) (t := 61) _ (by decide), put_other a (s := 16) (t := 61) _ (by decide), put_other a (s := 17) (t := 61) _ (by decide), put_other a (s := 59) (t := 61) _ (by decide), put_other a (s := 60) (t := 61) _ (by decide), put_other a (s := 62) (t := 61) _ (by decide), put_other a (s := 63) (t := 61) _ (by decide), put_other a (s := 64) (t := 61) _ (by decide), put_other a (s := 65) (t := 61) _ (by decide), put_other a (s := 66) (t := 61) _ (by decide), put_other a (s := 58) (t := 61) _ (by decide), put_other a (s := 67) (t := 61) _ (by decide), put_other a (s := 68) (t := 61) _ (by decide), put_other a (s := 69) (t := 61) _ (by decide)]
          exact ⟨fun q => h.k0 ⟨q, by decide⟩, fun q => h.k1 ⟨q, by decide⟩, fun _ => .inl (OwnActs.empty W hB.size), fun q => h.k3 ⟨q, by decide⟩, fun q => (h.k4 ⟨q, by decide⟩).imp id And.left, fun q => h.k5 ⟨q, by decide⟩, fun q => (h.k6 ⟨q, by decide⟩).imp id And.left, fun q => h.k7 ⟨q, by decide⟩, fun q => h.k8 ⟨q, by decide⟩, fun q => h.k9 ⟨q, by decide⟩, fun q => h.k10 ⟨q, by decide⟩, fun q => h.k11 ⟨q, by decide⟩, fun q => h.k12 ⟨q, by decide⟩, fun q => h.k13 ⟨q, by decide⟩, fun q r => h.k14 ⟨q, by decide⟩ ⟨r, by decide⟩, fun q r => h.k15 ⟨q, by decide⟩ ⟨r, by decide⟩, fun q => h.k16 ⟨q, by decide⟩⟩
      · intro d d' a W ⟨hF, hB, hJ⟩ hn hcl hw hk hu hself
        have q1 := (hF.same 1 (by decide)).trans e1
        refine wp_yields (v := .slice A0 m0 c0) (w' := W) ?_ ?_
        · clear hJ hF hB hn hcl hw hk hu hself
          generalize a.eval = ρ at *
          go_simp
        · have h := hJ.next (d' := fun j => d' j ∧ j ≠ 3) (fun j q => hk j q.2 q.1) (fun j q => ⟨hu j q, fun e => hn (by subst e; exact q)⟩) (Below.refl _ _)
          refine ⟨hF.put (by decide) _, hB, ?_⟩
          dsimp only
          rw [put_same a 62 _ (by rw [hF.size, hz]; decide), put_other a (s := 15) (t := 62) _ (by decide), put_other a (s := 16) (t := 62) _ (by decide), put_other a (s := 17) (t := 62) _ (by decide), put_other a (s := 59) (t := 62) _ (by decide), put_other a (s := 60) (t := 62) _ (by decide), put_other a (s := 61) (t := 62) _ (by decide), put_other a (s := 63) (t := 62) _ (by decide), put_other a (s := 64) (t := 62) _ (by decide), put_other a (s := 65) (t := 62) _ (by decide), put_other a (s := 66) (t := 62) _ (by decide), put_other a (s := 58) (t := 62) _ (by decide), put_other a (s := 67) (t := 62) _ (by decide), put_other a (s := 68) (t := 62) _ (by decide), put_other a (s := 69) (t := 62) _ (by decide)]
          exact ⟨fun q => h.k0 ⟨q, by decide⟩, fun q => h.k1 ⟨q, by decide⟩, fun q => (h.k2 ⟨q, by decide⟩).imp id And.left, fun _ => rfl, fun q => (h.k4 ⟨q, by decide⟩).imp id And.left, fun q => h.k5 ⟨q, by decide⟩, fun q => (h.k6 ⟨q, by decide⟩).imp id And.left, fun q => h.k7 ⟨q, by decide⟩, fun q => h.k8 ⟨q, by decide⟩, fun q => h.k9 ⟨q, by decide⟩, fun q => h.k10 ⟨q, by decide⟩, fun q => h.k11 ⟨q, by decide⟩, fun q => h.k12 ⟨q, by decide⟩, fun q => h.k13 ⟨q, by decide⟩, fun q r => h.k14 ⟨q, by decide⟩ ⟨r, by decide⟩, fun q r => h.k15 ⟨q, by decide⟩ ⟨r, by decide⟩, fun q => h.k16 ⟨q, by decide⟩⟩
      · intro d d' a W ⟨hF, hB, hJ⟩ hn hcl hw hk hu hself
        have q1 := (hJ.k2 (hw 2 rfl)).resolve_right hn
        have q2 := hJ.k3 (hw 3 rfl)
        refine wp_append_acts W (.tmp 61) (.tmp 62) (by rfl) w4.heap.size _ [] l0 A0 m0 c0 rfl q1 q2 HL0.out (HAA0.out.below hB) HN0.out HC0.out (by simp) (by omega) hB.size fun v' w' ho hg => ?_
        refine ⟨hF.put (by decide) _, below_grown hB q1 hg, ?_⟩
        dsimp only
        rw [put_same a 63 _ (by rw [hF.size, hz]; decide), put_other a (s := 15) (t := 63) _ (by decide), put_other a (s := 16) (t := 63) _ (by decide), put_other a (s := 17) (t := 63) _ (by decide), put_other a (s := 59) (t := 63) _ (by decide), put_other a (s := 60) (t := 63) _ (by decide), put_other a (s := 61) (t := 63) _ (by decide), put_other a (s := 62) (t := 63) _ (by decide), put_other a (s := 64) (t := 63) _ (by decide), put_other a (s := 65) (t := 63) _ (by decide), put_other a (s := 66) (t := 63) _ (by decide), put_other a (s := 58) (t := 63) _ (by decide), put_other a (s := 67) (t := 63) _ (by decide), put_other a (s := 68) (t := 63) _ (by decide), put_other a (s := 69) (t := 63) _ (by decide)]
        exact ⟨fun q => hJ.k0 (hk 0 (by decide) q), fun q => hJ.k1 (hk 1 (by decide) q), fun _ => .inr hself, fun q => hJ.k3 (hk 3 (by decide) q), fun _ => .inl (by simpa using ho), fun q => hJ.k5 (hk 5 (by decide) q), fun q => (hn (hcl 6 _ 4 rfl rfl (hk 6 (by decide) q))).elim, fun q => (hn (hcl 6 _ 4 rfl rfl (hcl 7 _ 6 rfl rfl (hk 7 (by decide) q)))).elim, fun q => (hn (hcl 6 _ 4 rfl rfl (hcl 7 _ 6 rfl rfl (hcl 8 _ 7 rfl rfl (hk 8 (by decide) q))))).elim, fun q => (hn (hcl 6 _ 4 rfl rfl (hcl 7 _ 6 rfl rfl (hcl 8 _ 7 rfl rfl (hcl 9 _ 8 rfl rfl (hk 9 (by decide) q)))))).elim, fun q => (hn (hcl 6 _ 4 rfl rfl (hcl 7 _ 6 rfl rfl (hcl 8 _ 7 rfl rfl (hcl 10 _ 8 rfl rfl (hk 10 (by decide) q)))))).elim, fun q => (hn (hcl 6 _ 4 rfl rfl (hcl 7 _ 6 rfl rfl (hcl 8 _ 7 rfl rfl (hcl 11 _ 8 rfl rfl (hk 11 (by decide) q)))))).elim, fun q => (hJ.k12 (hk 12 (by decide) q)).grown q1 hg, fun q => (hJ.k13 (hk 13 (by decide) q)).grown q1 hg, fun _ r => (hn (hcl 6 _ 4 rfl rfl (hcl 7 _ 6 rfl rfl (hcl 8 _ 7 rfl rfl (hcl 9 _ 8 rfl rfl (hcl 14 _ 9 rfl rfl (hk 14 (by decide) r))))))).elim, fun _ r => (hn (hcl 6 _ 4 rfl rfl (hcl 7 _ 6 rfl rfl (hcl 8 _ 7 rfl rfl (hcl 10 _ 8 rfl rfl (hcl 15 _ 10 rfl rfl (hk 15 (by decide) r))))))).elim, fun q => (hn (hcl 6 _ 4 rfl rfl (hcl 7 _ 6 rfl rfl (hcl 8 _ 7 rfl rfl (hcl 11 _ 8 rfl rfl (hcl 16 _ 11 rfl rfl (hk 16 (by decide) q))))))).elim⟩
      · intro d d' a W ⟨hF, hB, hJ⟩ hn hcl hw hk hu hself
        have q1 := (hF.same 3 (by decide)).trans e3
        refine wp_yields (v := .slice B n cB) (w' := W) ?_ ?_
        · clear hJ hF hB hn hcl hw hk hu hself
          generalize a.eval = ρ at *
          go_simp
        · have h := hJ.next (d' := fun j => d' j ∧ j ≠ 5) (fun j q => hk j q.2 q.1) (fun j q => ⟨hu j q, fun e => hn (by subst e; exact q)⟩) (Below.refl _ _)
          refine ⟨hF.put (by decide) _, hB, ?_⟩
          dsimp only
          rw [put_same a 64 _ (by rw [hF.size, hz]; decide), put_other a (s := 15) (t := 64) _ (by decide), put_other a (s := 16) (t := 64) _ (by decide), put_other a (s := 17) (t := 64) _ (by decide), put_other a (s := 59) (t := 64) _ (by decide), put_other a (s := 60) (t := 64) _ (by decide), put_other a (s := 61) (t := 64) _ (by decide), put_other a (s := 62) (t := 64) _ (by decide), put_other a (s := 63) (t := 64) _ (by decide), put_other a (s := 65) (t := 64) _ (by decide), put_other a (s := 66) (t := 64) _ (by decide), put_other a (s := 58) (t := 64) _ (by decide), put_other a (s := 67) (t := 64) _ (by decide), put_other a (s := 68) (t := 64) _ (by decide), put_other a (s := 69) (t := 64) _ (by decide)]
          exact ⟨fun q => h.k0 ⟨q, by decide⟩, fun q => h.k1 ⟨q, by decide⟩, fun q => (h.k2 ⟨q, by decide⟩).imp id And.left, fun q => h.k3 ⟨q, by decide⟩, fun q => (h.k4 ⟨q, by decide⟩).imp id And.left, fun _ => rfl, fun q => (h.k6 ⟨q, by decide⟩).imp id And.left, fun q => h.k7 ⟨q, by decide⟩, fun q => h.k8 ⟨q, by decide⟩, fun q => h.k9 ⟨q, by decide⟩, fun q => h.k10 ⟨q, by decide⟩, fun q => h.k11 ⟨q, by decide⟩, fun q => h.k12 ⟨q, by decide⟩, fun q => h.k13 ⟨q, by decide⟩, fun q r => h.k14 ⟨q, by decide⟩ ⟨r, by decide⟩, fun q r => h.k15 ⟨q, by decide⟩ ⟨r, by decide⟩, fun q => h.k16 ⟨q, by decide⟩⟩
      · intro d d' a W ⟨hF, hB, hJ⟩ hn hcl hw hk hu hself
        have q1 := (hJ.k4 (hw 4 rfl)).resolve_right hn
        have q2 := hJ.k5 (hw 5 rfl)
        refine wp_append_acts W (.tmp 63) (.tmp 64) (by rfl) w4.heap.size _ l0 lk B n cB rfl q1 q2 HKL.out (HKA.out.below hB) HKN.out HKC.out (by have := HL0.out; omega) (by omega) hB.size fun v' w' ho hg => ?_
        refine ⟨hF.put (by decide) _, below_grown hB q1 hg, ?_⟩
        dsimp only
        rw [put_same a 65 _ (by rw [hF.size, hz]; decide), put_other a (s := 15) (t := 65) _ (by decide), put_other a (s := 16) (t := 65) _ (by decide), put_other a (s := 17) (t := 65) _ (by decide), put_other a (s := 59) (t := 65) _ (by decide), put_other a (s := 60) (t := 65) _ (by decide), put_other a (s := 61) (t := 65) _ (by decide), put_other a (s := 62) (t := 65) _ (by decide), put_other a (s := 63) (t := 65) _ (by decide), put_other a (s := 64) (t := 65) _ (by decide), put_other a (s := 66) (t := 65) _ (by decide), put_other a (s := 58) (t := 65) _ (by decide), put_other a (s := 67) (t := 65) _ (by decide), put_other a (s := 68) (t := 65) _ (by decide), put_other a (s := 69) (t := 65) _ (by decide)]
        exact ⟨fun q => hJ.k0 (hk 0 (by decide) q), fun q => hJ.k1 (hk 1 (by decide) q), fun _ => .inr (hu 4 (hw 4 rfl)), fun q => hJ.k3 (hk 3 (by decide) q), fun _ => .inr hself, fun q => hJ.k5 (hk 5 (by decide) q), fun _ => .inl ho, fun q => (hn (hcl 7 _ 6 rfl rfl (hk 7 (by decide) q))).elim, fun q => (hn (hcl 7 _ 6 rfl rfl (hcl 8 _ 7 rfl rfl (hk 8 (by decide) q)))).elim, fun q => (hn (hcl 7 _ 6 rfl rfl (hcl 8 _ 7 rfl rfl (hcl 9 _ 8 rfl rfl (hk 9 (by decide) q))))).elim, fun q => (hn (hcl 7 _ 6 rfl rfl (hcl 8 _ 7 rfl rfl (hcl 10 _ 8 rfl rfl (hk 10 (by decide) q))))).elim, fun q => (hn (hcl 7 _ 6 rfl rfl (hcl 8 _ 7 rfl rfl (hcl 11 _ 8 rfl rfl (hk 11 (by decide) q))))).elim, fun q => (hJ.k12 (hk 12 (by decide) q)).grown q1 hg, fun q => (hJ.k13 (hk 13 (by decide) q)).grown q1 hg, fun _ r => (hn (hcl 7 _ 6 rfl rfl (hcl 8 _ 7 rfl rfl (hcl 9 _ 8 rfl rfl (hcl 14 _ 9 rfl rfl (hk 14 (by decide) r)))))).elim, fun _ r => (hn (hcl 7 _ 6 rfl rfl (hcl 8 _ 7 rfl rfl (hcl 10 _ 8 rfl rfl (hcl 15 _ 10 rfl rfl (hk 15 (by decide) r)))))).elim, fun q => (hn (hcl 7 _ 6 rfl rfl (hcl 8 _ 7 rfl rfl (hcl 11 _ 8 rfl rfl (hcl 16 _ 11 rfl rfl (hk 16 (by decide) q)))))).elim⟩
      · intro d d' a W ⟨hF, hB, hJ⟩ hn hcl hw hk hu hself
        have q1 := hJ.k1 (hw 1 rfl)
        obtain ⟨B9, k9, q2, hk2, hA2⟩ := ((hJ.k6 (hw 6 rfl)).resolve_right hn).acts
        refine wp_enters (f := 37) (args := #[.int .i64 s2, .slice B9 (l0 ++ lk).length k9]) ?_ (played_any W s2 B9 (l0 ++ lk) _ k9 rfl hA2 hk2 (by rw [List.length_append]; have := HL0.out; have := HKL.out; omega)) ?_
        · have qf : a.eval (.func 37) = .func (.func 37) #[] #[] := rfl
          clear hJ hF hB hn hcl hw hk hu hself hA2 hk2
          generalize a.eval = ρ at *
          go_simp
        · rintro e W' ⟨p, A9, c9, rfl, hp, hr, hc, b⟩
          have h := hJ.next (d' := fun j => d' j ∧ j ≠ 7) (fun j q => hk j q.2 q.1) (fun j q => ⟨hu j q, fun e => hn (by subst e; exact q)⟩) b
          refine ⟨_, rfl, hF.put (by decide) _, Below.next hB b, ?_⟩
          dsimp only
          rw [put_same a 66 _ (by rw [hF.size, hz]; decide), put_other a (s := 15) (t := 66) _ (by decide), put_other a (s := 16) (t := 66) _ (by decide), put_other a (s := 17) (t := 66) _ (by decide), put_other a (s := 59) (t := 66) _ (by decide), put_other a (s := 60) (t := 66) _ (by decide), put_other a (s := 61) (t := 66) _ (by decide), put_other a (s := 62) (t := 66) _ (by decide), put_other a (s := 63) (t := 66) _ (by decide), put_other a (s := 64) (t := 66) _ (by decide), put_other a (s := 65) (t := 66) _ (by decide), put_other a (s := 58) (t := 66) _ (by decide), put_other a (s := 67) (t := 66) _ (by decide), put_other a (s := 68) (t := 66) _ (by decide), put_other a (s := 69) (t := 66) _ (by decide)]
          rw [HLB.out] at hp hr hc ⊢
          exact ⟨fun q => h.k0 ⟨q, by decide⟩, fun q => h.k1 ⟨q, by decide⟩, fun q => (h.k2 ⟨q, by decide⟩).imp id And.left, fun q => h.k3 ⟨q, by decide⟩, fun q => (h.k4 ⟨q, by decide⟩).imp id And.left, fun q => h.k5 ⟨q, by decide⟩, fun _ => .inr hself, fun _ => ⟨p, A9, c9, rfl, hp, hr, hc⟩, fun q => h.k8 ⟨q, by decide⟩, fun q => h.k9 ⟨q, by decide⟩, fun q => h.k10 ⟨q, by decide⟩, fun q => h.k11 ⟨q, by decide⟩, fun q => h.k12 ⟨q, by decide⟩, fun q => h.k13 ⟨q, by decide⟩, fun q r => h.k14 ⟨q, by decide⟩ ⟨r, by decide⟩, fun q r => h.k15 ⟨q, by decide⟩ ⟨r, by decide⟩, fun q => h.k16 ⟨q, by decide⟩⟩
      · intro d d' a W ⟨hF, hB, hJ⟩ hn hcl hw hk hu hself
        obtain ⟨p, B, k, q1, hp, hr, hc⟩ := hJ.k7 (hw 7 rfl)
        refine wp_yields (v := .tuple #[.agg #[.pointer p], .agg #[.int .i64 (Tr.total LB), .slice B LB.length k], .bool true]) (w' := W) ?_ ?_
        · clear hJ hF hB hn hcl hw hk hu hself
          generalize a.eval = ρ at *
          go_simp
        · have h := hJ.next (d' := fun j => d' j ∧ j ≠ 8) (fun j q => hk j q.2 q.1) (fun j q => ⟨hu j q, fun e => hn (by subst e; exact q)⟩) (Below.refl _ _)
          refine ⟨hF.put (by decide) _, hB, ?_⟩
          dsimp only
          rw [put_same a 58 _ (by rw [hF.size, hz]; decide), put_other a (s := 15) (t := 58) _ (by decide), put_other a (s := 16) (t := 58) _ (by decide), put_other a (s := 17) (t := 58) _ (by decide), put_other a (s := 59) (t := 58) _ (by decide), put_other a (s := 60) (t := 58) _ (by decide), put_other a (s := 61) (t := 58) _ (by decide), put_other a (s := 62) (t := 58) _ (by decide), put_other a (s := 63) (t := 58) _ (by decide), put_other a (s := 64) (t := 58) _ (by decide), put_other a (s := 65) (t := 58) _ (by decide), put_other a (s := 66) (t := 58) _ (by decide), put_other a (s := 67) (t := 58) _ (by decide), put_other a (s := 68) (t := 58) _ (by decide), put_other a (s := 69) (t := 58) _ (by decide)]
          exact ⟨fun q => h.k0 ⟨q, by decide⟩, fun q => h.k1 ⟨q, by decide⟩, fun q => (h.k2 ⟨q, by decide⟩).imp id And.left, fun q => h.k3 ⟨q, by decide⟩, fun q => (h.k4 ⟨q, by decide⟩).imp id And.left, fun q => h.k5 ⟨q, by decide⟩, fun q => (h.k6 ⟨q, by decide⟩).imp id And.left, fun q => h.k7 ⟨q, by decide⟩, fun _ => ⟨p, B, k, rfl, hp, hr, hc⟩, fun q => h.k9 ⟨q, by decide⟩, fun q => h.k10 ⟨q, by decide⟩, fun q => h.k11 ⟨q, by decide⟩, fun q => h.k12 ⟨q, by decide⟩, fun q => h.k13 ⟨q, by decide⟩, fun q r => h.k14 ⟨q, by decide⟩ ⟨r, by decide⟩, fun q r => h.k15 ⟨q, by decide⟩ ⟨r, by decide⟩, fun q => h.k16 ⟨q, by decide⟩⟩
      · intro d d' a W ⟨hF, hB, hJ⟩ hn hcl hw hk hu hself
        obtain ⟨p, B, k, q1, hp, hr, hc⟩ := hJ.k8 (hw 8 rfl)
        refine wp_yields (v := .agg #[.pointer p]) (w' := W) ?_ ?_
        · clear hJ hF hB hn hcl hw hk hu hself
          generalize a.eval = ρ at *
          go_simp
        · have h := hJ.next (d' := fun j => d' j ∧ j ≠ 9) (fun j q => hk j q.2 q.1) (fun j q => ⟨hu j q, fun e => hn (by subst e; exact q)⟩) (Below.refl _ _)
          refine ⟨hF.put (by decide) _, hB, ?_⟩
          dsimp only
          rw [put_same a 67 _ (by rw [hF.size, hz]; decide), put_other a (s := 15) (t := 67) _ (by decide), put_other a (s := 16) (t := 67) _ (by decide), put_other a (s := 17) (t := 67) _ (by decide), put_other a (s := 59) (t := 67) _ (by decide), put_other a (s := 60) (t := 67) _ (by decide), put_other a (s := 61) (t := 67) _ (by decide), put_other a (s := 62) (t := 67) _ (by decide), put_other a (s := 63) (t := 67) _ (by decide), put_other a (s := 64) (t := 67) _ (by decide), put_other a (s := 65) (t := 67) _ (by decide), put_other a (s := 66) (t := 67) _ (by decide), put_other a (s := 58) (t := 67) _ (by decide), put_other a (s := 68) (t := 67) _ (by decide), put_other a (s := 69) (t := 67) _ (by decide)]
          exact ⟨fun q => h.k0 ⟨q, by decide⟩, fun q => h.k1 ⟨q, by decide⟩, fun q => (h.k2 ⟨q, by decide⟩).imp id And.left, fun q => h.k3 ⟨q, by decide⟩, fun q => (h.k4 ⟨q, by decide⟩).imp id And.left, fun q => h.k5 ⟨q, by decide⟩, fun q => (h.k6 ⟨q, by decide⟩).imp id And.left, fun q => h.k7 ⟨q, by decide⟩, fun q => h.k8 ⟨q, by decide⟩, fun _ => ⟨p, rfl, hp⟩, fun q => h.k10 ⟨q, by decide⟩, fun q => h.k11 ⟨q, by decide⟩, fun q => h.k12 ⟨q, by decide⟩, fun q => h.k13 ⟨q, by decide⟩, fun q r => h.k14 ⟨q, by decide⟩ ⟨r, by decide⟩, fun q r => h.k15 ⟨q, by decide⟩ ⟨r, by decide⟩, fun q => h.k16 ⟨q, by decide⟩⟩
      · intro d d' a W ⟨hF, hB, hJ⟩ hn hcl hw hk hu hself
        obtain ⟨p, B, k, q1, hp, hr, hc⟩ := hJ.k8 (hw 8 rfl)
        refine wp_yields (v := .agg #[.int .i64 (Tr.total LB), .slice B LB.length k]) (w' := W) ?_ ?_
        · clear hJ hF hB hn hcl hw hk hu hself
          generalize a.eval = ρ at *
          go_simp
        · have h := hJ.next (d' := fun j => d' j ∧ j ≠ 10) (fun j q => hk j q.2 q.1) (fun j q => ⟨hu j q, fun e => hn (by subst e; exact q)⟩) (Below.refl _ _)
          refine ⟨hF.put (by decide) _, hB, ?_⟩
          dsimp only
          rw [put_same a 68 _ (by rw [hF.size, hz]; decide), put_other a (s := 15) (t := 68) _ (by decide), put_other a (s := 16) (t := 68) _ (by decide), put_other a (s := 17) (t := 68) _ (by decide), put_other a (s := 59) (t := 68) _ (by decide), put_other a (s := 60) (t := 68) _ (by decide), put_other a (s := 61) (t := 68) _ (by decide), put_other a (s := 62) (t := 68) _ (by decide), put_other a (s := 63) (t := 68) _ (by decide), put_other a (s := 64) (t := 68) _ (by decide), put_other a (s := 65) (t := 68) _ (by decide), put_other a (s := 66) (t := 68) _ (by decide), put_other a (s := 58) (t := 68) _ (by decide), put_other a (s := 67) (t := 68) _ (by decide), put_other a (s := 69) (t := 68) _ (by decide)]
          exact ⟨fun q => h.k0 ⟨q, by decide⟩, fun q => h.k1 ⟨q, by decide⟩, fun q => (h.k2 ⟨q, by decide⟩).imp id And.left, fun q => h.k3 ⟨q, by decide⟩, fun q => (h.k4 ⟨q, by decide⟩).imp id And.left, fun q => h.k5 ⟨q, by decide⟩, fun q => (h.k6 ⟨q, by decide⟩).imp id And.left, fun q => h.k7 ⟨q, by decide⟩, fun q => h.k8 ⟨q, by decide⟩, fun q => h.k9 ⟨q, by decide⟩, fun _ => ⟨B, k, rfl, hr, hc⟩, fun q => h.k11 ⟨q, by decide⟩, fun q => h.k12 ⟨q, by decide⟩, fun q => h.k13 ⟨q, by decide⟩, fun q r => h.k14 ⟨q, by decide⟩ ⟨r, by decide⟩, fun q r => h.k15 ⟨q, by decide⟩ ⟨r, by decide⟩, fun q => h.k16 ⟨q, by decide⟩⟩
      · intro d d' a W ⟨hF, hB, hJ⟩ hn hcl hw hk hu hself
        obtain ⟨p, B, k, q1, hp, hr, hc⟩ := hJ.k8 (hw 8 rfl)
        refine wp_yields (v := .bool true) (w' := W) ?_ ?_
        · clear hJ hF hB hn hcl hw hk hu hself
          generalize a.eval = ρ at *
          go_simp
        · have h := hJ.next (d' := fun j => d' j ∧ j ≠ 11) (fun j q => hk j q.2 q.1) (fun j q => ⟨hu j q, fun e => hn (by subst e; exact q)⟩) (Below.refl _ _)
          refine ⟨hF.put (by decide) _, hB, ?_⟩
          dsimp only
          rw [put_same a 69 _ (by rw [hF.size, hz]; decide), put_other a (s := 15) (t := 69) _ (by decide), put_other a (s := 16) (t := 69) _ (by decide), put_other a (s := 17) (t := 69) _ (by decide), put_other a (s := 59) (t := 69) _ (by decide), put_other a (s := 60) (t := 69) _ (by decide), put_other a (s := 61) (t := 69) _ (by decide), put_other a (s := 62) (t := 69) _ (by decide), put_other a (s := 63) (t := 69) _ (by decide), put_other a (s := 64) (t := 69) _ (by decide), put_other a (s := 65) (t := 69) _ (by decide), put_other a (s := 66) (t := 69) _ (by decide), put_other a (s := 58) (t := 69) _ (by decide), put_other a (s := 67) (t := 69) _ (by decide), put_other a (s := 68) (t := 69) _ (by decide)]
          exact ⟨fun q => h.k0 ⟨q, by decide⟩, fun q => h.k1 ⟨q, by decide⟩, fun q => (h.k2 ⟨q, by decide⟩).imp id And.left, fun q => h.k3 ⟨q, by decide⟩, fun q => (h.k4 ⟨q, by decide⟩).imp id And.left, fun q => h.k5 ⟨q, by decide⟩, fun q => (h.k6 ⟨q, by decide⟩).imp id And.left, fun q => h.k7 ⟨q, by decide⟩, fun q => h.k8 ⟨q, by decide⟩, fun q => h.k9 ⟨q, by decide⟩, fun q => h.k10 ⟨q, by decide⟩, fun _ => rfl, fun q => h.k12 ⟨q, by decide⟩, fun q => h.k13 ⟨q, by decide⟩, fun q r => h.k14 ⟨q, by decide⟩ ⟨r, by decide⟩, fun q r => h.k15 ⟨q, by decide⟩ ⟨r, by decide⟩, fun q => h.k16 ⟨q, by decide⟩⟩
      · intro d d' a W ⟨hF, hB, hJ⟩ hn hcl hw hk hu hself
        refine wp_yields (v := .pointer (some ⟨W.heap.size, 0, none⟩)) (w' := W.alloc (.cells #[.pointer none] 26)) ?_ ?_
        · clear hJ hF hB hn hcl hw hk hu hself
          generalize a.eval = ρ at *
          go_simp
        · have h := hJ.next (d' := fun j => d' j ∧ j ≠ 12) (fun j q => hk j q.2 q.1) (fun j q => ⟨hu j q, fun e => hn (by subst e; exact q)⟩) (Below.alloc1 W (.cells #[.pointer none] 26))
          refine ⟨hF.put (by decide) _, Below.next hB (Below.alloc1 W _), ?_⟩
          dsimp only
          rw [put_same a 15 _ (by rw [hF.size, hz]; decide), put_other a (s := 16) (t := 15) _ (by decide), put_other a (s := 17) (t := 15) _ (by decide), put_other a (s := 59) (t := 15) _ (by decide), put_other a (s := 60) (t := 15) _ (by decide), put_other a (s := 61) (t := 15) _ (by decide), put_other a (s := 62) (t := 15) _ (by decide), put_other a (s := 63) (t := 15) _ (by decide), put_other a (s := 64) (t := 15) _ (by decide), put_other a (s := 65) (t := 15) _ (by decide), put_other a (s := 66) (t := 15) _ (by decide), put_other a (s := 58) (t := 15) _ (by decide), put_other a (s := 67) (t := 15) _ (by decide), put_other a (s := 68) (t := 15) _ (by decide), put_other a (s := 69) (t := 15) _ (by decide)]
          exact ⟨fun q => h.k0 ⟨q, by decide⟩, fun q => h.k1 ⟨q, by decide⟩, fun q => (h.k2 ⟨q, by decide⟩).imp id And.left, fun q => h.k3 ⟨q, by decide⟩, fun q => (h.k4 ⟨q, by decide⟩).imp id And.left, fun q => h.k5 ⟨q, by decide⟩, fun q => (h.k6 ⟨q, by decide⟩).imp id And.left, fun q => h.k7 ⟨q, by decide⟩, fun q => h.k8 ⟨q, by decide⟩, fun q => h.k9 ⟨q, by decide⟩, fun q => h.k10 ⟨q, by decide⟩, fun q => h.k11 ⟨q, by decide⟩, fun _ => ⟨_, _, rfl, hB.size, Boxed.new W _ _⟩, fun q => h.k13 ⟨q, by decide⟩, fun _ r => (hn (hcl 14 _ 12 rfl rfl (hk 14 (by decide) r))).elim, fun q r => h.k15 ⟨q, by decide⟩ ⟨r, by decide⟩, fun q => h.k16 ⟨q, by decide⟩⟩
      · intro d d' a W ⟨hF, hB, hJ⟩ hn hcl hw hk hu hself
        refine wp_yields (v := .pointer (some ⟨W.heap.size, 0, none⟩)) (w' := W.alloc (.cells #[.int .i64 0, .slice none 0 0] 31)) ?_ ?_
        · clear hJ hF hB hn hcl hw hk hu hself
          generalize a.eval = ρ at *
          go_simp
        · have h := hJ.next (d' := fun j => d' j ∧ j ≠ 13) (fun j q => hk j q.2 q.1) (fun j q => ⟨hu j q, fun e => hn (by subst e; exact q)⟩) (Below.alloc1 W (.cells #[.int .i64 0, .slice none 0 0] 31))
          refine ⟨hF.put (by decide) _, Below.next hB (Below.alloc1 W _), ?_⟩
          dsimp only
          rw [put_same a 16 _ (by rw [hF.size, hz]; decide), put_other a (s := 15) (t := 16) _ (by decide), put_other a (s := 17) (t := 16) _ (by decide), put_other a (s := 59) (t := 16) _ (by decide), put_other a (s := 60) (t := 16) _ (by decide), put_other a (s := 61) (t := 16) _ (by decide), put_other a (s := 62) (t := 16) _ (by decide), put_other a (s := 63) (t := 16) _ (by decide), put_other a (s := 64) (t := 16) _ (by decide), put_other a (s := 65) (t := 16) _ (by decide), put_other a (s := 66) (t := 16) _ (by decide), put_other a (s := 58) (t := 16) _ (by decide), put_other a (s := 67) (t := 16) _ (by decide), put_other a (s := 68) (t := 16) _ (by decide), put_other a (s := 69) (t := 16) _ (by decide)]
          exact ⟨fun q => h.k0 ⟨q, by decide⟩, fun q => h.k1 ⟨q, by decide⟩, fun q => (h.k2 ⟨q, by decide⟩).imp id And.left, fun q => h.k3 ⟨q, by decide⟩, fun q => (h.k4 ⟨q, by decide⟩).imp id And.left, fun q => h.k5 ⟨q, by decide⟩, fun q => (h.k6 ⟨q, by decide⟩).imp id And.left, fun q => h.k7 ⟨q, by decide⟩, fun q => h.k8 ⟨q, by decide⟩, fun q => h.k9 ⟨q, by decide⟩, fun q => h.k10 ⟨q, by decide⟩, fun q => h.k11 ⟨q, by decide⟩, fun q => h.k12 ⟨q, by decide⟩, fun _ => ⟨_, _, _, rfl, hB.size, BoxM.new W _ _⟩, fun q r => h.k14 ⟨q, by decide⟩ ⟨r, by decide⟩, fun _ r => (hn (hcl 15 _ 13 rfl rfl (hk 15 (by decide) r))).elim, fun q => h.k16 ⟨q, by decide⟩⟩
      · intro d d' a W ⟨hF, hB, hJ⟩ hn hcl hw hk hu hself
        have d8 := hcl 9 _ 8 rfl rfl (hw 9 rfl)
        have d7 := hcl 8 _ 7 rfl rfl d8
        have d6 := hcl 7 _ 6 rfl rfl d7
        have d4 := hcl 6 _ 4 rfl rfl d6
        obtain ⟨i, y, q1, hi, hb⟩ := hJ.k12 (hw 12 rfl)
        obtain ⟨p, q2, hp⟩ := hJ.k9 (hw 9 rfl)
        have z0 := hb.cell
        have z1 := hb.frozen
        refine wp_skips (w' := W.setCell ⟨i, 0, none⟩ (.pointer p)) ?_ ?_
        · clear hJ hF hB hn hcl hw hk hu hself hp hb d8 d7 d6 d4
          generalize a.eval = ρ at *
          go_simp
        · exact ⟨hF, hB.setCell (p := ⟨i, 0, none⟩) hi _, hJ.put1 hk hu d4 d6 d7 (hw 12 rfl) q1 hp hi hb⟩
      · intro d d' a W ⟨hF, hB, hJ⟩ hn hcl hw hk hu hself
        have d8 := hcl 10 _ 8 rfl rfl (hw 10 rfl)
        have d7 := hcl 8 _ 7 rfl rfl d8
        have d6 := hcl 7 _ 6 rfl rfl d7
        have d4 := hcl 6 _ 4 rfl rfl d6
        obtain ⟨i, x, y, q1, hi, hb⟩ := hJ.k13 (hw 13 rfl)
        obtain ⟨B, k, q2, hp, hc⟩ := hJ.k10 (hw 10 rfl)
        have z0 := hb.c0
        have z1 := hb.c1
        have z2 := hb.frozen 0
        have z3 := hb.frozen 1
        refine wp_skips (w' := (W.setCell ⟨i, 0, none⟩ (.int .i64 (Tr.total LB))).setCell ⟨i, 1, none⟩ (.slice B LB.length k)) ?_ ?_
        · clear hJ hF hB hn hcl hw hk hu hself hp hb d8 d7 d6 d4
          generalize a.eval = ρ at *
          go_simp
        · exact ⟨hF, (hB.setCell (p := ⟨i, 0, none⟩) hi _).setCell (p := ⟨i, 1, none⟩) hi _, hJ.put2 hk hu d4 d6 d7 (hw 13 rfl) q1 hp hc hi hb⟩
      · intro d d' a W ⟨hF, hB, hJ⟩ hn hcl hw hk hu hself
        have q1 := hJ.k11 (hw 11 rfl)
        refine wp_yields (v := .bool true) (w' := W) ?_ ?_
        · clear hJ hF hB hn hcl hw hk hu hself
          generalize a.eval = ρ at *
          go_simp
        · have h := hJ.next (d' := fun j => d' j ∧ j ≠ 16) (fun j q => hk j q.2 q.1) (fun j q => ⟨hu j q, fun e => hn (by subst e; exact q)⟩) (Below.refl _ _)
          refine ⟨hF.put (by decide) _, hB, ?_⟩
          dsimp only
          rw [put_same a 17 _ (by rw [hF.size, hz]; decide), put_other a (s := 15) (t := 17) _ (by decide), put_other a (s := 16) (t := 17) _ (by decide), put_other a (s := 59) (t := 17) _ (by decide), put_other a (s := 60) (t := 17) _ (by decide), put_other a (s := 61) (t := 17) _ (by decide), put_other a (s := 62) (t := 17) _ (by decide), put_other a (s := 63) (t := 17) _ (by decide), put_other a (s := 64) (t := 17) _ (by decide), put_other a (s := 65) (t := 17) _ (by decide), put_other a (s := 66) (t := 17) _ (by decide), put_other a (s := 58) (t := 17) _ (by decide), put_other a (s := 67) (t := 17) _ (by decide), put_other a (s := 68) (t := 17) _ (by decide), put_other a (s := 69) (t := 17) _ (by decide)]
          exact ⟨fun q => h.k0 ⟨q, by decide⟩, fun q => h.k1 ⟨q, by decide⟩, fun q => (h.k2 ⟨q, by decide⟩).imp id And.left, fun q => h.k3 ⟨q, by decide⟩, fun q => (h.k4 ⟨q, by decide⟩).imp id And.left, fun q => h.k5 ⟨q, by decide⟩, fun q => (h.k6 ⟨q, by decide⟩).imp id And.left, fun q => h.k7 ⟨q, by decide⟩, fun q => h.k8 ⟨q, by decide⟩, fun q => h.k9 ⟨q, by decide⟩, fun q => h.k10 ⟨q, by decide⟩, fun q => h.k11 ⟨q, by decide⟩, fun q => h.k12 ⟨q, by decide⟩, fun q => h.k13 ⟨q, by decide⟩, fun q r => h.k14 ⟨q, by decide⟩ ⟨r, by decide⟩, fun q r => h.k15 ⟨q, by decide⟩ ⟨r, by decide⟩, fun _ => rfl⟩
    · intro d a W ⟨hF, hB, hJ⟩ hall
      obtain ⟨i5, p5, E1, hi5, hbi5, hp5⟩ := hJ.k14 (hall 12 (by decide)) (hall 14 (by decide))
      obtain ⟨j5, P5, kP5, E2, hj5, hbj5, hP5, hkP5⟩ := hJ.k15 (hall 13 (by decide)) (hall 15 (by decide))
      have E3 := hJ.k16 (hall 16 (by decide))
      clear hJ hall
      rw [hF.shape (by rw [hz]; decide)]
      clear hF
      simp only [List.foldl]
      rw [E1, E2, E3]
      clear E1 E2 E3
      generalize a.eval (.tmp 58) = z58
      generalize a.eval (.tmp 59) = z59
      generalize a.eval (.tmp 60) = z60
      generalize a.eval (.tmp 61) = z61
      generalize a.eval (.tmp 62) = z62
      generalize a.eval (.tmp 63) = z63
      generalize a.eval (.tmp 64) = z64
      generalize a.eval (.tmp 65) = z65
      generalize a.eval (.tmp 66) = z66
      generalize a.eval (.tmp 67) = z67
      generalize a.eval (.tmp 68) = z68
      generalize a.eval (.tmp 69) = z69
      rw [HA0.out]
      simp only [Act.put, List.setIfInBounds_toArray, List.set_cons_zero, List.set_cons_succ]
      have B5 := Below.next B4 hB
      have x95 := bx_next x94 hB
      have x105 := x104.next hB
      have y12 := bx_next hbi hB
      have y13 := hbj.next hB
      have r0 := ho4.below hB
      have r1 := hp.below hB
      have q0 := hP04.below hB
      have q1 := hP.below hB
      generalize hW5 : W = w5 at *
      clear hB x94 x104 hbi hbj ho4 hp hP04 hP B4 hz HA0 e4 e1 e3 hi5 hj5 hW5 hS HAA0 HKA
      clear a a0
      have hmg := merge_any w5 po p p5 LO LA LB r0 r1 hp5 GO.out GA.out GB.out
      unfold MergePost at hmg
      rw [HR.out] at hmg
      have HMG := Lib.hid hmg
      clear hmg
      have c9 := x95.cell
      have c12 := y12.cell
      have c15 := hbi5.cell
      go_wp2_with (fail)
      go_at_call 44
      refine HMG.out.mono ?_
      rintro e w6 ⟨pm, vm, rfl, hm6, hv6, b6⟩
      obtain ⟨I6, cI, rfl, hcI, hI⟩ := hv6.chs
      try dsimp only at hm6 hcI hI
      try dsimp only
      clear HMG hv6 c9 c12 c15 r0 r1 hp5
      go_upto_region 7 with (fail)
      generalize hb : World.alloc w6 _ = w7
      have d7 : Below w6.heap.size w6 w7 := hb ▸ Below.alloc1 w6 _
      have y18 : Boxed w7 w6.heap.size 26 (.pointer pm) := hb ▸ Boxed.new w6 _ _
      have b67 := Below.next b6 d7
      have B7 := Below.next B5 b67
      have z10 := x105.next b67
      have z13 := y13.next b67
      have z16 := hbj5.next b67
      have q07 := q0.below b67
      have q17 := q1.below b67
      have q57 := hP5.below b67
      have rm7 := hm6.below d7
      have hI7 := hI.below d7
      clear hb b6 d7 b67 x105 y13 hbj5 q0 q1 hP5 hm6 hI B5 x95 y12 hbi5
      have hmg := rmerge_any w7 P0 P P5 LO LA LB k0 kP kP5 GO.out GA.out GB.out q07.1 q17.1 q57.1 hk0 hkP hkP5
      unfold RMergePost at hmg
      rw [HR.out] at hmg
      have HMG := Lib.hid hmg
      clear hmg
      have c100 := z10.c0
      have c101 := z10.c1
      have c130 := z13.c0
      have c131 := z13.c1
      have c160 := z16.c0
      have c161 := z16.c1
      go_wp2_with (fail)
      go_at_call 47
      refine HMG.out.mono ?_
      rintro e w8 ⟨M8, k8, v8, rfl, hM8, hk8, hv8, b8⟩
      obtain ⟨J8, cJ, rfl, hcJ, hJ8⟩ := hv8.chs
      try dsimp only at hM8 hk8 hcJ hJ8
      try dsimp only
      clear HMG hv8 c100 c101 c130 c131 c160 c161
      go_upto_region 8 with (fail)
      generalize hb : World.alloc w8 _ = w9
      have d9 : Below w8.heap.size w8 w9 := hb ▸ Below.alloc1 w8 _
      have z21 : BoxM w9 w8.heap.size (Tr.total RL) (.slice M8 RL.length k8) := hb ▸ BoxM.new w8 _ _
      have b89 := Below.next b8 d9
      have B9 := Below.next B7 b89
      have y189 := bx_next y18 b89
      have rm9 := rm7.below b89
      have hI9 := hI7.below b89
      have hM9 := hM8.toRuns.below d9
      have hJ9 := hJ8.below d9
      clear hb b8 d9 b89 z10 z13 z16 q07 q17 q57 B7 y18 rm7 hI7 hM8 hJ8
      have HSM := Lib.hid (same_any w9 pm RL M8 k8 rm9 hM9 hk8)
      have HCH := Lib.hid (fun (W : World) (hW : Below w9.heap.size w9 W) => changed_same RD I6 J8 cI cJ W (hI9.below hW) (hJ9.below hW) hcI hcJ (by have := HRD.out; omega))
      clear rm9 hM9 hk8 hI9 hJ9 hcI hcJ
      have c18 := y189.cell
      have c210 := z21.c0
      have c211 := z21.c1
      go_wp2_with (fail)
      go_at_call 21
      refine HSM.out.mono ?_
      rintro e wA ⟨rfl, bA⟩
      clear c18 c210 c211 y189 z21
      go_wp2_with (fail)
      go_at_call 46
      refine (HCH.out wA bA).mono ?_
      rintro e wB ⟨rfl, qB⟩
      have BB := Below.next (Below.next B9 bA) (qB.below _)
      go_wp2_with (fail)
      go_at_call 18
      refine (awake_any _).mono ?_
      rintro e wz ⟨rfl, bz⟩
      go_wp2_with (fail)
      go_ret
      exact ⟨rfl, Below.next BB bz⟩
/-- SpanMerges answers true. -/
theorem spanMerges_any (w : World) (s0 s1 s2 : Int) (A0 A B : Option Addr) (l0 l k : List Ac) (c0 c d : Nat) (hA0 : Acts w A0 l0) (hA : Acts w A l) (hB : Acts w B k) (hn0 : A0 = none → c0 = 0) (hnA : A = none → c = 0) (hnB : B = none → d = 0) (hc0 : l0.length ≤ c0) (hmc : l.length ≤ c) (hnd : k.length ≤ d) :
    Calls Try.prog 13 #[.agg #[.int .i64 s0, .int .i64 s1, .int .i64 s2], .slice A0 l0.length c0, .slice A l.length c, .slice B k.length d] w (FromsPost w) := by
  by_cases h : (l0.length : Int) ≤ 40 ∧ (l.length : Int) ≤ 40 ∧ (k.length : Int) ≤ 40
  · exact merges_main w s0 s1 s2 A0 A B _ c0 _ c _ d l0 l k rfl rfl rfl hA0 hA hB hn0 hnA hnB hc0 hmc hnd h.1 h.2.1 h.2.2
  · exact merges_many w s0 s1 s2 A0 A B _ c0 _ c _ d (by omega)
end Go.Proofs.Ytfmplibjhohpgaa
