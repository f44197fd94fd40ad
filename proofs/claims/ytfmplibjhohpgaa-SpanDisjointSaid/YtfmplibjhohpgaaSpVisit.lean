/- The walks over the iterator of package span: visit and within. -/
import Derived.Test.YtfmplibjhohpgaaSpBefore
import Derived.RangeFuncNested
import Derived.RangeFuncBound
import Derived.RangeFuncCalls
import Derived.RangeFuncLeaves
import Derived.RangeFuncKeeps
import Derived.Shelf.Abstract
import Derived.Shelf.RegionOpen
import Derived.OwnWalkIn
import Derived.TacticsInMore
import Derived.LoopNIn
import Derived.LoopIn
import Derived.Sort.QuietTacIn
import Derived.Sort.BigQuietIn
namespace Go.Proofs.Ytfmplibjhohpgaa
open Go.RowKit Go.Shelf

attribute [local go_sem] Oper.semAt_some
attribute [local go_sem ↓] run_max run_min

theorem RoundIn.any_depth {F : Fence} (hd : F.depth = none) {m m' : Nat} {P : Program} {l : Nat} {f : FuncId} {tmps : Array Value} {assign body : Code} {w : World} {R : Ending → World → Prop}
    (h : RoundIn F m P l f tmps assign body w R) : RoundIn F m' P l f tmps assign body w R := ⟨h.1, fun c cs _ => h.2 c cs (fun d h => by rw [hd] at h; cases h)⟩
theorem YieldAt.any_depth {F : Fence} (hd : F.depth = none) {m : Nat} (m' : Nat) {P : Program} {l : Nat} {args : Array Value} {W : World} {R : Ending → World → Prop} (h : YieldAt F m P l args W R) : YieldAt F m' P l args W R := by
  obtain ⟨fn, tmps, assign, body, hy, hR⟩ := h
  exact ⟨fn, tmps, assign, body, hy, RoundIn.any_depth hd hR⟩

/-- The runs of a tree that begins at a piece, clipped to a range. -/
def vis (lo hi : Int) : Tr → Int → List Rn
  | .nil, _ => []
  | .node l len tag r, k => if hi ≤ k then [] else if k + (Tr.node l len tag r).pcs ≤ lo then [] else
      vis lo hi l k ++ (if max (k + l.pcs) lo < min (k + l.pcs + len) hi then [⟨max (k + l.pcs) lo, min (k + l.pcs + len) hi, tag⟩] else []) ++ vis lo hi r (k + l.pcs + len)
/-- A run as a value. -/
def encR (x : Rn) : Value := .agg #[.int .i64 x.lo, .int .i64 x.hi, .int .i64 x.tag]

/-- What visit does with a tree, whatever a round does. -/
def VI (l n₀ N : Nat) (lo hi : Int) (J Jx : List Rn → World → Prop) (T : Tr) : Prop :=
  ∀ (n : Nat) (p : Option Addr) (k : Int) (pre : List Rn) (W : World), IsTree n₀ W p T → n₀ ≤ W.heap.size → T.Ok → 0 ≤ k → k + T.pcs ≤ 1099511627776 → J pre W → pre.length + (vis lo hi T k).length ≤ N →
    CallsIn Fence.wide n Try.prog 80 #[.pointer p, .int .i64 k, .int .i64 lo, .int .i64 hi, .func (.yield l) #[] #[]] W fun e W' =>
      (e = .returned (.bool true) ∧ J (pre ++ vis lo hi T k) W' ∧ Below n₀ W W') ∨ (e = .returned (.bool false) ∧ ∃ q, q <+: vis lo hi T k ∧ Jx (pre ++ q) W')
section
variable (l n₀ N : Nat) (lo hi : Int) (J Jx : List Rn → World → Prop)
set_option maxRecDepth 100000 in
set_option maxHeartbeats 1000000 in
theorem visit_nil : VI l n₀ N lo hi J Jx .nil := by
  intro n p k pre W hT _ _ _ _ hJ _
  obtain rfl : p = none := hT
  refine callsIn_of_wp Try.func80 rfl trivial ?_ rfl
  simp only [Try.ntmps80, List.size_toArray, List.length_cons, List.length_nil, Nat.reduceAdd, Nat.reduceSub, Array.replicate_succ, Array.replicate_zero, List.push_toArray, List.append_toArray, List.nil_append, List.cons_append]
  gi_wp2
  go_ret
  exact .inl ⟨rfl, by simpa [vis] using hJ, Below.refl _ _⟩
set_option maxRecDepth 100000 in
set_option maxHeartbeats 1000000 in
theorem visit_skip (tl tr : Tr) (len tag : Int) (n : Nat) (p : Option Addr) (k : Int) (_pre : List Rn) (W : World) (hT : IsTree n₀ W p (.node tl len tag tr)) (hk : 0 ≤ k) (hp : k + (Tr.node tl len tag tr).pcs ≤ 1099511627776) (o : (Tr.node tl len tag tr).Ok)
    (h : (hi ≤ k) ∨ (¬ hi ≤ k ∧ k + (Tr.node tl len tag tr).pcs ≤ lo)) :
    CallsIn Fence.wide n Try.prog 80 #[.pointer p, .int .i64 k, .int .i64 lo, .int .i64 hi, .func (.yield l) #[] #[]] W fun e W' => e = .returned (.bool true) ∧ W = W' := by
  obtain ⟨b, pl, pr, rfl, hb, hn, hl, hr⟩ := hT
  have c6 := hn.c6
  have q1 := Tr.pcs_nonneg _ o
  rcases h with h | ⟨h, h'⟩
  · refine callsIn_of_wp Try.func80 rfl trivial ?_ rfl
    simp only [Try.ntmps80, List.size_toArray, List.length_cons, List.length_nil, Nat.reduceAdd, Nat.reduceSub, Array.replicate_succ, Array.replicate_zero, List.push_toArray, List.append_toArray, List.nil_append, List.cons_append]
    gi_wp2
    go_ret
    exact ⟨rfl, rfl⟩
  · refine callsIn_of_wp Try.func80 rfl trivial ?_ rfl
    simp only [Try.ntmps80, List.size_toArray, List.length_cons, List.length_nil, Nat.reduceAdd, Nat.reduceSub, Array.replicate_succ, Array.replicate_zero, List.push_toArray, List.append_toArray, List.nil_append, List.cons_append]
    gi_wp2
    go_ret
    exact ⟨rfl, rfl⟩
set_option maxRecDepth 100000 in
set_option maxHeartbeats 1000000 in
theorem visit_main (hJ : ∀ pre W W', J pre W → Below W.heap.size W W' → J pre W')
    (hY : ∀ m pre x W, J pre W → pre.length < N → YieldAt Fence.wide m Try.prog l #[encR x] W fun e W' =>
      (e = .returned (.bool true) ∧ J (pre ++ [x]) W' ∧ Below n₀ W W') ∨ (e = .returned (.bool false) ∧ Jx (pre ++ [x]) W'))
    (tl tr : Tr) (len tag : Int) (ihl : VI l n₀ N lo hi J Jx tl) (ihr : VI l n₀ N lo hi J Jx tr) (n : Nat) (p : Option Addr) (k : Int) (pre : List Rn) (W : World) (hT : IsTree n₀ W p (.node tl len tag tr)) (hN₀ : n₀ ≤ W.heap.size)
    (hk : 0 ≤ k) (hp : k + (Tr.node tl len tag tr).pcs ≤ 1099511627776) (o : (Tr.node tl len tag tr).Ok) (hJ0 : J pre W) (hN : pre.length + (vis lo hi (Tr.node tl len tag tr) k).length ≤ N)
    (h : ¬ hi ≤ k) (h' : ¬ k + (Tr.node tl len tag tr).pcs ≤ lo) (hab : max (k + tl.pcs) lo < min (k + tl.pcs + len) hi) :
    CallsIn Fence.wide n Try.prog 80 #[.pointer p, .int .i64 k, .int .i64 lo, .int .i64 hi, .func (.yield l) #[] #[]] W fun e W' =>
      (e = .returned (.bool true) ∧ J (pre ++ vis lo hi (Tr.node tl len tag tr) k) W' ∧ Below n₀ W W') ∨ (e = .returned (.bool false) ∧ ∃ q, q <+: vis lo hi (Tr.node tl len tag tr) k ∧ Jx (pre ++ q) W') := by
  obtain ⟨b, pl, pr, rfl, hb, hn, hl, hr⟩ := hT
  obtain ⟨o1, o2, o4, o5, o6⟩ := o
  have c0 := hn.c0
  have c1 := hn.c1
  have c2 := hn.c2
  have c3 := hn.c3
  have c6 := hn.c6
  have q1 := Tr.pcs_nonneg _ o1
  have q2 := Tr.pcs_nonneg _ o2
  have e6 : (Tr.node tl len tag tr).pcs = tl.pcs + tr.pcs + len := rfl
  rw [e6] at hp h' c6
  clear e6
  have hv : vis lo hi (Tr.node tl len tag tr) k = vis lo hi tl k ++ (⟨max (k + tl.pcs) lo, min (k + tl.pcs + len) hi, tag⟩ :: vis lo hi tr (k + tl.pcs + len)) := by
    simp only [vis]
    rw [if_neg h, if_neg (by simp only [Tr.pcs]; exact h'), if_pos hab]; simp
  rw [hv] at hN
  simp only [List.length_append, List.length_cons] at hN
  have HV := Lib.hid hv
  have HN1 : Hid (pre.length + (vis lo hi tl k).length ≤ N) := Lib.hid (by omega)
  have HN2 : Hid ((pre ++ vis lo hi tl k).length < N) := Lib.hid (by rw [List.length_append]; omega)
  have HN3 : Hid ((pre ++ vis lo hi tl k ++ [Rn.mk (max (k + tl.pcs) lo) (min (k + tl.pcs + len) hi) tag]).length + (vis lo hi tr (k + tl.pcs + len)).length ≤ N) := Lib.hid (by simp only [List.length_append, List.length_cons, List.length_nil]; omega)
  clear hv hN
  refine callsIn_of_wp Try.func80 rfl trivial ?_ rfl
  simp only [Try.ntmps80, List.size_toArray, List.length_cons, List.length_nil, Nat.reduceAdd, Nat.reduceSub, Array.replicate_succ, Array.replicate_zero, List.push_toArray, List.append_toArray, List.nil_append, List.cons_append]
  gi_wp2_with (fail)
  refine ⟨trivial, fun h => (by cases h), ?_⟩
  refine (callsIn_wide.2 (pieces_any W pl tl (by exact IsTree.mono hN₀ hl))).mono ?_
  rintro e W0 ⟨rfl, m0, rfl⟩
  gi_wp2_with (fail)
  refine ⟨trivial, fun h => (by cases h), ?_⟩
  refine (ihl (n - 1) pl k pre (W.drewN m0) (by exact IsTree.below (Quiet.below ⟨_, rfl⟩ _) hl) (by exact hN₀) o1 hk (by omega) (hJ _ _ _ hJ0 (Quiet.below ⟨_, rfl⟩ _)) HN1.out).mono ?_
  rintro e W1 (⟨rfl, hJ1, hb1⟩ | ⟨rfl, q, hq, hx⟩)
  · have hB1 : Below n₀ W W1 := Below.of_drewN hb1
    have d1 := (hn.below hB1 hb).c1
    have d2 := (hn.below hB1 hb).c2
    have d3 := (hn.below hB1 hb).c3
    gi_wp2_with (fail)
    gi_quiet (fail)
    generalize hW2 : World.drewN W1 _ = W2
    have hq2 : Quiet W1 W2 := ⟨_, hW2.symm⟩
    clear hW2
    have hB2 : Below n₀ W W2 := hB1.trans (hq2.below _)
    have f1 := (hn.below hB2 hb).c1
    have f2 := (hn.below hB2 hb).c2
    have f3 := (hn.below hB2 hb).c3
    have hJ2 := hJ _ _ _ hJ1 (hq2.below _)
    obtain ⟨fn, tmps, assign, body, hy, hR⟩ := hY (n - 1) _ ⟨max (k + tl.pcs) lo, min (k + tl.pcs + len) hi, tag⟩ W2 hJ2 HN2.out
    dsimp only [encR] at hy
    gi_wp2_with (fail)
    refine ⟨fun h => (by cases h), ?_⟩
    refine hR.mono ?_
    clear hR hy
    rintro e W3 (⟨rfl, hJ3, hb3⟩ | ⟨rfl, hx3⟩)
    · have hB3 : Below n₀ W W3 := hB2.trans hb3
      have g1 := (hn.below hB3 hb).c1
      have g2 := (hn.below hB3 hb).c2
      have i1 : IntKind.i64.wrap (k + tl.pcs + len) = k + tl.pcs + len := IntWalk.i64_in _ (by omega)
      have h9 : ∀ W', Quiet W3 W' → CallsIn Fence.wide (n - 1) Try.prog 80 #[.pointer pr, .int .i64 (k + tl.pcs + len), .int .i64 lo, .int .i64 hi, .func (.yield l) #[] #[]] W' fun e W'' => ∃ bb : Bool, e = .returned (.bool bb) ∧
          ((bb = true ∧ J (pre ++ vis lo hi tl k ++ [Rn.mk (max (k + tl.pcs) lo) (min (k + tl.pcs + len) hi) tag] ++ vis lo hi tr (k + tl.pcs + len)) W'' ∧ Below n₀ W' W'') ∨ (bb = false ∧ ∃ q, q <+: vis lo hi tr (k + tl.pcs + len) ∧ Jx (pre ++ vis lo hi tl k ++ [Rn.mk (max (k + tl.pcs) lo) (min (k + tl.pcs + len) hi) tag] ++ q) W'')) := fun W' hq =>
        (ihr (n - 1) pr (k + tl.pcs + len) _ W' (IsTree.below (hB3.trans (hq.below _)) hr) (Nat.le_trans hN₀ (hB3.trans (hq.below _)).size) o2 (by omega) (by omega) (hJ _ _ _ hJ3 (hq.below _)) HN3.out).mono fun e W'' h => h.elim (fun ⟨h1, h2⟩ => ⟨true, h1, .inl ⟨rfl, h2⟩⟩) (fun ⟨h1, h2⟩ => ⟨false, h1, .inr ⟨rfl, h2⟩⟩)
      have H9 := Lib.hid h9
      clear h9
      gi_wp2_with (fail)
      gi_region_with ((refine ⟨trivial, fun h => (by cases h), ?_⟩; gi_at_call 80; refine (H9.out _ ⟨1, rfl⟩).mono ?_; rintro e W4 ⟨bb, rfl, h4⟩))
      all_goals
        gi_wp2_with (fail)
        go_ret
        rcases h4 with ⟨rfl, hJ4, hb4⟩ | ⟨rfl, q, hq, hx4⟩
        · exact .inl ⟨rfl, by rw [HV.out]; simpa [List.append_assoc] using hJ4, hB3.trans (Below.of_drew hb4)⟩
        · refine .inr ⟨rfl, vis lo hi tl k ++ (Rn.mk (max (k + tl.pcs) lo) (min (k + tl.pcs + len) hi) tag :: q), ?_, ?_⟩
          · rw [HV.out]; obtain ⟨t, ht⟩ := hq; exact ⟨t, by rw [← ht]; simp⟩
          · simpa [List.append_assoc] using hx4
    · gi_wp2_with (fail)
      go_ret
      refine .inr ⟨rfl, vis lo hi tl k ++ [Rn.mk (max (k + tl.pcs) lo) (min (k + tl.pcs + len) hi) tag], ?_, ?_⟩
      · rw [HV.out]; exact ⟨vis lo hi tr (k + tl.pcs + len), by simp⟩
      · rw [← List.append_assoc]; exact hx3
  · gi_wp2_with (fail)
    go_ret
    exact .inr ⟨rfl, q, HV.out ▸ hq.trans (List.prefix_append _ _), hx⟩
set_option maxRecDepth 100000 in
set_option maxHeartbeats 1000000 in
theorem visit_none (hJ : ∀ pre W W', J pre W → Below W.heap.size W W' → J pre W')
    (tl tr : Tr) (len tag : Int) (ihl : VI l n₀ N lo hi J Jx tl) (ihr : VI l n₀ N lo hi J Jx tr) (n : Nat) (p : Option Addr) (k : Int) (pre : List Rn) (W : World) (hT : IsTree n₀ W p (.node tl len tag tr)) (hN₀ : n₀ ≤ W.heap.size)
    (hk : 0 ≤ k) (hp : k + (Tr.node tl len tag tr).pcs ≤ 1099511627776) (o : (Tr.node tl len tag tr).Ok) (hJ0 : J pre W) (hN : pre.length + (vis lo hi (Tr.node tl len tag tr) k).length ≤ N)
    (h : ¬ hi ≤ k) (h' : ¬ k + (Tr.node tl len tag tr).pcs ≤ lo) (hab : ¬ max (k + tl.pcs) lo < min (k + tl.pcs + len) hi) :
    CallsIn Fence.wide n Try.prog 80 #[.pointer p, .int .i64 k, .int .i64 lo, .int .i64 hi, .func (.yield l) #[] #[]] W fun e W' =>
      (e = .returned (.bool true) ∧ J (pre ++ vis lo hi (Tr.node tl len tag tr) k) W' ∧ Below n₀ W W') ∨ (e = .returned (.bool false) ∧ ∃ q, q <+: vis lo hi (Tr.node tl len tag tr) k ∧ Jx (pre ++ q) W') := by
  obtain ⟨b, pl, pr, rfl, hb, hn, hl, hr⟩ := hT
  obtain ⟨o1, o2, o4, o5, o6⟩ := o
  have c0 := hn.c0
  have c1 := hn.c1
  have c2 := hn.c2
  have c3 := hn.c3
  have c6 := hn.c6
  have q1 := Tr.pcs_nonneg _ o1
  have q2 := Tr.pcs_nonneg _ o2
  have e6 : (Tr.node tl len tag tr).pcs = tl.pcs + tr.pcs + len := rfl
  rw [e6] at hp h' c6
  clear e6
  have hv : vis lo hi (Tr.node tl len tag tr) k = vis lo hi tl k ++ vis lo hi tr (k + tl.pcs + len) := by
    simp only [vis]
    rw [if_neg h, if_neg (by simp only [Tr.pcs]; exact h'), if_neg hab]; simp
  rw [hv] at hN
  simp only [List.length_append] at hN
  have HV := Lib.hid hv
  have HN1 : Hid (pre.length + (vis lo hi tl k).length ≤ N) := Lib.hid (by omega)
  have hd : decide (max (k + tl.pcs) lo < min (k + tl.pcs + len) hi) = false := by simpa using hab
  have HN3 : Hid ((pre ++ vis lo hi tl k).length + (vis lo hi tr (k + tl.pcs + len)).length ≤ N) := Lib.hid (by simp only [List.length_append]; omega)
  clear hv hN
  refine callsIn_of_wp Try.func80 rfl trivial ?_ rfl
  simp only [Try.ntmps80, List.size_toArray, List.length_cons, List.length_nil, Nat.reduceAdd, Nat.reduceSub, Array.replicate_succ, Array.replicate_zero, List.push_toArray, List.append_toArray, List.nil_append, List.cons_append]
  gi_wp2_with (fail)
  refine ⟨trivial, fun h => (by cases h), ?_⟩
  refine (callsIn_wide.2 (pieces_any W pl tl (by exact IsTree.mono hN₀ hl))).mono ?_
  rintro e W0 ⟨rfl, m0, rfl⟩
  gi_wp2_with (fail)
  refine ⟨trivial, fun h => (by cases h), ?_⟩
  refine (ihl (n - 1) pl k pre (W.drewN m0) (by exact IsTree.below (Quiet.below ⟨_, rfl⟩ _) hl) (by exact hN₀) o1 hk (by omega) (hJ _ _ _ hJ0 (Quiet.below ⟨_, rfl⟩ _)) HN1.out).mono ?_
  rintro e W1 (⟨rfl, hJ1, hb1⟩ | ⟨rfl, q, hq, hx⟩)
  · have hB1 : Below n₀ W W1 := Below.of_drewN hb1
    have d1 := (hn.below hB1 hb).c1
    have d2 := (hn.below hB1 hb).c2
    have d3 := (hn.below hB1 hb).c3
    gi_wp2_with (fail)
    gi_quiet (fail)
    generalize hW2 : World.drewN W1 _ = W2
    have hq2 : Quiet W1 W2 := ⟨_, hW2.symm⟩
    clear hW2
    have hB2 : Below n₀ W W2 := hB1.trans (hq2.below _)
    have f1 := (hn.below hB2 hb).c1
    have f2 := (hn.below hB2 hb).c2
    have f3 := (hn.below hB2 hb).c3
    have hJ2 := hJ _ _ _ hJ1 (hq2.below _)
    have hB3 := hB2
    have g1 := f1
    have g2 := f2
    have i1 : IntKind.i64.wrap (k + tl.pcs + len) = k + tl.pcs + len := IntWalk.i64_in _ (by omega)
    have h9 : ∀ W', Quiet W2 W' → CallsIn Fence.wide (n - 1) Try.prog 80 #[.pointer pr, .int .i64 (k + tl.pcs + len), .int .i64 lo, .int .i64 hi, .func (.yield l) #[] #[]] W' fun e W'' => ∃ bb : Bool, e = .returned (.bool bb) ∧
        ((bb = true ∧ J (pre ++ vis lo hi tl k ++ vis lo hi tr (k + tl.pcs + len)) W'' ∧ Below n₀ W' W'') ∨ (bb = false ∧ ∃ q, q <+: vis lo hi tr (k + tl.pcs + len) ∧ Jx (pre ++ vis lo hi tl k ++ q) W'')) := fun W' hq =>
      (ihr (n - 1) pr (k + tl.pcs + len) _ W' (IsTree.below (hB3.trans (hq.below _)) hr) (Nat.le_trans hN₀ (hB3.trans (hq.below _)).size) o2 (by omega) (by omega) (hJ _ _ _ hJ2 (hq.below _)) HN3.out).mono fun e W'' h => h.elim (fun ⟨h1, h2⟩ => ⟨true, h1, .inl ⟨rfl, h2⟩⟩) (fun ⟨h1, h2⟩ => ⟨false, h1, .inr ⟨rfl, h2⟩⟩)
    have H9 := Lib.hid h9
    clear h9
    gi_wp2_with (fail)
    refine ⟨fun _ h => (by cases h), ?_⟩
    gi_wp2_with (fail)
    gi_region_with ((refine ⟨trivial, fun h => (by cases h), ?_⟩; gi_at_call 80; refine (H9.out _ ⟨1, rfl⟩).mono ?_; rintro e W4 ⟨bb, rfl, h4⟩))
    all_goals
      gi_wp2_with (fail)
      go_ret
      rcases h4 with ⟨rfl, hJ4, hb4⟩ | ⟨rfl, q, hq, hx4⟩
      · exact .inl ⟨rfl, by rw [HV.out]; simpa [List.append_assoc] using hJ4, hB3.trans (Below.of_drew hb4)⟩
      · refine .inr ⟨rfl, vis lo hi tl k ++ q, ?_, ?_⟩
        · rw [HV.out]; obtain ⟨t, ht⟩ := hq; exact ⟨t, by rw [← ht]; simp⟩
        · simpa [List.append_assoc] using hx4
  · gi_wp2_with (fail)
    go_ret
    exact .inr ⟨rfl, q, HV.out ▸ hq.trans (List.prefix_append _ _), hx⟩
variable {l n₀ N lo hi J Jx}
theorem visit_any (hJ : ∀ pre W W', J pre W → Below W.heap.size W W' → J pre W')
    (hY : ∀ m pre x W, J pre W → pre.length < N → YieldAt Fence.wide m Try.prog l #[encR x] W fun e W' =>
      (e = .returned (.bool true) ∧ J (pre ++ [x]) W' ∧ Below n₀ W W') ∨ (e = .returned (.bool false) ∧ Jx (pre ++ [x]) W')) : ∀ T : Tr, VI l n₀ N lo hi J Jx T
  | .nil => visit_nil l n₀ N lo hi J Jx
  | .node tl len tag tr => fun n p k pre W hT hN₀ o hk hp hJ0 hN => by
    by_cases h : hi ≤ k
    · have e : vis lo hi (Tr.node tl len tag tr) k = [] := by simp only [vis]; rw [if_pos h]
      exact (visit_skip l n₀ lo hi tl tr len tag n p k pre W hT hk hp o (.inl h)).mono fun e' W' ⟨h1, h2⟩ => .inl ⟨h1, by rw [e, ← h2]; simpa using hJ0, h2 ▸ Below.refl _ _⟩
    · by_cases h' : k + (Tr.node tl len tag tr).pcs ≤ lo
      · have e : vis lo hi (Tr.node tl len tag tr) k = [] := by simp only [vis]; rw [if_neg h, if_pos h']
        exact (visit_skip l n₀ lo hi tl tr len tag n p k pre W hT hk hp o (.inr ⟨h, h'⟩)).mono fun e' W' ⟨h1, h2⟩ => .inl ⟨h1, by rw [e, ← h2]; simpa using hJ0, h2 ▸ Below.refl _ _⟩
      · by_cases hab : max (k + tl.pcs) lo < min (k + tl.pcs + len) hi
        · exact visit_main l n₀ N lo hi J Jx hJ hY tl tr len tag (visit_any hJ hY tl) (visit_any hJ hY tr) n p k pre W hT hN₀ hk hp o hJ0 hN h h' hab
        · exact visit_none l n₀ N lo hi J Jx hJ tl tr len tag (visit_any hJ hY tl) (visit_any hJ hY tr) n p k pre W hT hN₀ hk hp o hJ0 hN h h' hab
end
set_option maxRecDepth 100000 in
set_option maxHeartbeats 1000000 in
/-- The function that within returns. -/
theorem within1_any (n l n₀ : Nat) (b0 b1 b2 : Nat) (lo hi : Int) (p : Option Addr) (T : Tr) (J Jx : List Rn → World → Prop) (hJ : ∀ pre W W', J pre W → Below W.heap.size W W' → J pre W')
    (hY : ∀ pre x W, J pre W → pre.length < (vis lo hi T 0).length → YieldAt Fence.wide (n - 1) Try.prog l #[encR x] W fun e W' =>
      (e = .returned (.bool true) ∧ J (pre ++ [x]) W' ∧ Below n₀ W W') ∨ (e = .returned (.bool false) ∧ Jx (pre ++ [x]) W'))
    (W : World) (h0 : W.cell? ⟨b0, 0, none⟩ = some (.pointer p)) (h1 : W.cell? ⟨b1, 0, none⟩ = some (.int .i64 lo)) (h2 : W.cell? ⟨b2, 0, none⟩ = some (.int .i64 hi))
    (hT : IsTree n₀ W p T) (hN₀ : n₀ ≤ W.heap.size) (oT : T.Ok) (hp : T.pcs ≤ 1099511627776) (hJ0 : J [] W) :
    CallsIn Fence.wide n Try.prog 79 #[.func (.yield l) #[] #[], .pointer (some ⟨b0, 0, none⟩), .pointer (some ⟨b1, 0, none⟩), .pointer (some ⟨b2, 0, none⟩)] W fun e W' => (∃ v, e = .returned v) ∧
      ((∃ ys, ys = vis lo hi T 0 ∧ J ys W') ∨ (∃ pre, pre <+: vis lo hi T 0 ∧ Jx pre W')) := by
  have hv := visit_any (lo := lo) (hi := hi) (N := (vis lo hi T 0).length) hJ (fun m pre x W hj hl => YieldAt.any_depth rfl m (hY pre x W hj hl)) T (n - 1) p 0 [] W hT hN₀ oT (Int.le_refl _) (by omega) hJ0 (by simp)
  have HV := Lib.hid hv
  clear hv
  refine callsIn_of_wp Try.func79 rfl trivial ?_ rfl
  simp only [Try.ntmps79, List.size_toArray, List.length_cons, List.length_nil, Nat.reduceAdd, Nat.reduceSub, Array.replicate_succ, Array.replicate_zero, List.push_toArray, List.append_toArray, List.nil_append, List.cons_append]
  gi_wp2_with (fail)
  refine ⟨trivial, fun h => (by cases h), ?_⟩
  refine HV.out.mono ?_
  rintro e W1 (⟨rfl, hJ1, hb1⟩ | ⟨rfl, q, hq, hx⟩)
  · gi_wp2_with (fail)
    go_end0
    exact ⟨⟨_, rfl⟩, .inl ⟨_, rfl, by simpa using hJ1⟩⟩
  · gi_wp2_with (fail)
    go_end0
    exact ⟨⟨_, rfl⟩, .inr ⟨q, hq, by simpa using hx⟩⟩
/-- What lies in three new boxes. -/
theorem within_any (n : Nat) (p : Option Addr) (lo hi : Int) (w : World) : CallsIn Fence.wide n Try.prog 56 #[.pointer p, .int .i64 lo, .int .i64 hi] w fun e w' =>
    e = .returned (.func (.func 79) #[] #[.pointer (some ⟨w.heap.size, 0, none⟩), .pointer (some ⟨w.heap.size + 1, 0, none⟩), .pointer (some ⟨w.heap.size + 1 + 1, 0, none⟩)]) ∧
      w' = ((w.alloc (.cells #[.pointer p] 24)).alloc (.cells #[.int .i64 lo] 3)).alloc (.cells #[.int .i64 hi] 3) := by
  refine callsIn_of_wp Try.func56 rfl trivial ?_ rfl
  simp only [Try.ntmps56, List.size_toArray, List.length_cons, List.length_nil, Nat.reduceAdd, Nat.reduceSub, Array.replicate_succ, Array.replicate_zero, List.push_toArray, List.append_toArray, List.nil_append, List.cons_append]
  gi_wp2
  go_ret
  exact ⟨rfl, rfl⟩
/-- A step that makes blocks, or draws. -/
theorem Below.grownBy {w w' : World} (h : Below w.heap.size w w') : w.grownBy w' none := ⟨h.os, h.tape, h.output, h.size, fun k hk _ => h.block k hk⟩
theorem within_stops (n n₀ : Nat) (b0 b1 b2 : Nat) (lo hi : Int) (p : Option Addr) (T : Tr) (w : World) (h0 : w.cell? ⟨b0, 0, none⟩ = some (.pointer p)) (h1 : w.cell? ⟨b1, 0, none⟩ = some (.int .i64 lo)) (h2 : w.cell? ⟨b2, 0, none⟩ = some (.int .i64 hi))
    (l0 : b0 < w.heap.size) (l1 : b1 < w.heap.size) (l2 : b2 < w.heap.size) (hn₀ : n₀ ≤ w.heap.size) (hT : IsTree n₀ w p T) (oT : T.Ok) (hp : T.pcs ≤ 1099511627776) :
    SeqStopsK Fence.wide n Try.prog 79 #[.pointer (some ⟨b0, 0, none⟩), .pointer (some ⟨b1, 0, none⟩), .pointer (some ⟨b2, 0, none⟩)] (fun x : Rn => #[encR x]) (Below n₀) (fun ys => ys = vis lo hi T 0) (fun pre => pre <+: vis lo hi T 0) (vis lo hi T 0).length w :=
  fun l J Jx W hW hAJ _ hY hJ0 =>
    within1_any n l n₀ b0 b1 b2 lo hi p T J Jx (fun pre W1 W2 hj hB => hAJ pre W1 W2 none hj (Below.grownBy hB) (fun r e => by cases e)) hY W
      ((hW.cell (p := ⟨b0, 0, none⟩) l0).trans h0) ((hW.cell (p := ⟨b1, 0, none⟩) l1).trans h1) ((hW.cell (p := ⟨b2, 0, none⟩) l2).trans h2) (hT.below (hW.mono hn₀)) (Nat.le_trans hn₀ hW.size) oT hp hJ0
end Go.Proofs.Ytfmplibjhohpgaa
