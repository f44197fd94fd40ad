/- The walk over split of package span. -/
import Derived.Test.YtfmplibjhohpgaaSpJoinB
import Derived.IntWalk
namespace Go.Proofs.Ytfmplibjhohpgaa
open Go.RowKit

/-- What split does with a tree. -/
def SP (T : Tr) : Prop := ∀ (w : World) (p : Option Addr) (k : Int), Tree w p T → T.Bal → T.Ok → 0 ≤ k → k ≤ T.pcs → T.pcs ≤ 1099511627776 →
    Calls Try.prog 59 #[.pointer p, .int .i64 k] w fun e w' => ∃ pa pb, e = .returned (.tuple #[.pointer pa, .pointer pb]) ∧ Tree w' pa (Tr.split T k).1 ∧ Tree w' pb (Tr.split T k).2 ∧ Below w.heap.size w w'

set_option maxRecDepth 100000 in
set_option maxHeartbeats 2000000 in
theorem split_nil : SP .nil := fun w p k hT _ _ h0 h1 _ => by
  obtain rfl : p = none := hT
  go_enter Try.func59, Try.ntmps59
  go_wp2_with (fail)
  go_ret2
  exact ⟨none, none, rfl, rfl, rfl, Below.refl _ _⟩

set_option maxRecDepth 100000 in
set_option maxHeartbeats 2000000 in
theorem split_stepA (l r : Tr) (len tag : Int) (ih : SP l) (w : World) (p : Option Addr) (k : Int) (hT : Tree w p (.node l len tag r)) (bT : (Tr.node l len tag r).Bal) (oT : (Tr.node l len tag r).Ok) (k0 : 0 ≤ k) (_k1 : k ≤ (Tr.node l len tag r).pcs) (hp : (Tr.node l len tag r).pcs ≤ 1099511627776)
    (hk : k ≤ l.pcs) :
    Calls Try.prog 59 #[.pointer p, .int .i64 k] w fun e w' => ∃ pa pb, e = .returned (.tuple #[.pointer pa, .pointer pb]) ∧ Tree w' pa ((Tr.split l k).1) ∧ Tree w' pb (Tr.join (Tr.split l k).2 len tag r) ∧ Below w.heap.size w w' := by
  obtain ⟨bt, pl, pr, rfl, hbt, hn, hl, hr⟩ := hT
  obtain ⟨o1, o2, o4, o5, o6⟩ := oT
  obtain ⟨b1, b2, b3, b4⟩ := bT
  simp only [Tr.pcs] at hp _k1
  have q1 := Tr.pcs_nonneg _ o1
  have q2 := Tr.pcs_nonneg _ o2
  have c0 := hn.c0
  have c1 := hn.c1
  have c2 := hn.c2
  have c3 := hn.c3
  go_enter Try.func59, Try.ntmps59
  go_wp2_with (fail)
  go_at_call 63
  refine (pieces_any _ _ l (by exact Tree.drewN hl 0)).mono ?_
  rintro e w' ⟨rfl, n1, rfl⟩
  go_wp2_with (fail)
  obtain ⟨s1, s2, s3, s4, s5, s6⟩ := Tr.split_list l k o1 b1 k0 hk
  go_at_call 59
  refine (ih _ pl k (by exact Tree.drewN hl _) b1 o1 k0 hk (by omega)).mono ?_
  rintro e w1 ⟨pa, pb, rfl, hta, htb, hb1⟩
  have hB1 : Below w.heap.size w w1 := Below.of_drewN hb1
  have d0 := (hn.below hB1 hbt).c0
  have d1 := (hn.below hB1 hbt).c1
  have d2 := (hn.below hB1 hbt).c2
  have d3 := (hn.below hB1 hbt).c3
  go_wp2_with (fail)
  go_region_held3 (fun W => W.cell? ⟨bt, 1, none⟩ = some (.pointer pr) ∧ W.cell? ⟨bt, 2, none⟩ = some (.int .i64 len) ∧ W.cell? ⟨bt, 3, none⟩ = some (.int .i64 tag)) (first | (exact ⟨d1, d2, d3⟩) | (exact ⟨(hB1.cell (p := ⟨bt, 1, none⟩) hbt).trans c1, (hB1.cell (p := ⟨bt, 2, none⟩) hbt).trans c2, (hB1.cell (p := ⟨bt, 3, none⟩) hbt).trans c3⟩) | (exact ⟨(hB2.cell (p := ⟨bt, 1, none⟩) hbt).trans c1, (hB2.cell (p := ⟨bt, 2, none⟩) hbt).trans c2, (hB2.cell (p := ⟨bt, 3, none⟩) hbt).trans c3⟩))
    ((first
      | (go_at_call 81; refine (join_any _ r len tag _ pb pr (by exact Tree.drewN htb 1) (by exact Tree.drewN (Tree.below hB1 hr) 1) s2 b2 s4 o2 o4 o5 o6 (by rw [s6]; omega)).mono ?_; rintro e w2 ⟨p2, rfl, ht2, hb2⟩; have hb12 : Below w1.heap.size w1 w2 := Below.of_drew hb2; have hB2 : Below w.heap.size w w2 := Below.next hB1 hb12)))
  go_wp2_with (fail)
  go_ret2
  exact ⟨_, _, rfl, hta.below hb12, ht2, hB2⟩

set_option maxRecDepth 100000 in
set_option maxHeartbeats 2000000 in
theorem split_stepB (l r : Tr) (len tag : Int) (ih : SP r) (w : World) (p : Option Addr) (k : Int) (hT : Tree w p (.node l len tag r)) (bT : (Tr.node l len tag r).Bal) (oT : (Tr.node l len tag r).Ok) (k0 : 0 ≤ k) (k1 : k ≤ (Tr.node l len tag r).pcs) (hp : (Tr.node l len tag r).pcs ≤ 1099511627776)
    (hk : ¬ k ≤ l.pcs) (hk2 : l.pcs + len ≤ k) :
    Calls Try.prog 59 #[.pointer p, .int .i64 k] w fun e w' => ∃ pa pb, e = .returned (.tuple #[.pointer pa, .pointer pb]) ∧ Tree w' pa (Tr.join l len tag (Tr.split r (k - l.pcs - len)).1) ∧ Tree w' pb ((Tr.split r (k - l.pcs - len)).2) ∧ Below w.heap.size w w' := by
  obtain ⟨bt, pl, pr, rfl, hbt, hn, hl, hr⟩ := hT
  obtain ⟨o1, o2, o4, o5, o6⟩ := oT
  obtain ⟨b1, b2, b3, b4⟩ := bT
  simp only [Tr.pcs] at hp k1
  have q1 := Tr.pcs_nonneg _ o1
  have q2 := Tr.pcs_nonneg _ o2
  have c0 := hn.c0
  have c1 := hn.c1
  have c2 := hn.c2
  have c3 := hn.c3
  go_enter Try.func59, Try.ntmps59
  go_wp2_with (fail)
  have i1 : IntKind.i64.wrap (k - l.pcs) = k - l.pcs := IntWalk.i64_in _ (by omega)
  have i2 : IntKind.i64.wrap (k - l.pcs - len) = k - l.pcs - len := IntWalk.i64_in _ (by omega)
  have I1 := Lib.hid i1
  have I2 := Lib.hid i2
  clear i1 i2
  go_at_call 63
  refine (pieces_any _ _ l (by exact Tree.drewN hl 0)).mono ?_
  rintro e w' ⟨rfl, n1, rfl⟩
  go_wp2_with (fail)
  obtain ⟨s1, s2, s3, s4, s5, s6⟩ := Tr.split_list r (k - l.pcs - len) o2 b2 (by omega) (by omega)
  have i1 := I1.out
  have i2 := I2.out
  go_region_held3 (fun W => W.cell? ⟨bt, 1, none⟩ = some (.pointer pr) ∧ W.cell? ⟨bt, 2, none⟩ = some (.int .i64 len)) (first | (exact ⟨c1, c2⟩) | (exact ⟨(hB1.cell (p := ⟨bt, 1, none⟩) hbt).trans c1, (hB1.cell (p := ⟨bt, 2, none⟩) hbt).trans c2⟩))
    ((first
      | (go_at_call 59; refine (ih _ pr (k - l.pcs - len) (by exact Tree.drewN (Tree.drewN hr _) 1) b2 o2 (by omega) (by omega) (by omega)).mono ?_; rintro e w1 ⟨pa, pb, rfl, hta, htb, hb1⟩; have hB1 : Below w.heap.size w w1 := Below.of_drewN <| Below.of_drew hb1)))
  clear i1 i2 I1 I2
  have d0 := (hn.below hB1 hbt).c0
  have d1 := (hn.below hB1 hbt).c1
  have d2 := (hn.below hB1 hbt).c2
  have d3 := (hn.below hB1 hbt).c3
  go_wp2_with (fail)
  go_region_held3 (fun W => W.cell? ⟨bt, 0, none⟩ = some (.pointer pl) ∧ W.cell? ⟨bt, 2, none⟩ = some (.int .i64 len) ∧ W.cell? ⟨bt, 3, none⟩ = some (.int .i64 tag)) (first | (exact ⟨d0, d2, d3⟩) | (exact ⟨(hB1.cell (p := ⟨bt, 0, none⟩) hbt).trans c0, (hB1.cell (p := ⟨bt, 2, none⟩) hbt).trans c2, (hB1.cell (p := ⟨bt, 3, none⟩) hbt).trans c3⟩) | (exact ⟨(hB2.cell (p := ⟨bt, 0, none⟩) hbt).trans c0, (hB2.cell (p := ⟨bt, 2, none⟩) hbt).trans c2, (hB2.cell (p := ⟨bt, 3, none⟩) hbt).trans c3⟩))
    ((first
      | (go_at_call 81; refine (join_any l _ len tag _ pl pa (by exact Tree.drewN (Tree.below hB1 hl) 1) (by exact Tree.drewN hta 1) b1 s1 o1 s3 o4 o5 o6 (by rw [s5]; omega)).mono ?_; rintro e w2 ⟨p2, rfl, ht2, hb2⟩; have hb12 : Below w1.heap.size w1 w2 := Below.of_drew hb2; have hB2 : Below w.heap.size w w2 := Below.next hB1 hb12)))
  go_wp2_with (fail)
  go_ret2
  exact ⟨_, _, rfl, ht2, htb.below hb12, hB2⟩

set_option maxRecDepth 100000 in
set_option maxHeartbeats 2000000 in
theorem split_stepC (l r : Tr) (len tag : Int) (w : World) (p : Option Addr) (k : Int) (hT : Tree w p (.node l len tag r)) (bT : (Tr.node l len tag r).Bal) (oT : (Tr.node l len tag r).Ok) (k0 : 0 ≤ k) (k1 : k ≤ (Tr.node l len tag r).pcs) (hp : (Tr.node l len tag r).pcs ≤ 1099511627776)
    (hk : ¬ k ≤ l.pcs) (hk2 : ¬ l.pcs + len ≤ k) :
    Calls Try.prog 59 #[.pointer p, .int .i64 k] w fun e w' => ∃ pa pb, e = .returned (.tuple #[.pointer pa, .pointer pb]) ∧ Tree w' pa (Tr.join l (k - l.pcs) tag .nil) ∧ Tree w' pb (Tr.join .nil (l.pcs + len - k) tag r) ∧ Below w.heap.size w w' := by
  obtain ⟨bt, pl, pr, rfl, hbt, hn, hl, hr⟩ := hT
  obtain ⟨o1, o2, o4, o5, o6⟩ := oT
  obtain ⟨b1, b2, b3, b4⟩ := bT
  simp only [Tr.pcs] at hp k1
  have q1 := Tr.pcs_nonneg _ o1
  have q2 := Tr.pcs_nonneg _ o2
  have c0 := hn.c0
  have c1 := hn.c1
  have c2 := hn.c2
  have c3 := hn.c3
  go_enter Try.func59, Try.ntmps59
  go_wp2_with (fail)
  have i1 : IntKind.i64.wrap (k - l.pcs) = k - l.pcs := IntWalk.i64_in _ (by omega)
  have i2 : IntKind.i64.wrap (l.pcs + len) = l.pcs + len := IntWalk.i64_in _ (by omega)
  have i3 : IntKind.i64.wrap (l.pcs + len - k) = l.pcs + len - k := IntWalk.i64_in _ (by omega)
  have I1 := Lib.hid i1
  have I2 := Lib.hid i2
  have I3 := Lib.hid i3
  clear i1 i2 i3
  go_at_call 63
  refine (pieces_any _ _ l (by exact Tree.drewN hl 0)).mono ?_
  rintro e w' ⟨rfl, n1, rfl⟩
  go_wp2_with (fail)
  have i1 := I1.out
  have i2 := I2.out
  have i3 := I3.out
  go_region_held3 (fun W => W.cell? ⟨bt, 0, none⟩ = some (.pointer pl) ∧ W.cell? ⟨bt, 1, none⟩ = some (.pointer pr) ∧ W.cell? ⟨bt, 2, none⟩ = some (.int .i64 len) ∧ W.cell? ⟨bt, 3, none⟩ = some (.int .i64 tag)) (first | (exact ⟨c0, c1, c2, c3⟩) | (exact ⟨(hB1.cell (p := ⟨bt, 0, none⟩) hbt).trans c0, (hB1.cell (p := ⟨bt, 1, none⟩) hbt).trans c1, (hB1.cell (p := ⟨bt, 2, none⟩) hbt).trans c2, (hB1.cell (p := ⟨bt, 3, none⟩) hbt).trans c3⟩) | (exact ⟨(hB2.cell (p := ⟨bt, 0, none⟩) hbt).trans c0, (hB2.cell (p := ⟨bt, 1, none⟩) hbt).trans c1, (hB2.cell (p := ⟨bt, 2, none⟩) hbt).trans c2, (hB2.cell (p := ⟨bt, 3, none⟩) hbt).trans c3⟩))
    ((first
      | (go_at_call_of 81 (Value.int IntKind.i64 (k - l.pcs)); refine (join_any l .nil (k - l.pcs) tag _ pl none (by exact Tree.drewN (Tree.drewN hl _) 1) (by rfl) b1 trivial o1 trivial (by omega) o5 o6 (by simp only [Tr.pcs]; omega)).mono ?_; rintro e w1 ⟨pa, rfl, hta, hb1⟩; have hB1 : Below w.heap.size w w1 := Below.of_drewN <| Below.of_drew hb1)
      | (go_at_call_of 81 (Value.int IntKind.i64 (l.pcs + len - k)); refine (join_any .nil r (l.pcs + len - k) tag _ none pr (by rfl) (by exact Tree.below hB1 hr) trivial b2 trivial o2 (by omega) o5 o6 (by simp only [Tr.pcs]; omega)).mono ?_; rintro e w2 ⟨pb, rfl, htb, hb2⟩; have hB2 : Below w.heap.size w w2 := Below.next hB1 hb2)))
  go_wp2_with (fail)
  go_ret2
  exact ⟨_, _, rfl, hta.below hb2, htb, hB2⟩

theorem split_any : ∀ T : Tr, SP T
  | .nil => split_nil
  | .node l len tag r => fun w p k hT bT oT k0 k1 hp => by
    simp only [Tr.split]
    by_cases hk : k ≤ l.pcs
    · rw [if_pos hk]; exact split_stepA l r len tag (split_any l) w p k hT bT oT k0 k1 hp hk
    · rw [if_neg hk]
      by_cases hk2 : l.pcs + len ≤ k
      · rw [if_pos hk2]; exact split_stepB l r len tag (split_any r) w p k hT bT oT k0 k1 hp hk hk2
      · rw [if_neg hk2]; exact split_stepC l r len tag w p k hT bT oT k0 k1 hp hk hk2

end Go.Proofs.Ytfmplibjhohpgaa
