/- The walks over the joins of package span: turnLeft, turnRight, join, joinRight, joinLeft. -/
import Derived.Test.YtfmplibjhohpgaaSpMem
import Derived.Deep.RegionHeld3
namespace Go.Proofs.Ytfmplibjhohpgaa
open Go.RowKit

theorem Below.of_drew {B : Nat} {w w' : World} (h : Below B w.drew w') : Below B w w' := ((Below.refl B w).drew).trans h
theorem Below.of_drewN {B n : Nat} {w w' : World} (h : Below B (w.drewN n) w') : Below B w w' := (Quiet.below ⟨n, rfl⟩ B).trans h
/-- One more call. -/
theorem Below.next {w w0 w1 : World} (h : Below w.heap.size w w0) (hb : Below w0.heap.size w0 w1) : Below w.heap.size w w1 := h.trans (hb.mono h.size)
theorem quiet_arm {P : Program} {f : FuncId} {args : Array Value} {w : World} {n : Nat} {v : Value}
    (h : Calls P f args (w.drewN n) fun e w' => e = .returned v ∧ Quiet (w.drewN n) w') : Calls P f args (w.drewN n) fun e w'' => e = .returned v ∧ ∃ m, w'' = w.drewN m := Calls.quiet_of h
/-- The largest number of pieces. -/
def Small (n : Int) : Prop := n ≤ 1099511627776

set_option maxRecDepth 100000 in
set_option maxHeartbeats 2000000 in
theorem turnLeft_any (w : World) (p : Option Addr) (l a b : Tr) (len tag rlen rtag : Int) (hT : Tree w p (.node l len tag (.node a rlen rtag b)))
    (hok : (Tr.node l len tag (.node a rlen rtag b)).Ok) (hp : (Tr.node l len tag (.node a rlen rtag b)).pcs ≤ 1099511627776) :
    Calls Try.prog 88 #[.pointer p] w fun e w' => ∃ p, e = .returned (.pointer p) ∧ Tree w' p (.node (.node l len tag a) rlen rtag b) ∧ Below w.heap.size w w' := by
  obtain ⟨bt, pl, pr, rfl, hbt, hn, hl, br, pa, pb, rfl, hbr, hn', ha, hb⟩ := hT
  obtain ⟨o1, ⟨o2, o3, o4, o5, o6⟩, o7, o8, o9⟩ := hok
  simp only [Tr.pcs] at hp
  have q1 := Tr.pcs_nonneg _ o1
  have q2 := Tr.pcs_nonneg _ o2
  have q3 := Tr.pcs_nonneg _ o3
  have c0 := hn.c0
  have c1 := hn.c1
  have c2 := hn.c2
  have c3 := hn.c3
  have d0 := hn'.c0
  have d1 := hn'.c1
  have d2 := hn'.c2
  have d3 := hn'.c3
  clear hn hn'
  go_enter Try.func88, Try.ntmps88
  go_wp2_with (fail)
  have tok1 : True := trivial
  go_region_held3 (fun W => W.cell? ⟨bt, 0, none⟩ = some (.pointer pl) ∧ W.cell? ⟨bt, 2, none⟩ = some (.int .i64 len) ∧ W.cell? ⟨bt, 3, none⟩ = some (.int .i64 tag) ∧ W.cell? ⟨br, 0, none⟩ = some (.pointer pa) ∧ W.cell? ⟨br, 1, none⟩ = some (.pointer pb) ∧ W.cell? ⟨br, 2, none⟩ = some (.int .i64 rlen) ∧ W.cell? ⟨br, 3, none⟩ = some (.int .i64 rtag)) (first | (exact ⟨c0, c2, c3, d0, d1, d2, d3⟩) | (exact ⟨(hB1.cell (p := ⟨bt, 0, none⟩) hbt).trans c0, (hB1.cell (p := ⟨bt, 2, none⟩) hbt).trans c2, (hB1.cell (p := ⟨bt, 3, none⟩) hbt).trans c3, (hB1.cell (p := ⟨br, 0, none⟩) hbr).trans d0, (hB1.cell (p := ⟨br, 1, none⟩) hbr).trans d1, (hB1.cell (p := ⟨br, 2, none⟩) hbr).trans d2, (hB1.cell (p := ⟨br, 3, none⟩) hbr).trans d3⟩) | (exact ⟨(hB2.cell (p := ⟨bt, 0, none⟩) hbt).trans c0, (hB2.cell (p := ⟨bt, 2, none⟩) hbt).trans c2, (hB2.cell (p := ⟨bt, 3, none⟩) hbt).trans c3, (hB2.cell (p := ⟨br, 0, none⟩) hbr).trans d0, (hB2.cell (p := ⟨br, 1, none⟩) hbr).trans d1, (hB2.cell (p := ⟨br, 2, none⟩) hbr).trans d2, (hB2.cell (p := ⟨br, 3, none⟩) hbr).trans d3⟩))
    ((first
      | (go_at_call 78; have _t := tok1; clear tok1; refine (link_any _ pl pa len tag l a (by exact Tree.drewN hl _) (by exact Tree.drewN ha _) o7 o8 o9 o1 o2 (by omega)).mono ?_; rintro e w1 ⟨p1, rfl, ht1, hb1⟩; have hB1 : Below w.heap.size w w1 := Below.of_drew hb1)
      | (go_at_call 78; refine (link_any _ p1 pb rlen rtag (.node l len tag a) b (by exact ht1) (by exact Tree.below hB1 hb) o4 o5 o6 ⟨o1, o2, o7, o8, o9⟩ o3 (by simp only [Tr.pcs]; omega)).mono ?_; rintro e w2 ⟨p2, rfl, ht2, hb2⟩; have hB2 := Below.next hB1 hb2)))
  go_wp2_with (fail)
  go_ret
  exact ⟨_, rfl, ht2, hB2⟩

set_option maxRecDepth 100000 in
set_option maxHeartbeats 2000000 in
theorem turnRight_any (w : World) (p : Option Addr) (a b r : Tr) (len tag llen ltag : Int) (hT : Tree w p (.node (.node a llen ltag b) len tag r))
    (hok : (Tr.node (.node a llen ltag b) len tag r).Ok) (hp : (Tr.node (.node a llen ltag b) len tag r).pcs ≤ 1099511627776) :
    Calls Try.prog 89 #[.pointer p] w fun e w' => ∃ p, e = .returned (.pointer p) ∧ Tree w' p (.node a llen ltag (.node b len tag r)) ∧ Below w.heap.size w w' := by
  obtain ⟨bt, pl, pr, rfl, hbt, hn, ⟨bl, pa, pb, rfl, hbl, hn', ha, hb⟩, hr⟩ := hT
  obtain ⟨⟨o1, o2, o4, o5, o6⟩, o3, o7, o8, o9⟩ := hok
  simp only [Tr.pcs] at hp
  have q1 := Tr.pcs_nonneg _ o1
  have q2 := Tr.pcs_nonneg _ o2
  have q3 := Tr.pcs_nonneg _ o3
  have c0 := hn.c0
  have c1 := hn.c1
  have c2 := hn.c2
  have c3 := hn.c3
  have d0 := hn'.c0
  have d1 := hn'.c1
  have d2 := hn'.c2
  have d3 := hn'.c3
  clear hn hn'
  go_enter Try.func89, Try.ntmps89
  go_wp2_with (fail)
  have tok1 : True := trivial
  go_region_held3 (fun W => W.cell? ⟨bt, 1, none⟩ = some (.pointer pr) ∧ W.cell? ⟨bt, 2, none⟩ = some (.int .i64 len) ∧ W.cell? ⟨bt, 3, none⟩ = some (.int .i64 tag) ∧ W.cell? ⟨bl, 0, none⟩ = some (.pointer pa) ∧ W.cell? ⟨bl, 1, none⟩ = some (.pointer pb) ∧ W.cell? ⟨bl, 2, none⟩ = some (.int .i64 llen) ∧ W.cell? ⟨bl, 3, none⟩ = some (.int .i64 ltag)) (first | (exact ⟨c1, c2, c3, d0, d1, d2, d3⟩) | (exact ⟨(hB1.cell (p := ⟨bt, 1, none⟩) hbt).trans c1, (hB1.cell (p := ⟨bt, 2, none⟩) hbt).trans c2, (hB1.cell (p := ⟨bt, 3, none⟩) hbt).trans c3, (hB1.cell (p := ⟨bl, 0, none⟩) hbl).trans d0, (hB1.cell (p := ⟨bl, 1, none⟩) hbl).trans d1, (hB1.cell (p := ⟨bl, 2, none⟩) hbl).trans d2, (hB1.cell (p := ⟨bl, 3, none⟩) hbl).trans d3⟩) | (exact ⟨(hB2.cell (p := ⟨bt, 1, none⟩) hbt).trans c1, (hB2.cell (p := ⟨bt, 2, none⟩) hbt).trans c2, (hB2.cell (p := ⟨bt, 3, none⟩) hbt).trans c3, (hB2.cell (p := ⟨bl, 0, none⟩) hbl).trans d0, (hB2.cell (p := ⟨bl, 1, none⟩) hbl).trans d1, (hB2.cell (p := ⟨bl, 2, none⟩) hbl).trans d2, (hB2.cell (p := ⟨bl, 3, none⟩) hbl).trans d3⟩))
    ((first
      | (go_at_call 78; have _t := tok1; clear tok1; refine (link_any _ pb pr len tag b r (by exact Tree.drewN hb _) (by exact Tree.drewN hr _) o7 o8 o9 o2 o3 (by omega)).mono ?_; rintro e w1 ⟨p1, rfl, ht1, hb1⟩; have hB1 : Below w.heap.size w w1 := Below.of_drew hb1)
      | (go_at_call 78; refine (link_any _ pa p1 llen ltag a (.node b len tag r) (by exact Tree.below hB1 ha) (by exact ht1) o4 o5 o6 o1 ⟨o2, o3, o7, o8, o9⟩ (by simp only [Tr.pcs]; omega)).mono ?_; rintro e w2 ⟨p2, rfl, ht2, hb2⟩; have hB2 := Below.next hB1 hb2)))
  go_wp2_with (fail)
  go_ret
  exact ⟨_, rfl, ht2, hB2⟩

end Go.Proofs.Ytfmplibjhohpgaa
