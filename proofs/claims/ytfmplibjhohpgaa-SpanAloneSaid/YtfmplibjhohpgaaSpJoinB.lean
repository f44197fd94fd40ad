/- The walks over joinLeft and join of package span. -/
import Derived.Test.YtfmplibjhohpgaaSpJoin
namespace Go.Proofs.Ytfmplibjhohpgaa
open Go.RowKit

set_option maxRecDepth 100000 in
set_option maxHeartbeats 2000000 in
theorem joinLeft_stepA (T : Tr) (pT : Option Addr) (len tag : Int) (_bT : T.Bal) (oT : T.Ok) (h1 : 1 ≤ len) (h2 : 0 ≤ tag) (h3 : tag < 16) (ll lr : Tr) (llen ltag : Int)
    (w : World) (pH : Option Addr) (hH : Tree w pH (.node ll llen ltag lr)) (hT : Tree w pT T) (bH : (Tr.node ll llen ltag lr).Bal) (oH : (Tr.node ll llen ltag lr).Ok) (_hh : T.hgt + 1 < (Tr.node ll llen ltag lr).hgt) (hp : (Tr.node ll llen ltag lr).pcs + T.pcs + len ≤ 1099511627776)
    (hb : ll.hgt ≤ T.hgt + 1) (hd : (Tr.node T len tag ll).hgt ≤ lr.hgt + 1) :
    Calls Try.prog 87 #[.pointer pT, .int .i64 len, .int .i64 tag, .pointer pH] w fun e w' => ∃ p, e = .returned (.pointer p) ∧ Tree w' p (Tr.node (Tr.node T len tag ll) llen ltag lr) ∧ Below w.heap.size w w' := by
  obtain ⟨bt, pl, pr, rfl, hbt, hn, hl, hr⟩ := hH
  obtain ⟨o1, o2, o4, o5, o6⟩ := oH
  have bN := bH
  obtain ⟨b1, b2, b3, b4⟩ := bH
  simp only [Tr.pcs] at hp
  have q1 := Tr.pcs_nonneg _ o1
  have q2 := Tr.pcs_nonneg _ o2
  have q3 := Tr.pcs_nonneg _ oT
  have g1 := Tr.hgt_nonneg ll
  have g2 := Tr.hgt_nonneg lr
  have g3 := Tr.hgt_nonneg T
  have g4 := Tr.hgt_le_num ll
  have g5 := Tr.hgt_le_num lr
  have g6 := Tr.hgt_le_num T
  have g7 := Tr.num_le_pcs ll o1
  have g8 := Tr.num_le_pcs lr o2
  have g9 := Tr.num_le_pcs T oT
  have c0 := hn.c0
  have c1 := hn.c1
  have c2 := hn.c2
  have c3 := hn.c3
  go_enter Try.func87, Try.ntmps87
  go_wp2_with (fail)
  go_at_call 85
  refine (high_any _ _ ll (by exact hl)).mono ?_
  rintro e w' ⟨rfl, n1, rfl⟩
  go_wp2_with (fail)
  go_at_call 85
  refine (high_any _ _ T (by exact Tree.drewN hT _)).mono ?_
  rintro e w' ⟨rfl, n2, rfl⟩
  go_wp2_with (fail)
  go_at_call 78
  refine (link_any _ pT pl len tag T ll (by exact Tree.drewN hT _) (by exact Tree.drewN hl _) h1 h2 h3 oT o1 (by omega)).mono ?_
  rintro e w1 ⟨p1, rfl, ht1, hb1⟩
  have hB1 : Below w.heap.size w w1 := Below.of_drewN hb1
  have k0 := (hn.below hB1 hbt).c0
  have k1 := (hn.below hB1 hbt).c1
  have k2 := (hn.below hB1 hbt).c2
  have k3 := (hn.below hB1 hbt).c3
  have v1 := Tr.hgt_nonneg (Tr.node T len tag ll)
  go_wp2_with (fail)
  go_quiet ((first | (go_at_call_of 85 (Value.pointer p1); exact quiet_arm (high_any _ _ (Tr.node T len tag ll) (by exact Tree.drewN (ht1) _))) | (go_at_call_of 85 (Value.pointer pr); exact quiet_arm (high_any _ _ (lr) (by exact Tree.drewN (Tree.below hB1 hr) _)))))
  go_wp2_with (fail)
  go_region_held3 (fun W => W.cell? ⟨bt, 1, none⟩ = some (.pointer pr) ∧ W.cell? ⟨bt, 2, none⟩ = some (.int .i64 llen) ∧ W.cell? ⟨bt, 3, none⟩ = some (.int .i64 ltag)) (first | (exact ⟨k1, k2, k3⟩) | (exact ⟨(hB1.cell (p := ⟨bt, 1, none⟩) hbt).trans c1, (hB1.cell (p := ⟨bt, 2, none⟩) hbt).trans c2, (hB1.cell (p := ⟨bt, 3, none⟩) hbt).trans c3⟩) | (exact ⟨(hB2.cell (p := ⟨bt, 1, none⟩) hbt).trans c1, (hB2.cell (p := ⟨bt, 2, none⟩) hbt).trans c2, (hB2.cell (p := ⟨bt, 3, none⟩) hbt).trans c3⟩))
    ((first
      | (go_at_call 78; refine (link_any _ p1 pr llen ltag (Tr.node T len tag ll) lr (by exact Tree.drewN (Tree.drewN (ht1) _) 1) (by exact Tree.drewN (Tree.drewN (Tree.below hB1 hr) _) 1) o4 o5 o6 ⟨oT, o1, h1, h2, h3⟩ o2 (by simp only [Tr.pcs]; omega)).mono ?_; rintro e w2 ⟨p2, rfl, ht2, hb2⟩; have hB2 : Below w.heap.size w w2 := Below.next hB1 (Below.of_drewN <| Below.of_drew hb2))))
  go_wp2_with (fail)
  go_ret
  exact ⟨_, rfl, ht2, hB2⟩

set_option maxRecDepth 100000 in
set_option maxHeartbeats 2000000 in
theorem joinLeft_stepB (T : Tr) (pT : Option Addr) (len tag : Int) (_bT : T.Bal) (oT : T.Ok) (h1 : 1 ≤ len) (h2 : 0 ≤ tag) (h3 : tag < 16) (lr : Tr) (llen ltag : Int) (x u : Tr) (xl xt : Int)
    (w : World) (pH : Option Addr) (hH : Tree w pH (.node (Tr.node x xl xt u) llen ltag lr)) (hT : Tree w pT T) (bH : (Tr.node (Tr.node x xl xt u) llen ltag lr).Bal) (oH : (Tr.node (Tr.node x xl xt u) llen ltag lr).Ok) (_hh : T.hgt + 1 < (Tr.node (Tr.node x xl xt u) llen ltag lr).hgt) (hp : (Tr.node (Tr.node x xl xt u) llen ltag lr).pcs + T.pcs + len ≤ 1099511627776)
    (hb : (Tr.node x xl xt u).hgt ≤ T.hgt + 1) (hd : ¬ (Tr.node T len tag (Tr.node x xl xt u)).hgt ≤ lr.hgt + 1) :
    Calls Try.prog 87 #[.pointer pT, .int .i64 len, .int .i64 tag, .pointer pH] w fun e w' => ∃ p, e = .returned (.pointer p) ∧ Tree w' p (Tr.node (Tr.node T len tag x) xl xt (Tr.node u llen ltag lr)) ∧ Below w.heap.size w w' := by
  obtain ⟨bt, pl, pr, rfl, hbt, hn, hl, hr⟩ := hH
  obtain ⟨o1, o2, o4, o5, o6⟩ := oH
  have bN := bH
  obtain ⟨b1, b2, b3, b4⟩ := bH
  simp only [Tr.pcs] at hp
  obtain ⟨ox, ou, oxl, oxt, oxs⟩ := (id o1 : Tr.Ok _)
  have ux := Tr.pcs_nonneg _ ox
  have uu := Tr.pcs_nonneg _ ou
  have q1 := Tr.pcs_nonneg _ o1
  have q2 := Tr.pcs_nonneg _ o2
  have q3 := Tr.pcs_nonneg _ oT
  have g1 := Tr.hgt_nonneg (Tr.node x xl xt u)
  have g2 := Tr.hgt_nonneg lr
  have g3 := Tr.hgt_nonneg T
  have g4 := Tr.hgt_le_num (Tr.node x xl xt u)
  have g5 := Tr.hgt_le_num lr
  have g6 := Tr.hgt_le_num T
  have g7 := Tr.num_le_pcs (Tr.node x xl xt u) o1
  have g8 := Tr.num_le_pcs lr o2
  have g9 := Tr.num_le_pcs T oT
  have c0 := hn.c0
  have c1 := hn.c1
  have c2 := hn.c2
  have c3 := hn.c3
  go_enter Try.func87, Try.ntmps87
  go_wp2_with (fail)
  go_at_call 85
  refine (high_any _ _ (Tr.node x xl xt u) (by exact hl)).mono ?_
  rintro e w' ⟨rfl, n1, rfl⟩
  go_wp2_with (fail)
  go_at_call 85
  refine (high_any _ _ T (by exact Tree.drewN hT _)).mono ?_
  rintro e w' ⟨rfl, n2, rfl⟩
  go_wp2_with (fail)
  go_at_call 78
  refine (link_any _ pT pl len tag T (Tr.node x xl xt u) (by exact Tree.drewN hT _) (by exact Tree.drewN hl _) h1 h2 h3 oT o1 (by simp only [Tr.pcs] at *; omega)).mono ?_
  rintro e w1 ⟨p1, rfl, ht1, hb1⟩
  have hB1 : Below w.heap.size w w1 := Below.of_drewN hb1
  have k0 := (hn.below hB1 hbt).c0
  have k1 := (hn.below hB1 hbt).c1
  have k2 := (hn.below hB1 hbt).c2
  have k3 := (hn.below hB1 hbt).c3
  have v1 := Tr.hgt_nonneg (Tr.node T len tag (Tr.node x xl xt u))
  go_wp2_with (fail)
  go_quiet ((first | (go_at_call_of 85 (Value.pointer p1); exact quiet_arm (high_any _ _ (Tr.node T len tag (Tr.node x xl xt u)) (by exact Tree.drewN (ht1) _))) | (go_at_call_of 85 (Value.pointer pr); exact quiet_arm (high_any _ _ (lr) (by exact Tree.drewN (Tree.below hB1 hr) _)))))
  go_wp2_with (fail)
  go_region_held3 (fun W => W.cell? ⟨bt, 1, none⟩ = some (.pointer pr) ∧ W.cell? ⟨bt, 2, none⟩ = some (.int .i64 llen) ∧ W.cell? ⟨bt, 3, none⟩ = some (.int .i64 ltag)) (first | (exact ⟨k1, k2, k3⟩) | (exact ⟨(hB1.cell (p := ⟨bt, 1, none⟩) hbt).trans c1, (hB1.cell (p := ⟨bt, 2, none⟩) hbt).trans c2, (hB1.cell (p := ⟨bt, 3, none⟩) hbt).trans c3⟩) | (exact ⟨(hB2.cell (p := ⟨bt, 1, none⟩) hbt).trans c1, (hB2.cell (p := ⟨bt, 2, none⟩) hbt).trans c2, (hB2.cell (p := ⟨bt, 3, none⟩) hbt).trans c3⟩) | (exact ⟨(hB3.cell (p := ⟨bt, 1, none⟩) hbt).trans c1, (hB3.cell (p := ⟨bt, 2, none⟩) hbt).trans c2, (hB3.cell (p := ⟨bt, 3, none⟩) hbt).trans c3⟩) | (exact ⟨(hB4.cell (p := ⟨bt, 1, none⟩) hbt).trans c1, (hB4.cell (p := ⟨bt, 2, none⟩) hbt).trans c2, (hB4.cell (p := ⟨bt, 3, none⟩) hbt).trans c3⟩))
    ((first
      | (go_at_call 88; refine (turnLeft_any _ p1 T x u len tag xl xt (by exact Tree.drewN (Tree.drewN ht1 _) 1) ⟨oT, ⟨ox, ou, oxl, oxt, oxs⟩, h1, h2, h3⟩ (by simp only [Tr.pcs] at *; omega)).mono ?_; rintro e w2 ⟨p2, rfl, ht2, hb2⟩; have hB2 : Below w.heap.size w w2 := Below.next hB1 (Below.of_drewN <| Below.of_drew hb2))
      | (go_at_call 78; refine (link_any _ p2 pr llen ltag (Tr.node (Tr.node T len tag x) xl xt u) lr (by exact ht2) (by exact Tree.below hB2 hr) o4 o5 o6 ⟨⟨oT, ox, h1, h2, h3⟩, ou, oxl, oxt, oxs⟩ o2 (by simp only [Tr.pcs] at *; omega)).mono ?_; rintro e w3 ⟨p3, rfl, ht3, hb3⟩; have hB3 := Below.next hB2 hb3)
      | (go_at_call 89; refine (turnRight_any _ p3 (.node T len tag x) u lr llen ltag xl xt (by exact ht3) ⟨⟨⟨oT, ox, h1, h2, h3⟩, ou, oxl, oxt, oxs⟩, o2, o4, o5, o6⟩ (by simp only [Tr.pcs] at *; omega)).mono ?_; rintro e w4 ⟨p4, rfl, ht4, hb4⟩; have hB4 := Below.next hB3 hb4)))
  go_wp2_with (fail)
  go_ret
  exact ⟨_, rfl, ht4, hB4⟩

/-- What joinLeft does with a tree. -/
def JL (pT : Option Addr) (T : Tr) (len tag : Int) (H : Tr) : Prop := ∀ (w : World) (pH : Option Addr), Tree w pH H → Tree w pT T → H.Bal → H.Ok → T.hgt + 1 < H.hgt → H.pcs + T.pcs + len ≤ 1099511627776 →
    Calls Try.prog 87 #[.pointer pT, .int .i64 len, .int .i64 tag, .pointer pH] w fun e w' => ∃ p, e = .returned (.pointer p) ∧ Tree w' p (Tr.joinL T len tag H) ∧ Below w.heap.size w w'

set_option maxRecDepth 100000 in
set_option maxHeartbeats 2000000 in
theorem joinLeft_stepC (T : Tr) (pT : Option Addr) (len tag : Int) (bT : T.Bal) (oT : T.Ok) (h1 : 1 ≤ len) (h2 : 0 ≤ tag) (h3 : tag < 16) (ll lr : Tr) (llen ltag : Int) (ih : JL pT T len tag ll)
    (w : World) (pH : Option Addr) (hH : Tree w pH (.node ll llen ltag lr)) (hT : Tree w pT T) (bH : (Tr.node ll llen ltag lr).Bal) (oH : (Tr.node ll llen ltag lr).Ok) (_hh : T.hgt + 1 < (Tr.node ll llen ltag lr).hgt) (hp : (Tr.node ll llen ltag lr).pcs + T.pcs + len ≤ 1099511627776)
    (hb : ¬ ll.hgt ≤ T.hgt + 1) (hd : (Tr.joinL T len tag ll).hgt ≤ lr.hgt + 1) :
    Calls Try.prog 87 #[.pointer pT, .int .i64 len, .int .i64 tag, .pointer pH] w fun e w' => ∃ p, e = .returned (.pointer p) ∧ Tree w' p (Tr.node (Tr.joinL T len tag ll) llen ltag lr) ∧ Below w.heap.size w w' := by
  obtain ⟨bt, pl, pr, rfl, hbt, hn, hl, hr⟩ := hH
  obtain ⟨o1, o2, o4, o5, o6⟩ := oH
  have bN := bH
  obtain ⟨b1, b2, b3, b4⟩ := bH
  simp only [Tr.pcs] at hp
  have q1 := Tr.pcs_nonneg _ o1
  have q2 := Tr.pcs_nonneg _ o2
  have q3 := Tr.pcs_nonneg _ oT
  have g1 := Tr.hgt_nonneg ll
  have g2 := Tr.hgt_nonneg lr
  have g3 := Tr.hgt_nonneg T
  have g4 := Tr.hgt_le_num ll
  have g5 := Tr.hgt_le_num lr
  have g6 := Tr.hgt_le_num T
  have g7 := Tr.num_le_pcs ll o1
  have g8 := Tr.num_le_pcs lr o2
  have g9 := Tr.num_le_pcs T oT
  have c0 := hn.c0
  have c1 := hn.c1
  have c2 := hn.c2
  have c3 := hn.c3
  go_enter Try.func87, Try.ntmps87
  go_wp2_with (fail)
  go_at_call 85
  refine (high_any _ _ ll (by exact hl)).mono ?_
  rintro e w' ⟨rfl, n1, rfl⟩
  go_wp2_with (fail)
  go_at_call 85
  refine (high_any _ _ T (by exact Tree.drewN hT _)).mono ?_
  rintro e w' ⟨rfl, n2, rfl⟩
  go_wp2_with (fail)
  obtain ⟨j1, j2, j3, j4⟩ := Tr.bal_joinL T len tag bT ll b1 (by omega)
  have jo : (Tr.joinL T len tag ll).Ok := Tr.ok_joinL T len tag ll oT o1 h1 h2 h3
  have jp : (Tr.joinL T len tag ll).pcs = ll.pcs + T.pcs + len := (Tr.pcs_joinL T len tag ll).trans (by omega)
  have j5 := Tr.hgt_nonneg (Tr.joinL T len tag ll)
  go_at_call 87
  refine (ih _ pl (by exact Tree.drewN hl _) (by exact Tree.drewN hT _) b1 o1 (by omega) (by omega)).mono ?_
  rintro e w1 ⟨p1, rfl, ht1, hb1⟩
  have hB1 : Below w.heap.size w w1 := Below.of_drewN hb1
  have k0 := (hn.below hB1 hbt).c0
  have k1 := (hn.below hB1 hbt).c1
  have k2 := (hn.below hB1 hbt).c2
  have k3 := (hn.below hB1 hbt).c3
  go_wp2_with (fail)
  go_region_held3 (fun W => W.cell? ⟨bt, 1, none⟩ = some (.pointer pr) ∧ W.cell? ⟨bt, 2, none⟩ = some (.int .i64 llen) ∧ W.cell? ⟨bt, 3, none⟩ = some (.int .i64 ltag)) (first | (exact ⟨k1, k2, k3⟩) | (exact ⟨(hB1.cell (p := ⟨bt, 1, none⟩) hbt).trans c1, (hB1.cell (p := ⟨bt, 2, none⟩) hbt).trans c2, (hB1.cell (p := ⟨bt, 3, none⟩) hbt).trans c3⟩) | (exact ⟨(hB2.cell (p := ⟨bt, 1, none⟩) hbt).trans c1, (hB2.cell (p := ⟨bt, 2, none⟩) hbt).trans c2, (hB2.cell (p := ⟨bt, 3, none⟩) hbt).trans c3⟩))
    ((first
      | (go_at_call 78; refine (link_any _ p1 pr llen ltag (Tr.joinL T len tag ll) lr (by exact Tree.drewN ht1 1) (by exact Tree.drewN (Tree.below hB1 hr) 1) o4 o5 o6 jo o2 (by rw [jp]; omega)).mono ?_; rintro e w2 ⟨p2, rfl, ht2, hb2⟩; have hb12 : Below w1.heap.size w1 w2 := Below.of_drew hb2; have hB2 : Below w.heap.size w w2 := Below.next hB1 hb12)))
  go_wp2_with (fail)
  have m0 := (hn.below hB2 hbt).c0
  have m1 := (hn.below hB2 hbt).c1
  go_quiet ((first | (go_at_call_of 85 (Value.pointer p1); exact quiet_arm (high_any _ _ (Tr.joinL T len tag ll) (by exact Tree.drewN (Tree.below hb12 ht1) _))) | (go_at_call_of 85 (Value.pointer pr); exact quiet_arm (high_any _ _ (lr) (by exact Tree.drewN (Tree.below hB2 hr) _)))))
  go_wp2_with (fail)
  go_ret
  exact ⟨_, rfl, Tree.drewN ht2 _, hB2.trans (Quiet.below ⟨_, rfl⟩ _)⟩

set_option maxRecDepth 100000 in
set_option maxHeartbeats 2000000 in
theorem joinLeft_stepD (T : Tr) (pT : Option Addr) (len tag : Int) (bT : T.Bal) (oT : T.Ok) (h1 : 1 ≤ len) (h2 : 0 ≤ tag) (h3 : tag < 16) (ll lr : Tr) (llen ltag : Int) (ih : JL pT T len tag ll) (x u : Tr) (xl xt : Int) (hJ : Tr.joinL T len tag ll = .node x xl xt u)
    (w : World) (pH : Option Addr) (hH : Tree w pH (.node ll llen ltag lr)) (hT : Tree w pT T) (bH : (Tr.node ll llen ltag lr).Bal) (oH : (Tr.node ll llen ltag lr).Ok) (_hh : T.hgt + 1 < (Tr.node ll llen ltag lr).hgt) (hp : (Tr.node ll llen ltag lr).pcs + T.pcs + len ≤ 1099511627776)
    (hb : ¬ ll.hgt ≤ T.hgt + 1) (hd : ¬ (Tr.joinL T len tag ll).hgt ≤ lr.hgt + 1) :
    Calls Try.prog 87 #[.pointer pT, .int .i64 len, .int .i64 tag, .pointer pH] w fun e w' => ∃ p, e = .returned (.pointer p) ∧ Tree w' p (Tr.node x xl xt (Tr.node u llen ltag lr)) ∧ Below w.heap.size w w' := by
  obtain ⟨bt, pl, pr, rfl, hbt, hn, hl, hr⟩ := hH
  obtain ⟨o1, o2, o4, o5, o6⟩ := oH
  have bN := bH
  obtain ⟨b1, b2, b3, b4⟩ := bH
  simp only [Tr.pcs] at hp
  have q1 := Tr.pcs_nonneg _ o1
  have q2 := Tr.pcs_nonneg _ o2
  have q3 := Tr.pcs_nonneg _ oT
  have g1 := Tr.hgt_nonneg ll
  have g2 := Tr.hgt_nonneg lr
  have g3 := Tr.hgt_nonneg T
  have g4 := Tr.hgt_le_num ll
  have g5 := Tr.hgt_le_num lr
  have g6 := Tr.hgt_le_num T
  have g7 := Tr.num_le_pcs ll o1
  have g8 := Tr.num_le_pcs lr o2
  have g9 := Tr.num_le_pcs T oT
  have c0 := hn.c0
  have c1 := hn.c1
  have c2 := hn.c2
  have c3 := hn.c3
  go_enter Try.func87, Try.ntmps87
  go_wp2_with (fail)
  go_at_call 85
  refine (high_any _ _ ll (by exact hl)).mono ?_
  rintro e w' ⟨rfl, n1, rfl⟩
  go_wp2_with (fail)
  go_at_call 85
  refine (high_any _ _ T (by exact Tree.drewN hT _)).mono ?_
  rintro e w' ⟨rfl, n2, rfl⟩
  go_wp2_with (fail)
  have HJ := Lib.hid hJ
  clear hJ
  obtain ⟨j1, j2, j3, j4⟩ := Tr.bal_joinL T len tag bT ll b1 (by omega)
  have jo : (Tr.joinL T len tag ll).Ok := Tr.ok_joinL T len tag ll oT o1 h1 h2 h3
  have jp : (Tr.joinL T len tag ll).pcs = ll.pcs + T.pcs + len := (Tr.pcs_joinL T len tag ll).trans (by omega)
  have j5 := Tr.hgt_nonneg (Tr.joinL T len tag ll)
  go_at_call 87
  refine (ih _ pl (by exact Tree.drewN hl _) (by exact Tree.drewN hT _) b1 o1 (by omega) (by omega)).mono ?_
  rintro e w1 ⟨p1, rfl, ht1, hb1⟩
  have hB1 : Below w.heap.size w w1 := Below.of_drewN hb1
  have k0 := (hn.below hB1 hbt).c0
  have k1 := (hn.below hB1 hbt).c1
  have k2 := (hn.below hB1 hbt).c2
  have k3 := (hn.below hB1 hbt).c3
  go_wp2_with (fail)
  go_region_held3 (fun W => W.cell? ⟨bt, 1, none⟩ = some (.pointer pr) ∧ W.cell? ⟨bt, 2, none⟩ = some (.int .i64 llen) ∧ W.cell? ⟨bt, 3, none⟩ = some (.int .i64 ltag)) (first | (exact ⟨k1, k2, k3⟩) | (exact ⟨(hB1.cell (p := ⟨bt, 1, none⟩) hbt).trans c1, (hB1.cell (p := ⟨bt, 2, none⟩) hbt).trans c2, (hB1.cell (p := ⟨bt, 3, none⟩) hbt).trans c3⟩) | (exact ⟨(hB2.cell (p := ⟨bt, 1, none⟩) hbt).trans c1, (hB2.cell (p := ⟨bt, 2, none⟩) hbt).trans c2, (hB2.cell (p := ⟨bt, 3, none⟩) hbt).trans c3⟩))
    ((first
      | (go_at_call 78; refine (link_any _ p1 pr llen ltag (Tr.joinL T len tag ll) lr (by exact Tree.drewN ht1 1) (by exact Tree.drewN (Tree.below hB1 hr) 1) o4 o5 o6 jo o2 (by rw [jp]; omega)).mono ?_; rintro e w2 ⟨p2, rfl, ht2, hb2⟩; have hb12 : Below w1.heap.size w1 w2 := Below.of_drew hb2; have hB2 : Below w.heap.size w w2 := Below.next hB1 hb12)))
  go_wp2_with (fail)
  have m0 := (hn.below hB2 hbt).c0
  have m1 := (hn.below hB2 hbt).c1
  go_quiet ((first | (go_at_call_of 85 (Value.pointer p1); exact quiet_arm (high_any _ _ (Tr.joinL T len tag ll) (by exact Tree.drewN (Tree.below hb12 ht1) _))) | (go_at_call_of 85 (Value.pointer pr); exact quiet_arm (high_any _ _ (lr) (by exact Tree.drewN (Tree.below hB2 hr) _)))))
  go_wp2_with (fail)
  go_at_call 89
  have hJ := HJ.out
  refine (turnRight_any _ p2 x u lr llen ltag xl xt (by rw [← hJ]; exact Tree.drewN ht2 _) ⟨by rw [← hJ]; exact jo, o2, o4, o5, o6⟩ (by rw [← hJ]; simp only [Tr.pcs, jp]; omega)).mono ?_
  clear hJ
  rintro e w4 ⟨p4, rfl, ht4, hb4⟩
  go_wp2_with (fail)
  go_ret
  exact ⟨_, rfl, ht4, hB2.trans ((Below.of_drewN hb4).mono hB2.size)⟩

theorem joinLeft_any (pT : Option Addr) (T : Tr) (len tag : Int) (bT : T.Bal) (oT : T.Ok) (h1 : 1 ≤ len) (h2 : 0 ≤ tag) (h3 : tag < 16) : ∀ H : Tr, JL pT T len tag H
  | .nil => fun _ _ _ _ _ _ hh _ => by have := Tr.hgt_nonneg T; simp only [Tr.hgt] at hh; omega
  | .node ll llen ltag lr => fun w pH hH hT bH oH hh hp => by
    have ih := joinLeft_any pT T len tag bT oT h1 h2 h3 ll
    simp only [Tr.joinL]
    by_cases hb : ll.hgt ≤ T.hgt + 1
    · rw [if_pos hb]
      by_cases hd : (Tr.node T len tag ll).hgt ≤ lr.hgt + 1
      · rw [if_pos hd]; exact joinLeft_stepA T pT len tag bT oT h1 h2 h3 ll lr llen ltag w pH hH hT bH oH hh hp hb hd
      · rw [if_neg hd]
        cases ll with
        | nil => exact (Tr.joinL_turns bH hh hd rfl).elim
        | node x xl xt u => exact joinLeft_stepB T pT len tag bT oT h1 h2 h3 lr llen ltag x u xl xt w pH hH hT bH oH hh hp hb hd
    · rw [if_neg hb]
      by_cases hd : (Tr.joinL T len tag ll).hgt ≤ lr.hgt + 1
      · rw [if_pos hd]; exact joinLeft_stepC T pT len tag bT oT h1 h2 h3 ll lr llen ltag ih w pH hH hT bH oH hh hp hb hd
      · rw [if_neg hd]
        cases hJ : Tr.joinL T len tag ll with
        | nil =>
          have := (Tr.bal_joinL T len tag bT ll bH.1 (by omega)).2.1
          have := Tr.hgt_nonneg T
          rw [hJ] at *; simp only [Tr.hgt] at *; omega
        | node x xl xt u => exact joinLeft_stepD T pT len tag bT oT h1 h2 h3 ll lr llen ltag ih x u xl xt hJ w pH hH hT bH oH hh hp hb hd

set_option maxRecDepth 100000 in
set_option maxHeartbeats 2000000 in
theorem join_stepR (L R : Tr) (len tag : Int) (w : World) (pL pR : Option Addr) (hL : Tree w pL L) (hR : Tree w pR R) (bL : L.Bal) (bR : R.Bal) (oL : L.Ok) (oR : R.Ok) (h1 : 1 ≤ len) (h2 : 0 ≤ tag) (h3 : tag < 16) (hp : L.pcs + R.pcs + len ≤ 1099511627776) (hc : R.hgt + 1 < L.hgt) :
    Calls Try.prog 81 #[.pointer pL, .int .i64 len, .int .i64 tag, .pointer pR] w fun e w' => ∃ p, e = .returned (.pointer p) ∧ Tree w' p (Tr.joinR L len tag R) ∧ Below w.heap.size w w' := by
  have q1 := Tr.pcs_nonneg _ oL
  have q2 := Tr.pcs_nonneg _ oR
  have g1 := Tr.hgt_nonneg L
  have g2 := Tr.hgt_nonneg R
  have g4 := Tr.hgt_le_num L
  have g5 := Tr.hgt_le_num R
  have g7 := Tr.num_le_pcs L oL
  have g8 := Tr.num_le_pcs R oR
  go_enter Try.func81, Try.ntmps81
  go_wp2_with (fail)
  go_at_call 85
  refine (high_any _ _ L (by exact hL.drewN 0)).mono ?_
  rintro e w' ⟨rfl, n1, rfl⟩
  go_wp2_with (fail)
  go_at_call 85
  refine (high_any _ _ R (by exact hR.drewN _)).mono ?_
  rintro e w' ⟨rfl, n2, rfl⟩
  go_wp2_with (fail)
  go_at_call 86
  refine (joinRight_any pR R len tag bR oR h1 h2 h3 L _ pL (by exact hL.drewN _) (by exact hR.drewN _) bL oL hc hp).mono ?_
  rintro e w1 ⟨p1, rfl, ht1, hb1⟩
  have hB1 : Below w.heap.size w w1 := Below.of_drewN hb1
  go_wp2_with (fail)
  go_ret
  exact ⟨_, rfl, ht1, hB1⟩

set_option maxRecDepth 100000 in
set_option maxHeartbeats 2000000 in
theorem join_stepL (L R : Tr) (len tag : Int) (w : World) (pL pR : Option Addr) (hL : Tree w pL L) (hR : Tree w pR R) (bL : L.Bal) (bR : R.Bal) (oL : L.Ok) (oR : R.Ok) (h1 : 1 ≤ len) (h2 : 0 ≤ tag) (h3 : tag < 16) (hp : L.pcs + R.pcs + len ≤ 1099511627776) (_hc : ¬ R.hgt + 1 < L.hgt) (hd : L.hgt + 1 < R.hgt) :
    Calls Try.prog 81 #[.pointer pL, .int .i64 len, .int .i64 tag, .pointer pR] w fun e w' => ∃ p, e = .returned (.pointer p) ∧ Tree w' p (Tr.joinL L len tag R) ∧ Below w.heap.size w w' := by
  have q1 := Tr.pcs_nonneg _ oL
  have q2 := Tr.pcs_nonneg _ oR
  have g1 := Tr.hgt_nonneg L
  have g2 := Tr.hgt_nonneg R
  have g4 := Tr.hgt_le_num L
  have g5 := Tr.hgt_le_num R
  have g7 := Tr.num_le_pcs L oL
  have g8 := Tr.num_le_pcs R oR
  go_enter Try.func81, Try.ntmps81
  go_wp2_with (fail)
  go_at_call 85
  refine (high_any _ _ L (by exact hL.drewN 0)).mono ?_
  rintro e w' ⟨rfl, n1, rfl⟩
  go_wp2_with (fail)
  go_at_call 85
  refine (high_any _ _ R (by exact hR.drewN _)).mono ?_
  rintro e w' ⟨rfl, n2, rfl⟩
  go_wp2_with (fail)
  go_at_call 85
  refine (high_any _ _ R (by exact hR.drewN _)).mono ?_
  rintro e w' ⟨rfl, n3, rfl⟩
  go_wp2_with (fail)
  go_at_call 85
  refine (high_any _ _ L (by exact hL.drewN _)).mono ?_
  rintro e w' ⟨rfl, n4, rfl⟩
  go_wp2_with (fail)
  go_at_call 87
  refine (joinLeft_any pL L len tag bL oL h1 h2 h3 R _ pR (by exact hR.drewN _) (by exact hL.drewN _) bR oR hd (by omega)).mono ?_
  rintro e w1 ⟨p1, rfl, ht1, hb1⟩
  have hB1 : Below w.heap.size w w1 := Below.of_drewN hb1
  go_wp2_with (fail)
  go_ret
  exact ⟨_, rfl, ht1, hB1⟩

set_option maxRecDepth 100000 in
set_option maxHeartbeats 2000000 in
theorem join_stepN (L R : Tr) (len tag : Int) (w : World) (pL pR : Option Addr) (hL : Tree w pL L) (hR : Tree w pR R) (_bL : L.Bal) (_bR : R.Bal) (oL : L.Ok) (oR : R.Ok) (h1 : 1 ≤ len) (h2 : 0 ≤ tag) (h3 : tag < 16) (hp : L.pcs + R.pcs + len ≤ 1099511627776) (hc : ¬ R.hgt + 1 < L.hgt) (hd : ¬ L.hgt + 1 < R.hgt) :
    Calls Try.prog 81 #[.pointer pL, .int .i64 len, .int .i64 tag, .pointer pR] w fun e w' => ∃ p, e = .returned (.pointer p) ∧ Tree w' p (Tr.node L len tag R) ∧ Below w.heap.size w w' := by
  have q1 := Tr.pcs_nonneg _ oL
  have q2 := Tr.pcs_nonneg _ oR
  have g1 := Tr.hgt_nonneg L
  have g2 := Tr.hgt_nonneg R
  have g4 := Tr.hgt_le_num L
  have g5 := Tr.hgt_le_num R
  have g7 := Tr.num_le_pcs L oL
  have g8 := Tr.num_le_pcs R oR
  go_enter Try.func81, Try.ntmps81
  go_wp2_with (fail)
  go_at_call 85
  refine (high_any _ _ L (by exact hL.drewN 0)).mono ?_
  rintro e w' ⟨rfl, n1, rfl⟩
  go_wp2_with (fail)
  go_at_call 85
  refine (high_any _ _ R (by exact hR.drewN _)).mono ?_
  rintro e w' ⟨rfl, n2, rfl⟩
  go_wp2_with (fail)
  go_at_call 85
  refine (high_any _ _ R (by exact hR.drewN _)).mono ?_
  rintro e w' ⟨rfl, n3, rfl⟩
  go_wp2_with (fail)
  go_at_call 85
  refine (high_any _ _ L (by exact hL.drewN _)).mono ?_
  rintro e w' ⟨rfl, n4, rfl⟩
  go_wp2_with (fail)
  go_at_call 78
  refine (link_any _ pL pR len tag L R (by exact hL.drewN _) (by exact hR.drewN _) h1 h2 h3 oL oR hp).mono ?_
  rintro e w1 ⟨p1, rfl, ht1, hb1⟩
  have hB1 : Below w.heap.size w w1 := Below.of_drewN hb1
  go_wp2_with (fail)
  go_ret
  exact ⟨_, rfl, ht1, hB1⟩

/-- join gives the balanced tree of both, with the run between them. -/
theorem join_any (L R : Tr) (len tag : Int) (w : World) (pL pR : Option Addr) (hL : Tree w pL L) (hR : Tree w pR R) (bL : L.Bal) (bR : R.Bal) (oL : L.Ok) (oR : R.Ok) (h1 : 1 ≤ len) (h2 : 0 ≤ tag) (h3 : tag < 16) (hp : L.pcs + R.pcs + len ≤ 1099511627776) :
    Calls Try.prog 81 #[.pointer pL, .int .i64 len, .int .i64 tag, .pointer pR] w fun e w' => ∃ p, e = .returned (.pointer p) ∧ Tree w' p (Tr.join L len tag R) ∧ Below w.heap.size w w' := by
  unfold Tr.join
  by_cases hc : R.hgt + 1 < L.hgt
  · rw [if_pos hc]; exact join_stepR L R len tag w pL pR hL hR bL bR oL oR h1 h2 h3 hp hc
  · rw [if_neg hc]
    by_cases hd : L.hgt + 1 < R.hgt
    · rw [if_pos hd]; exact join_stepL L R len tag w pL pR hL hR bL bR oL oR h1 h2 h3 hp hc hd
    · rw [if_neg hd]; exact join_stepN L R len tag w pL pR hL hR bL bR oL oR h1 h2 h3 hp hc hd

end Go.Proofs.Ytfmplibjhohpgaa
