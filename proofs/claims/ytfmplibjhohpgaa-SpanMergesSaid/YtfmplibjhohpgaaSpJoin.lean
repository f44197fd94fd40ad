/- The walks over joinRight, joinLeft and join of package span. -/
import Derived.Test.YtfmplibjhohpgaaSpTurn
import Derived.Deep.RegionWith
namespace Go.Proofs.Ytfmplibjhohpgaa
open Go.RowKit

set_option maxRecDepth 100000 in
set_option maxHeartbeats 2000000 in
theorem joinRight_stepA (T : Tr) (pT : Option Addr) (len tag : Int) (_bT : T.Bal) (oT : T.Ok) (h1 : 1 ≤ len) (h2 : 0 ≤ tag) (h3 : tag < 16) (ll lr : Tr) (llen ltag : Int)
    (w : World) (pH : Option Addr) (hH : Tree w pH (.node ll llen ltag lr)) (hT : Tree w pT T) (bH : (Tr.node ll llen ltag lr).Bal) (oH : (Tr.node ll llen ltag lr).Ok) (_hh : T.hgt + 1 < (Tr.node ll llen ltag lr).hgt) (hp : (Tr.node ll llen ltag lr).pcs + T.pcs + len ≤ 1099511627776)
    (hb : lr.hgt ≤ T.hgt + 1) (hd : (Tr.node lr len tag T).hgt ≤ ll.hgt + 1) :
    Calls Try.prog 86 #[.pointer pH, .int .i64 len, .int .i64 tag, .pointer pT] w fun e w' => ∃ p, e = .returned (.pointer p) ∧ Tree w' p (Tr.node ll llen ltag (Tr.node lr len tag T)) ∧ Below w.heap.size w w' := by
  obtain ⟨bt, pl, pr, rfl, hbt, hn, hl, hr⟩ := hH
  obtain ⟨o1, o2, o4, o5, o6⟩ := oH
  have bN := bH
  obtain ⟨b1, b2, b3, b4⟩ := bH
  simp only [Tr.pcs] at hp
  have q1 := Tr.pcs_nonneg _ o1
  have q2 := Tr.pcs_nonneg _ o2
  have q3 := Tr.pcs_nonneg _ oT
  have g1 := Tr.hgt_nonneg ll
  have g2 := Tr.hgt_nonneg lr
  have g3 := Tr.hgt_nonneg T
  have g4 := Tr.hgt_le_num ll
  have g5 := Tr.hgt_le_num lr
  have g6 := Tr.hgt_le_num T
  have g7 := Tr.num_le_pcs ll o1
  have g8 := Tr.num_le_pcs lr o2
  have g9 := Tr.num_le_pcs T oT
  have c0 := hn.c0
  have c1 := hn.c1
  have c2 := hn.c2
  have c3 := hn.c3
  go_enter Try.func86, Try.ntmps86
  go_wp2_with (fail)
  go_at_call 85
  refine (high_any _ _ lr (by exact hr)).mono ?_
  rintro e w' ⟨rfl, n1, rfl⟩
  go_wp2_with (fail)
  go_at_call 85
  refine (high_any _ _ T (by exact Tree.drewN hT _)).mono ?_
  rintro e w' ⟨rfl, n2, rfl⟩
  go_wp2_with (fail)
  go_at_call 78
  refine (link_any _ pr pT len tag lr T (by exact Tree.drewN hr _) (by exact Tree.drewN hT _) h1 h2 h3 o2 oT (by omega)).mono ?_
  rintro e w1 ⟨p1, rfl, ht1, hb1⟩
  have hB1 : Below w.heap.size w w1 := Below.of_drewN hb1
  have k0 := (hn.below hB1 hbt).c0
  have k1 := (hn.below hB1 hbt).c1
  have k2 := (hn.below hB1 hbt).c2
  have k3 := (hn.below hB1 hbt).c3
  have v1 := Tr.hgt_nonneg (Tr.node lr len tag T)
  go_wp2_with (fail)
  go_quiet ((first | (go_at_call_of 85 (Value.pointer p1); exact quiet_arm (high_any _ _ (Tr.node lr len tag T) (by exact Tree.drewN (ht1) _))) | (go_at_call_of 85 (Value.pointer pl); exact quiet_arm (high_any _ _ (ll) (by exact Tree.drewN (Tree.below hB1 hl) _)))))
  go_wp2_with (fail)
  go_region_held3 (fun W => W.cell? ⟨bt, 0, none⟩ = some (.pointer pl) ∧ W.cell? ⟨bt, 2, none⟩ = some (.int .i64 llen) ∧ W.cell? ⟨bt, 3, none⟩ = some (.int .i64 ltag)) (first | (exact ⟨k0, k2, k3⟩) | (exact ⟨(hB1.cell (p := ⟨bt, 0, none⟩) hbt).trans c0, (hB1.cell (p := ⟨bt, 2, none⟩) hbt).trans c2, (hB1.cell (p := ⟨bt, 3, none⟩) hbt).trans c3⟩) | (exact ⟨(hB2.cell (p := ⟨bt, 0, none⟩) hbt).trans c0, (hB2.cell (p := ⟨bt, 2, none⟩) hbt).trans c2, (hB2.cell (p := ⟨bt, 3, none⟩) hbt).trans c3⟩))
    ((first
      | (go_at_call 78; refine (link_any _ pl p1 llen ltag ll (Tr.node lr len tag T) (by exact Tree.drewN (Tree.drewN (Tree.below hB1 hl) _) 1) (by exact Tree.drewN (Tree.drewN (ht1) _) 1) o4 o5 o6 o1 ⟨o2, oT, h1, h2, h3⟩ (by simp only [Tr.pcs]; omega)).mono ?_; rintro e w2 ⟨p2, rfl, ht2, hb2⟩; have hB2 : Below w.heap.size w w2 := Below.next hB1 (Below.of_drewN <| Below.of_drew hb2))))
  go_wp2_with (fail)
  go_ret
  exact ⟨_, rfl, ht2, hB2⟩

set_option maxRecDepth 100000 in
set_option maxHeartbeats 2000000 in
theorem joinRight_stepB (T : Tr) (pT : Option Addr) (len tag : Int) (_bT : T.Bal) (oT : T.Ok) (h1 : 1 ≤ len) (h2 : 0 ≤ tag) (h3 : tag < 16) (ll : Tr) (llen ltag : Int) (x u : Tr) (xl xt : Int)
    (w : World) (pH : Option Addr) (hH : Tree w pH (.node ll llen ltag (Tr.node x xl xt u))) (hT : Tree w pT T) (bH : (Tr.node ll llen ltag (Tr.node x xl xt u)).Bal) (oH : (Tr.node ll llen ltag (Tr.node x xl xt u)).Ok) (_hh : T.hgt + 1 < (Tr.node ll llen ltag (Tr.node x xl xt u)).hgt) (hp : (Tr.node ll llen ltag (Tr.node x xl xt u)).pcs + T.pcs + len ≤ 1099511627776)
    (hb : (Tr.node x xl xt u).hgt ≤ T.hgt + 1) (hd : ¬ (Tr.node (Tr.node x xl xt u) len tag T).hgt ≤ ll.hgt + 1) :
    Calls Try.prog 86 #[.pointer pH, .int .i64 len, .int .i64 tag, .pointer pT] w fun e w' => ∃ p, e = .returned (.pointer p) ∧ Tree w' p (Tr.node (Tr.node ll llen ltag x) xl xt (Tr.node u len tag T)) ∧ Below w.heap.size w w' := by
  obtain ⟨bt, pl, pr, rfl, hbt, hn, hl, hr⟩ := hH
  obtain ⟨o1, o2, o4, o5, o6⟩ := oH
  have bN := bH
  obtain ⟨b1, b2, b3, b4⟩ := bH
  simp only [Tr.pcs] at hp
  obtain ⟨ox, ou, oxl, oxt, oxs⟩ := (id o2 : Tr.Ok _)
  have ux := Tr.pcs_nonneg _ ox
  have uu := Tr.pcs_nonneg _ ou
  have q1 := Tr.pcs_nonneg _ o1
  have q2 := Tr.pcs_nonneg _ o2
  have q3 := Tr.pcs_nonneg _ oT
  have g1 := Tr.hgt_nonneg ll
  have g2 := Tr.hgt_nonneg (Tr.node x xl xt u)
  have g3 := Tr.hgt_nonneg T
  have g4 := Tr.hgt_le_num ll
  have g5 := Tr.hgt_le_num (Tr.node x xl xt u)
  have g6 := Tr.hgt_le_num T
  have g7 := Tr.num_le_pcs ll o1
  have g8 := Tr.num_le_pcs (Tr.node x xl xt u) o2
  have g9 := Tr.num_le_pcs T oT
  have c0 := hn.c0
  have c1 := hn.c1
  have c2 := hn.c2
  have c3 := hn.c3
  go_enter Try.func86, Try.ntmps86
  go_wp2_with (fail)
  go_at_call 85
  refine (high_any _ _ (Tr.node x xl xt u) (by exact hr)).mono ?_
  rintro e w' ⟨rfl, n1, rfl⟩
  go_wp2_with (fail)
  go_at_call 85
  refine (high_any _ _ T (by exact Tree.drewN hT _)).mono ?_
  rintro e w' ⟨rfl, n2, rfl⟩
  go_wp2_with (fail)
  go_at_call 78
  refine (link_any _ pr pT len tag (Tr.node x xl xt u) T (by exact Tree.drewN hr _) (by exact Tree.drewN hT _) h1 h2 h3 o2 oT (by simp only [Tr.pcs] at *; omega)).mono ?_
  rintro e w1 ⟨p1, rfl, ht1, hb1⟩
  have hB1 : Below w.heap.size w w1 := Below.of_drewN hb1
  have k0 := (hn.below hB1 hbt).c0
  have k1 := (hn.below hB1 hbt).c1
  have k2 := (hn.below hB1 hbt).c2
  have k3 := (hn.below hB1 hbt).c3
  have v1 := Tr.hgt_nonneg (Tr.node (Tr.node x xl xt u) len tag T)
  go_wp2_with (fail)
  go_quiet ((first | (go_at_call_of 85 (Value.pointer p1); exact quiet_arm (high_any _ _ (Tr.node (Tr.node x xl xt u) len tag T) (by exact Tree.drewN (ht1) _))) | (go_at_call_of 85 (Value.pointer pl); exact quiet_arm (high_any _ _ (ll) (by exact Tree.drewN (Tree.below hB1 hl) _)))))
  go_wp2_with (fail)
  go_region_held3 (fun W => W.cell? ⟨bt, 0, none⟩ = some (.pointer pl) ∧ W.cell? ⟨bt, 2, none⟩ = some (.int .i64 llen) ∧ W.cell? ⟨bt, 3, none⟩ = some (.int .i64 ltag)) (first | (exact ⟨k0, k2, k3⟩) | (exact ⟨(hB1.cell (p := ⟨bt, 0, none⟩) hbt).trans c0, (hB1.cell (p := ⟨bt, 2, none⟩) hbt).trans c2, (hB1.cell (p := ⟨bt, 3, none⟩) hbt).trans c3⟩) | (exact ⟨(hB2.cell (p := ⟨bt, 0, none⟩) hbt).trans c0, (hB2.cell (p := ⟨bt, 2, none⟩) hbt).trans c2, (hB2.cell (p := ⟨bt, 3, none⟩) hbt).trans c3⟩) | (exact ⟨(hB3.cell (p := ⟨bt, 0, none⟩) hbt).trans c0, (hB3.cell (p := ⟨bt, 2, none⟩) hbt).trans c2, (hB3.cell (p := ⟨bt, 3, none⟩) hbt).trans c3⟩) | (exact ⟨(hB4.cell (p := ⟨bt, 0, none⟩) hbt).trans c0, (hB4.cell (p := ⟨bt, 2, none⟩) hbt).trans c2, (hB4.cell (p := ⟨bt, 3, none⟩) hbt).trans c3⟩))
    ((first
      | (go_at_call 89; refine (turnRight_any _ p1 x u T len tag xl xt (by exact Tree.drewN (Tree.drewN ht1 _) 1) ⟨⟨ox, ou, oxl, oxt, oxs⟩, oT, h1, h2, h3⟩ (by simp only [Tr.pcs] at *; omega)).mono ?_; rintro e w2 ⟨p2, rfl, ht2, hb2⟩; have hB2 : Below w.heap.size w w2 := Below.next hB1 (Below.of_drewN <| Below.of_drew hb2))
      | (go_at_call 78; refine (link_any _ pl p2 llen ltag ll (Tr.node x xl xt (Tr.node u len tag T)) (by exact Tree.below hB2 hl) (by exact ht2) o4 o5 o6 o1 ⟨ox, ⟨ou, oT, h1, h2, h3⟩, oxl, oxt, oxs⟩ (by simp only [Tr.pcs] at *; omega)).mono ?_; rintro e w3 ⟨p3, rfl, ht3, hb3⟩; have hB3 := Below.next hB2 hb3)
      | (go_at_call 88; refine (turnLeft_any _ p3 ll x (.node u len tag T) llen ltag xl xt (by exact ht3) ⟨o1, ⟨ox, ⟨ou, oT, h1, h2, h3⟩, oxl, oxt, oxs⟩, o4, o5, o6⟩ (by simp only [Tr.pcs] at *; omega)).mono ?_; rintro e w4 ⟨p4, rfl, ht4, hb4⟩; have hB4 := Below.next hB3 hb4)))
  go_wp2_with (fail)
  go_ret
  exact ⟨_, rfl, ht4, hB4⟩

/-- What joinRight does with a tree. -/
def JR (pT : Option Addr) (T : Tr) (len tag : Int) (H : Tr) : Prop := ∀ (w : World) (pH : Option Addr), Tree w pH H → Tree w pT T → H.Bal → H.Ok → T.hgt + 1 < H.hgt → H.pcs + T.pcs + len ≤ 1099511627776 →
    Calls Try.prog 86 #[.pointer pH, .int .i64 len, .int .i64 tag, .pointer pT] w fun e w' => ∃ p, e = .returned (.pointer p) ∧ Tree w' p (Tr.joinR H len tag T) ∧ Below w.heap.size w w'

set_option maxRecDepth 100000 in
set_option maxHeartbeats 2000000 in
theorem joinRight_stepC (T : Tr) (pT : Option Addr) (len tag : Int) (bT : T.Bal) (oT : T.Ok) (h1 : 1 ≤ len) (h2 : 0 ≤ tag) (h3 : tag < 16) (ll lr : Tr) (llen ltag : Int) (ih : JR pT T len tag lr)
    (w : World) (pH : Option Addr) (hH : Tree w pH (.node ll llen ltag lr)) (hT : Tree w pT T) (bH : (Tr.node ll llen ltag lr).Bal) (oH : (Tr.node ll llen ltag lr).Ok) (_hh : T.hgt + 1 < (Tr.node ll llen ltag lr).hgt) (hp : (Tr.node ll llen ltag lr).pcs + T.pcs + len ≤ 1099511627776)
    (hb : ¬ lr.hgt ≤ T.hgt + 1) (hd : (Tr.joinR lr len tag T).hgt ≤ ll.hgt + 1) :
    Calls Try.prog 86 #[.pointer pH, .int .i64 len, .int .i64 tag, .pointer pT] w fun e w' => ∃ p, e = .returned (.pointer p) ∧ Tree w' p (Tr.node ll llen ltag (Tr.joinR lr len tag T)) ∧ Below w.heap.size w w' := by
  obtain ⟨bt, pl, pr, rfl, hbt, hn, hl, hr⟩ := hH
  obtain ⟨o1, o2, o4, o5, o6⟩ := oH
  have bN := bH
  obtain ⟨b1, b2, b3, b4⟩ := bH
  simp only [Tr.pcs] at hp
  have q1 := Tr.pcs_nonneg _ o1
  have q2 := Tr.pcs_nonneg _ o2
  have q3 := Tr.pcs_nonneg _ oT
  have g1 := Tr.hgt_nonneg ll
  have g2 := Tr.hgt_nonneg lr
  have g3 := Tr.hgt_nonneg T
  have g4 := Tr.hgt_le_num ll
  have g5 := Tr.hgt_le_num lr
  have g6 := Tr.hgt_le_num T
  have g7 := Tr.num_le_pcs ll o1
  have g8 := Tr.num_le_pcs lr o2
  have g9 := Tr.num_le_pcs T oT
  have c0 := hn.c0
  have c1 := hn.c1
  have c2 := hn.c2
  have c3 := hn.c3
  go_enter Try.func86, Try.ntmps86
  go_wp2_with (fail)
  go_at_call 85
  refine (high_any _ _ lr (by exact hr)).mono ?_
  rintro e w' ⟨rfl, n1, rfl⟩
  go_wp2_with (fail)
  go_at_call 85
  refine (high_any _ _ T (by exact Tree.drewN hT _)).mono ?_
  rintro e w' ⟨rfl, n2, rfl⟩
  go_wp2_with (fail)
  obtain ⟨j1, j2, j3, j4⟩ := Tr.bal_joinR len tag T bT lr b2 (by omega)
  have jo : (Tr.joinR lr len tag T).Ok := Tr.ok_joinR lr len tag T o2 oT h1 h2 h3
  have jp : (Tr.joinR lr len tag T).pcs = lr.pcs + T.pcs + len := Tr.pcs_joinR lr len tag T
  have j5 := Tr.hgt_nonneg (Tr.joinR lr len tag T)
  go_at_call 86
  refine (ih _ pr (by exact Tree.drewN hr _) (by exact Tree.drewN hT _) b2 o2 (by omega) (by omega)).mono ?_
  rintro e w1 ⟨p1, rfl, ht1, hb1⟩
  have hB1 : Below w.heap.size w w1 := Below.of_drewN hb1
  have k0 := (hn.below hB1 hbt).c0
  have k1 := (hn.below hB1 hbt).c1
  have k2 := (hn.below hB1 hbt).c2
  have k3 := (hn.below hB1 hbt).c3
  go_wp2_with (fail)
  go_region_held3 (fun W => W.cell? ⟨bt, 0, none⟩ = some (.pointer pl) ∧ W.cell? ⟨bt, 2, none⟩ = some (.int .i64 llen) ∧ W.cell? ⟨bt, 3, none⟩ = some (.int .i64 ltag)) (first | (exact ⟨k0, k2, k3⟩) | (exact ⟨(hB1.cell (p := ⟨bt, 0, none⟩) hbt).trans c0, (hB1.cell (p := ⟨bt, 2, none⟩) hbt).trans c2, (hB1.cell (p := ⟨bt, 3, none⟩) hbt).trans c3⟩) | (exact ⟨(hB2.cell (p := ⟨bt, 0, none⟩) hbt).trans c0, (hB2.cell (p := ⟨bt, 2, none⟩) hbt).trans c2, (hB2.cell (p := ⟨bt, 3, none⟩) hbt).trans c3⟩))
    ((first
      | (go_at_call 78; refine (link_any _ pl p1 llen ltag ll (Tr.joinR lr len tag T) (by exact Tree.drewN (Tree.below hB1 hl) 1) (by exact Tree.drewN ht1 1) o4 o5 o6 o1 jo (by rw [jp]; omega)).mono ?_; rintro e w2 ⟨p2, rfl, ht2, hb2⟩; have hb12 : Below w1.heap.size w1 w2 := Below.of_drew hb2; have hB2 : Below w.heap.size w w2 := Below.next hB1 hb12)))
  go_wp2_with (fail)
  have m0 := (hn.below hB2 hbt).c0
  have m1 := (hn.below hB2 hbt).c1
  go_quiet ((first | (go_at_call_of 85 (Value.pointer p1); exact quiet_arm (high_any _ _ (Tr.joinR lr len tag T) (by exact Tree.drewN (Tree.below hb12 ht1) _))) | (go_at_call_of 85 (Value.pointer pl); exact quiet_arm (high_any _ _ (ll) (by exact Tree.drewN (Tree.below hB2 hl) _)))))
  go_wp2_with (fail)
  go_ret
  exact ⟨_, rfl, Tree.drewN ht2 _, hB2.trans (Quiet.below ⟨_, rfl⟩ _)⟩

set_option maxRecDepth 100000 in
set_option maxHeartbeats 2000000 in
theorem joinRight_stepD (T : Tr) (pT : Option Addr) (len tag : Int) (bT : T.Bal) (oT : T.Ok) (h1 : 1 ≤ len) (h2 : 0 ≤ tag) (h3 : tag < 16) (ll lr : Tr) (llen ltag : Int) (ih : JR pT T len tag lr) (x u : Tr) (xl xt : Int) (hJ : Tr.joinR lr len tag T = .node x xl xt u)
    (w : World) (pH : Option Addr) (hH : Tree w pH (.node ll llen ltag lr)) (hT : Tree w pT T) (bH : (Tr.node ll llen ltag lr).Bal) (oH : (Tr.node ll llen ltag lr).Ok) (_hh : T.hgt + 1 < (Tr.node ll llen ltag lr).hgt) (hp : (Tr.node ll llen ltag lr).pcs + T.pcs + len ≤ 1099511627776)
    (hb : ¬ lr.hgt ≤ T.hgt + 1) (hd : ¬ (Tr.joinR lr len tag T).hgt ≤ ll.hgt + 1) :
    Calls Try.prog 86 #[.pointer pH, .int .i64 len, .int .i64 tag, .pointer pT] w fun e w' => ∃ p, e = .returned (.pointer p) ∧ Tree w' p (Tr.node (Tr.node ll llen ltag x) xl xt u) ∧ Below w.heap.size w w' := by
  obtain ⟨bt, pl, pr, rfl, hbt, hn, hl, hr⟩ := hH
  obtain ⟨o1, o2, o4, o5, o6⟩ := oH
  have bN := bH
  obtain ⟨b1, b2, b3, b4⟩ := bH
  simp only [Tr.pcs] at hp
  have q1 := Tr.pcs_nonneg _ o1
  have q2 := Tr.pcs_nonneg _ o2
  have q3 := Tr.pcs_nonneg _ oT
  have g1 := Tr.hgt_nonneg ll
  have g2 := Tr.hgt_nonneg lr
  have g3 := Tr.hgt_nonneg T
  have g4 := Tr.hgt_le_num ll
  have g5 := Tr.hgt_le_num lr
  have g6 := Tr.hgt_le_num T
  have g7 := Tr.num_le_pcs ll o1
  have g8 := Tr.num_le_pcs lr o2
  have g9 := Tr.num_le_pcs T oT
  have c0 := hn.c0
  have c1 := hn.c1
  have c2 := hn.c2
  have c3 := hn.c3
  go_enter Try.func86, Try.ntmps86
  go_wp2_with (fail)
  go_at_call 85
  refine (high_any _ _ lr (by exact hr)).mono ?_
  rintro e w' ⟨rfl, n1, rfl⟩
  go_wp2_with (fail)
  go_at_call 85
  refine (high_any _ _ T (by exact Tree.drewN hT _)).mono ?_
  rintro e w' ⟨rfl, n2, rfl⟩
  go_wp2_with (fail)
  have HJ := Lib.hid hJ
  clear hJ
  obtain ⟨j1, j2, j3, j4⟩ := Tr.bal_joinR len tag T bT lr b2 (by omega)
  have jo : (Tr.joinR lr len tag T).Ok := Tr.ok_joinR lr len tag T o2 oT h1 h2 h3
  have jp : (Tr.joinR lr len tag T).pcs = lr.pcs + T.pcs + len := Tr.pcs_joinR lr len tag T
  have j5 := Tr.hgt_nonneg (Tr.joinR lr len tag T)
  go_at_call 86
  refine (ih _ pr (by exact Tree.drewN hr _) (by exact Tree.drewN hT _) b2 o2 (by omega) (by omega)).mono ?_
  rintro e w1 ⟨p1, rfl, ht1, hb1⟩
  have hB1 : Below w.heap.size w w1 := Below.of_drewN hb1
  have k0 := (hn.below hB1 hbt).c0
  have k1 := (hn.below hB1 hbt).c1
  have k2 := (hn.below hB1 hbt).c2
  have k3 := (hn.below hB1 hbt).c3
  go_wp2_with (fail)
  go_region_held3 (fun W => W.cell? ⟨bt, 0, none⟩ = some (.pointer pl) ∧ W.cell? ⟨bt, 2, none⟩ = some (.int .i64 llen) ∧ W.cell? ⟨bt, 3, none⟩ = some (.int .i64 ltag)) (first | (exact ⟨k0, k2, k3⟩) | (exact ⟨(hB1.cell (p := ⟨bt, 0, none⟩) hbt).trans c0, (hB1.cell (p := ⟨bt, 2, none⟩) hbt).trans c2, (hB1.cell (p := ⟨bt, 3, none⟩) hbt).trans c3⟩) | (exact ⟨(hB2.cell (p := ⟨bt, 0, none⟩) hbt).trans c0, (hB2.cell (p := ⟨bt, 2, none⟩) hbt).trans c2, (hB2.cell (p := ⟨bt, 3, none⟩) hbt).trans c3⟩))
    ((first
      | (go_at_call 78; refine (link_any _ pl p1 llen ltag ll (Tr.joinR lr len tag T) (by exact Tree.drewN (Tree.below hB1 hl) 1) (by exact Tree.drewN ht1 1) o4 o5 o6 o1 jo (by rw [jp]; omega)).mono ?_; rintro e w2 ⟨p2, rfl, ht2, hb2⟩; have hb12 : Below w1.heap.size w1 w2 := Below.of_drew hb2; have hB2 : Below w.heap.size w w2 := Below.next hB1 hb12)))
  go_wp2_with (fail)
  have m0 := (hn.below hB2 hbt).c0
  have m1 := (hn.below hB2 hbt).c1
  go_quiet ((first | (go_at_call_of 85 (Value.pointer p1); exact quiet_arm (high_any _ _ (Tr.joinR lr len tag T) (by exact Tree.drewN (Tree.below hb12 ht1) _))) | (go_at_call_of 85 (Value.pointer pl); exact quiet_arm (high_any _ _ (ll) (by exact Tree.drewN (Tree.below hB2 hl) _)))))
  go_wp2_with (fail)
  go_at_call 88
  have hJ := HJ.out
  refine (turnLeft_any _ p2 ll x u llen ltag xl xt (by rw [← hJ]; exact Tree.drewN ht2 _) ⟨o1, by rw [← hJ]; exact jo, o4, o5, o6⟩ (by rw [← hJ]; simp only [Tr.pcs, jp]; omega)).mono ?_
  clear hJ
  rintro e w4 ⟨p4, rfl, ht4, hb4⟩
  go_wp2_with (fail)
  go_ret
  exact ⟨_, rfl, ht4, hB2.trans ((Below.of_drewN hb4).mono hB2.size)⟩

theorem joinRight_any (pT : Option Addr) (T : Tr) (len tag : Int) (bT : T.Bal) (oT : T.Ok) (h1 : 1 ≤ len) (h2 : 0 ≤ tag) (h3 : tag < 16) : ∀ H : Tr, JR pT T len tag H
  | .nil => fun _ _ _ _ _ _ hh _ => by have := Tr.hgt_nonneg T; simp only [Tr.hgt] at hh; omega
  | .node ll llen ltag lr => fun w pH hH hT bH oH hh hp => by
    have ih := joinRight_any pT T len tag bT oT h1 h2 h3 lr
    simp only [Tr.joinR]
    by_cases hb : lr.hgt ≤ T.hgt + 1
    · rw [if_pos hb]
      by_cases hd : (Tr.node lr len tag T).hgt ≤ ll.hgt + 1
      · rw [if_pos hd]; exact joinRight_stepA T pT len tag bT oT h1 h2 h3 ll lr llen ltag w pH hH hT bH oH hh hp hb hd
      · rw [if_neg hd]
        cases lr with
        | nil => exact (Tr.joinR_turns bH hh hd rfl).elim
        | node x xl xt u => exact joinRight_stepB T pT len tag bT oT h1 h2 h3 ll llen ltag x u xl xt w pH hH hT bH oH hh hp hb hd
    · rw [if_neg hb]
      by_cases hd : (Tr.joinR lr len tag T).hgt ≤ ll.hgt + 1
      · rw [if_pos hd]; exact joinRight_stepC T pT len tag bT oT h1 h2 h3 ll lr llen ltag ih w pH hH hT bH oH hh hp hb hd
      · rw [if_neg hd]
        cases hJ : Tr.joinR lr len tag T with
        | nil =>
          have := (Tr.bal_joinR len tag T bT lr bH.2.1 (by omega)).2.1
          have := Tr.hgt_nonneg T
          rw [hJ] at *; simp only [Tr.hgt] at *; omega
        | node x xl xt u => exact joinRight_stepD T pT len tag bT oT h1 h2 h3 ll lr llen ltag ih x u xl xt hJ w pH hH hT bH oH hh hp hb hd

end Go.Proofs.Ytfmplibjhohpgaa
