/- The walks over takeLast, first, grow, leaf and concat of package span. -/
import Derived.Test.YtfmplibjhohpgaaSpSplit
namespace Go.Proofs.Ytfmplibjhohpgaa
open Go.RowKit

/-- What takeLast does with a tree. -/
def TL (T : Tr) : Prop := ∀ (w : World) (p : Option Addr), Tree w p T → T ≠ .nil → T.Bal → T.Ok → T.pcs ≤ 1099511627776 →
    Calls Try.prog 82 #[.pointer p] w fun e w' => ∃ q, e = .returned (.tuple #[.pointer q, .int .i64 (Tr.takeLast T).2.1, .int .i64 (Tr.takeLast T).2.2]) ∧ Tree w' q (Tr.takeLast T).1 ∧ Below w.heap.size w w'

set_option maxRecDepth 100000 in
set_option maxHeartbeats 2000000 in
theorem takeLast_stepA (l r : Tr) (len tag : Int) (w : World) (p : Option Addr) (hT : Tree w p (.node l len tag r)) (bT : (Tr.node l len tag r).Bal) (oT : (Tr.node l len tag r).Ok) (hp : (Tr.node l len tag r).pcs ≤ 1099511627776) (hr0 : r = .nil) :
    Calls Try.prog 82 #[.pointer p] w fun e w' => ∃ q, e = .returned (.tuple #[.pointer q, .int .i64 len, .int .i64 tag]) ∧ Tree w' q l ∧ Below w.heap.size w w' := by
  obtain ⟨bt, pl, pr, rfl, hbt, hn, hl, hr⟩ := hT
  obtain ⟨o1, o2, o4, o5, o6⟩ := oT
  obtain ⟨b1, b2, b3, b4⟩ := bT
  simp only [Tr.pcs] at hp
  have q1 := Tr.pcs_nonneg _ o1
  have q2 := Tr.pcs_nonneg _ o2
  have c0 := hn.c0
  have c1 := hn.c1
  have c2 := hn.c2
  have c3 := hn.c3
  obtain rfl := hr0
  obtain rfl : pr = none := hr
  go_enter Try.func82, Try.ntmps82
  go_wp2_with (fail)
  go_quiet (fail)
  go_wp2_with (fail)
  go_ret3
  exact ⟨_, rfl, Tree.drewN hl _, Quiet.below ⟨_, rfl⟩ _⟩

set_option maxRecDepth 100000 in
set_option maxHeartbeats 2000000 in
theorem takeLast_stepB (l r : Tr) (len tag : Int) (ih : TL r) (w : World) (p : Option Addr) (hT : Tree w p (.node l len tag r)) (bT : (Tr.node l len tag r).Bal) (oT : (Tr.node l len tag r).Ok) (hp : (Tr.node l len tag r).pcs ≤ 1099511627776) (hr0 : r ≠ .nil) :
    Calls Try.prog 82 #[.pointer p] w fun e w' => ∃ q, e = .returned (.tuple #[.pointer q, .int .i64 (Tr.takeLast r).2.1, .int .i64 (Tr.takeLast r).2.2]) ∧ Tree w' q (Tr.join l len tag (Tr.takeLast r).1) ∧ Below w.heap.size w w' := by
  obtain ⟨bt, pl, pr, rfl, hbt, hn, hl, hr⟩ := hT
  obtain ⟨o1, o2, o4, o5, o6⟩ := oT
  obtain ⟨b1, b2, b3, b4⟩ := bT
  simp only [Tr.pcs] at hp
  have q1 := Tr.pcs_nonneg _ o1
  have q2 := Tr.pcs_nonneg _ o2
  have c0 := hn.c0
  have c1 := hn.c1
  have c2 := hn.c2
  have c3 := hn.c3
  obtain ⟨t1, t2, t3, t4, t5⟩ := Tr.takeLast_facts r hr0 o2
  have t6 := Tr.takeLast_bal r b2
  obtain ⟨br, hpr⟩ : ∃ br, pr = some br := by
    cases r with
    | nil => exact (hr0 rfl).elim
    | node _ _ _ _ => obtain ⟨b, _, _, h, _⟩ := hr; exact ⟨_, h⟩
  subst hpr
  go_enter Try.func82, Try.ntmps82
  go_wp2_with (fail)
  go_at_call 82
  refine (ih _ _ (by exact Tree.drewN hr 0) hr0 b2 o2 (by omega)).mono ?_
  rintro e w1 ⟨pa, rfl, hta, hb1⟩
  have hB1 : Below w.heap.size w w1 := hb1
  have d0 := (hn.below hB1 hbt).c0
  have d1 := (hn.below hB1 hbt).c1
  have d2 := (hn.below hB1 hbt).c2
  have d3 := (hn.below hB1 hbt).c3
  go_wp2_with (fail)
  go_region_held3 (fun W => W.cell? ⟨bt, 0, none⟩ = some (.pointer pl) ∧ W.cell? ⟨bt, 2, none⟩ = some (.int .i64 len) ∧ W.cell? ⟨bt, 3, none⟩ = some (.int .i64 tag)) (first | (exact ⟨d0, d2, d3⟩) | (exact ⟨(hB1.cell (p := ⟨bt, 0, none⟩) hbt).trans c0, (hB1.cell (p := ⟨bt, 2, none⟩) hbt).trans c2, (hB1.cell (p := ⟨bt, 3, none⟩) hbt).trans c3⟩) | (exact ⟨(hB2.cell (p := ⟨bt, 0, none⟩) hbt).trans c0, (hB2.cell (p := ⟨bt, 2, none⟩) hbt).trans c2, (hB2.cell (p := ⟨bt, 3, none⟩) hbt).trans c3⟩))
    ((first
      | (go_at_call 81; refine (join_any l _ len tag _ pl pa (by exact Tree.drewN (Tree.below hB1 hl) 1) (by exact Tree.drewN hta 1) b1 t6 o1 t1 o4 o5 o6 (by omega)).mono ?_; rintro e w2 ⟨p2, rfl, ht2, hb2⟩; have hb12 : Below w1.heap.size w1 w2 := Below.of_drew hb2; have hB2 : Below w.heap.size w w2 := Below.next hB1 hb12)))
  go_wp2_with (fail)
  go_ret3
  exact ⟨_, rfl, ht2, hB2⟩
theorem takeLast_any : ∀ T : Tr, TL T
  | .nil => fun _ _ _ h => (h rfl).elim
  | .node l len tag .nil => fun w p hT _ bT oT hp => takeLast_stepA l .nil len tag w p hT bT oT hp rfl
  | .node l len tag (.node a x y b) => fun w p hT _ bT oT hp => takeLast_stepB l _ len tag (takeLast_any (.node a x y b)) w p hT bT oT hp (by simp)

/-- The height that a node's cell states. -/
def hgtOf (w : World) : Value → Nat
  | .pointer (some ⟨b, _, _⟩) => match w.cell? ⟨b, 4, none⟩ with
    | some (.int _ h) => h.toNat
    | _ => 0
  | _ => 0
theorem hgtOf_tree {w : World} {p : Option Addr} {T : Tr} (hT : Tree w p T) : hgtOf w (.pointer p) = T.hgt.toNat := by
  cases T with
  | nil => obtain rfl : p = none := hT; rfl
  | node l len tag r =>
    obtain ⟨bt, pl, pr, rfl, hbt, hn, hl, hr⟩ := hT
    simp only [hgtOf, hn.c4]
theorem hgtOf_node {w : World} {p : Option Addr} {l r : Tr} {len tag : Int} (hT : Tree w p (.node l len tag r)) : ∀ b pl pr, p = some ⟨b, 0, none⟩ → IsNode w b pl pr (.node l len tag r) len tag → IsTree w.heap.size w pl l → hgtOf w (.pointer pl) < hgtOf w (.pointer p) := by
  intro b pl pr _ _ hl
  rw [hgtOf_tree hT, hgtOf_tree hl]
  have := Tr.hgt_nonneg l; have := Tr.hgt_nonneg r
  simp only [Tr.hgt]; omega
set_option maxRecDepth 100000 in
set_option maxHeartbeats 2000000 in
theorem first_any (T : Tr) (x : Int) (w : World) (p : Option Addr) (hT : Tree w p T) (hne : T ≠ .nil) (hx : Tr.first T = x) :
    Calls Try.prog 83 #[.pointer p] w fun e w' => e = .returned (.int .i64 x) ∧ w = w' := by
  have Hx := Lib.hid hx
  clear hx
  go_enter Try.func83, Try.ntmps83
  go_wp2_with (fail)
  go_loop [0] (fun v => ∃ (T' : Tr) (p' : Option Addr), v = .pointer p' ∧ Tree w p' T' ∧ T' ≠ .nil ∧ Hid (Tr.first T' = x)) (fun v => hgtOf w v)
  case atStart => exact ⟨T, p, rfl, hT, hne, Hx⟩
  case round =>
    obtain ⟨T', p', rfl, hT', hne', hx'⟩ := hrel
    cases T' with
    | nil => exact (hne' rfl).elim
    | node l len tag r =>
      obtain ⟨bt, pl, pr, hp', hbt, hn, hl, hr⟩ := id hT'
      have Hm := Lib.hid (hgtOf_node hT' bt pl pr hp' hn hl)
      subst hp'
      clear hT'
      have c0 := hn.c0
      have c3 := hn.c3
      cases l with
      | nil =>
        obtain rfl : pl = none := hl
        go_wp2_with (fail)
        go_ret
        have hx' := hx'.out
        simp only [Tr.first] at hx'
        rw [hx']; exact ⟨rfl, rfl⟩
      | node a la ta b =>
        obtain ⟨bl, hpl⟩ : ∃ bl, pl = some bl := by obtain ⟨b, _, _, h, _⟩ := hl; exact ⟨_, h⟩
        subst hpl
        go_wp2_with (fail)
        go_round
        case rel => exact ⟨_, _, rfl, hl, by simp, hx'⟩
        case measure => exact Hm.out

/-- What grow does with a tree. -/
def GW (T : Tr) : Prop := ∀ (w : World) (p : Option Addr) (k : Int), Tree w p T → T ≠ .nil → T.Bal → T.Ok → 0 ≤ k → T.pcs + k ≤ 1099511627776 →
    Calls Try.prog 84 #[.pointer p, .int .i64 k] w fun e w' => ∃ q, e = .returned (.pointer q) ∧ Tree w' q (Tr.grow k T) ∧ Below w.heap.size w w'

set_option maxRecDepth 100000 in
set_option maxHeartbeats 2000000 in
theorem grow_stepA (l r : Tr) (len tag : Int) (k : Int) (k0 : 0 ≤ k) (w : World) (p : Option Addr) (hT : Tree w p (.node l len tag r)) (bT : (Tr.node l len tag r).Bal) (oT : (Tr.node l len tag r).Ok) (hp : (Tr.node l len tag r).pcs + k ≤ 1099511627776) (hl0 : l = .nil) :
    Calls Try.prog 84 #[.pointer p, .int .i64 k] w fun e w' => ∃ q, e = .returned (.pointer q) ∧ Tree w' q (Tr.node .nil (len + k) tag r) ∧ Below w.heap.size w w' := by
  obtain ⟨bt, pl, pr, rfl, hbt, hn, hl, hr⟩ := hT
  obtain ⟨o1, o2, o4, o5, o6⟩ := oT
  obtain ⟨b1, b2, b3, b4⟩ := bT
  simp only [Tr.pcs] at hp
  have q1 := Tr.pcs_nonneg _ o1
  have q2 := Tr.pcs_nonneg _ o2
  have c0 := hn.c0
  have c1 := hn.c1
  have c2 := hn.c2
  have c3 := hn.c3
  obtain rfl := hl0
  obtain rfl : pl = none := hl
  simp only [Tr.pcs] at hp
  have i1 : IntKind.i64.wrap (len + k) = len + k := IntWalk.i64_in _ (by omega)
  go_enter Try.func84, Try.ntmps84
  go_wp2_with (fail)
  go_region_held3 (fun W => W.cell? ⟨bt, 1, none⟩ = some (.pointer pr) ∧ W.cell? ⟨bt, 2, none⟩ = some (.int .i64 len) ∧ W.cell? ⟨bt, 3, none⟩ = some (.int .i64 tag)) (first | (exact ⟨c1, c2, c3⟩) | (exact ⟨(hB1.cell (p := ⟨bt, 1, none⟩) hbt).trans c1, (hB1.cell (p := ⟨bt, 2, none⟩) hbt).trans c2, (hB1.cell (p := ⟨bt, 3, none⟩) hbt).trans c3⟩))
    ((first
      | (go_at_call 78; refine (link_any _ none pr (len + k) tag .nil r (by rfl) (by exact Tree.drewN hr 1) (by omega) o5 o6 trivial o2 (by simp only [Tr.pcs]; omega)).mono ?_; rintro e w1 ⟨p1, rfl, ht1, hb1⟩; have hB1 : Below w.heap.size w w1 := Below.of_drew hb1)))
  go_wp2_with (fail)
  go_ret
  exact ⟨_, rfl, ht1, hB1⟩

set_option maxRecDepth 100000 in
set_option maxHeartbeats 2000000 in
theorem grow_stepB (l r : Tr) (len tag : Int) (ih : GW l) (k : Int) (k0 : 0 ≤ k) (w : World) (p : Option Addr) (hT : Tree w p (.node l len tag r)) (bT : (Tr.node l len tag r).Bal) (oT : (Tr.node l len tag r).Ok) (hp : (Tr.node l len tag r).pcs + k ≤ 1099511627776) (hl0 : l ≠ .nil) :
    Calls Try.prog 84 #[.pointer p, .int .i64 k] w fun e w' => ∃ q, e = .returned (.pointer q) ∧ Tree w' q (Tr.node (Tr.grow k l) len tag r) ∧ Below w.heap.size w w' := by
  obtain ⟨bt, pl, pr, rfl, hbt, hn, hl, hr⟩ := hT
  obtain ⟨o1, o2, o4, o5, o6⟩ := oT
  obtain ⟨b1, b2, b3, b4⟩ := bT
  simp only [Tr.pcs] at hp
  have q1 := Tr.pcs_nonneg _ o1
  have q2 := Tr.pcs_nonneg _ o2
  have c0 := hn.c0
  have c1 := hn.c1
  have c2 := hn.c2
  have c3 := hn.c3
  obtain ⟨g1, g2⟩ := Tr.grow_facts k l hl0 o1 k0
  obtain ⟨bl, hpl⟩ : ∃ bl, pl = some bl := by
    cases l with
    | nil => exact (hl0 rfl).elim
    | node _ _ _ _ => obtain ⟨b, _, _, h, _⟩ := hl; exact ⟨_, h⟩
  subst hpl
  go_enter Try.func84, Try.ntmps84
  go_wp2_with (fail)
  go_region_held3 (fun W => W.cell? ⟨bt, 0, none⟩ = some (.pointer (some bl)) ∧ W.cell? ⟨bt, 1, none⟩ = some (.pointer pr) ∧ W.cell? ⟨bt, 2, none⟩ = some (.int .i64 len) ∧ W.cell? ⟨bt, 3, none⟩ = some (.int .i64 tag)) (first | (exact ⟨c0, c1, c2, c3⟩) | (exact ⟨(hB1.cell (p := ⟨bt, 0, none⟩) hbt).trans c0, (hB1.cell (p := ⟨bt, 1, none⟩) hbt).trans c1, (hB1.cell (p := ⟨bt, 2, none⟩) hbt).trans c2, (hB1.cell (p := ⟨bt, 3, none⟩) hbt).trans c3⟩) | (exact ⟨(hB2.cell (p := ⟨bt, 0, none⟩) hbt).trans c0, (hB2.cell (p := ⟨bt, 1, none⟩) hbt).trans c1, (hB2.cell (p := ⟨bt, 2, none⟩) hbt).trans c2, (hB2.cell (p := ⟨bt, 3, none⟩) hbt).trans c3⟩))
    ((first
      | (go_at_call 84; refine (ih _ _ k (by exact Tree.drewN hl 1) hl0 b1 o1 k0 (by omega)).mono ?_; rintro e w1 ⟨p1, rfl, ht1, hb1⟩; have hB1 : Below w.heap.size w w1 := Below.of_drew hb1)
      | (go_at_call 78; refine (link_any _ p1 pr len tag _ r (by exact ht1) (by exact Tree.below hB1 hr) o4 o5 o6 g1 o2 (by omega)).mono ?_; rintro e w2 ⟨p2, rfl, ht2, hb2⟩; have hB2 : Below w.heap.size w w2 := Below.next hB1 hb2)))
  go_wp2_with (fail)
  go_ret
  exact ⟨_, rfl, ht2, hB2⟩
theorem grow_any : ∀ T : Tr, GW T
  | .nil => fun _ _ _ _ h => (h rfl).elim
  | .node .nil len tag r => fun w p k hT _ bT oT k0 hp => grow_stepA .nil r len tag k k0 w p hT bT oT hp rfl
  | .node (.node a x y b) len tag r => fun w p k hT _ bT oT k0 hp => grow_stepB _ r len tag (grow_any (.node a x y b)) k k0 w p hT bT oT hp (by simp)

set_option maxRecDepth 100000 in
set_option maxHeartbeats 2000000 in
theorem leaf_any (len tag : Int) (w : World) (h0 : 0 ≤ len) (h1 : len ≤ 1099511627776) (h2 : 0 ≤ tag) (h3 : tag < 16) :
    Calls Try.prog 62 #[.int .i64 len, .int .i64 tag] w fun e w' => ∃ p, e = .returned (.pointer p) ∧ Tree w' p (Tr.leaf len tag) ∧ Below w.heap.size w w' := by
  by_cases h : len = 0
  · subst h
    go_enter Try.func62, Try.ntmps62
    go_wp2_with (fail)
    go_ret
    exact ⟨_, rfl, rfl, Below.refl _ _⟩
  · have e : Tr.leaf len tag = .node .nil len tag .nil := by unfold Tr.leaf; rw [if_neg h]
    rw [e]
    go_enter Try.func62, Try.ntmps62
    go_wp2_with (fail)
    go_at_call 78
    refine (link_any _ none none len tag .nil .nil (by rfl) (by rfl) (by omega) h2 h3 trivial trivial (by simp only [Tr.pcs]; omega)).mono ?_
    rintro e w1 ⟨p1, rfl, ht1, hb1⟩
    go_wp2_with (fail)
    go_ret
    exact ⟨_, rfl, ht1, hb1⟩

set_option maxRecDepth 100000 in
set_option maxHeartbeats 2000000 in
theorem concat_nilA (B : Tr) (w : World) (pb : Option Addr) (hB : Tree w pb B) :
    Calls Try.prog 61 #[.pointer none, .pointer pb] w fun e w' => ∃ p, e = .returned (.pointer p) ∧ Tree w' p B ∧ Below w.heap.size w w' := by
  go_enter Try.func61, Try.ntmps61
  go_wp2_with (fail)
  go_ret
  exact ⟨_, rfl, hB, Below.refl _ _⟩
set_option maxRecDepth 100000 in
set_option maxHeartbeats 2000000 in
theorem concat_nilB (A : Tr) (w : World) (ba : Addr) (hA : Tree w (some ba) A) :
    Calls Try.prog 61 #[.pointer (some ba), .pointer none] w fun e w' => ∃ p, e = .returned (.pointer p) ∧ Tree w' p A ∧ Below w.heap.size w w' := by
  go_enter Try.func61, Try.ntmps61
  go_wp2_with (fail)
  go_ret
  exact ⟨_, rfl, hA, Below.refl _ _⟩

set_option maxRecDepth 100000 in
set_option maxHeartbeats 2000000 in
theorem concat_stepA (A B R : Tr) (ln tg : Int) (hTL : Hid (Tr.takeLast A = (R, ln, tg))) (w : World) (ba bb : Addr) (hA : Tree w (some ba) A) (hB : Tree w (some bb) B) (nA : A ≠ .nil) (nB : B ≠ .nil) (bA : A.Bal) (bB : B.Bal) (oA : A.Ok) (oB : B.Ok) (hp : A.pcs + B.pcs ≤ 1099511627776) (hF : Hid (Tr.first B = tg)) (hR0 : R = .nil) :
    Calls Try.prog 61 #[.pointer (some ba), .pointer (some bb)] w fun e w' => ∃ p, e = .returned (.pointer p) ∧ Tree w' p (Tr.grow ln B) ∧ Below w.heap.size w w' := by
  have z1 := Tr.pcs_nonneg A oA
  have z2 := Tr.pcs_nonneg B oB
  have hT := takeLast_any A w (some ba) hA nA bA oA (by omega)
  have tf := Tr.takeLast_facts A nA oA
  have t6 := Tr.takeLast_bal A bA
  rw [hTL.out] at hT tf t6
  obtain ⟨t1, t2, t3, t4, t5⟩ := tf
  dsimp only at hT t1 t2 t3 t4 t5 t6
  have HT := Lib.hid hT
  clear hT
  go_enter Try.func61, Try.ntmps61
  go_wp2_with (fail)
  go_at_call 82
  refine HT.out.mono ?_
  clear HT
  rintro e w1 ⟨pR, rfl, hR, hB1⟩
  go_wp2_with (fail)
  go_at_call 83
  refine (first_any B tg w1 (some bb) (by exact Tree.below hB1 hB) nB hF.out).mono ?_
  rintro e w' ⟨rfl, rfl⟩
  go_wp2_with (fail)
  subst hR0
  obtain rfl : pR = none := hR
  have z5 := Tr.pcs_nonneg _ t1
  obtain ⟨g1, g2⟩ := Tr.grow_facts ln B nB oB (by omega)
  go_at_call 84
  refine (grow_any B w1 (some bb) ln (by exact Tree.below hB1 hB) nB bB oB (by omega) (by omega)).mono ?_
  rintro e w2 ⟨pG, rfl, hG, hb2⟩
  have hB2 : Below w.heap.size w w2 := Below.next hB1 hb2
  go_wp2_with (fail)
  go_ret
  exact ⟨_, rfl, hG, hB2⟩

set_option maxRecDepth 100000 in
set_option maxHeartbeats 2000000 in
theorem concat_stepB (A B R : Tr) (ln tg : Int) (hTL : Hid (Tr.takeLast A = (R, ln, tg))) (w : World) (ba bb : Addr) (hA : Tree w (some ba) A) (hB : Tree w (some bb) B) (nA : A ≠ .nil) (nB : B ≠ .nil) (bA : A.Bal) (bB : B.Bal) (oA : A.Ok) (oB : B.Ok) (hp : A.pcs + B.pcs ≤ 1099511627776) (hF : Hid (Tr.first B = tg)) (hR0 : R ≠ .nil) :
    Calls Try.prog 61 #[.pointer (some ba), .pointer (some bb)] w fun e w' => ∃ p, e = .returned (.pointer p) ∧ Tree w' p (Tr.join (Tr.takeLast R).1 (Tr.takeLast R).2.1 (Tr.takeLast R).2.2 (Tr.grow ln B)) ∧ Below w.heap.size w w' := by
  have z1 := Tr.pcs_nonneg A oA
  have z2 := Tr.pcs_nonneg B oB
  have hT := takeLast_any A w (some ba) hA nA bA oA (by omega)
  have tf := Tr.takeLast_facts A nA oA
  have t6 := Tr.takeLast_bal A bA
  rw [hTL.out] at hT tf t6
  obtain ⟨t1, t2, t3, t4, t5⟩ := tf
  dsimp only at hT t1 t2 t3 t4 t5 t6
  have HT := Lib.hid hT
  clear hT
  go_enter Try.func61, Try.ntmps61
  go_wp2_with (fail)
  go_at_call 82
  refine HT.out.mono ?_
  clear HT
  rintro e w1 ⟨pR, rfl, hR, hB1⟩
  go_wp2_with (fail)
  go_at_call 83
  refine (first_any B tg w1 (some bb) (by exact Tree.below hB1 hB) nB hF.out).mono ?_
  rintro e w' ⟨rfl, rfl⟩
  go_wp2_with (fail)
  obtain ⟨bR, hpR⟩ : ∃ bR, pR = some bR := by
    cases R with
    | nil => exact (hR0 rfl).elim
    | node _ _ _ _ => obtain ⟨b, _, _, h, _⟩ := hR; exact ⟨_, h⟩
  subst hpR
  have z3 := Tr.pcs_nonneg R t1
  have z5 := Tr.pcs_nonneg _ t1
  obtain ⟨g1, g2⟩ := Tr.grow_facts ln B nB oB (by omega)
  go_at_call 84
  refine (grow_any B w1 (some bb) ln (by exact Tree.below hB1 hB) nB bB oB (by omega) (by omega)).mono ?_
  rintro e w2 ⟨pG, rfl, hG, hb2⟩
  have hB2 : Below w.heap.size w w2 := Below.next hB1 hb2
  go_wp2_with (fail)
  obtain ⟨u1, u2, u3, u4, u5⟩ := Tr.takeLast_facts R hR0 t1
  have u6 := Tr.takeLast_bal R t6
  have z4 := Tr.pcs_nonneg _ u1
  go_at_call 82
  refine (takeLast_any R w2 (some bR) (by exact Tree.below hb2 hR) hR0 t6 t1 (by omega)).mono ?_
  rintro e w3 ⟨pS, rfl, hS, hb3⟩
  have hB3 : Below w.heap.size w w3 := Below.next hB2 hb3
  go_wp2_with (fail)
  go_at_call 81
  refine (join_any _ _ _ _ w3 pS pG (by exact hS) (by exact Tree.below hb3 hG) u6 (Tr.grow_bal ln B bB) u1 g1 u2 u3 u4 (by omega)).mono ?_
  rintro e w4 ⟨p4, rfl, ht4, hb4⟩
  have hB4 : Below w.heap.size w w4 := Below.next hB3 hb4
  go_wp2_with (fail)
  go_ret
  exact ⟨_, rfl, ht4, hB4⟩

set_option maxRecDepth 100000 in
set_option maxHeartbeats 2000000 in
theorem concat_stepC (A B R : Tr) (ln tg : Int) (hTL : Hid (Tr.takeLast A = (R, ln, tg))) (w : World) (ba bb : Addr) (hA : Tree w (some ba) A) (hB : Tree w (some bb) B) (nA : A ≠ .nil) (nB : B ≠ .nil) (bA : A.Bal) (bB : B.Bal) (oA : A.Ok) (oB : B.Ok) (hp : A.pcs + B.pcs ≤ 1099511627776) (x : Int) (hF : Hid (Tr.first B = x)) (hne : (tg == x) = false) :
    Calls Try.prog 61 #[.pointer (some ba), .pointer (some bb)] w fun e w' => ∃ p, e = .returned (.pointer p) ∧ Tree w' p (Tr.join R ln tg B) ∧ Below w.heap.size w w' := by
  have z1 := Tr.pcs_nonneg A oA
  have z2 := Tr.pcs_nonneg B oB
  have hT := takeLast_any A w (some ba) hA nA bA oA (by omega)
  have tf := Tr.takeLast_facts A nA oA
  have t6 := Tr.takeLast_bal A bA
  rw [hTL.out] at hT tf t6
  obtain ⟨t1, t2, t3, t4, t5⟩ := tf
  dsimp only at hT t1 t2 t3 t4 t5 t6
  have HT := Lib.hid hT
  clear hT
  go_enter Try.func61, Try.ntmps61
  go_wp2_with (fail)
  go_at_call 82
  refine HT.out.mono ?_
  clear HT
  rintro e w1 ⟨pR, rfl, hR, hB1⟩
  go_wp2_with (fail)
  go_at_call 83
  refine (first_any B x w1 (some bb) (by exact Tree.below hB1 hB) nB hF.out).mono ?_
  rintro e w' ⟨rfl, rfl⟩
  go_wp2_with (fail)
  go_at_call 81
  refine (join_any R B ln tg w1 pR (some bb) (by exact hR) (by exact Tree.below hB1 hB) t6 bB t1 oB t2 t3 t4 (by omega)).mono ?_
  rintro e w2 ⟨p2, rfl, ht2, hb2⟩
  have hB2 : Below w.heap.size w w2 := Below.next hB1 hb2
  go_wp2_with (fail)
  go_ret
  exact ⟨_, rfl, ht2, hB2⟩

theorem concat_any (A B : Tr) (w : World) (pa pb : Option Addr) (hA : Tree w pa A) (hB : Tree w pb B) (bA : A.Bal) (bB : B.Bal) (oA : A.Ok) (oB : B.Ok) (hp : A.pcs + B.pcs ≤ 1099511627776) :
    Calls Try.prog 61 #[.pointer pa, .pointer pb] w fun e w' => ∃ p, e = .returned (.pointer p) ∧ Tree w' p (Tr.concat A B) ∧ Below w.heap.size w w' := by
  cases hA' : A with
  | nil => subst hA'; obtain rfl : pa = none := hA; exact concat_nilA B w pb hB
  | node al alen atag ar =>
    obtain ⟨ba, hpa⟩ : ∃ b, pa = some b := by rw [hA'] at hA; obtain ⟨b, _, _, h, _⟩ := hA; exact ⟨_, h⟩
    subst hpa
    cases hB' : B with
    | nil => subst hB'; obtain rfl : pb = none := hB; rw [← hA']; exact (concat_nilB A w ba hA).mono fun e w' h => by rw [hA'] at h ⊢; exact h
    | node bl blen btag br =>
      obtain ⟨bb, hpb⟩ : ∃ b, pb = some b := by rw [hB'] at hB; obtain ⟨b, _, _, h, _⟩ := hB; exact ⟨_, h⟩
      subst hpb
      have nA : A ≠ .nil := by rw [hA']; simp
      have nB : B ≠ .nil := by rw [hB']; simp
      have hc : Tr.concat (.node al alen atag ar) (.node bl blen btag br) = if (Tr.takeLast A).2.2 = Tr.first B then
          (match (Tr.takeLast A).1 with
          | .nil => Tr.grow (Tr.takeLast A).2.1 B
          | .node _ _ _ _ => Tr.join (Tr.takeLast (Tr.takeLast A).1).1 (Tr.takeLast (Tr.takeLast A).1).2.1 (Tr.takeLast (Tr.takeLast A).1).2.2 (Tr.grow (Tr.takeLast A).2.1 B))
        else Tr.join (Tr.takeLast A).1 (Tr.takeLast A).2.1 (Tr.takeLast A).2.2 B := by rw [hA', hB']; rfl
      rw [hc]
      rcases hTL : Tr.takeLast A with ⟨R, ln, tg⟩
      dsimp only
      by_cases ht : tg = Tr.first B
      · rw [if_pos ht]
        cases R with
        | nil => exact concat_stepA A B .nil ln tg hTL w ba bb hA hB nA nB bA bB oA oB hp ht.symm rfl
        | node cl clen ctag cr => exact concat_stepB A B _ ln tg hTL w ba bb hA hB nA nB bA bB oA oB hp ht.symm (by simp)
      · rw [if_neg ht]
        exact concat_stepC A B R ln tg hTL w ba bb hA hB nA nB bA bB oA oB hp _ rfl (by simpa using ht)

end Go.Proofs.Ytfmplibjhohpgaa
