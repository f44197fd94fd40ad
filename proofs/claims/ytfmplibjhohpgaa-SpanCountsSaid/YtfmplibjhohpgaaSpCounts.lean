/- The walk over SpanCounts. -/
import Derived.Test.YtfmplibjhohpgaaSpCntL
import Derived.Test.YtfmplibjhohpgaaSpFinds
import Derived.StillTailTactics
namespace Go.Proofs.Ytfmplibjhohpgaa
open Go.RowKit Go.Shelf

theorem eq64 (w : World) : Sem.run Try.prog (Op.equalIn 10000 64 (.agg #[.int .i64 0, .int .i64 0, .int .i64 0, .int .i64 0, .int .i64 0, .int .i64 0, .int .i64 0, .int .i64 0, .int .i64 0, .int .i64 0, .int .i64 0, .int .i64 0, .int .i64 0, .int .i64 0, .int .i64 0, .int .i64 0]) (.agg #[.int .i64 0, .int .i64 0, .int .i64 0, .int .i64 0, .int .i64 0, .int .i64 0, .int .i64 0, .int .i64 0, .int .i64 0, .int .i64 0, .int .i64 0, .int .i64 0, .int .i64 0, .int .i64 0, .int .i64 0, .int .i64 0])) w = .ok true w := by kernel_rfl
attribute [local go_sem] eq64
/-- Sixteen numbers. -/
def arrC (f : Nat → Int) : Array Value := #[.int .i64 (f 0), .int .i64 (f 1), .int .i64 (f 2), .int .i64 (f 3), .int .i64 (f 4), .int .i64 (f 5), .int .i64 (f 6), .int .i64 (f 7), .int .i64 (f 8), .int .i64 (f 9), .int .i64 (f 10), .int .i64 (f 11), .int .i64 (f 12), .int .i64 (f 13), .int .i64 (f 14), .int .i64 (f 15)]
def BoxC (W : World) (b : Nat) (f : Nat → Int) : Prop := W.heap[b]? = some (.cells (arrC f) 64 (0, 0))
theorem arrC_get (f : Nat → Int) {k : Nat} (h : k < 16) : (arrC f)[k]? = some (.int .i64 (f k)) := by
  rcases (by omega : k = 0 ∨ k = 1 ∨ k = 2 ∨ k = 3 ∨ k = 4 ∨ k = 5 ∨ k = 6 ∨ k = 7 ∨ k = 8 ∨ k = 9 ∨ k = 10 ∨ k = 11 ∨ k = 12 ∨ k = 13 ∨ k = 14 ∨ k = 15) with rfl | rfl | rfl | rfl | rfl | rfl | rfl | rfl | rfl | rfl | rfl | rfl | rfl | rfl | rfl | rfl <;> rfl
theorem arrC_set (f : Nat → Int) {k : Nat} (h : k < 16) (x : Int) : (arrC f).setIfInBounds k (.int .i64 x) = arrC (fun i => if i = k then x else f i) := by
  rcases (by omega : k = 0 ∨ k = 1 ∨ k = 2 ∨ k = 3 ∨ k = 4 ∨ k = 5 ∨ k = 6 ∨ k = 7 ∨ k = 8 ∨ k = 9 ∨ k = 10 ∨ k = 11 ∨ k = 12 ∨ k = 13 ∨ k = 14 ∨ k = 15) with rfl | rfl | rfl | rfl | rfl | rfl | rfl | rfl | rfl | rfl | rfl | rfl | rfl | rfl | rfl | rfl <;> rfl
theorem BoxC.new (w : World) : BoxC (w.alloc (.cells #[.int .i64 0, .int .i64 0, .int .i64 0, .int .i64 0, .int .i64 0, .int .i64 0, .int .i64 0, .int .i64 0, .int .i64 0, .int .i64 0, .int .i64 0, .int .i64 0, .int .i64 0, .int .i64 0, .int .i64 0, .int .i64 0] 64)) w.heap.size (fun _ => 0) := heap_alloc_new w _
theorem BoxC.lt {W : World} {b : Nat} {f : Nat → Int} (h : BoxC W b f) : b < W.heap.size := (Array.getElem?_eq_some_iff.1 h).1
theorem BoxC.next {W W' : World} {b : Nat} {f : Nat → Int} (h : BoxC W b f) (hB : Below W.heap.size W W') : BoxC W' b f := (hB.block b h.lt).trans h
theorem BoxC.cell {W : World} {b : Nat} {f : Nat → Int} (h : BoxC W b f) {k : Nat} (hk : k < 16) : W.cell? ⟨b, k, none⟩ = some (.int .i64 (f k)) := (cell_of_row W b k _ _ _ h).trans (arrC_get f hk)
theorem BoxC.frozen {W : World} {b : Nat} {f : Nat → Int} (h : BoxC W b f) (i : Nat) : W.frozen? ⟨b, i, none⟩ = false := by unfold BoxC at h; simp [World.frozen?, h]
theorem BoxC.set {W : World} {b : Nat} {f : Nat → Int} (h : BoxC W b f) {k : Nat} (hk : k < 16) (x : Int) : BoxC (W.setCell ⟨b, k, none⟩ (.int .i64 x)) b (fun i => if i = k then x else f i) := by
  unfold BoxC at h ⊢
  rw [← arrC_set f hk x]
  simp [World.setCell, Array.getElem?_modify, h]
theorem BoxC.ext {W : World} {b : Nat} {f g : Nat → Int} (h : BoxC W b f) (e : ∀ i, i < 16 → f i = g i) : BoxC W b g := by
  have : arrC f = arrC g := by
    unfold arrC
    rw [e 0 (by decide), e 1 (by decide), e 2 (by decide), e 3 (by decide), e 4 (by decide), e 5 (by decide), e 6 (by decide), e 7 (by decide), e 8 (by decide), e 9 (by decide), e 10 (by decide), e 11 (by decide), e 12 (by decide), e 13 (by decide), e 14 (by decide), e 15 (by decide)]
  unfold BoxC at h ⊢
  rw [← this]; exact h
theorem BoxC.other {W : World} {b : Nat} {f : Nat → Int} (h : BoxC W b f) : Other W b := ⟨_, _, _, h, by decide⟩
set_option maxRecDepth 100000 in
set_option maxHeartbeats 2000000 in
theorem counts_no (w : World) (size : Int) (A : Option Addr) (n c : Nat) (lo hi : Int) (h : ¬ ((1 ≤ size ∧ size ≤ 1099511627776) ∧ (n : Int) ≤ 60)) :
    Calls Try.prog 7 #[.int .i64 size, .slice A n c, .int .i64 lo, .int .i64 hi] w (FromsPost w) := by
  have H := Lib.hid h
  clear h
  go_enter Try.func7, Try.ntmps7
  go_wp2_with (fail)
  go_at_call 22
  refine (built_no _ size A n c H.out).mono ?_
  rintro e w1 ⟨q, M, rfl, _, b1⟩
  go_wp2_with (fail)
  go_at_call 18
  refine (awake_any _).mono ?_
  rintro e w2 ⟨rfl, b2⟩
  go_wp2_with (fail)
  go_ret
  exact ⟨rfl, Below.next (Below.next b1 (Below.alloc1 _ _)) b2⟩
set_option maxRecDepth 100000 in
set_option maxHeartbeats 2000000 in
theorem counts_lo (w : World) (size : Int) (A : Option Addr) (l : List Ac) (c : Nat) (lo hi : Int) (h1 : 1 ≤ size) (h2 : size ≤ 1099511627776) (hA : Acts w A l) (hlc : l.length ≤ c) (hl : (l.length : Int) ≤ 60) (M : List (Int × Int)) (hM : moreL [(size, 0)] l = M) (h : lo < 0) :
    Calls Try.prog 7 #[.int .i64 size, .slice A l.length c, .int .i64 lo, .int .i64 hi] w (FromsPost w) := by
  have hbu : ∀ W, Below w.heap.size w W → Calls Try.prog 22 #[.int .i64 size, .slice A l.length c] W fun e w' => ∃ q, e = .returned (.tuple #[.agg #[.pointer q], .bool true]) ∧ Rep w' q M ∧ Below W.heap.size W w' := fun W hB => by
    have := built_yes W size A l c h1 h2 (hA.below hB) hlc hl
    rw [hM] at this; exact this
  generalize l.length = nn at *
  have HBU := Lib.hid hbu
  clear hbu hA hM
  go_enter Try.func7, Try.ntmps7
  go_wp2_with (fail)
  go_at_call 22
  refine (HBU.out _ (Below.refl _ _)).mono ?_
  rintro e w1 ⟨q, rfl, _, b1⟩
  go_wp2_with (fail)
  go_at_call 18
  refine (awake_any _).mono ?_
  rintro e w2 ⟨rfl, b2⟩
  go_wp2_with (fail)
  go_ret
  exact ⟨rfl, Below.next (Below.next b1 (Below.alloc1 _ _)) b2⟩
set_option maxRecDepth 100000 in
set_option maxHeartbeats 2000000 in
theorem counts_hi (w : World) (size : Int) (A : Option Addr) (l : List Ac) (c : Nat) (lo hi : Int) (h1 : 1 ≤ size) (h2 : size ≤ 1099511627776) (hA : Acts w A l) (hlc : l.length ≤ c) (hl : (l.length : Int) ≤ 60) (M : List (Int × Int)) (hM : moreL [(size, 0)] l = M) (h0 : 0 ≤ lo) (h : hi < lo) :
    Calls Try.prog 7 #[.int .i64 size, .slice A l.length c, .int .i64 lo, .int .i64 hi] w (FromsPost w) := by
  have hbu : ∀ W, Below w.heap.size w W → Calls Try.prog 22 #[.int .i64 size, .slice A l.length c] W fun e w' => ∃ q, e = .returned (.tuple #[.agg #[.pointer q], .bool true]) ∧ Rep w' q M ∧ Below W.heap.size W w' := fun W hB => by
    have := built_yes W size A l c h1 h2 (hA.below hB) hlc hl
    rw [hM] at this; exact this
  generalize l.length = nn at *
  have HBU := Lib.hid hbu
  clear hbu hA hM
  go_enter Try.func7, Try.ntmps7
  go_wp2_with (fail)
  go_at_call 22
  refine (HBU.out _ (Below.refl _ _)).mono ?_
  rintro e w1 ⟨q, rfl, _, b1⟩
  go_wp2_with (fail)
  go_at_call 18
  refine (awake_any _).mono ?_
  rintro e w2 ⟨rfl, b2⟩
  go_wp2_with (fail)
  go_ret
  exact ⟨rfl, Below.next (Below.next b1 (Below.alloc1 _ _)) b2⟩
set_option maxRecDepth 100000 in
set_option maxHeartbeats 2000000 in
theorem counts_size (w : World) (size : Int) (A : Option Addr) (l : List Ac) (c : Nat) (lo hi : Int) (h1 : 1 ≤ size) (h2 : size ≤ 1099511627776) (hA : Acts w A l) (hlc : l.length ≤ c) (hl : (l.length : Int) ≤ 60) (M : List (Int × Int)) (hM : moreL [(size, 0)] l = M) (h0 : 0 ≤ lo) (h3 : lo ≤ hi) (h : size < hi) :
    Calls Try.prog 7 #[.int .i64 size, .slice A l.length c, .int .i64 lo, .int .i64 hi] w (FromsPost w) := by
  have hbu : ∀ W, Below w.heap.size w W → Calls Try.prog 22 #[.int .i64 size, .slice A l.length c] W fun e w' => ∃ q, e = .returned (.tuple #[.agg #[.pointer q], .bool true]) ∧ Rep w' q M ∧ Below W.heap.size W w' := fun W hB => by
    have := built_yes W size A l c h1 h2 (hA.below hB) hlc hl
    rw [hM] at this; exact this
  generalize l.length = nn at *
  have HBU := Lib.hid hbu
  clear hbu hA hM
  go_enter Try.func7, Try.ntmps7
  go_wp2_with (fail)
  go_at_call 22
  refine (HBU.out _ (Below.refl _ _)).mono ?_
  rintro e w1 ⟨q, rfl, _, b1⟩
  go_wp2_with (fail)
  go_at_call 18
  refine (awake_any _).mono ?_
  rintro e w2 ⟨rfl, b2⟩
  go_wp2_with (fail)
  go_ret
  exact ⟨rfl, Below.next (Below.next b1 (Below.alloc1 _ _)) b2⟩
set_option maxRecDepth 100000 in
set_option maxHeartbeats 4000000 in
theorem counts_yes (w : World) (size : Int) (A : Option Addr) (l : List Ac) (c : Nat) (lo hi : Int) (h1 : 1 ≤ size) (h2 : size ≤ 1099511627776) (hA : Acts w A l) (hlc : l.length ≤ c) (hl : (l.length : Int) ≤ 60) (M : List (Int × Int)) (hM : moreL [(size, 0)] l = M) (g0 : 0 ≤ lo) (g1 : lo ≤ hi) (g2 : hi ≤ size) (V : List Rn) (nv : Nat) (hnv : V.length = nv) (hnm : nv ≤ 4096)
    (oV : Hid (Tr.OkL (segs V))) (tV : Hid (Tr.total (segs V) = hi - lo)) (fV : Hid (∀ x ∈ V, 0 ≤ x.lo ∧ x.lo < x.hi ∧ x.hi ≤ 1099511627776 ∧ 0 ≤ x.tag ∧ x.tag < 16))
    (a1 : Hid (∀ h : 0 < V.length, V[0].lo = lo)) (a2 : Hid (V.length = 0 → lo = hi)) (a3 : Hid (∀ j (h : j + 1 < V.length), V[j + 1].lo = V[j].hi ∧ V[j].tag ≠ V[j + 1].tag)) (a4 : Hid (∀ j (h : j < V.length), j + 1 = V.length → V[j].hi = hi))
    (hC : Hid (∀ (k : Nat), k < 16 → Counts M lo hi k (Tr.totalOf k (segs V)) 0))
    (hRu : Hid (∀ W q, Rep W q M → Calls Try.prog 33 #[.agg #[.pointer q], .int .i64 lo, .int .i64 hi, .int .i64 4096] W fun e w' => ∃ B d, e = .returned (.tuple #[.slice B nv d, .int .i64 0]) ∧ nv ≤ d ∧ OwnRuns w' W.heap.size (.slice B nv d) V ∧ Below W.heap.size W w')) :
    Calls Try.prog 7 #[.int .i64 size, .slice A l.length c, .int .i64 lo, .int .i64 hi] w (FromsPost w) := by
  have hbu : ∀ W, Below w.heap.size w W → Calls Try.prog 22 #[.int .i64 size, .slice A l.length c] W fun e w' => ∃ q, e = .returned (.tuple #[.agg #[.pointer q], .bool true]) ∧ Rep w' q M ∧ Below W.heap.size W w' := fun W hB => by
    have := built_yes W size A l c h1 h2 (hA.below hB) hlc hl
    rw [hM] at this; exact this
  generalize l.length = nn at *
  have HBU := Lib.hid hbu
  clear hbu hA hM
  obtain ⟨u1, u2⟩ := sumT_facts oV.out
  have U1 := Lib.hid u1
  have U2 := Lib.hid u2
  have HNV := Lib.hid hnv
  clear u1 u2
  go_enter Try.func7, Try.ntmps7
  go_wp2_with (fail)
  go_at_call 22
  refine (HBU.out _ (Below.refl _ _)).mono ?_
  rintro e w1 ⟨q, rfl, hq, b1⟩
  go_upto_region 2 with (fail)
  generalize hw2 : World.alloc w1 _ = w2
  have d2 : Below w1.heap.size w1 w2 := hw2 ▸ Below.alloc1 w1 _
  have y2 : Boxed w2 w1.heap.size 26 (.pointer q) := hw2 ▸ Boxed.new w1 _ _
  have q2 := hq.below d2
  have hB2 := Below.next b1 d2
  have hw2s := hB2.size
  clear hw2 d2 hq b1
  go_upto_region 6 with (fail)
  generalize hw3 : World.alloc w2 _ = w3
  have d3 : Below w2.heap.size w2 w3 := hw3 ▸ Below.alloc1 w2 _
  have x3 : BoxC w3 w2.heap.size (fun _ => 0) := hw3 ▸ BoxC.new w2
  have y3 := bx_next y2 d3
  have q3 := q2.below d3
  have hB3 := Below.next hB2 d3
  have y2l := y2.lt
  clear hw3 d3 y2 q2 hB2
  go_wp2_with (fail)
  go_loopw [11, 13] (fun sm tg W => ∃ k : Nat, k ≤ 16 ∧ tg = .int .i64 k ∧ sm = .int .i64 (sumT (segs V) k) ∧ BoxC W w2.heap.size (fun i => if i < k then Tr.totalOf i (segs V) else 0) ∧ Boxed W w1.heap.size 26 (.pointer q) ∧ Rep W q M ∧ Below w.heap.size w W) (fun _ tg _ => 16 - (intOf tg).toNat)
  case atStart => exact ⟨0, by decide, rfl, rfl, x3.ext (fun i _ => by simp), y3, q3, hB3⟩
  case round =>
    obtain ⟨k, hk, rfl, rfl, xC, yC, qC, hB⟩ := hrel
    have c9 := yC.cell
    have xl := xC.lt
    have yl := yC.lt
    have ub := U2.out k
    by_cases hlt : k < 16
    · have k1 : (k : Int) < 16 := by omega
      have ub' := U2.out (k + 1)
      have us : sumT (segs V) (k + 1) = sumT (segs V) k + Tr.totalOf k (segs V) := rfl
      rw [us] at ub'
      have tn := totalOf_nonneg oV.out (k : Int)
      have tt := tV.out
      have hck := hC.out k hlt
      obtain ⟨tk, htk⟩ : ∃ tk, Tr.totalOf (k : Int) (segs V) = tk := ⟨_, rfl⟩
      rw [htk] at us ub' tn hck
      have HTK := Lib.hid htk
      have HUS := Lib.hid us
      have HCK := Lib.hid hck
      have iw : IntKind.i64.wrap (sumT (segs V) k + tk) = sumT (segs V) k + tk := IntWalk.i64_in _ (by omega)
      clear htk us hck
      go_wp2_with (fail)
      go_at_call 28
      refine (HCK.out _ q qC).mono ?_
      rintro e W1 ⟨rfl, b1⟩
      have x4 := xC.next b1
      have y4 := bx_next yC b1
      have q4 := qC.below b1
      have hB4 := Below.next hB b1
      have xk := x4.cell hlt
      have xf := x4.frozen k
      have x4l := x4.lt
      clear b1 xC yC qC hB c9
      go_wp2_with (fail)
      exact ⟨⟨k + 1, by omega, by go_num, by rw [HUS.out], (x4.set hlt tk).ext (fun i hi => by
        by_cases e : i = k
        · rw [if_pos e, if_pos (by omega), e]; exact HTK.out.symm
        · rw [if_neg e]
          by_cases e2 : i < k
          · rw [if_pos e2, if_pos (by omega)]
          · rw [if_neg e2, if_neg (by omega)]), boxed_far y4 (by omega), q4.set_ x4.other _ _ _, hB4.setCell (p := ⟨w2.heap.size, k, none⟩) (show w.heap.size ≤ w2.heap.size by omega) _⟩, by simp [intOf]; omega⟩
    · obtain rfl : k = 16 := by omega
      have wrl := xC.lt
      have hC' := xC.ext (g := fun i => Tr.totalOf i (segs V)) (fun i hi => by rw [if_pos hi])
      have u16 : sumT (segs V) 16 = hi - lo := U1.out.trans tV.out
      rw [u16]
      clear ub xC
      go_wp2_with (fail)
      go_at_call 33
      refine (hRu.out _ q qC).mono ?_
      rintro e W1 ⟨B, d, rfl, hnd, hRB, b1⟩
      have x4 := hC'.next b1
      have hB4 := Below.next hB b1
      clear b1 hC' yC qC hB c9
      go_wp2_with (fail)
      go_loopw [18, 19, 79] (fun at_ la ix W => ∃ (j : Nat) (y z : Int), j ≤ nv ∧ ix = .int .i64 j ∧ at_ = .int .i64 y ∧ la = .int .i64 z ∧ (∀ h : j < V.length, V[j].lo = y ∧ z ≠ V[j].tag) ∧ (j = nv → y = hi) ∧ BoxC W w2.heap.size (fun i => Tr.totalOf i (segs V) - Tr.totalOf i (segs (V.take j))) ∧ OwnRuns W wr.heap.size (.slice B nv d) V ∧ Below w.heap.size w W) (fun _ _ ix _ => nv - (intOf ix).toNat)
      case atStart => exact ⟨0, lo, -1, Nat.zero_le _, rfl, rfl, rfl, fun h => ⟨a1.out h, fun e => by have := (fV.out _ (List.getElem_mem h)).2.2.2.1; omega⟩, fun e => a2.out (by rw [HNV.out]; exact e.symm), x4.ext (fun i _ => by simp [segs, Tr.totalOf]), hRB, hB4⟩
      case round =>
        obtain ⟨j, y, z, hj, rfl, rfl, rfl, hyz, hyh, xC, hR, hB⟩ := hrel
        have xl := xC.lt
        by_cases hlt : j < nv
        · have k1 : (j : Int) < (nv : Int) := by omega
          have hjl : j < V.length := by rw [HNV.out]; exact hlt
          obtain ⟨bk, rfl⟩ : ∃ b, B = some b := by
            rcases hR.toRuns with hh | ⟨b, hh, _⟩
            · rw [hh] at hjl; simp at hjl
            · exact ⟨b, hh⟩
          obtain ⟨hab, g0', g1', g2'⟩ := hR.toRuns.at_ hjl
          have hfx := fV.out _ (List.getElem_mem hjl)
          obtain ⟨hy, hz⟩ := hyz hjl
          have hst : ∀ t, Tr.totalOf t (segs (V.take (j + 1))) = Tr.totalOf t (segs (V.take j)) + if V[j].tag = t then V[j].hi - V[j].lo else 0 := fun t => segs_take_succ t hjl
          have hnx : (∀ h : j + 1 < V.length, V[j + 1].lo = V[j].hi ∧ V[j].tag ≠ V[j + 1].tag) ∧ (j + 1 = nv → V[j].hi = hi) := ⟨a3.out j, fun e => a4.out j hjl (by rw [HNV.out]; exact e)⟩
          generalize V[j] = X at *
          obtain ⟨tg, htg⟩ := Int.eq_ofNat_of_zero_le hfx.2.2.2.1
          have htk := segs_take_le (X.tag) oV.out j
          have htk2 := segs_take_le (X.tag) oV.out (j + 1)
          rw [hst X.tag, if_pos rfl] at htk2
          have hto := totalOf_le oV.out X.tag
          have htv := tV.out
          have tg16 : tg < 16 := by omega
          have t1 : (X.lo != y) = false := by simp; omega
          have t2 : ¬ X.hi ≤ X.lo := by omega
          have t3 : ((tg : Int) == z) = false := by rw [← htg]; simpa using fun e => hz e.symm
          have t4 : ¬ (tg : Int) < 0 := by omega
          have t5 : ¬ (tg : Int) ≥ 16 := by omega
          rw [htg] at g2' htk htk2 hto
          obtain ⟨G, hG⟩ : ∃ G, Tr.totalOf (tg : Int) (segs V) - Tr.totalOf (tg : Int) (segs (V.take j)) = G := ⟨_, rfl⟩
          have iw1 : IntKind.i64.wrap (X.hi - X.lo) = X.hi - X.lo := IntWalk.i64_in _ (by omega)
          have iw2 : IntKind.i64.wrap (G - (X.hi - X.lo)) = G - (X.hi - X.lo) := IntWalk.i64_in _ (by omega)
          have HG := Lib.hid hG
          have HST := Lib.hid hst
          have HNX := Lib.hid hnx
          have HTG := Lib.hid htg
          clear hst hnx htg hG hyz hyh htk htk2 hto hz hy
          go_upto_region 19 with (fail)
          generalize hwb : World.alloc wr _ = wb
          have db : Below wr.heap.size wr wb := hwb ▸ Below.alloc1 wr _
          have rb : BoxRun wb wr.heap.size X.lo X.hi tg := hwb ▸ BoxRun.new wr _ _ _
          have xb := xC.next db
          have Rb := hR.next db
          have Bb := Below.next hB db
          clear hwb db xC hR hB g0' g1' g2'
          have r0 := rb.c0
          have r1 := rb.c1
          have r2 := rb.c2
          have ck : wb.cell? ⟨w2.heap.size, tg, none⟩ = some (.int .i64 G) := by rw [← HG.out]; exact xb.cell tg16
          have cf := xb.frozen tg
          have ne1 : ¬ wr.heap.size = w2.heap.size := by omega
          have ne2 : ¬ w2.heap.size = wr.heap.size := by omega
          have bl1 := rb.lt
          go_wp2_with (fail)
          go_still_tail 11, (by kernel_rfl)
          have Dd : Below wb.heap.size wb wb.drew := Quiet.below ⟨1, rfl⟩ _
          have rd : BoxRun wb.drew wr.heap.size X.lo X.hi tg := rb
          have xd := xb.next Dd
          have Rd := Rb.next Dd
          have Bd := Below.next Bb Dd
          have sd : wb.drew.heap.size = wb.heap.size := rfl
          have cd : wb.drew.cell? ⟨w2.heap.size, tg, none⟩ = some (.int .i64 G) := ck
          clear rb xb Rb Bb Dd r0 r1 r2 ck cf
          change wpList _ _ _ _ _ wb.drew
          generalize wb.drew = wd at *
          have r0 := rd.c0
          have r1 := rd.c1
          have r2 := rd.c2
          have cf := xd.frozen tg
          have xl' := xd.lt
          go_wp2_with (fail)
          exact ⟨⟨j + 1, X.hi, tg, by omega, by go_num, rfl, rfl, (fun h => ⟨(HNX.out.1 h).1, by have := (HNX.out.1 h).2; rw [HTG.out] at this; exact this⟩), HNX.out.2, (xd.set tg16 (G - (X.hi - X.lo))).ext (fun i hi => by
            rw [HST.out, HTG.out]
            by_cases e : i = tg
            · rw [if_pos e, e, if_pos rfl, ← HG.out]; omega
            · rw [if_neg e, if_neg (by omega)]; omega), Rd.set (p := ⟨w2.heap.size, tg, none⟩) wrl _, Bd.setCell (p := ⟨w2.heap.size, tg, none⟩) hw2s _⟩, by simp [intOf]; omega⟩
        · obtain rfl : j = nv := by omega
          have hy := hyh rfl
          subst hy
          have xz : BoxC wr w2.heap.size (fun _ => 0) := xC.ext (fun i _ => by rw [List.take_of_length_le (by rw [HNV.out]; exact Nat.le_refl _)]; omega)
          have d0 := xz.cell (k := 0) (by decide)
          have d1 := xz.cell (k := 1) (by decide)
          have d2 := xz.cell (k := 2) (by decide)
          have d3 := xz.cell (k := 3) (by decide)
          have d4 := xz.cell (k := 4) (by decide)
          have d5 := xz.cell (k := 5) (by decide)
          have d6 := xz.cell (k := 6) (by decide)
          have d7 := xz.cell (k := 7) (by decide)
          have d8 := xz.cell (k := 8) (by decide)
          have d9 := xz.cell (k := 9) (by decide)
          have d10 := xz.cell (k := 10) (by decide)
          have d11 := xz.cell (k := 11) (by decide)
          have d12 := xz.cell (k := 12) (by decide)
          have d13 := xz.cell (k := 13) (by decide)
          have d14 := xz.cell (k := 14) (by decide)
          have d15 := xz.cell (k := 15) (by decide)
          go_wp2_with (fail)
          go_at_call 18
          refine (awake_any _).mono ?_
          rintro e wz ⟨rfl, bz⟩
          go_wp2_with (fail)
          go_ret
          exact ⟨rfl, Below.next hB bz⟩
/-- SpanCounts answers true. -/
theorem spanCounts_any (w : World) (size : Int) (A : Option Addr) (l : List Ac) (c : Nat) (lo hi : Int) (hA : Acts w A l) (hlc : l.length ≤ c) :
    Calls Try.prog 7 #[.int .i64 size, .slice A l.length c, .int .i64 lo, .int .i64 hi] w (FromsPost w) := by
  by_cases h : (1 ≤ size ∧ size ≤ 1099511627776) ∧ (l.length : Int) ≤ 60
  · obtain ⟨⟨h1, h2⟩, hl⟩ := h
    by_cases g0 : lo < 0
    · exact counts_lo w size A l c lo hi h1 h2 hA hlc hl _ rfl g0
    by_cases g1 : hi < lo
    · exact counts_hi w size A l c lo hi h1 h2 hA hlc hl _ rfl (by omega) g1
    by_cases g2 : size < hi
    · exact counts_size w size A l c lo hi h1 h2 hA hlc hl _ rfl (by omega) (by omega) g2
    obtain ⟨gM, tM⟩ := bltL_facts h1 h2 l
    have ho := gM.2.1
    have hr : rangesR (moreL [(size, 0)] l) lo hi = 0 := by unfold rangesR; rw [if_neg gM.1, if_neg (by omega)]
    have ch : Chain lo (clipL lo hi 0 (moreL [(size, 0)] l)) hi := by
      have := clipL_chain (lo := lo) (hi := hi) (k := 0) ho (by omega) (by omega)
      rwa [show max 0 lo = lo from by omega] at this
    have oV := (clipL_facts (lo := lo) (hi := hi) (k := 0) ho).1
    have hlen := clipL_length lo hi 0 (moreL [(size, 0)] l)
    have hm := gM.2.2.2.2
    obtain ⟨a1, a2, a3, a4⟩ := chain_walk ch (clipL_norm ho gM.2.2.1 0)
    refine counts_yes w size A l c lo hi h1 h2 hA hlc hl _ rfl (by omega) (by omega) (by omega) (clipL lo hi 0 (moreL [(size, 0)] l)) _ rfl (by omega) oV ch.total (fun x hx => ?_) a1 a2 a3 a4 (fun k hk W q hq => ?_) (fun W q hq => ?_)
    · exact ch.fine (by omega) (by omega) oV x hx
    · have := count_any W q _ lo hi k hq
      have e : countR (moreL [(size, 0)] l) lo hi k = (Tr.totalOf k (segs (clipL lo hi 0 (moreL [(size, 0)] l))), 0) := by
        unfold countR
        rw [if_pos hr, if_neg (by omega)]
        have := upTo_clip (k : Int) (by omega : lo ≤ hi) _ ho 0
        rw [Int.sub_zero, Int.sub_zero] at this
        unfold upTo
        rw [this]
      rw [e] at this
      exact this
    · have := runs_any W q _ lo hi 4096 hq
      have e : runsR (moreL [(size, 0)] l) lo hi 4096 = (clipL lo hi 0 (moreL [(size, 0)] l), 0) := by
        unfold runsR
        rw [if_pos hr, List.take_of_length_le (by have : (4096 : Int).toNat = 4096 := rfl; omega)]
      rw [e] at this
      refine this.mono fun e w' ⟨v, h1, h2, h3⟩ => ?_
      obtain ⟨B, d, rfl, h5, _⟩ := h2.runs
      exact ⟨B, d, h1, h5, h2, h3⟩
  · exact counts_no w size A l.length c lo hi h
end Go.Proofs.Ytfmplibjhohpgaa
