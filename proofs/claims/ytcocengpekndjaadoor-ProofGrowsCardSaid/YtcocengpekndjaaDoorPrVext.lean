/- The walk over the program's VerifyExtend. -/
import Derived.Test.YtcocengpekndjaaDoorPrBoth
import Derived.Test.YtcocengpekndjaaDoorPrGrowV
namespace Go.Proofs.YtcocengpekndjaaDoor
open Go.RowKit
theorem vextM_both {old root : Bs} {m n : Nat} {path : List Bs} (h : 1 ≤ m ∧ m ≤ n ∧ n ≤ 4096) {x1 x2 : Bs} {r2 : Rd} (hR : bothM sha old m n true (path, false) = ((x1, x2), r2)) : vextM old root m n path = (x1 == old && x2 == root && doneM r2) := by
  have hb := both_grown sha n old m n true path (Nat.le_refl _) h.1 h.2.1
  unfold vextM
  rw [if_pos (by omega)]
  simp only [Int.toNat_natCast]
  cases e : grownM sha old m n true path with
  | none =>
    rw [e, hR] at hb
    simp only at hb
    subst hb
    simp [doneM]
  | some x =>
    obtain ⟨a, b, u⟩ := x
    rw [e, hR] at hb
    simp only [Prod.mk.injEq] at hb
    obtain ⟨⟨⟨rfl, rfl⟩, rfl⟩, hu⟩ := hb
    have : (path.drop u).isEmpty = (u == path.length) := by
      rw [Bool.eq_iff_iff]
      simp [List.isEmpty_iff]; omega
    simp only [doneM, this, Bool.not_false, Bool.true_and]
    cases (u == path.length) <;> cases (x1 == old) <;> cases (x2 == root) <;> rfl
set_option maxRecDepth 100000 in
set_option maxHeartbeats 4000000 in
theorem pvext_bad (old root : Bs) (m n : Int) (A : Option Addr) (k c : Nat) (w : World) (h : ¬ (1 ≤ m ∧ m ≤ n ∧ n ≤ 4096)) :
    Calls Tryd.prog 36 #[hashV old, hashV root, .int .i64 m, .int .i64 n, .slice A k c] w fun e w' => e = .returned (.bool false) ∧ Below w.heap.size w w' := by
  have h3 : m < 1 ∨ (¬ m < 1 ∧ n < m) ∨ (¬ m < 1 ∧ ¬ n < m ∧ 4096 < n) := by omega
  have B0 : Below w.heap.size w (World.alloc (World.alloc w (.cells (cellsB old).toArray 30)) (.cells (cellsB root).toArray 30)) := Below.on (Below.new1 _ _) (Below.new1 _ _)
  clear h
  rcases h3 with h | ⟨h1, h⟩ | ⟨h1, h2, h⟩
  all_goals
    go_enter Tryd.func36, Tryd.ntmps36
    go_wp2_with (fail)
    go_ret
    exact ⟨rfl, B0⟩
set_option maxRecDepth 100000 in
set_option maxHeartbeats 4000000 in
theorem pvext_good (old root : Bs) (m n : Nat) (path : List Bs) (A : Option Addr) (k c : Nat) (w : World) (h1 : 1 ≤ m) (h2 : m ≤ n) (h3 : n ≤ 4096) (hk : path.length = k) (hkc : k ≤ c) (hk5 : k ≤ 5000) (ho : old.length = 32) (hr : root.length = 32) (hs : Hs w A path) (kon : Kon w) :
    Calls Tryd.prog 36 #[hashV old, hashV root, .int .i64 m, .int .i64 n, .slice A k c] w fun e w' => e = .returned (.bool (vextM old root m n path)) ∧ Below w.heap.size w w' := by
  have r32 := bothM_32 sha_length n old m n true (path, false) (Nat.le_refl _) h1 h2 ho hs.1
  have p1 := fun mm b W (h : Kon W) (hb : BoxRd W mm b (path, false)) => both_any old m n true (path, false) mm b W h1 h2 (by omega) (by show path.length ≤ _; omega) ho h hb
  obtain ⟨R, hR⟩ : ∃ R, bothM sha old m n true (path, false) = R := ⟨_, rfl⟩
  rw [hR] at r32 p1
  obtain ⟨⟨x1, x2⟩, r2⟩ := R
  rw [vextM_both ⟨h1, h2, h3⟩ hR]
  obtain ⟨la, lb, _, _⟩ := r32
  simp only at la lb p1 ⊢
  obtain ⟨b1, hb1⟩ : ∃ b, (x1 == old) = b := ⟨_, rfl⟩
  obtain ⟨b2, hb2⟩ : ∃ b, (x2 == root) = b := ⟨_, rfl⟩
  rw [hb1, hb2]
  have he1 := fun W => eq_hash la ho b1 hb1 W
  have he2 := fun W => eq_hash lb hr b2 hb2 W
  obtain ⟨w0, hW0⟩ : ∃ w0, World.alloc (World.alloc w (.cells (cellsB old).toArray 30)) (.cells (cellsB root).toArray 30) = w0 := ⟨_, rfl⟩
  have B0 : Below w.heap.size w w0 := hW0 ▸ Below.on (Below.new1 _ _) (Below.new1 _ _)
  have y5 : BoxH w0 w.heap.size old := hW0 ▸ (BoxH.new w old).next (Below.new1 _ _)
  have y6 : BoxH w0 (w.heap.size + 1) root := by
    have := BoxH.new (w.alloc (.cells (cellsB old).toArray 30)) root
    rw [World.size_alloc] at this; exact hW0 ▸ this
  have hb0 : BoxRd (w0.alloc (.cells #[.slice A k c, .bool false] 105)) w0.heap.size w0.heap.size (path, false) := by
    refine ⟨Nat.le_refl _, A, c, ?_, by show path.length ≤ _; omega, (hs.next B0).next (Below.new1 _ _), (hs.next B0).inB⟩
    show _ = some (Obj.cells #[.slice A path.length c, .bool false] 105 (0, 0))
    rw [hk]
    exact heap_alloc_new w0 _
  have kon1 := (kon.next B0).next (Below.new1 w0 (.cells #[.slice A k c, .bool false] 105))
  have y5' : BoxH (w0.alloc (.cells #[.slice A k c, .bool false] 105)) w.heap.size old := BoxA.next y5 (Below.new1 _ _)
  have y6' : BoxH (w0.alloc (.cells #[.slice A k c, .bool false] 105)) (w.heap.size + 1) root := BoxA.next y6 (Below.new1 _ _)
  have B1 : Below w.heap.size w (w0.alloc (.cells #[.slice A k c, .bool false] 105)) := Below.on B0 (Below.new1 _ _)
  have zz0 : w.heap.size + 1 < w0.heap.size := BoxA.lt y6
  obtain ⟨g, hg⟩ : ∃ g, w0.heap.size = g := ⟨_, rfl⟩
  have hm1 : ¬ (m : Int) < 1 := by omega
  have hm2 : ¬ (n : Int) < m := by omega
  have hm3 : ¬ (4096 : Int) < n := by omega
  have HE1 := Lib.hid he1
  have HE2 := Lib.hid he2
  have P1 := Lib.hid p1
  have HO := Lib.hid hW0
  have HG := Lib.hid hg
  clear hR hb1 hb2 he1 he2 p1 hW0 hk hs y5 y6 B0 kon hg
  go_enter Tryd.func36, Tryd.ntmps36
  go_upto_region 3 with (fail)
  change Code.wp _ _ _ _ (World.alloc (World.alloc w (.cells (cellsB old).toArray 30)) (.cells (cellsB root).toArray 30))
  rw [HO.out]
  clear HO
  go_upto_region 4 with (fail)
  change Code.wp _ _ _ _ (w0.alloc (.cells #[.slice A k c, .bool false] 105))
  rw [HG.out] at hb0 zz0 ⊢
  have gl := hb0.lt
  generalize w0.alloc (.cells #[.slice A k c, .bool false] 105) = w1 at *
  clear HG
  go_upto_region 5 with (first
    | (refine wpList_loadH rfl (.tmp 5) rfl w.heap.size old rfl y5' ho ?_)
    | (go_at_call 80; refine (P1.out _ _ _ kon1 hb0).mono ?_; rintro e w2 ⟨rfl, q1, q2⟩)
    | (refine wpList_storeH rfl (.tmp 12) (.tmp 34) rfl w2.heap.size x1 rfl rfl ((BoxA.new w2 _ _ (List.replicate 32 0) _ rfl).next (Below.new1 _ _)) rfl la ?_)
    | (refine wpList_storeH rfl (.tmp 13) (.tmp 35) rfl (w2.heap.size + 1) x2 rfl rfl (by have := BoxA.new (w2.alloc (.cells (ints .u8 (List.replicate 32 0)) 30)) 30 .u8 (List.replicate 32 0) _ rfl; rw [World.size_alloc] at this; exact this.farRow (by omega) _) rfl lb ?_))
  obtain ⟨w3, hW2⟩ : ∃ w3, World.setRow (World.setRow (World.alloc (World.alloc w2 (.cells (ints .u8 (List.replicate 32 0)) 30)) (.cells (ints .u8 (List.replicate 32 0)) 30)) w2.heap.size (ints .u8 (nums x1))) (w2.heap.size + 1) (ints .u8 (nums x2)) = w3 := ⟨_, rfl⟩
  have zz := q2.size
  have Bq : Below w2.heap.size w2 w3 := hW2 ▸ below_setRow (below_setRow ((Below.new1 w2 _).trans (Below.mono (Below.new1 _ _) (by rw [World.size_alloc]; omega))) (Nat.le_refl _) _) (by omega) _
  have y17 : BoxH w3 w2.heap.size x1 := hW2 ▸ ((((BoxA.new w2 30 .u8 (List.replicate 32 0) _ rfl).next (Below.new1 _ (.cells (ints .u8 (List.replicate 32 0)) 30))).setRow (l' := nums x1)).farRow (by omega) _)
  have y18 : BoxH w3 (w2.heap.size + 1) x2 := by
    have := BoxA.new (w2.alloc (.cells (ints .u8 (List.replicate 32 0)) 30)) 30 .u8 (List.replicate 32 0) _ rfl
    rw [World.size_alloc] at this
    exact hW2 ▸ ((this.farRow (by omega) _).setRow (l' := nums x2))
  change Code.wp _ _ _ _ (World.setRow (World.setRow (World.alloc (World.alloc w2 (.cells (ints .u8 (List.replicate 32 0)) 30)) (.cells (ints .u8 (List.replicate 32 0)) 30)) w2.heap.size (ints .u8 (nums x1))) (w2.heap.size + 1) (ints .u8 (nums x2)))
  rw [hW2]
  clear hW2
  have z5 : BoxH w3 w.heap.size old := (BoxA.but y5' (by omega) q2).next Bq
  have z6 : BoxH w3 (w.heap.size + 1) root := (BoxA.but y6' (by omega) q2).next Bq
  have hb3 := q1.next Bq
  have B3 : Below w.heap.size w w3 := But.below B1 (q2.on' Bq) (by omega) B1.size
  have he1 := HE1.out
  have he2 := HE2.out
  have hd := done_any hb3
  have HD := Lib.hid hd
  clear y5' y6' q1 q2 HE1 HE2 P1 B1 Bq hb3 hb0 kon1 hd
  cases b1
  · go_wp2_with (first
      | (refine wpList_load_if rfl 30 (.tmp 12) rfl (hashV x1) (BoxH.load_ y17 la) ?_)
      | (refine wpList_load_if rfl 30 (.tmp 5) rfl (hashV old) (BoxH.load_ z5 ho) ?_))
    go_ret
    exact ⟨rfl, B3⟩
  · cases b2
    · go_wp2_with (first
        | (refine wpList_load_if rfl 30 (.tmp 12) rfl (hashV x1) (BoxH.load_ y17 la) ?_)
        | (refine wpList_load_if rfl 30 (.tmp 5) rfl (hashV old) (BoxH.load_ z5 ho) ?_)
        | (refine wpList_load_if rfl 30 (.tmp 13) rfl (hashV x2) (BoxH.load_ y18 lb) ?_)
        | (refine wpList_load_if rfl 30 (.tmp 6) rfl (hashV root) (BoxH.load_ z6 hr) ?_))
      go_ret
      exact ⟨rfl, B3⟩
    · go_wp2_with (first
        | (refine wpList_load_if rfl 30 (.tmp 12) rfl (hashV x1) (BoxH.load_ y17 la) ?_)
        | (refine wpList_load_if rfl 30 (.tmp 5) rfl (hashV old) (BoxH.load_ z5 ho) ?_)
        | (refine wpList_load_if rfl 30 (.tmp 13) rfl (hashV x2) (BoxH.load_ y18 lb) ?_)
        | (refine wpList_load_if rfl 30 (.tmp 6) rfl (hashV root) (BoxH.load_ z6 hr) ?_)
        | (go_at_call 66; refine (HD.out).mono ?_; rintro e w7 ⟨rfl, rfl⟩))
      go_ret
      exact ⟨by simp, B3⟩
theorem pvext_any (old root : Bs) (m n : Int) (path : List Bs) (A : Option Addr) (k c : Nat) (w : World) (hk : path.length = k) (hkc : k ≤ c) (hk5 : k ≤ 5000) (ho : old.length = 32) (hr : root.length = 32) (hs : Hs w A path) (kon : Kon w) :
    Calls Tryd.prog 36 #[hashV old, hashV root, .int .i64 m, .int .i64 n, .slice A k c] w fun e w' => e = .returned (.bool (vextM old root m n path)) ∧ Below w.heap.size w w' := by
  by_cases h : 1 ≤ m ∧ m ≤ n ∧ n ≤ 4096
  · obtain ⟨m', rfl⟩ : ∃ m' : Nat, m = m' := ⟨m.toNat, by omega⟩
    obtain ⟨n', rfl⟩ : ∃ n' : Nat, n = n' := ⟨n.toNat, by omega⟩
    exact pvext_good old root m' n' path A k c w (by omega) (by omega) (by omega) hk hkc hk5 ho hr hs kon
  · rw [show vextM old root m n path = false from by unfold vextM; rw [if_neg h]]
    exact pvext_bad old root m n A k c w h
end Go.Proofs.YtcocengpekndjaaDoor
