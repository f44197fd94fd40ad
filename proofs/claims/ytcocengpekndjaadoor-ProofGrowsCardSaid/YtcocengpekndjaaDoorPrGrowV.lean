/- The walk over Grown and VerifyExtend of the reference. -/
import Derived.Test.YtcocengpekndjaaDoorPrGrowL
import Derived.Test.YtcocengpekndjaaDoorPrGrowR
namespace Go.Proofs.YtcocengpekndjaaDoor
open Go.RowKit
theorem gr_le (q : Nat) : GrOk q := by
  induction q with
  | zero => intro old m n whole path A k c w h h1 h2; omega
  | succ q ih =>
    intro old m n whole path A k c w hq h1 h2 hn hk hkc hk5 ho hs
    by_cases e : m = n
    · subst e
      cases whole
      · cases path with
        | nil => obtain rfl : k = 0 := by rw [← hk]; rfl
                 exact gr_none old m A c w hn ho hs
        | cons x path => exact gr_first x old m path A k c w hn hk hk5 ho hs
      · exact gr_whole old m path A k c w hn ho hs
    · by_cases c2 : m ≤ half n
      · exact gr_left q ih old m n whole path A k c w hq (by omega) h1 c2 (by omega) hn hk hkc hk5 ho hs
      · exact gr_right q ih old m n whole path A k c w hq (by omega) h1 c2 (by omega) hn hk hkc hk5 ho hs
theorem grown_any (old : Bs) (m n : Nat) (whole : Bool) (path : List Bs) (A : Option Addr) (k c : Nat) (w : World) (h1 : 1 ≤ m) (h2 : m ≤ n) (hn : n ≤ 5000) (hk : path.length = k) (hkc : k ≤ c) (hk5 : k ≤ 5000) (ho : old.length = 32) (hs : Hs w A path) :
    Calls Tryd.prog 81 #[wordsV, hashV old, .int .i64 m, .int .i64 n, .bool whole, .slice A k c] w fun e w' => e = .returned (grownV (grownR old m n whole path)) ∧ Below w.heap.size w w' := gr_le n old m n whole path A k c w (Nat.le_refl _) h1 h2 hn hk hkc hk5 ho hs
/-- What VerifyExtend returns. -/
def vextM (old root : Bs) (m n : Int) (path : List Bs) : Bool := if 1 ≤ m ∧ m ≤ n ∧ n ≤ 4096 then (match grownM sha old m.toNat n.toNat true path with
  | some (a, b, u) => u == path.length && a == old && b == root
  | none => false) else false
theorem vextM_of {old root : Bs} {m n : Nat} {path : List Bs} (h : 1 ≤ m ∧ m ≤ n ∧ n ≤ 4096) {R : Bs × Bs × Nat × Bool} (hR : grownR old m n true path = R) : vextM old root m n path = (R.2.2.2 && R.2.2.1 == path.length && R.1 == old && R.2.1 == root) := by
  subst hR
  unfold vextM grownR
  rw [if_pos (by omega)]
  simp only [Int.toNat_natCast]
  cases grownM sha old m n true path with
  | none => rfl
  | some x => simp
set_option maxRecDepth 100000 in
set_option maxHeartbeats 4000000 in
theorem rvext_bad (old root : Bs) (m n : Int) (A : Option Addr) (k c : Nat) (w : World) (h : ¬ (1 ≤ m ∧ m ≤ n ∧ n ≤ 4096)) :
    Calls Tryd.prog 37 #[wordsV, hashV old, hashV root, .int .i64 m, .int .i64 n, .slice A k c] w fun e w' => e = .returned (.bool false) ∧ Below w.heap.size w w' := by
  have h3 : ¬ 1 ≤ m ∨ (1 ≤ m ∧ ¬ m ≤ n) ∨ (1 ≤ m ∧ m ≤ n ∧ ¬ n ≤ 4096) := by omega
  have B0 : Below w.heap.size w (World.alloc (World.alloc (World.alloc w (.cells (ints .u32 wordsL) 27)) (.cells (cellsB old).toArray 30)) (.cells (cellsB root).toArray 30)) := Below.on (Below.on (Below.new1 _ _) (Below.new1 _ _)) (Below.new1 _ _)
  clear h
  rcases h3 with h | ⟨h1, h⟩ | ⟨h1, h2, h⟩
  all_goals
    go_enter Tryd.func37, Tryd.ntmps37
    go_wp2_with (fail)
    go_ret
    exact ⟨rfl, B0⟩
set_option maxRecDepth 100000 in
set_option maxHeartbeats 4000000 in
theorem rvext_good (old root : Bs) (m n : Nat) (path : List Bs) (A : Option Addr) (k c : Nat) (w : World) (h1 : 1 ≤ m) (h2 : m ≤ n) (h3 : n ≤ 4096) (hk : path.length = k) (hkc : k ≤ c) (hk5 : k ≤ 5000) (ho : old.length = 32) (hr : root.length = 32) (hs : Hs w A path) :
    Calls Tryd.prog 37 #[wordsV, hashV old, hashV root, .int .i64 m, .int .i64 n, .slice A k c] w fun e w' => e = .returned (.bool (vextM old root m n path)) ∧ Below w.heap.size w w' := by
  obtain ⟨R, hR⟩ : ∃ R, grownR old m n true path = R := ⟨_, rfl⟩
  rw [vextM_of ⟨h1, h2, h3⟩ hR, hk]
  have r32 := grownR_32 hs.1 n old m n true (Nat.le_refl _) h1 h2 ho
  have p1 := fun W (h : Hs W A path) => grown_any old m n true path A k c W h1 h2 (by omega) hk hkc hk5 ho h
  rw [hR] at r32 p1
  obtain ⟨x1, x2, u, ok⟩ := R
  obtain ⟨la, lb, lu⟩ := r32
  simp only at la lb lu ⊢
  obtain ⟨b1, hb1⟩ : ∃ b, (x1 == old) = b := ⟨_, rfl⟩
  obtain ⟨b2, hb2⟩ : ∃ b, (x2 == root) = b := ⟨_, rfl⟩
  rw [hb1, hb2]
  have he1 := fun W => eq_hash la ho b1 hb1 W
  have he2 := fun W => eq_hash lb hr b2 hb2 W
  obtain ⟨w0, hW0⟩ : ∃ w0, World.alloc (World.alloc (World.alloc w (.cells (ints .u32 wordsL) 27)) (.cells (cellsB old).toArray 30)) (.cells (cellsB root).toArray 30) = w0 := ⟨_, rfl⟩
  have B0 : Below w.heap.size w w0 := hW0 ▸ Below.on (Below.on (Below.new1 _ _) (Below.new1 _ _)) (Below.new1 _ _)
  have y6 : BoxW w0 w.heap.size := hW0 ▸ ((BoxW.new w).next (Below.new1 _ _)).next (Below.new1 _ _)
  have y7 : BoxH w0 (w.heap.size + 1) old := by
    have := ((BoxH.new (w.alloc (.cells (ints .u32 wordsL) 27)) old).next (Below.new1 _ (.cells (cellsB root).toArray 30)))
    rw [World.size_alloc] at this; exact hW0 ▸ this
  have y8 : BoxH w0 (w.heap.size + 1 + 1) root := by
    have := BoxH.new ((w.alloc (.cells (ints .u32 wordsL) 27)).alloc (.cells (cellsB old).toArray 30)) root
    rw [World.size_alloc, World.size_alloc] at this; exact hW0 ▸ this
  have hs0 := hs.next B0
  have hm1 : (1 : Int) ≤ m := by omega
  have hm2 : (m : Int) ≤ n := by omega
  have hm3 : (n : Int) ≤ 4096 := by omega
  have HE1 := Lib.hid he1
  have HE2 := Lib.hid he2
  have P1 := Lib.hid p1
  have HO := Lib.hid hW0
  clear hR hb1 hb2 he1 he2 p1 hW0 hk hs
  go_enter Tryd.func37, Tryd.ntmps37
  go_upto_region 3 with (fail)
  change Code.wp _ _ _ _ (World.alloc (World.alloc (World.alloc w (.cells (ints .u32 wordsL) 27)) (.cells (cellsB old).toArray 30)) (.cells (cellsB root).toArray 30))
  rw [HO.out]
  clear HO
  go_upto_region 4 with (first
    | (refine wpList_load_at rfl 27 (.tmp 6) rfl wordsV (BoxW.load y6) ?_)
    | (refine wpList_loadH rfl (.tmp 7) rfl (w.heap.size + 1) old rfl y7 ho ?_)
    | (go_at_call 81; refine (P1.out _ hs0).mono ?_; rintro e w1 ⟨rfl, b1'⟩)
    | (refine wpList_storeH rfl (.tmp 13) (.tmp 36) rfl w1.heap.size x1 rfl rfl ((BoxA.new w1 _ _ (List.replicate 32 0) _ rfl).next (Below.new1 _ _)) rfl la ?_)
    | (refine wpList_storeH rfl (.tmp 14) (.tmp 37) rfl (w1.heap.size + 1) x2 rfl rfl (by have := BoxA.new (w1.alloc (.cells (ints .u8 (List.replicate 32 0)) 30)) 30 .u8 (List.replicate 32 0) _ rfl; rw [World.size_alloc] at this; exact this.farRow (by omega) _) rfl lb ?_))
  obtain ⟨w2, hW2⟩ : ∃ w2, World.setRow (World.setRow (World.alloc (World.alloc w1 (.cells (ints .u8 (List.replicate 32 0)) 30)) (.cells (ints .u8 (List.replicate 32 0)) 30)) w1.heap.size (ints .u8 (nums x1))) (w1.heap.size + 1) (ints .u8 (nums x2)) = w2 := ⟨_, rfl⟩
  have zz := b1'.size
  have Bq : Below w0.heap.size w0 w2 := hW2 ▸ below_setRow (below_setRow ((b1'.mono (Nat.le_refl _)).trans ((Below.new1 w1 _).trans (Below.mono (Below.new1 _ _) (by rw [World.size_alloc]; omega)) |>.mono zz)) zz _) (by omega) _
  have y17 : BoxH w2 w1.heap.size x1 := hW2 ▸ ((((BoxA.new w1 30 .u8 (List.replicate 32 0) _ rfl).next (Below.new1 _ (.cells (ints .u8 (List.replicate 32 0)) 30))).setRow (l' := nums x1)).farRow (by omega) _)
  have y18 : BoxH w2 (w1.heap.size + 1) x2 := by
    have := BoxA.new (w1.alloc (.cells (ints .u8 (List.replicate 32 0)) 30)) 30 .u8 (List.replicate 32 0) _ rfl
    rw [World.size_alloc] at this
    exact hW2 ▸ ((this.farRow (by omega) _).setRow (l' := nums x2))
  change Code.wp _ _ _ _ (World.setRow (World.setRow (World.alloc (World.alloc w1 (.cells (ints .u8 (List.replicate 32 0)) 30)) (.cells (ints .u8 (List.replicate 32 0)) 30)) w1.heap.size (ints .u8 (nums x1))) (w1.heap.size + 1) (ints .u8 (nums x2)))
  rw [hW2]
  clear hW2
  have y7' : BoxH w2 (w.heap.size + 1) old := BoxA.next y7 Bq
  have y8' : BoxH w2 (w.heap.size + 1 + 1) root := BoxA.next y8 Bq
  have B2 := Below.on B0 Bq
  have he1 := HE1.out
  have he2 := HE2.out
  clear y6 y7 y8 hs0 b1' HE1 HE2 P1 B0 Bq
  have hc : ok = false ∨ (ok = true ∧ ¬ u = k) ∨ (ok = true ∧ u = k ∧ b1 = false) ∨ (ok = true ∧ u = k ∧ b1 = true) := by
    cases ok <;> cases b1 <;> simp <;> omega
  rcases hc with rfl | ⟨rfl, hu⟩ | ⟨rfl, rfl, rfl⟩ | ⟨rfl, rfl, rfl⟩
  · go_wp2_with (fail)
    go_ret
    exact ⟨rfl, B2⟩
  · have e1 : ((u : Int) == k) = false := by simp; omega
    have e2 : (u == k) = false := by simp; omega
    go_wp2_with (fail)
    go_ret
    exact ⟨by simp [e2], B2⟩
  · go_wp2_with (first
      | (refine wpList_load_if rfl 30 (.tmp 13) rfl (hashV x1) (BoxH.load_ y17 la) ?_)
      | (refine wpList_load_if rfl 30 (.tmp 7) rfl (hashV old) (BoxH.load_ y7' ho) ?_))
    go_ret
    exact ⟨by simp, B2⟩
  · go_wp2_with (first
      | (refine wpList_load_if rfl 30 (.tmp 13) rfl (hashV x1) (BoxH.load_ y17 la) ?_)
      | (refine wpList_load_if rfl 30 (.tmp 7) rfl (hashV old) (BoxH.load_ y7' ho) ?_)
      | (refine wpList_load_if rfl 30 (.tmp 14) rfl (hashV x2) (BoxH.load_ y18 lb) ?_)
      | (refine wpList_load_if rfl 30 (.tmp 8) rfl (hashV root) (BoxH.load_ y8' hr) ?_))
    go_ret
    exact ⟨by simp, B2⟩
theorem rvext_any (old root : Bs) (m n : Int) (path : List Bs) (A : Option Addr) (k c : Nat) (w : World) (hk : path.length = k) (hkc : k ≤ c) (hk5 : k ≤ 5000) (ho : old.length = 32) (hr : root.length = 32) (hs : Hs w A path) :
    Calls Tryd.prog 37 #[wordsV, hashV old, hashV root, .int .i64 m, .int .i64 n, .slice A k c] w fun e w' => e = .returned (.bool (vextM old root m n path)) ∧ Below w.heap.size w w' := by
  by_cases h : 1 ≤ m ∧ m ≤ n ∧ n ≤ 4096
  · obtain ⟨m', rfl⟩ : ∃ m' : Nat, m = m' := ⟨m.toNat, by omega⟩
    obtain ⟨n', rfl⟩ : ∃ n' : Nat, n = n' := ⟨n.toNat, by omega⟩
    exact rvext_good old root m' n' path A k c w (by omega) (by omega) (by omega) hk hkc hk5 ho hr hs
  · rw [show vextM old root m n path = false from by unfold vextM; rw [if_neg h]]
    exact rvext_bad old root m n A k c w h
end Go.Proofs.YtcocengpekndjaaDoor
