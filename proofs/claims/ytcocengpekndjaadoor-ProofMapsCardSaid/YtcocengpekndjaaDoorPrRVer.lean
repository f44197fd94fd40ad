/- The walk over the reference's Verify. -/
import Derived.Test.YtcocengpekndjaaDoorPrFold
namespace Go.Proofs.YtcocengpekndjaaDoor
open Go.RowKit
/-- What Verify returns. -/
def verM (root s : Bs) (i n : Int) (path : List Bs) : Bool := if 0 ≤ i ∧ i < n ∧ n ≤ 4096 then ((foldR n.toNat i [s] path).2.2 && (foldR n.toNat i [s] path).2.1 == path.length && (foldR n.toNat i [s] path).1 == root) else false
theorem strs_one (w : World) (s : Bs) : Strs (w.alloc (.cells #[.string ⟨s.toArray⟩] 9)) (some ⟨w.heap.size, 0, none⟩) [s] := by
  refine .inr ⟨_, rfl, fun j u hu => ?_⟩
  match j, hu with
  | 0, hu =>
    simp only [List.map_cons, List.map_nil, List.getElem?_cons_zero, Option.some.injEq] at hu
    subst hu
    rw [Addr.add_mid, cell_of_row _ _ _ _ _ _ (heap_alloc_new w _)]
    rfl
  | j + 1, hu => simp at hu
set_option maxRecDepth 100000 in
set_option maxHeartbeats 4000000 in
theorem rver_bad (root s : Bs) (i n : Int) (A : Option Addr) (k c : Nat) (w : World) (h : ¬ (0 ≤ i ∧ i < n ∧ n ≤ 4096)) :
    Calls Tryd.prog 29 #[wordsV, hashV root, .string ⟨s.toArray⟩, .int .i64 i, .int .i64 n, .slice A k c] w fun e w' => e = .returned (.bool false) ∧ Below w.heap.size w w' := by
  have h3 : ¬ 0 ≤ i ∨ (0 ≤ i ∧ ¬ i < n) ∨ (0 ≤ i ∧ i < n ∧ ¬ n ≤ 4096) := by omega
  have B0 : Below w.heap.size w (World.alloc (w.alloc (.cells (ints .u32 wordsL) 27)) (.cells (cellsB root).toArray 30)) := Below.on (Below.new1 _ _) (Below.new1 _ _)
  clear h
  rcases h3 with h | ⟨h1, h⟩ | ⟨h1, h2, h⟩
  all_goals
    go_enter Tryd.func29, Tryd.ntmps29
    go_wp2_with (fail)
    go_ret
    exact ⟨rfl, B0⟩
set_option maxRecDepth 100000 in
set_option maxHeartbeats 4000000 in
theorem rver_good (root s : Bs) (i n : Nat) (path : List Bs) (A : Option Addr) (k c : Nat) (w : World) (h1 : i < n) (h3 : n ≤ 4096) (hk : path.length = k) (hkc : k ≤ c) (hk5 : k ≤ 5000) (hsl : s.length ≤ 90000) (hr : root.length = 32) (hs : Hs w A path) :
    Calls Tryd.prog 29 #[wordsV, hashV root, .string ⟨s.toArray⟩, .int .i64 i, .int .i64 n, .slice A k c] w fun e w' => e = .returned (.bool (verM root s i n path)) ∧ Below w.heap.size w w' := by
  obtain ⟨R, hR⟩ : ∃ R, foldR n i [s] path = R := ⟨_, rfl⟩
  have hv : verM root s i n path = (R.2.2 && R.2.1 == k && R.1 == root) := by
    unfold verM; rw [if_pos (by omega), Int.toNat_natCast, hR, hk]
  rw [hv]
  have r32 := foldR_32 n n i [s] path (Nat.le_refl _) hs.1
  have p1 := fun g W (hS : Strs W (some ⟨g, 0, none⟩) [s]) (hs : Hs W A path) => rfold_any n i [s] path (some ⟨g, 0, none⟩) A 1 1 k c W (by omega) (by omega) (by omega) (by omega) rfl (by omega) (by omega) hk hkc hk5 (by simpa using hsl) hS hs
  rw [hR] at r32 p1
  obtain ⟨x1, u, ok⟩ := R
  obtain ⟨la, lu⟩ := r32
  simp only at la lu ⊢
  obtain ⟨b1, hb1⟩ : ∃ b, (x1 == root) = b := ⟨_, rfl⟩
  rw [hb1]
  have he1 := fun W => eq_hash la hr b1 hb1 W
  obtain ⟨w0, hW0⟩ : ∃ w0, World.alloc (w.alloc (.cells (ints .u32 wordsL) 27)) (.cells (cellsB root).toArray 30) = w0 := ⟨_, rfl⟩
  have B0 : Below w.heap.size w w0 := hW0 ▸ Below.on (Below.new1 _ _) (Below.new1 _ _)
  have y6 : BoxW w0 w.heap.size := hW0 ▸ (BoxW.new w).next (Below.new1 _ _)
  have y7 : BoxH w0 (w.heap.size + 1) root := by
    have := BoxH.new (w.alloc (.cells (ints .u32 wordsL) 27)) root
    rw [World.size_alloc] at this; exact hW0 ▸ this
  have hs0 := hs.next B0
  have hm1 : (0 : Int) ≤ i := by omega
  have hm2 : (i : Int) < n := by omega
  have hm3 : (n : Int) ≤ 4096 := by omega
  have HE1 := Lib.hid he1
  have P1 := Lib.hid p1
  have HO := Lib.hid hW0
  clear hR hb1 he1 p1 hW0 hk hs hv
  go_enter Tryd.func29, Tryd.ntmps29
  go_upto_region 3 with (fail)
  change Code.wp _ _ _ _ (World.alloc (w.alloc (.cells (ints .u32 wordsL) 27)) (.cells (cellsB root).toArray 30))
  rw [HO.out]
  clear HO
  go_upto_region 4 with (first
    | (refine wpList_load_at rfl 27 (.tmp 6) rfl wordsV (BoxW.load y6) ?_)
    | (go_at_call 42; refine (P1.out _ _ (strs_one w0 s) (hs0.next (Below.new1 w0 _))).mono ?_; rintro e w1 ⟨rfl, b1'⟩)
    | (refine wpList_storeH rfl (.tmp 13) (.tmp 36) rfl w1.heap.size x1 rfl rfl (BoxA.new w1 _ _ (List.replicate 32 0) _ rfl) rfl la ?_))
  obtain ⟨w2, hW2⟩ : ∃ w2, World.setRow (World.alloc w1 (.cells (ints .u8 (List.replicate 32 0)) 30)) w1.heap.size (ints .u8 (nums x1)) = w2 := ⟨_, rfl⟩
  have bb := Below.on (Below.new1 w0 (.cells #[.string ⟨s.toArray⟩] 9)) b1'
  have zz := bb.size
  have Bq : Below w0.heap.size w0 w2 := hW2 ▸ below_setRow (Below.on bb (Below.new1 _ _)) zz _
  have y17 : BoxH w2 w1.heap.size x1 := hW2 ▸ (BoxA.new w1 30 .u8 (List.replicate 32 0) _ rfl).setRow (l' := nums x1)
  change Code.wp _ _ _ _ (World.setRow (World.alloc w1 (.cells (ints .u8 (List.replicate 32 0)) 30)) w1.heap.size (ints .u8 (nums x1)))
  rw [hW2]
  clear hW2
  have y7' : BoxH w2 (w.heap.size + 1) root := BoxA.next y7 Bq
  have B2 := Below.on B0 Bq
  have he1 := HE1.out
  clear y6 y7 hs0 b1' bb HE1 P1 B0 Bq
  have hc : ok = false ∨ (ok = true ∧ ¬ u = k) ∨ (ok = true ∧ u = k) := by
    cases ok <;> simp <;> omega
  rcases hc with rfl | ⟨rfl, hu⟩ | ⟨rfl, rfl⟩
  · go_wp2_with (fail)
    go_ret
    exact ⟨rfl, B2⟩
  · have e1 : ((u : Int) == k) = false := by simp; omega
    have e2 : (u == k) = false := by simp; omega
    go_wp2_with (fail)
    go_ret
    exact ⟨by simp [e2], B2⟩
  · go_wp2_with (first
      | (refine wpList_load_if rfl 30 (.tmp 13) rfl (hashV x1) (BoxH.load_ y17 la) ?_)
      | (refine wpList_load_if rfl 30 (.tmp 7) rfl (hashV root) (BoxH.load_ y7' hr) ?_))
    go_ret
    exact ⟨by simp, B2⟩
theorem rver_any (root s : Bs) (i n : Int) (path : List Bs) (A : Option Addr) (k c : Nat) (w : World) (hk : path.length = k) (hkc : k ≤ c) (hk5 : k ≤ 5000) (hsl : s.length ≤ 90000) (hr : root.length = 32) (hs : Hs w A path) :
    Calls Tryd.prog 29 #[wordsV, hashV root, .string ⟨s.toArray⟩, .int .i64 i, .int .i64 n, .slice A k c] w fun e w' => e = .returned (.bool (verM root s i n path)) ∧ Below w.heap.size w w' := by
  by_cases h : 0 ≤ i ∧ i < n ∧ n ≤ 4096
  · obtain ⟨i', rfl⟩ : ∃ i' : Nat, i = i' := ⟨i.toNat, by omega⟩
    obtain ⟨n', rfl⟩ : ∃ n' : Nat, n = n' := ⟨n.toNat, by omega⟩
    exact rver_good root s i' n' path A k c w (by omega) (by omega) hk hkc hk5 hsl hr hs
  · rw [show verM root s i n path = false from by unfold verM; rw [if_neg h]]
    exact rver_bad root s i n A k c w h
end Go.Proofs.YtcocengpekndjaaDoor
