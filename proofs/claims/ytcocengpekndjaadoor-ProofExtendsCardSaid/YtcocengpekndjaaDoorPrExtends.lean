/- The walk over ProofExtends. -/
import Derived.Test.YtcocengpekndjaaDoorPrShort
import Derived.Test.YtcocengpekndjaaDoorPrExtend
import Derived.Test.YtcocengpekndjaaDoorPrExtR
import Derived.Test.YtcocengpekndjaaDoorPrSame
import Derived.Test.YtcocengpekndjaaDoorPrAwake
import Derived.Test.YtcocengpekndjaaDoorPrSums
namespace Go.Proofs.YtcocengpekndjaaDoor
open Go.RowKit
set_option maxRecDepth 100000 in
set_option maxHeartbeats 4000000 in
theorem extends_long (L : List Bs) (i : Int) (A : Option Addr) (n c : Nat) (w : World) (hn : L.length = n) (hL : Strs w A L) (hsh : shortB L = false) (hk : Kon w) :
    Calls Tryd.prog 15 #[.slice A n c, .int .i64 i] w fun e w' => e = .returned (.bool true) ∧ Below w.heap.size w w' := by
  have HS := Lib.hid (short_any L A n c w hn hL)
  rw [hsh] at HS
  have HA := Lib.hid (fun W kon => awake_any W kon)
  clear hL hsh hn
  go_enter Tryd.func15, Tryd.ntmps15
  go_wp2_with (first
    | (go_at_call 30; refine HS.out.mono ?_; rintro e w1 ⟨rfl, b1⟩; have hk1 := hk.next b1)
    | (go_at_call 17; refine (HA.out _ hk1).mono ?_; rintro e w7 ⟨rfl, b7⟩))
  go_ret
  exact ⟨rfl, Below.on b1 b7⟩
set_option maxRecDepth 100000 in
set_option maxHeartbeats 4000000 in
theorem extends_bad (L : List Bs) (m : Int) (A : Option Addr) (n c : Nat) (w : World) (hn : L.length = n) (hL : Strs w A L) (_hc : n ≤ c) (hsh : shortB L = true) (hk : Kon w) (x : Int) (hx : (4096 < n ∧ x = 5) ∨ (n ≤ 4096 ∧ (m < 1 ∨ (n : Int) < m) ∧ x = 3)) : Calls Tryd.prog 15 #[.slice A n c, .int .i64 m] w fun e w' => e = .returned (.bool true) ∧ Below w.heap.size w w' := by
  have HS := Lib.hid (short_any L A n c w hn hL)
  rw [hsh] at HS
  have HA := Lib.hid (fun W kon => awake_any W kon)
  have HEX := Lib.hid (fun W => extend_bad A n c m W x hx)
  have hx' : ((4096 : Int) < n ∧ x = 5) ∨ (¬ (4096 : Int) < n ∧ m < 1 ∧ x = 3) ∨ (¬ (4096 : Int) < n ∧ ¬ m < 1 ∧ (n : Int) < m ∧ x = 3) := by omega
  clear hsh _hc hn hx
  go_enter Tryd.func15, Tryd.ntmps15
  go_upto_region 4 with (first
    | (go_at_call 30; refine HS.out.mono ?_; rintro e w1 ⟨rfl, b1⟩; have hk1 := hk.next b1; have hL1 := hL.next b1)
    | (go_at_call 18; refine (constants_any _).mono ?_; rintro e w2 ⟨rfl, b2⟩; have hk2 := hk1.next b2; have hL2 := hL1.next b2)
    | (refine wpList_newW rfl (.tmp 5) (.tmp 12) rfl rfl rfl ?_))
  have x5 := withW_box w2
  have bw := withW_below w2
  obtain ⟨wc, hWc⟩ : ∃ wc, withW w2 = wc := ⟨_, rfl⟩
  change Code.wp _ _ _ _ (withW w2)
  rw [hWc] at x5 bw ⊢
  have hk3 := hk2.next bw
  have hL3 := hL2.next bw
  have BB := Below.on (Below.on b1 b2) bw
  generalize w2.heap.size = g1 at *
  clear hWc hk1 hk2 hL1 hL2 b1 b2 bw
  rcases hx' with ⟨m1, rfl⟩ | ⟨m1, m2, rfl⟩ | ⟨m1, m2, m3, rfl⟩
  all_goals
    go_wp2_with (first
      | (go_at_call 51; refine (HEX.out _).mono ?_; rintro e w4 ⟨rfl, b4⟩; have hk4 := hk3.next b4)
      | (go_at_call 17; refine (HA.out _ hk4).mono ?_; rintro e w7 ⟨rfl, b7⟩))
    go_ret
    exact ⟨rfl, Below.on (Below.on BB b4) b7⟩
set_option maxRecDepth 100000 in
set_option maxHeartbeats 4000000 in
theorem extends_in (L : List Bs) (m : Nat) (A : Option Addr) (n c : Nat) (w : World) (hn : L.length = n) (hL : Strs w A L) (hc : n ≤ c) (hsh : shortB L = true) (hk : Kon w) (h4 : n ≤ 40) (hst : ∀ s ∈ L, s.length ≤ 4000) (hm : 1 ≤ m) (hmn : m ≤ n) : Calls Tryd.prog 15 #[.slice A n c, .int .i64 m] w fun e w' => e = .returned (.bool true) ∧ Below w.heap.size w w' := by
  have HS := Lib.hid (short_any L A n c w hn hL)
  rw [hsh] at HS
  have HA := Lib.hid (fun W kon => awake_any W kon)
  have m1 : ¬ (4096 : Int) < n := by omega
  have hin : ∀ s ∈ L, s.length ≤ 90000 := fun s hs => Nat.le_trans (hst s hs) (by decide)
  have hex := fun W (h : Strs W A L) kon => extend_any L A n c m W hn h hin (by omega) hm hmn kon
  have her := fun W (h : Strs W A L) => rext_any L m true A n c W hn hm hmn (by omega) hc hin h
  have hvl := extendM_length n (L.map (leafM sha)) m true (by rw [List.length_map]; omega)
  rw [List.length_map, hn] at hvl
  have m2 : ¬ (m : Int) < 1 := by omega
  have m3 : ¬ (n : Int) < m := by omega
  have hsa := fun B c' c'' A1 W hA hB => same_yes (extendM sha (L.map (leafM sha)) m true) A1 B _ c' c'' W rfl (by omega) hA hB
  generalize extendM sha (L.map (leafM sha)) m true = V at *
  have HEX := Lib.hid hex
  have HER := Lib.hid her
  have HSA := Lib.hid hsa
  clear hsh hc hn h4 hst hin hex her hsa hvl hm hmn
  go_enter Tryd.func15, Tryd.ntmps15
  go_upto_region 4 with (first
    | (go_at_call 30; refine HS.out.mono ?_; rintro e w1 ⟨rfl, b1⟩; have hk1 := hk.next b1; have hL1 := hL.next b1)
    | (go_at_call 18; refine (constants_any _).mono ?_; rintro e w2 ⟨rfl, b2⟩; have hk2 := hk1.next b2; have hL2 := hL1.next b2)
    | (refine wpList_newW rfl (.tmp 5) (.tmp 12) rfl rfl rfl ?_))
  have x5 := withW_box w2
  have bw := withW_below w2
  obtain ⟨wc, hWc⟩ : ∃ wc, withW w2 = wc := ⟨_, rfl⟩
  change Code.wp _ _ _ _ (withW w2)
  rw [hWc] at x5 bw ⊢
  have hk3 := hk2.next bw
  have hL3 := hL2.next bw
  have BB := Below.on (Below.on b1 b2) bw
  generalize w2.heap.size = g1 at *
  clear hWc hk1 hk2 hL1 hL2 b1 b2 bw
  go_wp2_with (first
    | (go_at_call 51; refine (HEX.out _ hL3 hk3).mono ?_; rintro e w4 ⟨v, rfl, hO4, b4⟩; obtain ⟨A4, c4, rfl, hc4, hs4⟩ := hO4.toHs; have x54 : BoxW w4 g1 := BoxA.next x5 b4)
    | (refine wpList_load_at rfl 27 (.tmp 5) rfl wordsV (BoxW.load x54) ?_)
    | (go_at_call 52; refine (HER.out _ (hL3.next b4)).mono ?_; rintro e w9 ⟨v, rfl, hO9, b9⟩; obtain ⟨A9, c9, rfl, hc9, hs9⟩ := hO9.toHs)
    | (go_at_call 34; refine (HSA.out A9 c4 c9 A4 _ (hs4.next b9) hs9).mono ?_; rintro e w10 ⟨rfl, b10⟩; have hk10 := ((hk3.next b4).next b9).next b10)
    | (go_at_call 17; refine (HA.out _ hk10).mono ?_; rintro e w11 ⟨rfl, b11⟩))
  go_ret
  exact ⟨rfl, Below.on (Below.on (Below.on (Below.on BB b4) b9) b10) b11⟩
theorem proofExtends_any (L : List Bs) (m : Int) (A : Option Addr) (c : Nat) (w : World) (hc : L.length ≤ c) (hL : Strs w A L) (hk : Kon w) :
    Calls Tryd.prog 15 #[.slice A L.length c, .int .i64 m] w fun e w' => e = .returned (.bool true) ∧ Below w.heap.size w w' := by
  cases hsh : shortB L with
  | false => exact extends_long L m A _ c w rfl hL hsh hk
  | true =>
    rcases shortB_len hsh with ⟨h4, hst⟩ | h4
    · by_cases hi : m < 1 ∨ (L.length : Int) < m
      · exact extends_bad L m A _ c w rfl hL hc hsh hk 3 (.inr ⟨by omega, hi, rfl⟩)
      · obtain ⟨k, rfl⟩ := Int.eq_ofNat_of_zero_le (show 0 ≤ m by omega)
        exact extends_in L k A _ c w rfl hL hc hsh hk h4 hst (by omega) (by omega)
    · exact extends_bad L m A _ c w rfl hL hc hsh hk 5 (.inl ⟨by omega, rfl⟩)
end Go.Proofs.YtcocengpekndjaaDoor
