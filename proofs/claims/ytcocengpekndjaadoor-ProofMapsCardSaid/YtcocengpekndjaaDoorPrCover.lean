/- The walk over the reference's Covering. -/
import Derived.Test.YtcocengpekndjaaDoorPrMapsL
namespace Go.Proofs.YtcocengpekndjaaDoor
open Go.RowKit
set_option maxRecDepth 100000 in
set_option maxHeartbeats 4000000 in
theorem rcover_any (T : Int) (R : List Rn) (A : Option Addr) (m c : Nat) (lo hi : Int) (w : World) (hm : R.length = m) (hm5 : m ≤ 5000) (hR : Runs w A R) :
    Calls Tryd.prog 48 #[.agg #[.int .i64 T, .slice A m c], .int .i64 lo, .int .i64 hi] w fun e w' => e = .returned (.tuple #[.int .i64 (covF lo R : Nat), .int .i64 (covN lo hi R : Nat)]) ∧ Below w.heap.size w w' := by
  obtain ⟨w0, hW0⟩ : ∃ w0, w.alloc (.cells #[.int .i64 T, .slice A m c] 69) = w0 := ⟨_, rfl⟩
  have B0 : Below w.heap.size w w0 := hW0 ▸ Below.new1 _ _
  have x3 : BoxM w0 w.heap.size T (.slice A m c) := hW0 ▸ BoxM.new w _ _
  have c31 := x3.c1
  have hR0 := hR.below B0
  have HW := Lib.hid hW0
  have HM := Lib.hid hm
  clear hW0 hR hm x3
  go_enter Tryd.func48, Tryd.ntmps48
  go_upto_region 1 with (fail)
  change Code.wp _ _ _ _ (w.alloc (.cells #[.int .i64 T, .slice A m c] 69))
  rw [HW.out]
  clear HW
  go_wp2_with (fail)
  go_loop [8, 9, 10] (fun f q i => ∃ k : Nat, k ≤ m ∧ i = .int .i64 k ∧ f = .int .i64 (covF lo (R.take k) : Nat) ∧ q = .int .i64 (covN lo hi (R.take k) : Nat)) (fun _ _ i => m - (intOf i).toNat)
  case atStart => exact ⟨0, Nat.zero_le _, rfl, rfl, rfl⟩
  case round =>
    obtain ⟨k, hk, rfl, rfl, rfl⟩ := hrel
    by_cases hlt : k < m
    · have hkR : k < R.length := by have := HM.out; omega
      obtain ⟨a, rfl⟩ : ∃ a, A = some a := by
        rcases hR0 with hh | ⟨a, hh, _⟩
        · rw [hh] at hkR; simp at hkR
        · exact ⟨a, hh⟩
      obtain ⟨_, f0, f1, f2⟩ := hR0.at_ hkR
      have e1 := covF_snoc lo (R.take k) R[k]
      have e2 := covN_snoc lo hi (R.take k) R[k]
      rw [← List.take_succ_eq_append_getElem hkR] at e1 e2
      have b1 := covF_le lo (R.take k)
      have b2 := covN_le lo hi (R.take k)
      rw [List.length_take] at b1 b2
      have q1 : (covF lo (R.take k) : Int) ≤ 5000 := by omega
      have q2 : (covN lo hi (R.take k) : Int) ≤ 5000 := by omega
      have q3 : (0 : Int) ≤ (covF lo (R.take k) : Nat) := by omega
      have q4 : (0 : Int) ≤ (covN lo hi (R.take k) : Nat) := by omega
      clear b1 b2
      have E1 := Lib.hid e1
      have E2 := Lib.hid e2
      clear e1 e2
      generalize R[k] = X at *
      generalize covF lo (R.take k) = F at *
      generalize covN lo hi (R.take k) = N at *
      have k0 : (0 : Int) ≤ (k : Int) := by omega
      have k1 : (k : Int) < (m : Int) := by omega
      by_cases h1 : X.hi ≤ lo
      · go_wp2_with (fail)
        go_round
        case rel => exact ⟨k + 1, by omega, by go_num, by rw [E1.out, if_pos h1]; go_num, by rw [E2.out, if_neg (by omega), Nat.add_zero]⟩
        case measure => simp [intOf]; omega
      · have h1' : decide (X.hi ≤ lo) = false := by simpa using h1
        by_cases h2 : X.lo < hi
        · go_wp2_with (fail)
          go_round
          case rel => exact ⟨k + 1, by omega, by go_num, by rw [E1.out, if_neg h1, Nat.add_zero], by rw [E2.out, if_pos (by omega)]; go_num⟩
          case measure => simp [intOf]; omega
        · have h2' : decide (X.lo < hi) = false := by simpa using h2
          go_wp2_with (fail)
          go_round
          case rel => exact ⟨k + 1, by omega, by go_num, by rw [E1.out, if_neg h1, Nat.add_zero], by rw [E2.out, if_neg (by omega), Nat.add_zero]⟩
          case measure => simp [intOf]; omega
    · obtain rfl : k = m := by omega
      have e : R.take k = R := List.take_of_length_le (by have := HM.out; omega)
      rw [e]
      clear e
      go_wp2_with (fail)
      go_ret2
      exact ⟨rfl, B0⟩
end Go.Proofs.YtcocengpekndjaaDoor
