/- The walks over Eight and Half of the reference. -/
import Derived.Test.YtcocengpekndjaaDoorPrRoot
namespace Go.Proofs.YtcocengpekndjaaDoor
open Go.RowKit
set_option maxRecDepth 100000 in
set_option maxHeartbeats 2000000 in
theorem eight_any (n : Int) (w : World) (h0 : 0 ≤ n) (h1 : n < 9223372036854775808) : Calls Tryd.prog 59 #[.int .i64 n] w fun e w' => e = .returned (.string ⟨(eightM n).toArray⟩) ∧ Below w.heap.size w w' := by
  have mk := make8 w
  have MK := Lib.hid mk
  go_enter Tryd.func59, Tryd.ntmps59
  go_wp2_with (fail)
  clear mk
  go_loopw [4] (fun i W => ∃ k : Nat, k ≤ 8 ∧ i = .int .i64 k ∧ BoxA W w.heap.size 5 .u8 (numP n k) ∧ Below w.heap.size w W) (fun i _ => 8 - (intOf i).toNat)
  case atStart => exact ⟨0, by decide, rfl, BoxA.new w _ _ _ _ rfl, Below.new1 _ _⟩
  case round =>
    obtain ⟨k, hk, rfl, hb, hB⟩ := hrel
    by_cases hlt : k < 8
    · have k1 : (k : Int) < 8 := by omega
      have k0 : 0 ≤ (k : Int) := by omega
      have cf := hb.frozen k
      have ck := hb.cell (i := k) (by rw [numP_length]; omega)
      have m0 : IntKind.i64.wrap (8 * (k : Int)) = 8 * k := IntWalk.i64_in _ (by omega)
      have m1 : IntKind.i64.wrap (56 - 8 * (k : Int)) = 56 - 8 * k := IntWalk.i64_in _ (by omega)
      go_wp2_with (fail)
      exact ⟨⟨k + 1, by omega, by go_num, hb.set k _, hB.setCell (p := ⟨w.heap.size, k, none⟩) (Nat.le_refl _) _⟩, by simp [intOf]; omega⟩
    · obtain rfl : k = 8 := by omega
      rw [numP_8] at hb
      have cv := bytes_back (eightM n) wr w.heap.size 8 67 9 5 (by kernel_rfl) (by kernel_rfl) (by kernel_rfl) (fun j hj => by
        have := hb.cell (i := j) (by simpa using hj)
        simpa using this) 8 rfl
      go_wp2_with (fail)
      go_ret
      exact ⟨rfl, hB⟩
set_option maxRecDepth 100000 in
set_option maxHeartbeats 1000000 in
theorem rhalf_any (n : Nat) (w : World) (h2 : 2 ≤ n) (h3 : n ≤ 1000000) : Calls Tryd.prog 78 #[.int .i64 n] w fun e w' => e = .returned (.int .i64 (half n : Nat)) ∧ w = w' := by
  obtain ⟨H, hH⟩ : ∃ H, half n = H := ⟨_, rfl⟩
  rw [hH]
  have HH := Lib.hid hH
  clear hH
  go_enter Tryd.func78, Tryd.ntmps78
  go_wp2_with (fail)
  go_loop [3] (fun i => ∃ k : Nat, 0 < k ∧ k < n ∧ halfL k n = H ∧ i = .int .i64 k) (fun i => n - (intOf i).toNat)
  case atStart => exact ⟨1, by omega, by omega, HH.out, rfl⟩
  case round =>
    obtain ⟨k, hk0, hkn, hk, rfl⟩ := hrel
    have HK := Lib.hid hk
    clear hk
    by_cases hlt : 2 * k < n
    · go_wp2_with (fail)
      exact ⟨⟨2 * k, by omega, by omega, by rw [← halfL_step hk0 hlt]; exact HK.out, by rw [show ((2 * k : Nat) : Int) = 2 * (k : Int) from by omega]⟩, by simp [intOf]; omega⟩
    · obtain rfl : k = H := by rw [← HK.out, halfL_stop hlt]
      go_wp2_with (fail)
      go_ret
      exact ⟨rfl, rfl⟩
end Go.Proofs.YtcocengpekndjaaDoor
