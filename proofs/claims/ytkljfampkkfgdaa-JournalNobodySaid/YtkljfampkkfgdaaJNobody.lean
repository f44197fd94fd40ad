/- The journal layer: the walk over JournalNobody. -/
import Derived.Test.YtkljfampkkfgdaaJAwake
namespace Go.Proofs.Ytkljfampkkfgdaa
open Go.RowKit
theorem dread_nil (W : World) (n : Int) : Calls Try.prog 38 #[.pointer none, .int .i64 n] W fun e w' => e = .returned (.tuple #[.string ⟨([] : Bs).toArray⟩, .int .i64 1]) ∧ w' = W := by
  go_enter Try.func38, Try.ntmps38
  go_wp2_with (go_at_call 65; refine (dready_nil _).mono ?_; rintro e w1 ⟨rfl, hw1⟩; obtain rfl := hw1.symm)
  go_ret2
  exact ⟨rfl, rfl⟩
theorem dwrite_nil (W : World) (n : Int) (s : Value) : Calls Try.prog 39 #[.pointer none, .int .i64 n, s] W fun e w' => e = .returned (.int .i64 1) ∧ w' = W := by
  go_enter Try.func39, Try.ntmps39
  go_wp2_with (go_at_call 65; refine (dready_nil _).mono ?_; rintro e w1 ⟨rfl, hw1⟩; obtain rfl := hw1.symm)
  go_ret
  exact ⟨rfl, rfl⟩
theorem dsync_nil (W : World) : Calls Try.prog 40 #[.pointer none] W fun e w' => e = .returned (.int .i64 1) ∧ w' = W := by
  go_enter Try.func40, Try.ntmps40
  go_wp2_with (go_at_call 65; refine (dready_nil _).mono ?_; rintro e w1 ⟨rfl, hw1⟩; obtain rfl := hw1.symm)
  go_ret
  exact ⟨rfl, rfl⟩
theorem dcrash_nil (W : World) (v : Value) : Calls Try.prog 28 #[.pointer none, v] W fun e w' => e = .returned (.int .i64 1) ∧ w' = W := by
  go_enter Try.func28, Try.ntmps28
  go_wp2_with (go_at_call 52; refine (dusable_nil _).mono ?_; rintro e w1 ⟨rfl, hw1⟩; obtain rfl := hw1.symm)
  go_ret
  exact ⟨rfl, rfl⟩
abbrev onesO : Obj := .cells #[.int .i64 1, .int .i64 1, .int .i64 1, .int .i64 1, .int .i64 1, .int .i64 1, .int .i64 1, .int .i64 1, .int .i64 1, .int .i64 1] 31
theorem ones_cell (W : World) (j : Nat) (hj : j < 10) : (W.alloc onesO).cell? ⟨W.heap.size, j, none⟩ = some (.int .i64 1) := by
  refine (cell_of_row _ _ j _ _ _ (heap_alloc_new W _)).trans ?_
  match j, hj with
  | 0, _ => rfl
  | 1, _ => rfl
  | 2, _ => rfl
  | 3, _ => rfl
  | 4, _ => rfl
  | 5, _ => rfl
  | 6, _ => rfl
  | 7, _ => rfl
  | 8, _ => rfl
  | 9, _ => rfl
set_option maxRecDepth 100000 in
set_option maxHeartbeats 4000000 in
theorem nobody_any (W : World) (n : Int) (s : Bs) (v : Value) : Calls Try.prog 10 #[.int .i64 n, .string ⟨s.toArray⟩, v] W fun e w' => e = .returned (.bool true) ∧ Below W.heap.size W w' := by
  have HA := Lib.hid awake_any
  go_enter Try.func10, Try.ntmps10
  go_upto_region 7 with (first
    | (go_at_call 38; refine (dread_nil _ _).mono ?_; rintro e w1 ⟨rfl, hw1⟩; obtain rfl := hw1.symm)
    | (go_at_call 21; refine (open_nil _).mono ?_; rintro e w1 ⟨rfl, hw1⟩; obtain rfl := hw1.symm)
    | (go_at_call 39; refine (dwrite_nil _ _ _).mono ?_; rintro e w1 ⟨rfl, hw1⟩; obtain rfl := hw1.symm)
    | (go_at_call 40; refine (dsync_nil _).mono ?_; rintro e w1 ⟨rfl, hw1⟩; obtain rfl := hw1.symm)
    | (go_at_call 32; refine (dfuse_nil _ _).mono ?_; rintro e w1 ⟨rfl, hw1⟩; obtain rfl := hw1.symm)
    | (go_at_call 28; refine (dcrash_nil _ _).mono ?_; rintro e w1 ⟨rfl, hw1⟩; obtain rfl := hw1.symm)
    | (go_at_call 23; refine (format_nil _).mono ?_; rintro e w1 ⟨rfl, hw1⟩; obtain rfl := hw1.symm)
    | (go_at_call 16; refine (append_nil _ _).mono ?_; rintro e w1 ⟨rfl, hw1⟩; obtain rfl := hw1.symm)
    | (go_at_call 18; refine (commit_nil _).mono ?_; rintro e w1 ⟨rfl, hw1⟩; obtain rfl := hw1.symm)
    | (go_at_call 30; refine (checkpoint_nil _ _).mono ?_; rintro e w1 ⟨rfl, hw1⟩; obtain rfl := hw1.symm))
  have hrow := ones_cell W
  have hB := Below.new1 W onesO
  have HG : ∃ g, W.heap.size = g := ⟨_, rfl⟩
  obtain ⟨g, hg⟩ := HG
  rw [hg] at hrow ⊢
  generalize hw0 : W.alloc _ = w0 at *
  have HB := Lib.hid hB
  have HR := Lib.hid hrow
  clear hB hrow hg hw0
  go_loopw [15, 54] (fun _ i w => ∃ k : Nat, k ≤ 10 ∧ i = .int .i64 k ∧ w = w0) (fun _ i _ => 10 - (intOf i).toNat)
  case atStart => exact ⟨0, by decide, rfl, rfl⟩
  case round =>
    obtain ⟨k, hk, rfl, rfl⟩ := hrel
    by_cases hlt : k < 10
    · have k1 : (k : Int) < 10 := by omega
      have k0 : 0 ≤ (k : Int) := by omega
      have g0 := HR.out k hlt
      go_wp2_with (fail)
      exact ⟨⟨k + 1, by omega, by go_num, trivial⟩, by simp [intOf]; omega⟩
    · obtain rfl : k = 10 := by omega
      go_wp2_with (first
        | (go_at_call 41; refine (dblocks_nil _).mono ?_; rintro e w1 ⟨rfl, hw1⟩; obtain rfl := hw1.symm)
        | (go_at_call 42; refine (doff_nil _).mono ?_; rintro e w1 ⟨rfl, hw1⟩; obtain rfl := hw1.symm)
        | (go_at_call 20; refine (dclone_nil _).mono ?_; rintro e w1 ⟨rfl, hw1⟩; obtain rfl := hw1.symm)
        | (go_at_call 31; refine (jstate_nil _).mono ?_; rintro e w1 ⟨rfl, hw1⟩; obtain rfl := hw1.symm)
        | (go_at_call 15; refine (jrecords_nil _).mono ?_; rintro e w1 ⟨rfl, hw1⟩; obtain rfl := hw1.symm)
        | (go_at_call 19; refine (jdurable_nil _).mono ?_; rintro e w1 ⟨rfl, hw1⟩; obtain rfl := hw1.symm)
        | (go_at_call 13; refine (jroom_nil _).mono ?_; rintro e w1 ⟨rfl, hw1⟩; obtain rfl := hw1.symm)
        | (go_at_call 12; refine (HA.out _).mono ?_; rintro e w2 ⟨rfl, b2⟩))
      go_ret
      exact ⟨rfl, HB.out.trans (b2.mono HB.out.size)⟩
end Go.Proofs.Ytkljfampkkfgdaa
