/- The journal layer: the walks over fresh, and over what the reference reckons. -/
import Derived.Test.YtkljfampkkfgdaaJAwake
import Derived.Test.YtkljfampkkfgdaaJLawF
namespace Go.Proofs.Ytkljfampkkfgdaa
open Go.RowKit
/-- All blocks that are there. -/
abbrev Old (W : World) : Nat → Prop := fun i => i < W.heap.size
theorem fresh_bad (W : World) (n : Int) (h : n < 8 ∨ 200 < n) : Calls Try.prog 11 #[.int .i64 n] W fun e w' => e = .returned (.tuple #[.pointer none, .pointer none, .bool false]) ∧ w' = W := by
  by_cases h1 : n < 8
  · clear h
    go_enter Try.func11, Try.ntmps11
    go_wp2_with (fail)
    go_ret3
    exact ⟨rfl, rfl⟩
  · have h2 : n > 200 := by omega
    clear h
    go_enter Try.func11, Try.ntmps11
    go_wp2_with (fail)
    go_ret3
    exact ⟨rfl, rfl⟩
set_option maxRecDepth 100000 in
set_option maxHeartbeats 1000000 in
theorem fresh_any (W : World) (N : Nat) (h8 : 8 ≤ N) (h2 : N ≤ 200) {D1 D2 : Dk} {J : Jn} (a1 : formatM (newM N) = (0, D1)) (a2 : openM D1 = (0, D2, some J)) (b0 : Bd (newM N)) (b1 : Bd D1) :
    Calls Try.prog 11 #[.int .i64 N] W fun e w' => ∃ dk jb, e = .returned (.tuple #[.pointer (some ⟨dk, 0, none⟩), .pointer (some ⟨jb, 0, none⟩), .bool true]) ∧ Kp (Old W) W w' ∧ JD (Old W) w' dk jb D2 J := by
  have n1 := dnew_dd W (Old W) (fun i hi => hi) N h8 (by omega)
  have f1 := fun w dk (h : DD (Old W) w dk (newM N)) => a1 ▸ format_dd h b0
  have o1 := fun w dk (h : DD (Old W) w dk D1) => a2 ▸ open_dd h b1
  simp only [OpenD] at f1 o1
  have N1 := Lib.hid n1
  have F1 := Lib.hid f1
  have O1 := Lib.hid o1
  have t1 : ¬ (N : Int) < 8 := by omega
  have t2 : ¬ (N : Int) > 200 := by omega
  clear n1 f1 o1 a1 a2 b0 b1
  go_enter Try.func11, Try.ntmps11
  go_wp2_with (first
    | (go_at_call 24; refine N1.out.mono ?_; rintro x w1 ⟨dk, rfl, b1, d1⟩)
    | (go_at_call 23; refine (F1.out _ _ d1).mono ?_; rintro x w2 ⟨rfl, d2, k2⟩)
    | (go_at_call 21; refine (O1.out _ _ d2).mono ?_; rintro x w3 ⟨k3, d3, jb, rfl, j3⟩))
  go_ret3
  exact ⟨dk, jb, rfl, ((Kp.of b1).trans k2).trans k3, j3⟩
theorem total_any (W : World) (N : Nat) (hN : 2 ≤ N) (h2 : N ≤ 5000) : Calls Try.prog 14 #[.int .i64 N] W fun e w' => e = .returned (.int .i64 (capM N : Nat)) ∧ w' = W := by
  have hx : ((capM N : Nat) : Int) = ((N : Int) - 2) / 2 := by unfold capM; omega
  have HX := Lib.hid hx
  clear hx
  go_enter Try.func14, Try.ntmps14
  go_wp2_with (fail)
  go_ret
  exact ⟨by rw [HX.out]; rfl, rfl⟩
theorem runits_any (W : World) (n : Nat) (hn : n ≤ 1000000) : Calls Try.prog 17 #[.int .i64 n] W fun e w' => e = .returned (.int .i64 (unitsM n : Nat)) ∧ w' = W := by
  have hx : ((unitsM n : Nat) : Int) = max 1 (((n : Int) + 40 - 1) / 40) := by unfold unitsM; omega
  have HX := Lib.hid hx
  clear hx
  go_enter Try.func17, Try.ntmps17
  go_wp2_with (fail)
  all_goals
    go_ret
    refine ⟨?_, rfl⟩
    refine congrArg (fun y => Ending.returned (Value.int .i64 y)) (?_ : _ = ((unitsM n : Nat) : Int))
    rw [HX.out]
    omega
end Go.Proofs.Ytkljfampkkfgdaa
