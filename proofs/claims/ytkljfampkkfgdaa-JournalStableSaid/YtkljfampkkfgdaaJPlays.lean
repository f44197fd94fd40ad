/- JournalPlays answers true: the walks over begun, few and the law. -/
import Derived.Test.YtkljfampkkfgdaaJSameW
import Derived.Test.YtkljfampkkfgdaaJActs
namespace Go.Proofs.Ytkljfampkkfgdaa
open Go.RowKit
/-- What few answers: whether there are few calls, at least. -/
def FewP (n : Nat) (e : Ending) : Prop := ∃ b, e = .returned (.bool b) ∧ (b = true → n ≤ 60)
def wd0 (N : Nat) : Wd := { D := newM N, J := none, m := noneM, fused := false, has := false, broken := false, st := [], recs := [], sure := 0 }
section
set_option maxRecDepth 100000 in
set_option maxHeartbeats 1000000 in
theorem begun_bad (W : World) (n : Int) (h : n < 8 ∨ 200 < n) : Calls Try.prog 34 #[.int .i64 n] W fun e w' => e = .returned (.tuple #[.pointer none, .bool false]) ∧ w' = W := by
  by_cases h1 : n < 8
  · clear h
    go_enter Try.func34, Try.ntmps34
    go_wp2_with (fail)
    go_ret2
    exact ⟨rfl, rfl⟩
  · have h2 : n > 200 := by omega
    clear h
    go_enter Try.func34, Try.ntmps34
    go_wp2_with (fail)
    go_ret2
    exact ⟨rfl, rfl⟩
set_option maxRecDepth 100000 in
set_option maxHeartbeats 1000000 in
theorem begun_any (W : World) (N : Nat) (h8 : 8 ≤ N) (h2 : N ≤ 200) : Calls Try.prog 34 #[.int .i64 N] W fun e w' => ∃ wb, e = .returned (.tuple #[.pointer (some ⟨wb, 0, none⟩), .bool true]) ∧ WdAt W w' wb (wd0 N) := by
  have n1 := dnew_dd W (Old W) (fun i hi => hi) N h8 (by omega)
  have N1 := Lib.hid n1
  have t1 : ¬ (N : Int) < 8 := by omega
  have t2 : ¬ (N : Int) > 200 := by omega
  clear n1
  go_enter Try.func34, Try.ntmps34
  go_wp2_with (go_at_call 24; refine N1.out.mono ?_; rintro x w1 ⟨dk, rfl, b1, d1⟩)
  go_ret2
  obtain ⟨d2, F, d3, d4⟩ := d1
  have b2 := Below.new1 w1 (.cells #[.pointer (some ⟨dk, 0, none⟩), .pointer none, .string ⟨#[]⟩, .slice none 0 0, .slice none 0 0, .bool false, .bool false, .bool false, .string ⟨#[]⟩, .bool false, .bool false, .bool false, .string ⟨#[]⟩, .slice none 0 0, .int .i64 0] 76)
  refine ⟨w1.heap.size, rfl, fun i => Old W i ∨ i = w1.heap.size, dk, .pointer none, .slice none 0 0, .slice none 0 0, .slice none 0 0, ⟨heap_alloc_new w1 _, RowK.nil _ _, RowK.nil _ _, RowK.nil _ _, .inr rfl, rfl, fun i hi => ?_, F, d3.next b2, fun i hi hk => ?_⟩, fun i hi => .inl hi, b1.size, Kp.of (Below.next b1 b2)⟩
  · rw [World.size_alloc]
    rcases hi with hi | hi
    · have := d2 i hi; omega
    · omega
  · rcases hk with hk | hk
    · exact d4 i hi hk
    · have := d3.lt i hi; omega
set_option maxRecDepth 100000 in
set_option maxHeartbeats 1000000 in
theorem few_any (W : World) (A : Option Addr) (L : List Ac) (n c : Nat) (hn : L.length = n) (hA : Acts W A L) : Calls Try.prog 35 #[.slice A n c] W fun e w' => w' = W ∧ FewP n e := by
  have HN := Lib.hid hn
  have HA := Lib.hid hA
  clear hn hA
  go_enter Try.func35, Try.ntmps35
  go_wp2_with (fail)
  go_loopw [3, 4] (fun s i w => ∃ k z : Nat, k ≤ n ∧ k ≤ 60 ∧ z ≤ 70000 * k ∧ i = .int .i64 k ∧ s = .int .i64 z ∧ w = W) (fun _ i _ => n - (intOf i).toNat)
  case atStart => exact ⟨0, 0, Nat.zero_le _, by omega, by omega, rfl, rfl, rfl⟩
  case round =>
    obtain ⟨k, z, hk, hk6, hz, rfl, rfl, rfl⟩ := hrel
    by_cases hlt : k < n
    · have k1 : (k : Int) < (n : Nat) := by omega
      by_cases h60 : k < 60
      · have k3 : (k : Int) < 60 := by omega
        have k0 : 0 ≤ (k : Int) := by omega
        have k2 : k < n := hlt
        have hl : k < L.length := by have := HN.out; omega
        obtain ⟨a, rfl⟩ := HA.out.some_ hl
        obtain ⟨-, ⟨-, g1, -, -⟩, -⟩ := HA.out.at_ hl
        have HMS := Lib.hid (show k + 1 ≤ n ∧ k + 1 ≤ 60 ∧ n - (k + 1) < n - k from by omega)
        generalize L[k] = X at *
        clear hl
        by_cases ht : (X.T.length : Int) < 70000
        · have m1 : IntKind.i64.wrap ((z : Int) + (X.T.length : Int)) = ((z + X.T.length : Nat) : Int) := by rw [IntWalk.i64_in _ (by omega)]; omega
          go_wp2_with (fail)
          exact ⟨⟨k + 1, z + X.T.length, HMS.out.1, HMS.out.2.1, by omega, by go_num, by go_num, trivial⟩, by have := HMS.out.2.2; simp [intOf]; omega⟩
        · have m1 : IntKind.i64.wrap ((z : Int) + 70000) = ((z + 70000 : Nat) : Int) := by rw [IntWalk.i64_in _ (by omega)]; omega
          go_wp2_with (fail)
          exact ⟨⟨k + 1, z + 70000, HMS.out.1, HMS.out.2.1, by omega, by go_num, by go_num, trivial⟩, by have := HMS.out.2.2; simp [intOf]; omega⟩
      · have k3 : ¬ (k : Int) < 60 := by omega
        have k4 : ¬ (n : Int) ≤ 60 := by omega
        go_wp2_with (fail)
        go_ret
        exact ⟨rfl, false, rfl, fun h => by cases h⟩
    · have k1 : ¬ (k : Int) < (n : Nat) := by omega
      have k4 : (n : Int) ≤ 60 := by omega
      have HE := Lib.hid (show n ≤ 60 from by omega)
      go_wp2_with (fail)
      go_ret
      exact ⟨rfl, _, rfl, fun _ => HE.out⟩
set_option maxRecDepth 100000 in
set_option maxHeartbeats 2000000 in
theorem plays_any (W : World) (z0 : Int) (A : Option Addr) (c : Nat) (L : List Ac) (hA : Acts W A L) :
    Calls Try.prog 8 #[.int .i64 z0, .slice A L.length c] W fun e w' => e = .returned (.bool true) ∧ Below W.heap.size W w' := by
  obtain ⟨n, hn⟩ : ∃ n, L.length = n := ⟨_, rfl⟩
  rw [hn]
  have hfe := fun w (b : Below W.heap.size W w) => few_any w A L n c hn (hA.next b)
  have HFE := Lib.hid hfe
  have HAW := Lib.hid awake_any
  have HN := Lib.hid hn
  have HA := Lib.hid hA
  clear hfe hn hA
  by_cases hb : z0 < 8 ∨ 200 < z0
  · have HBG := Lib.hid (begun_bad W z0 hb)
    clear hb
    go_enter Try.func8, Try.ntmps8
    go_upto_region 2 with (go_at_call 34; refine HBG.out.mono ?_; rintro x w1 ⟨rfl, hw1⟩; obtain rfl := hw1.symm)
    go_wp2_with (first
      | (go_at_call 35; refine (HFE.out _ (Below.refl _ _)).mono ?_; rintro x w2 ⟨hw2, b, rfl, -⟩; obtain rfl := hw2.symm; cases b)
      | (go_at_call 12; refine (HAW.out _).mono ?_; rintro x w3 ⟨rfl, b3⟩))
    all_goals
      go_ret
      exact ⟨rfl, b3⟩
  · obtain ⟨N, rfl⟩ : ∃ N : Nat, z0 = N := ⟨z0.toNat, by omega⟩
    have HBG := Lib.hid (begun_any W N (by omega) (by omega))
    have hws : WI N 0 (wd0 N) := ⟨new_ws (by omega) (by omega), fun _ => (by show (-1 : Int) < 0; decide), fun _ => ⟨rfl, rfl, rfl⟩, nofun, nofun, nofun, nofun, ⟨Nat.zero_le _, Nat.zero_le _⟩, rfl⟩
    have HWS := Lib.hid hws
    clear hb hws
    go_enter Try.func8, Try.ntmps8
    go_upto_region 2 with (go_at_call 34; refine HBG.out.mono ?_; rintro x w1 ⟨wb, rfl, h1⟩)
    have hB1 := h1.old
    have HFE1 := Lib.hid (HFE.out _ hB1)
    have H1 := Lib.hid h1
    have HB1 := Lib.hid hB1
    clear h1 hB1
    go_wp2_with (first
      | (go_at_call 35; refine HFE1.out.mono ?_; rintro x w2 ⟨hw2, b, rfl, hb60⟩; obtain rfl := hw2.symm; cases b)
      | (go_at_call 12; refine (HAW.out _).mono ?_; rintro x w3 ⟨rfl, b3⟩))
    · go_ret
      exact ⟨rfl, HB1.out.trans (b3.mono HB1.out.size)⟩
    · have h60 : n ≤ 60 := hb60 trivial
      clear hb60
      go_loopw [6, 7] (fun ok i w => ∃ (k : Nat) (X : Wd), k ≤ n ∧ i = .int .i64 k ∧ ok = .bool true ∧ WdAt W w wb X ∧ WI N (2 * k) X) (fun _ i _ => n - (intOf i).toNat)
      case atStart => exact ⟨0, _, Nat.zero_le _, rfl, rfl, H1.out, HWS.out⟩
      case round =>
        obtain ⟨k, X, hk, rfl, rfl, h3, hi⟩ := hrel
        by_cases hlt : k < n
        · have k1 : (k : Int) < (n : Nat) := by omega
          have k0 : 0 ≤ (k : Int) := by omega
          have k2 : k < n := hlt
          have hl : k < L.length := by have := HN.out; omega
          obtain ⟨a, rfl⟩ := HA.out.some_ hl
          obtain ⟨-, ⟨g0, g1, g2, g3⟩, ok⟩ := (HA.out.next h3.old).at_ hl
          have okw := (HA.out.at_ hl).2.2
          have hdo := do_any h3 hi (by omega) L[k].kd ok.kd L[k].T L[k].n ok.n L[k].A L[k].keep.length L[k].kc L[k].keep rfl okw.keep.ints okw.keep.nil (by have := okw.keep.few; omega)
          have HDO := Lib.hid hdo
          have HMS := Lib.hid (show k + 1 ≤ n ∧ n - (k + 1) < n - k from by omega)
          generalize L[k] = Y at *
          clear hl ok okw hdo h3 hi
          go_wp2_with (first
            | (go_at_call 36; refine HDO.out.mono ?_; rintro x w4 ⟨rfl, X', h4, hi4⟩)
            | (go_at_call 37; refine (same_w h4 hi4).mono ?_; rintro x w5 ⟨rfl, h5⟩))
          exact ⟨⟨k + 1, X', HMS.out.1, by go_num, rfl, h5, hi4⟩, by have := HMS.out.2; simp [intOf]; omega⟩
        · have k1 : ¬ (k : Int) < (n : Nat) := by omega
          have H3 := Lib.hid h3.old
          clear h3 hi
          go_wp2_with (go_at_call 12; refine (HAW.out _).mono ?_; rintro x w5 ⟨rfl, b5⟩)
          go_ret
          exact ⟨rfl, H3.out.trans (b5.mono H3.out.size)⟩
end
end Go.Proofs.Ytkljfampkkfgdaa
