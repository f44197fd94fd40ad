/- The walk over short. -/
import Derived.Test.YtcocengpekndjaaDoorPrRows
namespace Go.Proofs.YtcocengpekndjaaDoor
open Go.RowKit
/-- What short has added up after k strings. -/
def shK (l : List Bs) (k : Nat) : Nat := ((l.take k).map fun s => min s.length 5000).sum
theorem shK_zero (l : List Bs) : shK l 0 = 0 := by simp [shK]
theorem shK_succ {l : List Bs} {k : Nat} (h : k < l.length) : shK l (k + 1) = shK l k + min l[k].length 5000 := by
  unfold shK
  rw [List.take_succ_eq_append_getElem h, List.map_append, List.sum_append]
  simp
theorem shK_le (l : List Bs) : ∀ k, shK l k ≤ 5000 * k := by
  intro k
  induction k with
  | zero => rw [shK_zero]; omega
  | succ k ih =>
    by_cases h : k < l.length
    · rw [shK_succ h]; omega
    · have : shK l (k + 1) = shK l k := by unfold shK; rw [List.take_of_length_le (by omega), List.take_of_length_le (by omega)]
      omega
theorem le_sum (l : List Nat) : ∀ x ∈ l, x ≤ l.sum := by
  induction l with
  | nil => nofun
  | cons y l ih =>
    intro x hx
    rw [List.sum_cons]
    rcases List.mem_cons.1 hx with rfl | hx
    · omega
    · have := ih x hx; omega
/-- What short returns. -/
def shortB (l : List Bs) : Bool := decide ((l.length ≤ 40 ∧ shK l (min l.length 5000) ≤ 4000) ∨ (l.length = 4097 ∧ shK l (min l.length 5000) = 0))
theorem shortB_len {l : List Bs} (h : shortB l = true) : (l.length ≤ 40 ∧ ∀ s ∈ l, s.length ≤ 4000) ∨ l.length = 4097 := by
  rcases of_decide_eq_true h with ⟨h1, h2⟩ | ⟨h1, _⟩
  · refine .inl ⟨h1, fun s hs => ?_⟩
    rw [Nat.min_eq_left (by omega)] at h2
    unfold shK at h2
    rw [List.take_of_length_le (Nat.le_refl _)] at h2
    have := le_sum _ _ (List.mem_map_of_mem (f := fun s : Bs => min s.length 5000) hs)
    omega
  · exact .inr h1
set_option maxRecDepth 100000 in
set_option maxHeartbeats 4000000 in
theorem short_any (L : List Bs) (A : Option Addr) (n c : Nat) (w : World) (hn : L.length = n) (hL : Strs w A L) :
    Calls Tryd.prog 30 #[.slice A n c] w fun e w' => e = .returned (.bool (shortB L)) ∧ Below w.heap.size w w' := by
  have hsb : shortB L = decide ((n ≤ 40 ∧ shK L (min n 5000) ≤ 4000) ∨ (n = 4097 ∧ shK L (min n 5000) = 0)) := by unfold shortB; rw [hn]
  rw [hsb]
  obtain ⟨b, hb⟩ : ∃ b, decide ((n ≤ 40 ∧ shK L (min n 5000) ≤ 4000) ∨ (n = 4097 ∧ shK L (min n 5000) = 0)) = b := ⟨_, rfl⟩
  rw [hb]
  have HB := Lib.hid hb
  have HN := Lib.hid hn
  clear hn hsb hb
  go_enter Tryd.func30, Tryd.ntmps30
  go_wp2_with (fail)
  go_loopw [3, 4] (fun s i W => ∃ k : Nat, k ≤ n ∧ k ≤ 5000 ∧ i = .int .i64 k ∧ s = .int .i64 (shK L k : Nat) ∧ Below w.heap.size w W) (fun _ i _ => n - (intOf i).toNat)
  case atStart => exact ⟨0, Nat.zero_le _, Nat.zero_le _, rfl, by rw [shK_zero]; rfl, Below.refl _ _⟩
  case round =>
    obtain ⟨k, hkn, hk5, rfl, rfl, hB⟩ := hrel
    have hle := shK_le L k
    by_cases hlt : k < n ∧ k < 5000
    · obtain ⟨hl1, hl2⟩ := hlt
      have hkL : k < L.length := by have := HN.out; omega
      obtain ⟨a, rfl⟩ : ∃ a, A = some a := by
        rcases hL with e | ⟨a, e, _⟩
        · rw [e] at hkL; cases hkL
        · exact ⟨a, e⟩
      have g0 : wr.cell? (a.add k) = some (.string ⟨L[k].toArray⟩) := (hL.next hB).cell hkL
      have hsu := shK_succ hkL
      generalize L[k] = X at *
      have hsz := bs_size X
      generalize hNn : shK L k = N at *
      have k0 : (0 : Int) ≤ (k : Int) := by omega
      have k1 : (k : Int) < (n : Int) := by omega
      have k2 : (k : Int) < 5000 := by omega
      have HS := Lib.hid hsu
      clear hsu hNn
      by_cases hm : X.length ≤ 5000
      · have hw : IntKind.i64.wrap ((N : Int) + (X.length : Int)) = N + X.length := IntWalk.i64_in _ (by omega)
        have hm1 : min (X.length : Int) 5000 = X.length := by omega
        go_wp2_with (fail)
        all_goals exact ⟨⟨k + 1, by omega, by omega, by go_num, by rw [HS.out, Nat.min_eq_left hm]; go_num, hB⟩, by simp [intOf]; omega⟩
      · have hw : IntKind.i64.wrap ((N : Int) + 5000) = N + 5000 := IntWalk.i64_in _ (by omega)
        have hm1 : min (X.length : Int) 5000 = 5000 := by omega
        go_wp2_with (fail)
        all_goals exact ⟨⟨k + 1, by omega, by omega, by go_num, by rw [HS.out, Nat.min_eq_right (by omega)]; go_num, hB⟩, by simp [intOf]; omega⟩
    · have hk : k = min n 5000 := by omega
      have hb := HB.out
      clear HB
      rw [← hk] at hb
      generalize shK L k = N at *
      have hx : (k : Int) < n → ¬ (k : Int) < 5000 := by omega
      have k1 : ¬ (k : Int) < n ∨ ((k : Int) < n ∧ ¬ (k : Int) < 5000) := by omega
      have c : ((n : Int) ≤ 40 ∧ (N : Int) ≤ 4000) ∨ ((n : Int) ≤ 40 ∧ ¬ (N : Int) ≤ 4000 ∧ ((n : Int) == 4097) = false) ∨ (¬ (n : Int) ≤ 40 ∧ ((n : Int) == 4097) = true ∧ ((N : Int) == 0) = true) ∨ (¬ (n : Int) ≤ 40 ∧ ((n : Int) == 4097) = true ∧ ((N : Int) == 0) = false) ∨ (¬ (n : Int) ≤ 40 ∧ ((n : Int) == 4097) = false) := by
        simp only [beq_iff_eq, beq_eq_false_iff_ne, ne_eq]; omega
      have HK := Lib.hid hk
      clear hx hk hlt
      rcases k1 with k1 | ⟨k1, k2⟩
      all_goals
        rcases c with ⟨c1, c2⟩ | ⟨c1, c2, c3⟩ | ⟨c1, c3, c2⟩ | ⟨c1, c3, c2⟩ | ⟨c1, c3⟩
        · obtain rfl : b = true := by rw [← hb]; exact decide_eq_true (by omega)
          clear hb
          go_wp2_with (fail)
          go_ret
          exact ⟨rfl, hB⟩
        · obtain rfl : b = false := by rw [← hb]; simp only [beq_eq_false_iff_ne, ne_eq] at c3; exact decide_eq_false (by omega)
          clear hb
          go_wp2_with (fail)
          go_ret
          exact ⟨rfl, hB⟩
        · obtain rfl : b = true := by rw [← hb]; simp only [beq_iff_eq] at c2 c3; exact decide_eq_true (by omega)
          clear hb
          go_wp2_with (fail)
          go_ret
          exact ⟨rfl, hB⟩
        · obtain rfl : b = false := by rw [← hb]; simp only [beq_iff_eq, beq_eq_false_iff_ne, ne_eq] at c2 c3; exact decide_eq_false (by omega)
          clear hb
          go_wp2_with (fail)
          go_ret
          exact ⟨rfl, hB⟩
        · obtain rfl : b = false := by rw [← hb]; simp only [beq_eq_false_iff_ne, ne_eq] at c3; exact decide_eq_false (by omega)
          clear hb
          go_wp2_with (fail)
          go_ret
          exact ⟨rfl, hB⟩
end Go.Proofs.YtcocengpekndjaaDoor
