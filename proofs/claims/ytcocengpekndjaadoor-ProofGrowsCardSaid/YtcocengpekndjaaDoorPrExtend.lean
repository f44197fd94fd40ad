/- The walk over Extend. -/
import Derived.Test.YtcocengpekndjaaDoorPrExtA
namespace Go.Proofs.YtcocengpekndjaaDoor
open Go.RowKit
set_option maxRecDepth 100000 in
set_option maxHeartbeats 4000000 in
theorem extend_bad (A : Option Addr) (n c : Nat) (m : Int) (w : World) (x : Int) (hx : (4096 < n ∧ x = 5) ∨ (n ≤ 4096 ∧ (m < 1 ∨ (n : Int) < m) ∧ x = 3)) : Calls Tryd.prog 51 #[.slice A n c, .int .i64 m] w fun e w' => e = .returned (.tuple #[.slice none 0 0, .int .i64 x]) ∧ Below w.heap.size w w' := by
  have hx' : ((4096 : Int) < n ∧ x = 5) ∨ (¬ (4096 : Int) < n ∧ m < 1 ∧ x = 3) ∨ (¬ (4096 : Int) < n ∧ ¬ m < 1 ∧ (n : Int) < m ∧ x = 3) := by omega
  clear hx
  rcases hx' with ⟨h, rfl⟩ | ⟨h, h1, rfl⟩ | ⟨h, h1, h2, rfl⟩
  all_goals
    go_enter Tryd.func51, Tryd.ntmps51
    go_wp2_with (fail)
    go_ret2
    exact ⟨rfl, Below.refl _ _⟩
set_option maxRecDepth 100000 in
set_option maxHeartbeats 4000000 in
theorem extend_any (L : List Bs) (A : Option Addr) (n c m : Nat) (w : World) (hn : L.length = n) (hL : Strs w A L) (hf : ∀ x ∈ L, x.length ≤ 90000) (h1 : n ≤ 4096) (hm : 1 ≤ m) (hmn : m ≤ n) (hk : Kon w) :
    Calls Tryd.prog 51 #[.slice A n c, .int .i64 m] w fun e w' => ∃ v, e = .returned (.tuple #[v, .int .i64 0]) ∧ OwnHs w' w.heap.size v (extendM sha (L.map (leafM sha)) m true) ∧ Below w.heap.size w w' := by
  have h' : ¬ (4096 : Int) < n := by omega
  have h2 : ¬ (m : Int) < 1 := by omega
  have h3 : ¬ (n : Int) < m := by omega
  have HLv := Lib.hid (leaves_any L A n c w hn hL hf (by omega) hk)
  have hlen : (L.map (leafM sha)).length = n := by rw [List.length_map, hn]
  generalize L.map (leafM sha) = LV at *
  have HEX := Lib.hid (fun A1 c1 W hc (h : Hs W A1 LV) kon => ext_any LV m true A1 n c1 W hlen hm hmn (by omega) hc h kon)
  have HLN := Lib.hid hlen
  have HK := Lib.hid hk
  clear hL hf hn hlen hk hm hmn
  go_enter Tryd.func51, Tryd.ntmps51
  go_wp2_with (first
    | (go_at_call 77; refine HLv.out.mono ?_; rintro e w6 ⟨v, rfl, hO6, b6⟩; obtain ⟨A6, c6, rfl, hc6, hs6⟩ := hO6.toHs; rw [HLN.out] at hc6 ⊢)
    | (go_at_call 84; refine (HEX.out A6 c6 _ hc6 hs6 (HK.out.next b6)).mono ?_; rintro e w8 ⟨v, rfl, hO8, b8⟩))
  go_ret2
  have s6 := b6.size
  exact ⟨_, rfl, hO8.mono (by omega), Below.on b6 b8⟩
end Go.Proofs.YtcocengpekndjaaDoor
