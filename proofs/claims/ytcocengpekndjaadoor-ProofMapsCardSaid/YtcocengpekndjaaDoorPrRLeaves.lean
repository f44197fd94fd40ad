/- The walk over Leaves. -/
import Derived.Test.YtcocengpekndjaaDoorPrRows
import Derived.Test.YtcocengpekndjaaDoorPrLeaf
import Derived.Test.YtcocengpekndjaaDoorPrRVer
namespace Go.Proofs.YtcocengpekndjaaDoor
open Go.RowKit
set_option maxRecDepth 100000 in
set_option maxHeartbeats 4000000 in
theorem rleaves_any (L : List Rn) (A : Option Addr) (n c : Nat) (w : World) (hn : L.length = n) (hL : Runs w A L) (hf : ∀ x ∈ L, Fit x) (h1 : n ≤ 100000) :
    Calls Tryd.prog 49 #[.slice A n c] w fun e w' => ∃ v, e = .returned v ∧ OwnStrs w' w.heap.size v (L.map textM) ∧ Below w.heap.size w w' := by
  have HN := Lib.hid hn
  have HF := Lib.hid hf
  clear hn hf
  go_enter Tryd.func49, Tryd.ntmps49
  go_wp2_with (fail)
  go_loopw [3, 4] (fun v i W => ∃ k : Nat, k ≤ n ∧ i = .int .i64 k ∧ OwnStrs W w.heap.size v ((L.take k).map textM) ∧ Below w.heap.size w W) (fun _ i _ => n - (intOf i).toNat)
  case atStart => exact ⟨0, Nat.zero_le _, rfl, OwnStrs.none _ _, Below.refl _ _⟩
  case round =>
    obtain ⟨k, hkn, rfl, hO, hB⟩ := hrel
    by_cases hlt : k < n
    · have hkL : k < L.length := by have := HN.out; omega
      obtain ⟨a, rfl⟩ : ∃ a, A = some a := by
        rcases hL with e | ⟨a, e, _⟩
        · rw [e] at hkL; cases hkL
        · exact ⟨a, e⟩
      obtain ⟨hab, g0, g1, g2⟩ := (hL.below hB).at_ hkL
      have hx := HF.out _ (List.getElem_mem hkL)
      have ht : (L.take (k + 1)).map textM = (L.take k).map textM ++ [textM L[k]] := by rw [List.take_succ_eq_append_getElem hkL, List.map_append]; rfl
      have hl : ((L.take k).map textM).length = k := by rw [List.length_map, List.length_take]; omega
      generalize (L.take k).map textM = H at *
      generalize L[k] = X at *
      have hlf := fun W => rleaf_any X W hx.1 hx.2.1 hx.2.2.1 hx.2.2.2.1 hx.2.2.2.2.1 hx.2.2.2.2.2
      unfold encR at hlf
      generalize textM X = x at *
      have HT := Lib.hid ht
      have HL := Lib.hid hl
      have HLF := Lib.hid hlf
      have HO := Lib.hid hO
      have hO1 := HO.out
      have k0 : (0 : Int) ≤ (k : Int) := by omega
      have k1 : (k : Int) < (n : Int) := by omega
      clear hx ht hl hlf hO
      go_wp2_with (first
        | (go_at_call 43; refine (HLF.out _).mono ?_; rintro e W3 ⟨rfl, b3⟩; have B3 := Below.on hB b3; clear g0 g1 g2)
        | (at_builtin; refine wpList_append_strs rfl (.tmp 11) (.tmp 17) rfl w.heap.size _ H [x] (some ⟨W3.heap.size, 0, none⟩) 1 1 rfl rfl rfl ((hO1.next b3).next (Below.new1 W3 _)) (strs_one W3 x) (.inl ⟨_, rfl⟩) (by rw [HL.out]; omega) (by simp) (by have := B3.size; rw [World.size_alloc]; omega) ?_; intro v' W4 hO4 b4; have B4 := (Below.on B3 (Below.new1 W3 (.cells #[.string ⟨x.toArray⟩] 9))).trans b4; rw [← HT.out] at hO4))
      exact ⟨⟨k + 1, by omega, by go_num, hO4, B4⟩, by simp [intOf]; omega⟩
    · obtain rfl : k = n := by omega
      rw [List.take_of_length_le (by have := HN.out; omega)] at hO
      go_wp2_with (fail)
      go_ret
      exact ⟨_, rfl, hO, hB⟩
end Go.Proofs.YtcocengpekndjaaDoor
