/- The journal layer: the reference's disk in memory; the walk over Padded. -/
import Derived.Test.YtkljfampkkfgdaaJNew
import Derived.Test.YtkljfampkkfgdaaJActs
import Derived.Deep.DeepCutAuto
import Derived.Deep.CutRange
namespace Go.Proofs.Ytkljfampkkfgdaa
open Go.RowKit
theorem zero64_cells : madeCells (Value.int .u8 0).cells 64 = ints .u8 (List.replicate 64 0) := by kernel_rfl
theorem make_bytes (W : World) : (Instr.makeSlice 119 (.int .i64 64) (.int .i64 64)).run Try.prog W = .ok (.slice (some ⟨W.heap.size, 0, none⟩) 64 64) (W.alloc (.cells (ints .u8 (List.replicate 64 0)) 5)) := by
  obtain ⟨i0, hi, hz0, hz1, hz2⟩ := info_parts infoU8
  have h := run_make (P := Try.prog) W 119 5 i0 (.int .u8 0) (by kernel_rfl) hi hz0 .i64 .i64 64 64 (by omega) (by omega) (by rw [hz2]; decide) (by decide)
  rw [h, hz1, ← zero64_cells]
  rfl
theorem nums_padR {s : Bs} {k : Nat} (hk : k < s.length) (hs : s.length ≤ 64) : (nums (padB (s.take k))).set k (s[k].toNat : Int) = nums (padB (s.take (k + 1))) := by
  apply List.ext_getElem
  · simp only [List.length_set, nums_length]
    rw [padB_length (by rw [List.length_take]; omega), padB_length (by rw [List.length_take]; omega)]
  · intro i h1 h2
    simp only [List.length_set, nums_length] at h1
    rw [padB_length (by rw [List.length_take]; omega)] at h1
    rw [List.getElem_set]
    simp only [nums, padB, List.getElem_map, List.getElem_append, List.length_take]
    by_cases e : k = i
    · subst e
      rw [if_pos rfl, dif_pos (by omega)]
      simp
    · rw [if_neg e]
      by_cases h3 : i < k
      · rw [dif_pos (by omega), dif_pos (by omega)]
        simp
      · rw [dif_neg (by omega), dif_neg (by omega)]
        simp
set_option maxRecDepth 100000 in
set_option maxHeartbeats 1000000 in
theorem padded_any (W : World) (s : Bs) (hs : s.length ≤ 64) : Calls Try.prog 59 #[.string ⟨s.toArray⟩] W fun e w' => e = .returned (.string ⟨(padB s).toArray⟩) ∧ Below W.heap.size W w' := by
  have mk := make_bytes W
  have HS := Lib.hid hs
  obtain ⟨n, hn⟩ : ∃ n, s.length = n := ⟨_, rfl⟩
  have HN := Lib.hid hn
  clear hs hn
  generalize hcs : ints .u8 (List.replicate 64 0) = cs at *
  go_enter Try.func59, Try.ntmps59
  go_wp2_with (fail)
  have hx : BoxA (W.alloc (.cells cs 5)) W.heap.size 5 .u8 (nums (padB (s.take 0))) := by
    refine BoxA.new W _ _ _ _ ?_
    rw [← hcs]
    rfl
  have HX := Lib.hid hx
  have HB := Lib.hid (Below.new1 W (.cells cs 5))
  clear hx hcs mk
  generalize W.alloc (.cells cs 5) = w1 at *
  go_loopw [4] (fun i w => ∃ k : Nat, k ≤ n ∧ i = .int .i64 k ∧ BoxA w W.heap.size 5 .u8 (nums (padB (s.take k))) ∧ Below W.heap.size W w) (fun i _ => n - (intOf i).toNat)
  case atStart => exact ⟨0, Nat.zero_le _, rfl, HX.out, HB.out⟩
  case round =>
    obtain ⟨k, hk, rfl, hx, hb⟩ := hrel
    by_cases hlt : k < n
    · have k1 : (k : Int) < (n : Nat) := by omega
      have k0 : 0 ≤ (k : Int) := by omega
      have h64 : n ≤ 64 := by have := HS.out; have := HN.out; omega
      have k2 : (k : Int) < 64 := by omega
      have k3 : k < 64 := by omega
      have hl : k < s.length := by have := HN.out; omega
      have ix := fun W => bs_index (P := Try.prog) s W 9 (by kernel_rfl) .i64 (k : Int) k rfl hl
      have eb : byt s k = ((s[k].toNat : Nat) : Int) := by unfold byt; rw [List.getD_eq_getElem?_getD, List.getElem?_eq_getElem hl]; rfl
      rw [eb] at ix
      have hns := nums_padR hl HS.out
      have hx2 := hx.set k (s[k].toNat : Int)
      rw [hns] at hx2
      have hlen : (padB (s.take k)).length = 64 := padB_length (by rw [List.length_take]; omega)
      have c0 := hx.cellD (i := k) (by rw [nums_length, hlen]; omega)
      have f0 := hx.frozen k
      have hb2 := hb.setCell (p := ⟨W.heap.size, k, none⟩) (Nat.le_refl _) (.int .u8 (s[k].toNat : Int))
      have HX2 := Lib.hid hx2
      have HB2 := Lib.hid hb2
      have HMS := Lib.hid (show k + 1 ≤ n ∧ n - (k + 1) < n - k from by omega)
      generalize (nums (padB (s.take k))).getD k 0 = z at *
      generalize s[k].toNat = y at *
      clear hx hb eb hns hx2 hlen hb2 h64
      go_wp2_with (fail)
      exact ⟨⟨k + 1, HMS.out.1, by go_num, HX2.out, HB2.out⟩, by have := HMS.out.2; simp [intOf]; omega⟩
    · have k1 : ¬ (k : Int) < (n : Nat) := by omega
      have hl : ¬ k < s.length := by have := HN.out; omega
      have e1 : s.take k = s := List.take_of_length_le (by have := HN.out; omega)
      rw [e1] at hx
      have hlen : (padB s).length = 64 := padB_length HS.out
      have cv := bytes_back (padB s) wr W.heap.size 64 119 9 5 (by kernel_rfl) (by kernel_rfl) (by kernel_rfl) (fun j hj => by
        have := hx.cell (i := j) (by rw [nums_length]; exact hj)
        rw [this]; simp [nums]) 64 hlen.symm
      have HB := Lib.hid hb
      clear hx hb e1 hlen
      go_wp2_with (fail)
      go_ret
      exact ⟨rfl, HB.out⟩
end Go.Proofs.Ytkljfampkkfgdaa
