/- The walk over Of of the reference: the runs of a list of tags. -/
import Derived.Test.YtcocengpekndjaaDoorPrJoin
import Derived.Test.YtcocengpekndjaaDoorPrTags
namespace Go.Proofs.YtcocengpekndjaaDoor
open Go.RowKit
theorem OwnRuns.grown {w w' : World} {base : Nat} {v : Value} {L : List Rn} (h : OwnRuns w base v L) (hg : w.grownBy w' v.ownBlock) (hb : base ≤ w.heap.size) : Below base w w' where
  os := hg.os
  tape := hg.tape
  output := hg.output
  size := hg.size
  block i hi := hg.block i (by omega) (fun e => by have := (h.row_ge i e.symm).1; omega)
def OfPost (w : World) (ts : List UInt8) (e : Ending) (w' : World) : Prop :=
  ∃ A c, e = .returned (.agg #[.int .i64 (ts.length : Int), .slice A (ofR ts).length c]) ∧ OwnRuns w' w.heap.size (.slice A (ofR ts).length c) (ofR ts) ∧ Below w.heap.size w w'
theorem ofR_take {ts : List UInt8} {k : Nat} (h : k < ts.length) : joinRn (ofR (ts.take k)) ⟨(k : Int), (k : Int) + 1, tagO ts[k]⟩ = ofR (ts.take (k + 1)) := by
  unfold joinRn
  rw [if_pos (by dsimp only; omega), List.take_succ_eq_append_getElem h, ofR_snoc, List.length_take, Nat.min_eq_left (by omega)]
set_option maxRecDepth 100000 in
set_option maxHeartbeats 2000000 in
theorem of_any (ts : List UInt8) (A : Option Addr) (n c : Nat) (w : World) (hn : ts.length = n) (h60 : n ≤ 60) (hT : Tags w A ts) :
    Calls Tryd.prog 82 #[.slice A n c] w (OfPost w ts) := by
  have HN := Lib.hid hn
  have HTS := Lib.hid (ofR_spec ts)
  clear hn
  go_enter Tryd.func82, Tryd.ntmps82
  go_wp2_with (fail)
  go_loopw [3, 4] (fun v i wr => ∃ k : Nat, k ≤ n ∧ i = .int .i64 k ∧ BoxM wr w.heap.size 0 (.slice none 0 0) ∧ OwnRuns wr (w.heap.size + 1) v (ofR (ts.take k)) ∧ Below w.heap.size w wr) (fun _ i _ => n - (intOf i).toNat)
  case atStart => exact ⟨0, Nat.zero_le _, rfl, BoxM.new w _ _, World.ownsRow_nil _ _ _ _, Below.new1 _ _⟩
  case round =>
    obtain ⟨k, hk, rfl, hM, hO, hB⟩ := hrel
    by_cases hlt : k < n
    · have hkL : k < ts.length := by have := HN.out; omega
      obtain ⟨a, rfl⟩ : ∃ a, A = some a := by
        rcases hT with hh | ⟨a, hh, _⟩
        · rw [hh] at hkL; simp at hkL
        · exact ⟨a, hh⟩
      have hcell := (hT.next hB).cell hkL
      have hl : (ofR (ts.take k)).length ≤ 1000000 := by
        have := (ofR_spec (ts.take k)).2.2.2.2.1
        rw [List.length_take] at this; omega
      have tr : (0 : Int) ≤ (ts[k].toNat : Int) ∧ (ts[k].toNat : Int) ≤ 255 := by have := ts[k].toNat_lt; omega
      have tg : tagO ts[k] = (ts[k].toNat : Int) % 16 := by unfold tagO; omega
      have hS : w.heap.size + 1 ≤ wr.heap.size := by have := hM.lt; omega
      have hj := rjoin_any wr (w.heap.size + 1) _ (ofR (ts.take k)) ⟨(k : Int), (k : Int) + 1, tagO ts[k]⟩ hO hS hl
      rw [ofR_take hkL, tg] at hj
      have HJ := Lib.hid hj
      have HO := Lib.hid hO
      have HS := Lib.hid hS
      obtain ⟨t0, t1⟩ := tr
      generalize (ts[k].toNat : Int) = t at *
      clear hj tg hl hO hS
      have k0 : (0 : Int) ≤ (k : Int) := by omega
      have k1 : (k : Int) < (n : Int) := by omega
      go_wp2_with (go_at_call 102; refine HJ.out.mono ?_; rintro e w1 ⟨v1, rfl, hO1, hG1, _⟩; have b1 := HO.out.grown hG1 HS.out; have hM1 : BoxM w1 w.heap.size 0 (.slice none 0 0) := (b1.block _ (Nat.lt_succ_self _)).trans hM; have hB1 : Below w.heap.size w w1 := hB.trans (b1.mono (Nat.le_succ _)))
      go_roundw
      case rel => exact ⟨k + 1, by omega, by go_num, hM1, hO1, hB1⟩
      case measure => simp [intOf]; omega
    · obtain rfl : k = n := by omega
      have e : ts.take k = ts := List.take_of_length_le (by have := HN.out; omega)
      rw [e] at hO
      obtain ⟨A', c', rfl, hc', hR⟩ := hO.runs
      have HO := Lib.hid hO
      have r0 := hM.c0
      have r1 := hM.c1
      have q0 := hM.frozen 0
      have q1 := hM.frozen 1
      have rz := hM.lt
      have hBq := Lib.hid hB
      clear hO e hM hB
      go_wp2_with (fail)
      exact bodyPost_ret (v := .agg #[.int .i64 (k : Int), .slice A' (ofR ts).length c']) (by simp [results, Tryd.results82, go_sem, r0, r1]) rfl ⟨A', c', by rw [HN.out], ((HO.out.set (p := ⟨w.heap.size, 0, none⟩) (Nat.lt_succ_self _) _).set (p := ⟨w.heap.size, 1, none⟩) (Nat.lt_succ_self _) _).mono (Nat.le_succ _), (hBq.out.setCell (p := ⟨w.heap.size, 0, none⟩) (Nat.le_refl _) _).setCell (p := ⟨w.heap.size, 1, none⟩) (Nat.le_refl _) _⟩
end Go.Proofs.YtcocengpekndjaaDoor
