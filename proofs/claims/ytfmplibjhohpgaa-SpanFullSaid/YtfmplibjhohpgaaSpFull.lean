/- The walk over SpanFull. -/
import Derived.Test.YtfmplibjhohpgaaSpFullL
import Derived.Test.YtfmplibjhohpgaaSpBoth
import Derived.Deep.DeepCutAuto
import Derived.Deep.CutRange
namespace Go.Proofs.Ytfmplibjhohpgaa
open Go.RowKit Go.Shelf

theorem own_below {W w2 : World} {base : Nat} {v : Value} {L : List Rn} {o : Obj} (hO : OwnRuns W base v L) (hb : base ≤ W.heap.size) (hg : (W.alloc o).grownBy w2 v.ownBlock) : Below base W w2 := by
  have G : W.grownBy w2 v.ownBlock := (World.grownBy_alloc W o _).trans hg
  exact ⟨G.os, G.tape, G.output, G.size, fun k hk => G.block k (by omega) (fun e => by have := (hO.row_ge k e.symm).1; omega)⟩
set_option maxRecDepth 100000 in
set_option maxHeartbeats 400000 in
theorem full_many (w : World) (n : Int) (A : Option Addr) (m c : Nat) (hl : 12 < (m : Int)) :
    Calls Try.prog 10 #[.int .u8 n, .slice A m c] w (FromsPost w) := by
  go_enter Try.func10, Try.ntmps10
  go_wp2_with (fail)
  go_at_call 18
  refine (awake_any _).mono ?_
  rintro e w1 ⟨rfl, b1⟩
  go_wp2_with (fail)
  go_ret
  exact ⟨rfl, b1⟩
set_option maxRecDepth 100000 in
set_option maxHeartbeats 4000000 in
theorem full_few (w : World) (n : Int) (A : Option Addr) (l : List Ac) (m c : Nat) (hm : l.length = m) (hn0 : 0 ≤ n) (hn1 : n < 256) (hA : Acts w A l) (hlc : m ≤ c) (hl : ¬ 12 < (m : Int)) :
    Calls Try.prog 10 #[.int .u8 n, .slice A m c] w (FromsPost w) := by
  obtain ⟨i0, hi0, hz0, hz1, hz2⟩ := info_parts infoRun
  have HM := Lib.hid hm
  have HA := Lib.hid hA
  clear hm hA
  go_enter Try.func10, Try.ntmps10
  go_upto_region 5 with (fail)
  obtain ⟨K, hK⟩ : ∃ K : Nat, 4096 - n % 8 = (K : Int) := ⟨(4096 - n % 8).toNat, by omega⟩
  have K1 : 1 ≤ K := by omega
  have K2 : K ≤ 4096 := by omega
  rw [hK]
  clear hK
  have gK := fullL_good K1 K2
  have lK := fullL_length K
  have tK := fullL_total K
  have fK := fromR_lay gK
  have HG := Lib.hid gK
  have HL := Lib.hid lK
  have HT := Lib.hid tK
  have HF := Lib.hid fK
  clear gK lK tK fK
  go_wp2_with (fail)
  go_loopw [6, 7] (fun v i W => ∃ k : Nat, k ≤ K ∧ i = .int .i64 k ∧ OwnRuns W w.heap.size v (lay 0 (fullL k)) ∧ Below w.heap.size w W) (fun _ i _ => K - (intOf i).toNat)
  case atStart => exact ⟨0, Nat.zero_le _, rfl, World.ownsRow_nil _ _ _ _, Below.refl _ _⟩
  case round =>
    obtain ⟨k, hk, rfl, hO, hB⟩ := hrel
    have hwr := hB.size
    by_cases hlt : k < K
    · have k1 : (k : Int) < (K : Int) := by omega
      have HO := Lib.hid hO
      have HQ : Hid (wr.ownsRow w.heap.size 35 3 u6 k (cellsR (lay 0 (fullL k)))) := by
        show wr.ownsRow _ _ _ _ _ _
        unfold OwnRuns at hO
        rw [lay_length, fullL_length] at hO
        exact hO
      clear hO
      have i1 : IntKind.i64.wrap (3 * (k : Int)) = 3 * (k : Int) := IntWalk.i64_in _ (by omega)
      have i2 : IntKind.i64.wrap (3 * (k : Int) + 3) = 3 * (k : Int) + 3 := IntWalk.i64_in _ (by omega)
      go_wp2_with (at_builtin; (refine wpList_append_own _ rfl _ _ 22 rfl w.heap.size 35 i0 (.agg #[.int .i64 0, .int .i64 0, .int .i64 0]) 3 24 Try.underlying22 hi0 hz0 hz1 hz2 rfl (by decide) _ k _ rfl (HQ.out.alloc _) ⟨wr.heap.size, 0, none⟩ 1 1 [.int .i64 (3 * (k : Int)), .int .i64 (3 * (k : Int) + 3), .int .i64 ((k : Int) % 3)] rfl rfl (cell_three_new _ _ _ _ _) (by simp [Value.oneCell']) (by unfold maxLen; omega) (by omega) (by rw [World.size_alloc]; omega) ?_); intro v' w2 hown hgrow _)
      have hb2 := own_below HO.out hwr hgrow
      have hO2 : OwnRuns w2 w.heap.size v' (lay 0 (fullL (k + 1))) := by
        rw [lay_full]
        unfold OwnRuns
        rw [cellsR_snoc, List.length_append, lay_length, fullL_length]
        exact hown
      exact ⟨⟨k + 1, by omega, by go_num, hO2, hB.trans hb2⟩, by simp [intOf]; omega⟩
    · obtain rfl : k = K := by omega
      obtain ⟨B, d, rfl, hd, hRB⟩ := hO.runs
      have hOB := hO
      rw [lay_length, HL.out] at hd hOB
      rw [lay_length, HL.out]
      have i1 : IntKind.i64.wrap (3 * (k : Int)) = 3 * (k : Int) := IntWalk.i64_in _ (by omega)
      have hfr : ∀ W, Below wr.heap.size wr W → Calls Try.prog 19 #[.int .i64 (3 * (k : Int)), .slice B k d] W fun e w' => ∃ p, e = .returned (.tuple #[.agg #[.pointer p], .int .i64 0]) ∧ Rep w' p (fullL k) ∧ Below W.heap.size W w' := fun W hW => by
        have := from_any (3 * (k : Int)) (lay 0 (fullL k)) B d W (hRB.below hW) (by rw [lay_length, HL.out]; exact hd) (by rw [lay_length, HL.out]; omega)
        unfold FromPost at this
        rw [← HT.out, HF.out, lay_length, HL.out] at this
        rw [← HT.out]
        exact this
      have hrf : ∀ W, Below wr.heap.size wr W → Calls Try.prog 20 #[.int .i64 (3 * (k : Int)), .slice B k d] W fun e w' => ∃ A c, e = .returned (.tuple #[.agg #[.int .i64 (Tr.total (fullL k)), .slice A (fullL k).length c], .int .i64 0]) ∧ OwnRuns w' W.heap.size (.slice A (fullL k).length c) (lay 0 (fullL k)) ∧ (fullL k).length ≤ c ∧ Below W.heap.size W w' := fun W hW => by
        have := rfrom_any (3 * (k : Int)) (lay 0 (fullL k)) B d W (hRB.below hW) (by rw [lay_length, HL.out]; exact hd) (by rw [lay_length, HL.out]; omega)
        unfold RFromPost at this
        rw [← HT.out, HF.out, lay_length, show Value.slice B (fullL k).length d = Value.slice B k d from by rw [HL.out]] at this
        rw [← HT.out]
        exact this
      have HFR := Lib.hid hfr
      have HRF := Lib.hid hrf
      clear hfr hrf hO hOB hRB
      go_wp2_with (fail)
      go_at_call 19
      refine (HFR.out _ (Below.refl _ _)).mono ?_
      rintro e w2 ⟨p, rfl, hp, b2⟩
      go_upto_region 10 with (fail)
      generalize hw3 : World.alloc w2 _ = w3
      have d3 : Below w2.heap.size w2 w3 := hw3 ▸ Below.alloc1 w2 _
      have x3 : Boxed w3 w2.heap.size 26 (.pointer p) := hw3 ▸ Boxed.new w2 _ _
      have p3 := hp.below d3
      have h23 := b2.size
      have B3 := Below.next b2 d3
      clear hw3 d3 hp b2
      go_wp2_with (fail)
      go_at_call 20
      refine (HRF.out _ B3).mono ?_
      rintro e w4 ⟨A1, c1, rfl, O4, hc1, b4⟩
      have x4 := bx_next x3 b4
      have p4 := p3.below b4
      have x3l := x3.lt
      have B4 := Below.next B3 b4
      have h34 := b4.size
      clear b4 x3 p3 B3
      go_upto_region 11 with (fail)
      generalize hw5 : World.alloc w4 _ = w5
      have d5 : Below w4.heap.size w4 w5 := hw5 ▸ Below.alloc1 w4 _
      have y5 : BoxM w5 w4.heap.size (Tr.total (fullL k)) (.slice A1 (fullL k).length c1) := hw5 ▸ BoxM.new w4 _ _
      have T5 : Both w5 w2.heap.size w4.heap.size (fullL k) p A1 c1 := ⟨bx_next x4 d5, y5, p4.below d5, O4.runsT.below d5, hc1⟩
      have B5 : Below w.heap.size w w5 := hB.trans ((Below.next B4 d5).mono hwr)
      have ne : ¬ w2.heap.size = w4.heap.size := by omega
      clear hw5 d5 x4 p4 O4 y5 B4
      go_wp2_with (fail)
      go_loopw [12, 13] (fun ok i W => ∃ (j : Nat) (p' A' : Option Addr) (c' : Nat), j ≤ m ∧ i = .int .i64 j ∧ ok = .bool true ∧ Both W w2.heap.size w4.heap.size (moreL (fullL k) (l.take j)) p' A' c' ∧ Below w.heap.size w W) (fun _ i _ => m - (intOf i).toNat)
      case atStart => exact ⟨0, p, A1, c1, Nat.zero_le _, rfl, rfl, T5, B5⟩
      case round =>
        obtain ⟨j, p', A', c', hj, rfl, rfl, hT, hBw⟩ := hrel
        have hML := moreL_good (l.take j) (L := fullL k) (.inr HG.out)
        have HML := Lib.hid hML
        clear hML
        have c8 := hT.1.cell
        have f8 := hT.1.frozen
        have c10 := hT.2.1.c0
        have c11 := hT.2.1.c1
        have f10 := hT.2.1.frozen 0
        have f11 := hT.2.1.frozen 1
        have l8 := hT.1.lt
        have l10 := hT.2.1.lt
        by_cases hjm : j < m
        · have k2 : (j : Int) < (m : Int) := by omega
          have hjl : j < l.length := by have := HM.out; omega
          obtain ⟨aa, rfl⟩ : ∃ a, A = some a := by
            rcases HA.out with hh | ⟨a, hh, _⟩
            · rw [hh] at hjl; simp at hjl
            · exact ⟨a, hh⟩
          obtain ⟨hab, g0, g1, g2, g3, g4⟩ := (HA.out.below hBw).at_ hjl
          have hMX : moreL (fullL k) (l.take (j + 1)) = actL (moreL (fullL k) (l.take j)) l[j] := by rw [List.take_succ_eq_append_getElem hjl, moreL_snoc]
          generalize l[j] = X at *
          generalize hMM : moreL (fullL k) (l.take j) = M at *
          have HMX := Lib.hid hMX
          have HT := Lib.hid hT
          clear hMX hMM hT
          go_upto_region 17 with (fail)
          go_cut [12] from 58 to 84 (fun ok wx => ok = .bool true ∧ ∃ p1 A1 c1, Both wx w2.heap.size w4.heap.size (actL M X) p1 A1 c1 ∧ Below w.heap.size w wx)
          case first =>
            go_region_with ((go_at_call 32; refine (do_both wr HT.out HML.out X (Quiet.below ⟨1, rfl⟩ _)).mono ?_; rintro e w6 ⟨p6, A6, c6, rfl, P6, R6, C6, b6'⟩; have b6 : Below wr.heap.size wr w6 := Below.of_drew b6'; have t8 := bx_next HT.out.1 b6; have t10 := HT.out.2.1.next b6; have d8 := t8.cell; have e8 := t8.frozen; have d10 := t10.c0; have d11 := t10.c1; have e10 := t10.frozen 0; have e11 := t10.frozen 1; have m8 := t8.lt; have m10 := t10.lt))
            all_goals
              go_wp2_with (fail)
              go_meet
              first
                | exact ⟨rfl, p6, A6, c6, both_a t8 t10 ne P6 R6 C6, below_a (Below.next hBw b6) (by omega) (by omega) _ _ _⟩
                | exact ⟨rfl, p6, A6, c6, both_b t8 t10 ne P6 R6 C6, below_b (Below.next hBw b6) (by omega) (by omega) _ _ _⟩
          case rest =>
            obtain ⟨rfl, p6, A6, c6, hB6, hBc⟩ := hcut
            have HB6 := Lib.hid hB6
            have d8 := hB6.1.cell
            have d10 := hB6.2.1.c0
            have d11 := hB6.2.1.c1
            have m8 := hB6.1.lt
            have m10 := hB6.2.1.lt
            clear hB6 c8 f8 c10 c11 f10 f11 l8 l10 HT hBw g0 g1 g2 g3 g4
            go_wp2_with (fail)
            go_region_with ((go_at_call 43; refine (len_any _ p6 (actL M X) (HB6.out.2.2.1.below (Quiet.below ⟨1, rfl⟩ _))).mono ?_; rintro e w7 ⟨rfl, b7'⟩; have b7 : Below wc.heap.size wc w7 := Below.of_drew b7'; have t7 := HB6.out.next b7; have d10' := t7.2.1.c0; have d11' := t7.2.1.c1; have d8' := t7.1.cell))
            all_goals
              go_wp2_with (fail)
              go_roundw
              case rel => first | exact ⟨j + 1, p6, A6, c6, by omega, by go_num, rfl, by rw [HMX.out]; exact t7, Below.next hBc b7⟩ | ((repeat apply Exists.intro); exact ⟨⟨j + 1, p6, A6, c6, by omega, by go_num, rfl, by rw [HMX.out]; exact t7, Below.next hBc b7⟩, rfl⟩)
              case measure => simp [intOf]; omega
        · obtain rfl : j = m := by omega
          have HT := Lib.hid hT
          clear hT
          go_wp2_with (fail)
          go_at_call 21
          refine (same_any wr _ _ _ _ HT.out.2.2.1 HT.out.2.2.2.1.1 HT.out.2.2.2.2).mono ?_
          rintro e w6 ⟨rfl, b6⟩
          have B6 := Below.next hBw b6
          go_wp2_with (fail)
          go_at_call 18
          refine (awake_any _).mono ?_
          rintro e w7 ⟨rfl, b7⟩
          go_wp2_with (fail)
          go_ret
          exact ⟨rfl, Below.next B6 b7⟩
/-- SpanFull answers true. -/
theorem spanFull_any (w : World) (n : Int) (A : Option Addr) (l : List Ac) (c : Nat) (hn0 : 0 ≤ n) (hn1 : n < 256) (hA : Acts w A l) (hlc : l.length ≤ c) :
    Calls Try.prog 10 #[.int .u8 n, .slice A l.length c] w (FromsPost w) := by
  by_cases h : 12 < (l.length : Int)
  · exact full_many w n A l.length c h
  · exact full_few w n A l l.length c rfl hn0 hn1 hA hlc h
end Go.Proofs.Ytfmplibjhohpgaa
