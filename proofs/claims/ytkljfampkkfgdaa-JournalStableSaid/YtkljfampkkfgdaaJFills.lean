/- The journal layer: the walk over JournalFills. -/
import Derived.Test.YtkljfampkkfgdaaJRef
namespace Go.Proofs.Ytkljfampkkfgdaa
open Go.RowKit
theorem WJ.more {N n n' : Nat} {D : Dk} {J : Jn} {m : Md} (h : WJ N n D J m) (hn : n ≤ n') (hn' : n' ≤ 160) : WJ N n' D J m :=
  ⟨h.ws.more hn hn', h.on, h.live, h.same, h.whole, by have := h.ep; omega, h.mS, h.mR, h.mA, h.mK, h.mW⟩
theorem Kp.old {W w : World} (h : Kp (Old W) W w) : Below W.heap.size W w := h.below (Nat.le_refl _) fun _ hi => hi
set_option maxRecDepth 100000 in
set_option maxHeartbeats 8000000 in
theorem fills_any (W : World) (z : Int) (hz : IntKind.i64.min ≤ z ∧ z ≤ IntKind.i64.max) (A : Option Addr) (l : List Bs) (c : Nat) (hS : Strs W A l) (_hc : l.length ≤ c) (_hA : (∃ a, A = some a) ∨ (A = none ∧ c = 0)) :
    Calls Try.prog 3 #[.int .i64 z, .slice A l.length c] W fun e w' => e = .returned (.bool true) ∧ Below W.heap.size W w' := by
  have HA := Lib.hid awake_any
  by_cases hb : z < 8 ∨ 200 < z
  · have hf := fresh_bad W z hb
    have HF := Lib.hid hf
    clear hb hf hS
    go_enter Try.func3, Try.ntmps3
    go_wp2_with (first
      | (go_at_call 11; refine HF.out.mono ?_; rintro x w1 ⟨rfl, hw1⟩; obtain rfl := hw1.symm)
      | (go_at_call 12; refine (HA.out _).mono ?_; rintro e w2 ⟨rfl, b2⟩))
    go_ret
    exact ⟨rfl, b2⟩
  · obtain ⟨N, rfl⟩ : ∃ N : Nat, z = N := ⟨z.toNat, by omega⟩
    have h8 : 8 ≤ N := by omega
    have h2 : N ≤ 200 := by omega
    obtain ⟨D1, D2, J, a1, a2, b0, b1, f2, js, jr, jd, ju, w2⟩ := fresh_ok h8 h2
    have hf := fresh_any W N h8 h2 a1 a2 b0 b1
    have HF := Lib.hid hf
    obtain ⟨n, hn⟩ : ∃ n, l.length = n := ⟨_, rfl⟩
    rw [hn]
    clear hb hf a1 a2 b0 b1
    by_cases hl : 60 < n
    · have t1 : (n : Int) > 60 := by omega
      clear hl hS hn
      go_enter Try.func3, Try.ntmps3
      go_wp2_with (first
        | (go_at_call 11; refine HF.out.mono ?_; rintro x w1 ⟨dk, jb, rfl, k1, j1⟩)
        | (go_at_call 12; refine (HA.out _).mono ?_; rintro e w3 ⟨rfl, b3⟩))
      go_ret
      exact ⟨rfl, (k1.next b3).old⟩
    · have t1 : ¬ (n : Int) > 60 := by omega
      have hcap : capM N ≤ 99 := by unfold capM; omega
      have hto := fun w => total_any w N (by omega) (by omega)
      have hrm := fun w dk jb (h : JD (Old W) w dk jb D2 J) => room_jd h w2.ws.bd.h8 (by omega)
      rw [w2.ws.len, ju] at hrm
      have hc1 : 1 ≤ capM N := by unfold capM; omega
      have HTO := Lib.hid hto
      have HRM := Lib.hid hrm
      have HN := Lib.hid hn
      have m1 : IntKind.i64.wrap ((capM N : Int) - 1) = (capM N : Int) - 1 := IntWalk.i64_in _ (by omega)
      have HW2 := Lib.hid w2
      have HF2 := Lib.hid f2
      have HJR := Lib.hid jr
      clear hto hrm w2 f2 jr hn js jd ju hl
      have HSS := Lib.hid hS
      obtain ⟨C, hC⟩ : ∃ C, capM N = C := ⟨_, rfl⟩
      rw [hC] at hcap hc1 m1 HTO HRM
      have HC := Lib.hid hC
      clear hS hC
      go_enter Try.func3, Try.ntmps3
      go_upto_region 7 with (first
        | (go_at_call 11; refine HF.out.mono ?_; rintro x w1 ⟨dk, jb, rfl, k1, j1⟩)
        | (go_at_call 13; refine (HRM.out _ _ _ j1).mono ?_; rintro x w3 ⟨rfl, b3⟩)
        | (go_at_call 14; refine (HTO.out _).mono ?_; rintro x w4 ⟨rfl, hw4⟩; obtain rfl := hw4.symm))
      have HK3 := Lib.hid (k1.next b3)
      have HJ3 := Lib.hid (j1.next b3)
      clear k1 j1 b3
      go_loopw [8, 9, 10, 11] (fun i _ _ _ w => ∃ (k : Nat) (D : Dk) (J : Jn) (m : Md), k ≤ n ∧ i = .int .i64 k ∧ WJ N (4 + k) D J m ∧ D.fuse < 0 ∧ J.recs.length ≤ k ∧ JD (Old W) w dk jb D J ∧ Kp (Old W) W w) (fun i _ _ _ _ => n - (intOf i).toNat)
      case atStart => exact ⟨0, D2, J, _, Nat.zero_le _, rfl, HW2.out, HF2.out, by rw [HJR.out]; exact Nat.le_refl _, HJ3.out, HK3.out⟩
      case round =>
        obtain ⟨k, D, J, m, hk, rfl, hw, hf, hrl, hj, hkp⟩ := hrel
        have hbk := hkp.old
        by_cases hlt : k < n
        · have k1 : (k : Int) < (n : Nat) := by omega
          have k0 : 0 ≤ (k : Int) := by omega
          have k2 : k < n := hlt
          have hl : k < l.length := by have := HN.out; omega
          obtain ⟨pa, rfl⟩ := strs_some HSS.out (by rintro rfl; cases hl)
          have hcell := fun w (b : Below W.heap.size W w) => (HSS.out.next b).cell hl
          have HMS := Lib.hid (show k + 1 ≤ n ∧ n - (k + 1) < n - k from by omega)
          have hbd := hw.ws.bd
          have hjb := hw.jbd
          have hsm : ∀ x, l[k] = x → x.length ≤ 1100 → x.length ≤ 1000000 := fun x _ h => by omega
          generalize l[k] = X at *
          have g0 := hcell wr hbk
          by_cases h11 : 1100 < X.length
          · have t2 : (X.length : Int) > 1100 := by omega
            have HK := Lib.hid hkp
            clear hw hf hrl hj hkp hbk hcell hbd hjb hsm h11 hl
            go_wp2_with (go_at_call 12; refine (HA.out _).mono ?_; rintro e w3 ⟨rfl, b3⟩)
            go_ret
            exact ⟨rfl, (HK.out.next b3).old⟩
          · have t2 : ¬ (X.length : Int) > 1100 := by omega
            have hX : X.length ≤ 1000000 := by omega
            have hu := hw.live.fit
            rw [hw.ws.len, HC.out] at hu
            have hr1 := fun w (h : JD (Old W) w dk jb D J) => room_jd h hbd.h8 (by have := hjb.used; omega)
            rw [hw.ws.len, HC.out] at hr1
            have hq1 := fun w (h : JD (Old W) w dk jb D J) => records_jd h (by have := hjb.recs; omega)
            have hap := fun w (h : JD (Old W) w dk jb D J) => append_jd h hbd hjb X hX
            have hun := fun w => runits_any w X.length hX
            have hcase := hw.append (by omega) X
            rw [HC.out] at hcase
            have hul : unitsM X.length ≤ 30 := by unfold unitsM; omega
            have hus : J.used ≤ 99 := by omega
            have HR1 := Lib.hid hr1
            have HQ1 := Lib.hid hq1
            have HUN := Lib.hid hun
            have HJ := Lib.hid hj
            have HK := Lib.hid hkp
            have HBK := Lib.hid hbk
            have HCELL := Lib.hid hcell
            have HW := Lib.hid hw
            have HF1 := Lib.hid hf
            have HRL := Lib.hid hrl
            have HBD := Lib.hid hbd
            obtain ⟨us, hus1⟩ : ∃ us, unitsM X.length = us := ⟨_, rfl⟩
            rw [hus1] at hcase hul HUN
            rcases hcase with ⟨c1, c2⟩ | ⟨c1, c2, c3⟩ | ⟨c1, c2, _, ⟨c3, c4, c5⟩ | ⟨_, _, c5, _⟩⟩
            · rw [c2] at hap
              have t3 : (X.length : Int) > 1024 := by omega
              have HAP := Lib.hid hap
              clear hw hf hrl hj hkp hbk hcell hbd hjb hsm h11 hl hr1 hq1 hun hap c1 c2 hus1
              go_wp2_with (first
                | (go_at_call 13; refine (HR1.out _ j6).mono ?_; rintro x w7 ⟨rfl, b7⟩; have j7 := j6.next b7)
                | (go_at_call 13; refine (HR1.out _ HJ.out).mono ?_; rintro x w4 ⟨rfl, b4⟩; have j4 := HJ.out.next b4)
                | (go_at_call 15; refine (HQ1.out _ j7).mono ?_; rintro x w8 ⟨v8, rfl, hv8, b8⟩; obtain ⟨A8, cc8, rfl, -, -⟩ := hv8.slice)
                | (go_at_call 15; refine (HQ1.out _ j4).mono ?_; rintro x w5 ⟨v5, rfl, hv5, b5⟩; obtain ⟨A5, cc5, rfl, -, -⟩ := hv5.slice; have j5 := j4.next b5; have g5 := HCELL.out _ ((HK.out.next b4).next b5).old)
                | (go_at_call 16; refine (HAP.out _ j5).mono ?_; rintro x w6 ⟨rfl, j6, k6⟩; have g6 := HCELL.out _ (((HK.out.next b4).next b5).trans k6).old))
              exact ⟨⟨k + 1, D, J, m, HMS.out.1, by go_num, HW.out.more (by omega) (by omega), HF1.out, by have := HRL.out; omega, j7.next b8, ((((HK.out.next b4).next b5).trans k6).next b7).next b8⟩, by have := HMS.out.2; simp [intOf]; omega⟩
            · rw [c3] at hap
              have t3 : ¬ (X.length : Int) > 1024 := by omega
              have t4 : (us : Int) > (C : Int) - (J.used : Int) := by omega
              have HAP := Lib.hid hap
              clear hw hf hrl hj hkp hbk hcell hbd hjb hsm h11 hl hr1 hq1 hun hap c1 c2 c3 hus1
              go_wp2_with (first
                | (go_at_call 13; refine (HR1.out _ j6).mono ?_; rintro x w7 ⟨rfl, b7⟩; have j7 := j6.next b7)
                | (go_at_call 13; refine (HR1.out _ HJ.out).mono ?_; rintro x w4 ⟨rfl, b4⟩; have j4 := HJ.out.next b4)
                | (go_at_call 15; refine (HQ1.out _ j7).mono ?_; rintro x w8 ⟨v8, rfl, hv8, b8⟩; obtain ⟨A8, cc8, rfl, -, -⟩ := hv8.slice)
                | (go_at_call 15; refine (HQ1.out _ j4).mono ?_; rintro x w5 ⟨v5, rfl, hv5, b5⟩; obtain ⟨A5, cc5, rfl, -, -⟩ := hv5.slice; have j5 := j4.next b5; have g5 := HCELL.out _ ((HK.out.next b4).next b5).old)
                | (go_at_call 17; refine (HUN.out _).mono ?_; rintro x w9 ⟨rfl, hw9⟩; obtain rfl := hw9.symm)
                | (go_at_call 16; refine (HAP.out _ j5).mono ?_; rintro x w6 ⟨rfl, j6, k6⟩; have g6 := HCELL.out _ (((HK.out.next b4).next b5).trans k6).old))
              exact ⟨⟨k + 1, D, J, m, HMS.out.1, by go_num, HW.out.more (by omega) (by omega), HF1.out, by have := HRL.out; omega, j7.next b8, ((((HK.out.next b4).next b5).trans k6).next b7).next b8⟩, by have := HMS.out.2; simp [intOf]; omega⟩
            · rw [c3] at hap
              have t3 : ¬ (X.length : Int) > 1024 := by omega
              have t4 : ¬ (us : Int) > (C : Int) - (J.used : Int) := by omega
              obtain ⟨E, hE⟩ : ∃ E, (appendM D J X).2.1 = E := ⟨_, rfl⟩
              rw [hE] at hap c4 c5
              have hr2 := fun w (h : JD (Old W) w dk jb E { J with recs := J.recs ++ [X], used := J.used + us }) => room_jd h c5.ws.bd.h8 (by have := c5.jbd.used; omega)
              rw [c5.ws.len, HC.out] at hr2
              have hq2 := fun w (h : JD (Old W) w dk jb E { J with recs := J.recs ++ [X], used := J.used + us }) => records_jd h (by have := c5.jbd.recs; omega)
              have hlen2 : (J.recs ++ [X]).length = J.recs.length + 1 := by simp
              have hsub : (C : Int) - ((J.used + us : Nat) : Int) = (C : Int) - (J.used : Int) - (us : Int) := by omega
              simp only at hr2 hq2
              rw [hsub] at hr2
              have m2 : IntKind.i64.wrap ((C : Int) - (J.used : Int) - (us : Int)) = (C : Int) - (J.used : Int) - (us : Int) := IntWalk.i64_in _ (by omega)
              have m3 : IntKind.i64.wrap ((J.recs.length : Int) + 1) = (J.recs.length : Int) + 1 := IntWalk.i64_in _ (by omega)
              have HAP := Lib.hid hap
              have HR2 := Lib.hid hr2
              have HQ2 := Lib.hid hq2
              have HC4 := Lib.hid (c4 HF1.out)
              have HC5 := Lib.hid c5
              have HL2 := Lib.hid hlen2
              clear hw hf hrl hj hkp hbk hcell hbd hjb hsm h11 hl hr1 hq1 hun hap c1 c2 c3 hus1 c4 c5 hr2 hq2 hlen2 hsub hE
              go_upto_region 19 with (first
                | (go_at_call 13; refine (HR2.out _ j6).mono ?_; rintro x w7 ⟨rfl, b7⟩; have j7 := j6.next b7)
                | (go_at_call 13; refine (HR1.out _ HJ.out).mono ?_; rintro x w4 ⟨rfl, b4⟩; have j4 := HJ.out.next b4)
                | (go_at_call 15; refine (HQ2.out _ j7).mono ?_; rintro x w8 ⟨v8, rfl, hv8, b8⟩; obtain ⟨A8, cc8, rfl, -, -⟩ := hv8.slice)
                | (go_at_call 15; refine (HQ1.out _ j4).mono ?_; rintro x w5 ⟨v5, rfl, hv5, b5⟩; obtain ⟨A5, cc5, rfl, -, -⟩ := hv5.slice; have j5 := j4.next b5; have g5 := HCELL.out _ ((HK.out.next b4).next b5).old)
                | (go_at_call 17; refine (HUN.out _).mono ?_; rintro x w9 ⟨rfl, hw9⟩; obtain rfl := hw9.symm)
                | (go_at_call 16; refine (HAP.out _ j5).mono ?_; rintro x w6 ⟨rfl, j6, k6⟩; have g6 := HCELL.out _ (((HK.out.next b4).next b5).trans k6).old))
              have j6d := j6.next (Below.drawn w6 1 _)
              have HK6 := Lib.hid ((((HK.out.next b4).next b5).trans k6).next (Below.drawn w6 1 _))
              clear j6 j4 j5 g0 g5 k6 b4 b5
              go_region_held3 (fun w => w.cell? (pa.add k) = some (.string ⟨X.toArray⟩)) (first | exact g6 | exact g7 | exact g8) (first
                | (go_at_call 13; refine (HR2.out _ j6d).mono ?_; rintro x w7 ⟨rfl, b7⟩; have j7 := j6d.next b7; have g7 := cell_kept b7 (show w6.drew.cell? (pa.add k) = _ from g6))
                | (go_at_call 17; refine (HUN.out _).mono ?_; rintro x w9 ⟨rfl, hw9⟩; obtain rfl := hw9.symm)
                | (go_at_call 15; refine (HQ2.out _ j7).mono ?_; rintro x w8 ⟨v8, rfl, hv8, b8⟩; have g8 := cell_kept b8 g7; obtain ⟨A8, cc8, rfl, -, -⟩ := hv8.slice; rw [HL2.out]))
              all_goals
                go_wp2_with (fail)
                exact ⟨⟨k + 1, E, _, _, HMS.out.1, by go_num, HC5.out, HC4.out, by rw [HL2.out]; have := HRL.out; omega, j7.next b8, (HK6.out.next b7).next b8⟩, by have := HMS.out.2; simp [intOf]; omega⟩
            · have := HF1.out
              omega
        · obtain rfl : k = n := by omega
          have k1 : ¬ (k : Int) < (k : Nat) := by omega
          have hjb := hw.jbd
          have hcm := hw.commit
          rcases hcm.2 with ⟨c3, _, c5⟩ | ⟨_, _, c5, _⟩
          · have hap := fun w (h : JD (Old W) w dk jb D J) => commit_jd h hjb
            rw [c3] at hap
            obtain ⟨E, hE⟩ : ∃ E, (commitM D J).2.1 = E := ⟨_, rfl⟩
            rw [hE] at hap c5
            have hdu := fun w (h : JD (Old W) w dk jb E { J with dur := J.recs.length }) => durable_jd h
            have hq2 := fun w (h : JD (Old W) w dk jb E { J with dur := J.recs.length }) => records_jd h (by have := c5.jbd.recs; omega)
            simp only at hdu hq2
            have q1 : ((J.recs.length : Int) == (J.recs.length : Int)) = true := by simp
            have HAP := Lib.hid hap
            have HDU := Lib.hid hdu
            have HQ2 := Lib.hid hq2
            have HJ := Lib.hid hj
            have HK := Lib.hid hkp
            clear hw hf hrl hj hkp hbk hjb hcm c3 c5 hap hdu hq2 hE
            go_wp2_with (first
              | (go_at_call 18; refine (HAP.out _ HJ.out).mono ?_; rintro x w4 ⟨rfl, j4, k4⟩)
              | (go_at_call 19; refine (HDU.out _ j4).mono ?_; rintro x w5 ⟨rfl, hw5⟩; obtain rfl := hw5.symm)
              | (go_at_call 15; refine (HQ2.out _ j4).mono ?_; rintro x w6 ⟨v6, rfl, hv6, b6⟩; obtain ⟨A6, cc6, rfl, -, -⟩ := hv6.slice)
              | (go_at_call 12; refine (HA.out _).mono ?_; rintro e w7 ⟨rfl, b7⟩))
            go_ret
            exact ⟨rfl, (((HK.out.trans k4).next b6).next b7).old⟩
          · omega
end Go.Proofs.Ytkljfampkkfgdaa
