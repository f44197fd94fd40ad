/- The journal layer: the walk over JournalClones. -/
import Derived.Test.YtkljfampkkfgdaaJTwo
import Derived.Test.YtkljfampkkfgdaaJFills
namespace Go.Proofs.Ytkljfampkkfgdaa
open Go.RowKit
/-- Everything is done to the journals of a disk and of its copy. -/
theorem clones_facts {N k : Nat} {D : Dk} {J : Jn} {m : Md} (hw : WJ N (4 + k) D J m) (hk : k ≤ 30) (hf : D.fuse < 0) {s : Bs} (hs : s.length ≤ 200) :
    ∃ D1 C1 K1 ea C2 K2 C3 K3 D2 C4 D3 L e9 D4 J4, commitM D J = (0, D1, { J with dur := J.recs.length }) ∧ JBd J ∧ Bd D1 ∧ JBd { J with dur := J.recs.length } ∧ openM { D1 with own := 0 } = (0, C1, some K1) ∧ Bd { D1 with own := 0 } ∧ K1.recs = J.recs ∧ Bd C1 ∧ JBd K1 ∧
      appendM C1 K1 s = (ea, C2, K2) ∧ (ea = 0 ∨ ea = 5) ∧ Bd C2 ∧ JBd K2 ∧ commitM C2 K2 = (0, C3, K3) ∧ Bd C3 ∧ commitM D1 { J with dur := J.recs.length } = (0, D2, { J with dur := J.recs.length }) ∧ formatM C3 = (0, C4) ∧ Bd D2 ∧ openM D2 = (0, D3, some L) ∧ L.recs = J.recs ∧ JBd L ∧ Bd D3 ∧ appendM D3 { J with dur := J.recs.length } [] = (e9, D4, J4) ∧ e9 = 72 ∧ Few 1000000 D1 := by
  obtain ⟨_, q1 | ⟨_, _, q1, _⟩⟩ := hw.commit
  · obtain ⟨q1, q2, q3⟩ := q1
    obtain ⟨D1, hD1⟩ : ∃ D1, (commitM D J).2.1 = D1 := ⟨_, rfl⟩
    rw [hD1] at q1 q2 q3
    have f1 := q2 hf
    have len1 := q3.ws.len
    have low := q3.ws.low
    have high := q3.ws.high
    have hp1 := q3.live.parse_all (by omega) (by omega) (by have := q3.jbd.ep; simp only at this ⊢; omega) rfl
    rw [len1] at hp1
    simp only at hp1
    have c0 := q3.ws.owned
    obtain ⟨C1, K1, r1, r2, _, r4, r5, r6, r7⟩ := c0.reopen (by omega) q3.on f1 hp1
    have hK : ∃ ea C2 K2, appendM C1 K1 s = (ea, C2, K2) ∧ (ea = 0 ∨ ea = 5) ∧ ∃ m', WJ N (4 + k + 3) C2 K2 m' ∧ C2.fuse < 0 := by
      rcases r7.append (by omega) s with ⟨h1, _⟩ | ⟨_, _, h1⟩ | ⟨_, _, _, ⟨h1, h2, h3⟩ | ⟨_, _, h1, _⟩⟩
      · omega
      · exact ⟨_, _, _, h1, .inr rfl, _, r7.more (by omega) (by omega), r2⟩
      · exact ⟨_, _, _, h1, .inl rfl, _, h3.more (by omega) (by omega), h2 r2⟩
      · omega
    obtain ⟨ea, C2, K2, a1, a2, m', a3, a4⟩ := hK
    obtain ⟨_, b1 | ⟨_, _, b1, _⟩⟩ := a3.commit
    · obtain ⟨b1, b2, b3⟩ := b1
      have f3 := b2 a4
      obtain ⟨_, ⟨d1, d2, _⟩ | ⟨_, _, d1, _⟩⟩ := q3.commit
      · obtain ⟨D2, hD2⟩ : ∃ D2, (commitM D1 { J with dur := J.recs.length }).2.1 = D2 := ⟨_, rfl⟩
        have dq := q3.commit
        rw [hD2] at dq d1
        obtain ⟨own2, dq⟩ := dq
        rcases dq with ⟨_, e2, e3⟩ | ⟨_, _, e2, _⟩
        · have f2 := e2 f1
          have hp2 := e3.live.parse_all (by rw [e3.ws.len]; omega) (by rw [e3.ws.len]; omega) (by have := e3.jbd.ep; simp only at this ⊢; omega) rfl
          rw [e3.ws.len] at hp2
          simp only at hp2
          obtain ⟨D3, L, g1, g2, g3, g4, g5, g6, g7⟩ := e3.ws.reopen (by omega) e3.on f2 hp2
          obtain ⟨C4, hC4⟩ : ∃ C4, formatM (commitM C2 K2).2.1 = (0, C4) := by
            obtain ⟨_, ⟨h1, _⟩ | ⟨_, _, h1, _⟩⟩ := b3.ws.format (by omega)
            · exact ⟨_, by rw [← h1]⟩
            · rcases h1 with h1 | h1
              · rw [b3.on] at h1; cases h1
              · omega
          have hne : ({ J with dur := J.recs.length } : Jn).own ≠ D3.own := by
            have s1 := e3.same
            simp only at s1 ⊢
            rw [s1, g3]
            omega
          have hbr := append_no (.inr hne) []
          exact ⟨D1, C1, K1, ea, C2, K2, _, _, D2, C4, D3, L, _, _, _, q1, hw.jbd, q3.ws.bd, q3.jbd, r1, c0.bd, r5, r7.ws.bd, r7.jbd, a1, a2, a3.ws.bd, a3.jbd, b1, b3.ws.bd, d1, hC4, e3.ws.bd, g1, g5, g7.jbd, g7.ws.bd, hbr, rfl, q3.ws.few.mono (by omega)⟩
        · omega
      · omega
    · omega
  · omega
set_option maxRecDepth 100000 in
set_option maxHeartbeats 8000000 in
theorem clones_any (W : World) (z : Int) (_hz : IntKind.i64.min ≤ z ∧ z ≤ IntKind.i64.max) (A : Option Addr) (l : List Bs) (c : Nat) (hS : Strs W A l) (_hc : l.length ≤ c) (_hA : (∃ a, A = some a) ∨ (A = none ∧ c = 0)) (s : Bs) :
    Calls Try.prog 4 #[.int .i64 z, .slice A l.length c, .string ⟨s.toArray⟩] W fun e w' => e = .returned (.bool true) ∧ Below W.heap.size W w' := by
  have HA := Lib.hid awake_any
  by_cases hb : z < 8 ∨ 200 < z
  · have hf := fresh_bad W z hb
    have HF := Lib.hid hf
    clear hb hf hS
    go_enter Try.func4, Try.ntmps4
    go_wp2_with (first
      | (go_at_call 11; refine HF.out.mono ?_; rintro x w1 ⟨rfl, hw1⟩; obtain rfl := hw1.symm)
      | (go_at_call 12; refine (HA.out _).mono ?_; rintro e w2 ⟨rfl, b2⟩))
    go_ret
    exact ⟨rfl, b2⟩
  · obtain ⟨N, rfl⟩ : ∃ N : Nat, z = N := ⟨z.toNat, by omega⟩
    have h8 : 8 ≤ N := by omega
    have h2 : N ≤ 200 := by omega
    obtain ⟨D1, D2, J, a1, a2, b0, b1, f2, js, jr, jd, ju, w2⟩ := fresh_ok h8 h2
    have hf := fresh_any W N h8 h2 a1 a2 b0 b1
    have HF := Lib.hid hf
    obtain ⟨n, hn⟩ : ∃ n, l.length = n := ⟨_, rfl⟩
    rw [hn]
    clear hb hf a1 a2 b0 b1
    by_cases hl : 30 < n ∨ 200 < s.length
    · have t1 : ((n : Int) > 30) ∨ (¬ (n : Int) > 30 ∧ (s.length : Int) > 200) := by omega
      clear hl hS hn
      rcases t1 with t1 | ⟨t1, t2⟩
      all_goals
        go_enter Try.func4, Try.ntmps4
        go_wp2_with (first
          | (go_at_call 11; refine HF.out.mono ?_; rintro x w1 ⟨dk, jb, rfl, k1, j1⟩)
          | (go_at_call 12; refine (HA.out _).mono ?_; rintro e w3 ⟨rfl, b3⟩))
        go_ret
        exact ⟨rfl, (k1.next b3).old⟩
    · have t1 : ¬ (n : Int) > 30 := by omega
      have t2 : ¬ (s.length : Int) > 200 := by omega
      have hs200 : s.length ≤ 200 := by omega
      have HN := Lib.hid hn
      have HW2 := Lib.hid w2
      have HF2 := Lib.hid f2
      have HJR := Lib.hid jr
      have HSS := Lib.hid hS
      clear w2 f2 jr hn js jd ju hl hS
      go_enter Try.func4, Try.ntmps4
      go_upto_region 5 with (go_at_call 11; refine HF.out.mono ?_; rintro x w1 ⟨dk, jb, rfl, k1, j1⟩)
      have HK3 := Lib.hid k1
      have HJ3 := Lib.hid j1
      clear k1 j1
      go_loopw [10] (fun i w => ∃ (k : Nat) (D : Dk) (J : Jn) (m : Md), k ≤ n ∧ i = .int .i64 k ∧ WJ N (4 + k) D J m ∧ D.fuse < 0 ∧ JD (Old W) w dk jb D J ∧ Kp (Old W) W w) (fun i _ => n - (intOf i).toNat)
      case atStart => exact ⟨0, D2, J, _, Nat.zero_le _, rfl, HW2.out, HF2.out, HJ3.out, HK3.out⟩
      case round =>
        obtain ⟨k, D, J, m, hk, rfl, hw, hf, hj, hkp⟩ := hrel
        have hbk := hkp.old
        by_cases hlt : k < n
        · have k1 : (k : Int) < (n : Nat) := by omega
          have k0 : 0 ≤ (k : Int) := by omega
          have k2 : k < n := hlt
          have hl : k < l.length := by have := HN.out; omega
          obtain ⟨pa, rfl⟩ := strs_some HSS.out (by rintro rfl; cases hl)
          have g0 := (HSS.out.next hbk).cell hl
          have HMS := Lib.hid (show k + 1 ≤ n ∧ n - (k + 1) < n - k from by omega)
          generalize l[k] = X at *
          have HK := Lib.hid hkp
          by_cases h11 : 200 < X.length
          · have t3 : (X.length : Int) > 200 := by omega
            clear hw hf hj hkp hbk h11 hl
            go_wp2_with (go_at_call 12; refine (HA.out _).mono ?_; rintro e w3 ⟨rfl, b3⟩)
            go_ret
            exact ⟨rfl, (HK.out.next b3).old⟩
          · have t3 : ¬ (X.length : Int) > 200 := by omega
            have hap := append_jd hj hw.ws.bd hw.jbd X (by omega)
            have hst : ∃ D' J' m' er, appendM D J X = (er, D', J') ∧ WJ N (4 + (k + 1)) D' J' m' ∧ D'.fuse < 0 := by
              rcases hw.append (by omega) X with ⟨h1, _⟩ | ⟨_, _, h1⟩ | ⟨_, _, _, ⟨h1, h2, h3⟩ | ⟨_, _, h1, _⟩⟩
              · omega
              · exact ⟨_, _, _, _, h1, hw.more (by omega) (by omega), hf⟩
              · exact ⟨_, _, _, _, h1, h3.more (by omega) (by omega), h2 hf⟩
              · omega
            obtain ⟨D', J', m', er, e1, e2, e3⟩ := hst
            rw [e1] at hap
            have HAP := Lib.hid hap
            have HE2 := Lib.hid e2
            have HE3 := Lib.hid e3
            clear hw hf hj hkp hbk h11 hl hap e1 e2 e3
            go_wp2_with (go_at_call 16; refine HAP.out.mono ?_; rintro x w4 ⟨rfl, j4, k4⟩)
            exact ⟨⟨k + 1, D', J', m', HMS.out.1, by go_num, HE2.out, HE3.out, j4, HK.out.trans k4⟩, by have := HMS.out.2; simp [intOf]; omega⟩
        · obtain rfl : k = n := by omega
          have k1 : ¬ (k : Int) < (k : Nat) := by omega
          obtain ⟨E1, C1, K1, ea, C2, K2, C3, K3, E2, C4, E3, L, e9, D4, J4, x1, x2, x3, x4, x5, x6, x7, x8, x9, x10, x11, x12, x13, x14, x15, x16, x17, x18, x19, x20, x21, x22, x23, x24, x25⟩ := clones_facts hw (by omega) hf hs200
          have hJ1 : ∀ w K', JD K' w dk jb D J → _ := fun w K' (h : JD K' w dk jb D J) => commit_jd h x2
          simp only [x1] at hJ1
          generalize hq : ({ J with dur := J.recs.length } : Jn) = Jd at *
          have hrl := x2.recs
          have hrq : Jd.recs = J.recs := by rw [← hq]
          have c1 := fun w K' (h : JD K' w dk jb E1 Jd) => clone_dd h.dd x25
          have p1 := fun w K' (h : JD K' w dk jb E1 Jd) => records_jd h (by have := x4.recs; omega)
          have o1 := fun w K' ck (h : DD K' w ck { E1 with own := 0 }) => open_dd h x6
          have q1 := fun w K' ck kb (h : JD K' w ck kb C1 K1) => records_jd h (by have := x9.recs; omega)
          have u1 := fun w K' ck kb (h : JD K' w ck kb C1 K1) => append_jd h x8 x9 s (by omega)
          have v1 := fun w K' ck kb (h : JD K' w ck kb C2 K2) => commit_jd h x13
          have v2 := fun w K' (h : JD K' w dk jb E1 Jd) => commit_jd h x4
          have f1 := fun w K' ck (h : DD K' w ck C3) => format_dd h x15
          have o2 := fun w K' (h : JD K' w dk jb E2 Jd) => open_jd h x18
          have q2 := fun w K' ib (h : JD K' w dk ib E3 L) => records_jd h (by have := x21.recs; omega)
          have u2 := fun w K' (h : JD K' w dk jb E3 Jd) => append_jd h x22 x4 [] (by decide)
          simp only [OpenD, x5] at o1
          simp only [OpenD, x19] at o2
          simp only [x7] at q1
          simp only [x20] at q2
          simp only [x10] at u1
          simp only [x14] at v1
          simp only [x16] at v2
          simp only [x17] at f1
          simp only [x23, x24] at u2
          simp only [hrq] at p1
          have sm := fun w (A B : Option Addr) (c d : Nat) (hA : Strs w A J.recs) (hB : Strs w B J.recs) => same_any w A B J.recs J.recs J.recs.length J.recs.length c d hA hB rfl rfl (by omega) (by omega)
          simp only [decide_true] at sm
          generalize J.recs = rs at *
          have HJ1 := Lib.hid hJ1
          have HC1 := Lib.hid c1
          have HP1 := Lib.hid p1
          have HO1 := Lib.hid o1
          have HQ1 := Lib.hid q1
          have HU1 := Lib.hid u1
          have HV1 := Lib.hid v1
          have HV2 := Lib.hid v2
          have HF1 := Lib.hid f1
          have HO2 := Lib.hid o2
          have HQ2 := Lib.hid q2
          have HU2 := Lib.hid u2
          have HSM := Lib.hid sm
          have HJ := Lib.hid hj
          have HK := Lib.hid hkp
          clear hw hf hj hkp hbk x1 x2 x3 x4 x5 x6 x7 x8 x9 x10 x12 x13 x14 x15 x16 x17 x18 x19 x20 x21 x22 x23 x24 x25 hJ1 hq hrl hrq c1 p1 o1 q1 u1 v1 v2 f1 o2 q2 u2 sm
          go_upto_region 12 with (go_at_call 18; refine (HJ1.out _ _ HJ.out).mono ?_; rintro x w4 ⟨rfl, j4, k4⟩)
          go_upto_region 13 with (go_at_call 20; refine (HC1.out _ _ j4).mono ?_; rintro x w5 ⟨g, Fc, rfl, b5, dc, hFc⟩)
          have T5 := TwoD.of j4 b5 dc hFc
          go_upto_region 14 with (go_at_call 15; refine (HP1.out _ _ T5.jd).mono ?_; rintro x w6 ⟨v6, rfl, hv6, b6⟩; obtain ⟨A6, c6, rfl, S6, -⟩ := hv6.slice)
          have hA6 : ∀ p, A6 = some p → p.block < w6.heap.size ∧ (Old W p.block ∨ (w5.heap.size ≤ p.block ∧ p.block < w6.heap.size)) := fun p e => by
            subst e
            have := World.ownsRow.lt hv6 p.block rfl
            exact ⟨this.2, .inr this⟩
          have T6 := T5.more b6
          have K6 := Lib.hid (((HK.out.trans k4).next b5).next b6)
          obtain ⟨K2, hk2, hd6, cl6⟩ := T6.right
          have HCL6 := Lib.hid cl6
          have HS6 := Lib.hid S6
          have HA6 := Lib.hid hA6
          clear j4 k4 b5 dc hFc T5 hv6 b6 T6 cl6 S6 hA6
          go_upto_region 15 with (go_at_call 21; refine (HO1.out _ K2 _ hd6).mono ?_; rintro x w7 ⟨k7, d7, kb, rfl, j7⟩)
          go_upto_region 17 with (first
            | (go_at_call 15; refine (HQ1.out _ _ _ _ j7).mono ?_; rintro x w8 ⟨v8, rfl, hv8, b8⟩; obtain ⟨A8, c8, rfl, S8, -⟩ := hv8.slice
               have S6' := (HS6.out.kp k7 fun p e => ⟨(HA6.out p e).1, hk2 _ (HA6.out p e).2⟩).next b8)
            | (go_at_call 22; refine (HSM.out _ A8 A6 c8 c6 S8 S6').mono ?_; rintro x w9 ⟨rfl, b9⟩))
          have j9 := (j7.next b8).next b9
          have HK9 := Lib.hid ((k7.next b8).next b9)
          clear j7 d7 k7 b8 b9 hv8 S8 S6' hd6
          go_upto_region 18 with (go_at_call 16; refine (HU1.out _ _ _ _ j9).mono ?_; rintro x w10 ⟨rfl, j10, k10⟩)
          go_upto_region 19 with (go_at_call 18; refine (HV1.out _ _ _ _ j10).mono ?_; rintro x w11 ⟨rfl, j11, k11⟩)
          obtain ⟨T11, k611⟩ := HCL6.out _ _ j11.dd ((HK9.out.trans k10).trans k11)
          clear j9 j10 j11 k10 k11
          rcases x11 with rfl | rfl
          all_goals
            go_upto_region 21 with (first
              | (go_at_call 15; refine (HP1.out _ _ T11.jd).mono ?_; rintro x w12 ⟨v12, rfl, hv12, b12⟩; obtain ⟨A12, c12, rfl, S12, -⟩ := hv12.slice
                 have S6' := (HS6.out.kp k611 fun p e => HA6.out p e).next b12)
              | (go_at_call 22; refine (HSM.out _ A12 A6 c12 c6 S12 S6').mono ?_; rintro x w13 ⟨rfl, b13⟩; obtain ⟨K1', hk1, jd13, cl13⟩ := ((T11.next b12).next b13).left)
              | (go_at_call 18; refine (HV2.out _ _ jd13).mono ?_; rintro x w14 ⟨rfl, j14, k14⟩; obtain ⟨T14, k1314⟩ := cl13 _ _ _ j14 k14; obtain ⟨K3, hk3, d14, cl14⟩ := T14.right))
            have HK14 := Lib.hid (((k611.next b12).next b13).trans k1314)
            have HCL14 := Lib.hid cl14
            clear T11 k611 hv12 b12 S12 S6' b13 jd13 cl13 j14 k14 T14 k1314 cl14
            go_upto_region 22 with (go_at_call 23; refine (HF1.out _ _ _ d14).mono ?_; rintro x w15 ⟨rfl, d15, k15⟩; obtain ⟨T15, k1415⟩ := HCL14.out _ _ d15 k15)
            have HK15 := Lib.hid (HK14.out.trans k1415)
            clear d14 d15 k15 k1415
            go_upto_region 23 with (go_at_call 21; refine (HO2.out _ _ T15.jd).mono ?_; rintro x w16 ⟨⟨k16, d16, ib, rfl, j16⟩, jo16⟩)
            have HK16 := Lib.hid (HK15.out.trans k16)
            clear T15 k16 d16
            go_wp2_with (first
              | (go_at_call 15; refine (HQ2.out _ _ _ j16).mono ?_; rintro x w17 ⟨v17, rfl, hv17, b17⟩; obtain ⟨A17, c17, rfl, S17, -⟩ := hv17.slice
                 have S6' := (HS6.out.kp HK16.out fun p e => HA6.out p e).next b17)
              | (go_at_call 22; refine (HSM.out _ A17 A6 c17 c6 S17 S6').mono ?_; rintro x w18 ⟨rfl, b18⟩; have jo18 := (jo16.next b17).next b18)
              | (go_at_call 16; refine (HU2.out _ _ jo18).mono ?_; rintro x w19 ⟨rfl, j19, k19⟩)
              | (go_at_call 12; refine (HA.out _).mono ?_; rintro e w20 ⟨rfl, b20⟩))
            go_ret
            exact ⟨rfl, ((K6.out.trans (((((HK16.out.next b17).next b18).trans k19).next b20).mono fun i hi => .inl hi))).old⟩
end Go.Proofs.Ytkljfampkkfgdaa
