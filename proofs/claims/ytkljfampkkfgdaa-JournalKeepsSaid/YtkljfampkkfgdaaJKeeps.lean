/- The journal layer: the walk over JournalKeeps. -/
import Derived.Test.YtkljfampkkfgdaaJKeepsL
namespace Go.Proofs.Ytkljfampkkfgdaa
open Go.RowKit
set_option maxRecDepth 100000 in
set_option maxHeartbeats 16000000 in
theorem keeps_any (W : World) (z : Int) (_hz : IntKind.i64.min ≤ z ∧ z ≤ IntKind.i64.max) (st : Bs) (A : Option Addr) (l : List Bs) (c : Nat) (hS : Strs W A l) (_hc : l.length ≤ c) (_hA : (∃ a, A = some a) ∨ (A = none ∧ c = 0)) (B : Option Addr) (c3 : Nat) (cm : List Bool) (hB : Bools W B cm) (_hc3 : cm.length ≤ c3) (fuse : Int) (hfu : IntKind.i64.min ≤ fuse ∧ fuse ≤ IntKind.i64.max)
    (A5 : Option Addr) (c5 : Nat) (l5 : List Int) (hS5 : Ints W A5 l5) (hc5 : l5.length ≤ c5) (hA5 : ((∃ a, A5 = some a) ∨ (A5 = none ∧ c5 = 0)) ∧ c5 ≤ maxLen ∧ ∀ z ∈ l5, I64 z) :
    Calls Try.prog 6 #[.int .i64 z, .string ⟨st.toArray⟩, .slice A l.length c, .slice B cm.length c3, .int .i64 fuse, .slice A5 l5.length c5] W fun e w' => e = .returned (.bool true) ∧ Below W.heap.size W w' := by
  have HA := Lib.hid awake_any
  have hfu2 : fuse < 9223372036854775808 := by
    have e : IntKind.i64.max = 9223372036854775807 := by decide
    omega
  clear hfu
  by_cases hb : z < 8 ∨ 200 < z
  · have hf := fresh_bad W z hb
    have HF := Lib.hid hf
    clear hb hf hS hB hS5 hc5 hA5
    go_enter Try.func6, Try.ntmps6
    go_wp2_with (first
      | (go_at_call 11; refine HF.out.mono ?_; rintro x w1 ⟨rfl, hw1⟩; obtain rfl := hw1.symm)
      | (go_at_call 12; refine (HA.out _).mono ?_; rintro e w2 ⟨rfl, b2⟩))
    go_ret
    exact ⟨rfl, b2⟩
  · obtain ⟨N, rfl⟩ : ∃ N : Nat, z = N := ⟨z.toNat, by omega⟩
    have h8 : 8 ≤ N := by omega
    have h2 : N ≤ 200 := by omega
    obtain ⟨D1, D2, J, a1, a2, b0, b1, f2, js, jr, jd, ju, w2⟩ := fresh_ok h8 h2
    have hf := fresh_any W N h8 h2 a1 a2 b0 b1
    have HF := Lib.hid hf
    obtain ⟨n, hn⟩ : ∃ n, l.length = n := ⟨_, rfl⟩
    rw [hn]
    clear hb hf a1 a2 b0 b1 js jr jd ju
    by_cases hl : 40 < n ∨ 200 < st.length
    · have t1 : ((n : Int) > 40) ∨ (¬ (n : Int) > 40 ∧ (st.length : Int) > 200) := by omega
      clear hl hS hn hB hS5 hc5 hA5 w2 f2
      rcases t1 with t1 | ⟨t1, t2⟩
      all_goals
        go_enter Try.func6, Try.ntmps6
        go_wp2_with (first
          | (go_at_call 11; refine HF.out.mono ?_; rintro x w1 ⟨dk, jb, rfl, k1, j1⟩)
          | (go_at_call 12; refine (HA.out _).mono ?_; rintro e w3 ⟨rfl, b3⟩))
        go_ret
        exact ⟨rfl, (k1.next b3).old⟩
    · have t1 : ¬ (n : Int) > 40 := by omega
      have t2 : ¬ (st.length : Int) > 200 := by omega
      have hst : st.length ≤ 200 := by omega
      have hn40 : n ≤ 40 := by omega
      have HN := Lib.hid hn
      have HW2 := Lib.hid w2
      have HF2 := Lib.hid f2
      have HSS := Lib.hid hS
      have HBS := Lib.hid hB
      have HI5 := Lib.hid hS5
      have HM5 := Lib.hid (show l5.length ≤ 9223372036854775807 from by have := hA5.2.1; unfold maxLen at this; omega)
      clear w2 f2 hn hl hS hB hS5 hc5 hA5
      go_enter Try.func6, Try.ntmps6
      go_upto_region 5 with (go_at_call 11; refine HF.out.mono ?_; rintro x w1 ⟨dk, jb, rfl, k1, j1⟩)
      have HK1 := Lib.hid k1
      have HJ1 := Lib.hid j1
      clear k1 j1
      go_loopw [16] (fun i w => ∃ k : Nat, k ≤ n ∧ i = .int .i64 k ∧ (∀ x ∈ l.take k, x.length ≤ 200) ∧ w = w1) (fun i _ => n - (intOf i).toNat)
      case atStart => exact ⟨0, Nat.zero_le _, rfl, by simp, rfl⟩
      case round =>
        obtain ⟨k, hk, rfl, hsm, rfl⟩ := hrel
        by_cases hlt : k < n
        · have k1 : (k : Int) < (n : Nat) := by omega
          have k0 : 0 ≤ (k : Int) := by omega
          have k2 : k < n := hlt
          have hl : k < l.length := by have := HN.out; omega
          obtain ⟨pa, rfl⟩ := strs_some HSS.out (by rintro rfl; cases hl)
          have g0 := (HSS.out.next HK1.out.old).cell hl
          have HMS := Lib.hid (show k + 1 ≤ n ∧ n - (k + 1) < n - k from by omega)
          have htk : ∀ x, l[k] = x → x.length ≤ 200 → ∀ y ∈ l.take (k + 1), y.length ≤ 200 := fun x hx hx2 y hy => by
            rw [List.take_succ_eq_append_getElem hl, List.mem_append, List.mem_singleton] at hy
            rcases hy with hy | rfl
            · exact hsm y hy
            · rw [hx]; exact hx2
          have HTK := Lib.hid htk
          obtain ⟨X, hX⟩ : ∃ X, l[k] = X := ⟨_, rfl⟩
          rw [hX] at g0
          have HX := Lib.hid hX
          clear hX htk hsm
          by_cases h11 : 200 < X.length
          · have t3 : (X.length : Int) > 200 := by omega
            clear h11
            go_wp2_with (go_at_call 12; refine (HA.out _).mono ?_; rintro e w3 ⟨rfl, b3⟩)
            go_ret
            exact ⟨rfl, (HK1.out.next b3).old⟩
          · have t3 : ¬ (X.length : Int) > 200 := by omega
            have HX2 := Lib.hid (show X.length ≤ 200 from by omega)
            clear h11
            go_wp2_with (fail)
            exact ⟨⟨k + 1, HMS.out.1, by go_num, HTK.out X HX.out HX2.out, trivial⟩, by have := HMS.out.2; simp [intOf]; omega⟩
        · obtain ⟨k9, rfl⟩ : ∃ k9, k9 = n := ⟨n, rfl⟩
          obtain rfl : k9 = k := by omega
          have k1 : ¬ (k9 : Int) < (k9 : Nat) := by omega
          have hall : ∀ x ∈ l, x.length ≤ 200 := fun x hx => hsm x (by rw [List.take_of_length_le (by rw [HN.out]; exact Nat.le_refl _)]; exact hx)
          have hcap : capM N ≤ 99 := by unfold capM; omega
          obtain ⟨er, D3, J3, D4, first, q1, q2, q3, q4, q5⟩ := keeps_first HW2.out HF2.out hst fuse
          have c1 := fun w K' (h : JD K' w dk jb D2 J) => check_jd h HW2.out.ws.bd st (by omega)
          have c2 := fun w K' (h : JD K' w dk jb D3 J3) => state_jd h
          have c3 := fun w K' (h : DD K' w dk D3) => fuse_dd h fuse hfu2
          have hto := fun w => total_any w N (by omega) (by omega)
          have hun := fun w => runits_any w st.length (by omega)
          simp only [q1] at c1
          simp only [q3] at c2
          simp only [q4] at c3
          have HC1 := Lib.hid c1
          have HC2 := Lib.hid c2
          have HC3 := Lib.hid c3
          have HALL := Lib.hid hall
          have HKP := Lib.hid q5
          obtain ⟨C, hC⟩ : ∃ C, capM N = C := ⟨_, rfl⟩
          obtain ⟨us, hus⟩ : ∃ us, unitsM st.length = us := ⟨_, rfl⟩
          rw [hC] at hto hcap q2
          rw [hus] at hun q2
          have HTO := Lib.hid hto
          have HUN := Lib.hid hun
          clear hsm hall q1 q3 q4 q5 c1 c2 c3 hto hun hC hus
          have hq2 : er = 0 ∨ (er = 5 ∧ ¬ (us : Int) ≤ (C : Int)) := q2.imp id fun h => ⟨h.1, by omega⟩
          clear q2
          rcases hq2 with rfl | ⟨rfl, t4⟩
          all_goals
            go_upto_region 17 with (first
              | (go_at_call 30; refine (HC1.out _ _ HJ1.out).mono ?_; rintro x w2 ⟨rfl, j2, k2⟩; obtain ⟨K2, hk2, d2, cl2⟩ := j2.lift)
              | (go_at_call 17; refine (HUN.out _).mono ?_; rintro x w9 ⟨rfl, hw9⟩; obtain rfl := hw9.symm)
              | (go_at_call 14; refine (HTO.out _).mono ?_; rintro x w9 ⟨rfl, hw9⟩; obtain rfl := hw9.symm)
              | (go_at_call 31; refine (HC2.out _ _ j2).mono ?_; rintro x w9 ⟨rfl, hw9⟩; obtain rfl := hw9.symm)
              | (go_at_call 32; refine (HC3.out _ _ d2).mono ?_; rintro x w3 ⟨rfl, d3, k3⟩; obtain ⟨j3, k23⟩ := cl2 _ _ d3 k3))
            have HK3 := Lib.hid ((HK1.out.trans k2).trans k23)
            have j3' : JD (fun i => Old W i ∨ (Value.slice none 0 0).ownBlock = some i) w3 dk jb D4 J3 := j3.less fun i hi => hi.elim id fun h => by cases h
            have HJ3 := Lib.hid j3'
            clear j2 k2 d2 cl2 d3 k3 j3 k23 j3'
            go_loopw [18, 19, 20, 21] (fun sv sr i _ w => ∃ (k : Nat) (D : Dk) (J : Jn) (m : Md) (sent : List Bs) (sure : Nat) (v : Value), k ≤ k9 ∧ i = .int .i64 k ∧ sv = v ∧ sr = .int .i64 sure ∧ KP N (5 + k) D J m first sent sure ∧ sent.length ≤ k ∧ OwnStrs w 0 v sent ∧ (∀ g, v.ownBlock = some g → W.heap.size ≤ g) ∧ JD (fun i => Old W i ∨ v.ownBlock = some i) w dk jb D J ∧ Kp (Old W) W w) (fun _ _ i _ _ => k9 - (intOf i).toNat)
            case atStart => exact ⟨0, D4, J3, _, [], 0, _, Nat.zero_le _, rfl, rfl, rfl, HKP.out, Nat.le_refl _, OwnStrs.none _ _, nofun, HJ3.out, HK3.out⟩
            case round =>
              obtain ⟨k, D, J5, m, sent, sure, v, hk, rfl, rfl, rfl, hp, hsl, hO, hvo, hj, hkp⟩ := hrel
              obtain ⟨vA, vc, rfl, -, -⟩ := hO.slice
              have HP := Lib.hid hp
              have HO := Lib.hid hO
              have HVO := Lib.hid hvo
              have HJ := Lib.hid hj
              have HK := Lib.hid hkp
              have HSL := Lib.hid hsl
              by_cases hlt : k < k9
              · have k1 : (k : Int) < (k9 : Nat) := by omega
                have k0 : 0 ≤ (k : Int) := by omega
                have k2 : k < k9 := hlt
                have hl : k < l.length := by have := HN.out; omega
                obtain ⟨pa, rfl⟩ := strs_some HSS.out (by rintro rfl; cases hl)
                have hcell := fun w (b : Below W.heap.size W w) => (HSS.out.next b).cell hl
                have HMS := Lib.hid (show k + 1 ≤ k9 ∧ k9 - (k + 1) < k9 - k from by omega)
                have hXs : l[k].length ≤ 200 := HALL.out _ (List.getElem_mem hl)
                obtain ⟨X, hX⟩ : ∃ X, l[k] = X := ⟨_, rfl⟩
                rw [hX] at hXs hcell
                have HCELL := Lib.hid hcell
                have g0 := hcell wr hkp.old
                obtain ⟨e1, E, J6, m', q1, q2⟩ := hp.append (by omega) hXs
                have c1 := fun w K' (h : JD K' w dk jb D J5) => append_jd h hp.ws.bd hp.jbd X (by omega)
                simp only [q1] at c1
                have HC1 := Lib.hid c1
                have hq : (∃ sent2, (e1 = 5 ∨ e1 = 72) ∧ sent2 = sent ∧ KP N (5 + (k + 1)) E J6 m' first sent2 sure) ∨ (∃ sent2, (e1 = 0 ∨ e1 = 70) ∧ sent2 = sent ++ [X] ∧ KP N (5 + (k + 1)) E J6 m' first sent2 sure) := by
                  rcases q2 with ⟨a, b⟩ | ⟨a, b⟩
                  · exact .inl ⟨_, a, rfl, b⟩
                  · exact .inr ⟨_, a, rfl, b⟩
                clear hp hO hvo hj hkp hsl hcell hX hXs q1 q2 c1 hl
                rcases hq with ⟨sent2, he, hs2, hp2⟩ | ⟨sent2, he, hs2, hp2⟩
                · subst hs2
                  have HP2 := Lib.hid hp2
                  clear hp2
                  rcases he with rfl | rfl
                  all_goals
                    go_upto_region 24 with (go_at_call 16; refine (HC1.out _ _ HJ.out).mono ?_; rintro x w4 ⟨rfl, j4, k4⟩)
                    have hBS := fun w (b : Below W.heap.size W w) => HBS.out.next b
                    have hpq := HP2.out
                    have hOq := HO.out.kp k4 fun g hg => .inr hg
                    have hvq := HVO.out
                    have jq := j4
                    have kq := HK.out.trans (k4.mono fun i hi => .inl hi)
                    have hlq := Nat.le_succ_of_le HSL.out
                    clear j4 k4 HO HVO HJ HK HSL HP2 HC1
                    obtain ⟨wq, hwq⟩ : ∃ wq, wq = w4 := ⟨_, rfl⟩
                    subst hwq
                    obtain ⟨qA, qc, hqv, -, -⟩ := hOq.slice
                    have HPQ := Lib.hid hpq
                    have HOQ := Lib.hid hOq
                    have HVQ := Lib.hid hvq
                    have HJQ := Lib.hid jq
                    have HKQ := Lib.hid kq
                    have HLQ := Lib.hid hlq
                    have hbo := hBS wq kq.old
                    clear hpq hOq hvq jq kq hlq hqv
                    by_cases hcm : k < cm.length
                    · have tc : (k : Int) < (cm.length : Nat) := by omega
                      have tc2 : k < cm.length := hcm
                      obtain ⟨pb, rfl⟩ : ∃ b, B = some b := by
                        rcases hbo with e | ⟨b, e, _⟩
                        · rw [e] at hcm; cases hcm
                        · exact ⟨b, e⟩
                      have gb : wq.cell? (pb.add k) = some (.bool cm[k]) := by
                        rcases hbo with e | ⟨b, e, h⟩
                        · rw [e] at hcm; cases hcm
                        · cases e; exact h k hcm
                      clear hbo hBS
                      cases hcb : cm[k] with
                      | false =>
                        rw [hcb] at gb
                        clear hcb hcm
                        go_wp2_with (fail)
                        exact ⟨⟨k + 1, E, J6, m', sent2, sure, _, HMS.out.1, by go_num, rfl, rfl, HPQ.out, HLQ.out, HOQ.out, HVQ.out, HJQ.out, HKQ.out⟩, by have := HMS.out.2; simp [intOf]; omega⟩
                      | true =>
                        rw [hcb] at gb
                        clear hcb hcm
                        obtain ⟨e2, E2, J7, m2, r1, r2⟩ := HPQ.out.commit
                        have c2 := fun w K' (h : JD K' w dk jb E J6) => commit_jd h HPQ.out.jbd
                        simp only [r1] at c2
                        have HC2' := Lib.hid c2
                        clear c2 r1
                        rcases r2 with ⟨rfl, r2⟩ | ⟨r3, r2⟩
                        · have HR2 := Lib.hid r2
                          clear r2
                          go_wp2_with (go_at_call 18; refine (HC2'.out _ _ HJQ.out).mono ?_; rintro x w7 ⟨rfl, j7, k7⟩)
                          exact ⟨⟨k + 1, E2, J7, m2, sent2, sent2.length, _, HMS.out.1, by go_num, rfl, by first | rfl | exact congrArg _ (by simp), HR2.out, HLQ.out, HOQ.out.kp k7 fun g hg => .inr hg, HVQ.out, j7, HKQ.out.trans (k7.mono fun i hi => .inl hi)⟩, by have := HMS.out.2; simp [intOf]; omega⟩
                        · have te : (e2 == 0) = false := by simpa using r3
                          have HR2 := Lib.hid r2
                          clear r2 r3
                          go_wp2_with (go_at_call 18; refine (HC2'.out _ _ HJQ.out).mono ?_; rintro x w7 ⟨rfl, j7, k7⟩)
                          exact ⟨⟨k + 1, E2, J7, m2, sent2, sure, _, HMS.out.1, by go_num, rfl, rfl, HR2.out, HLQ.out, HOQ.out.kp k7 fun g hg => .inr hg, HVQ.out, j7, HKQ.out.trans (k7.mono fun i hi => .inl hi)⟩, by have := HMS.out.2; simp [intOf]; omega⟩
                    · have tc : ¬ (k : Int) < (cm.length : Nat) := by omega
                      clear hcm hbo hBS
                      go_wp2_with (fail)
                      exact ⟨⟨k + 1, E, J6, m', sent2, sure, _, HMS.out.1, by go_num, rfl, rfl, HPQ.out, HLQ.out, HOQ.out, HVQ.out, HJQ.out, HKQ.out⟩, by have := HMS.out.2; simp [intOf]; omega⟩
                · subst hs2
                  have HP2 := Lib.hid hp2
                  clear hp2
                  rcases he with rfl | rfl
                  all_goals
                    go_upto_region 24 with (first
                      | (go_at_call 16; refine (HC1.out _ _ HJ.out).mono ?_; rintro x w4 ⟨rfl, j4, k4⟩
                         have g4 := HCELL.out w4 (HK.out.trans (k4.mono fun i hi => .inl hi)).old
                         have o4 := HO.out.kp k4 fun g hg => .inr hg)
                      | (at_builtin; refine wpList_append_s rfl (.tmp 111) (.tmp 116) rfl _ sent X w4.heap.size 1 rfl rfl (o4.next (Below.new1 _ _)) (cellS0 w4 X) (by have := HSL.out; omega) ?_
                         intro v5 wq hOq hB5 hON
                         obtain ⟨pA5, pc5, rfl, -, -⟩ := hOq.slice))
                    have jq := JD.row j4 (Below.new1 w4 (.cells #[.string ⟨X.toArray⟩] 9)) hB5 hOq hON
                    have hBS := fun w (b : Below W.heap.size W w) => HBS.out.next b
                    have hpq := HP2.out
                    have k04 := HK.out.trans (k4.mono fun i hi => .inl hi)
                    have hvq : ∀ g, (Value.slice pA5 (sent ++ [X]).length pc5).ownBlock = some g → W.heap.size ≤ g := fun g hg => by
                      rcases hON with q | q
                      · exact HVO.out g (q ▸ hg)
                      · have := q g hg
                        have h1 := k04.size
                        have h2 := (Below.new1 w4 (.cells #[.string ⟨X.toArray⟩] 9)).size
                        omega
                    have kq : Kp (Old W) W wq := (k04.next (Below.new1 w4 (.cells #[.string ⟨X.toArray⟩] 9))).trans (hB5.mono fun i _ hv ho => by have := HVO.out i hv; exact absurd ho (by show ¬ i < W.heap.size; omega))
                    have hlq : (sent ++ [X]).length ≤ k + 1 := by have := HSL.out; simp; omega
                    clear j4 k4 HO HVO HJ HK HSL HP2 HC1 hB5 hON k04 o4
                    obtain ⟨sent2, hsent⟩ : ∃ sent2, sent ++ [X] = sent2 := ⟨_, rfl⟩
                    rw [hsent] at hpq hOq hvq jq hlq
                    have hln : sent.length + 1 = sent2.length := by rw [← hsent]; simp
                    rw [hln]
                    clear hsent hln
                    obtain ⟨qA, qc, hqv, -, -⟩ := hOq.slice
                    have HPQ := Lib.hid hpq
                    have HOQ := Lib.hid hOq
                    have HVQ := Lib.hid hvq
                    have HJQ := Lib.hid jq
                    have HKQ := Lib.hid kq
                    have HLQ := Lib.hid hlq
                    have hbo := hBS wq kq.old
                    clear hpq hOq hvq jq kq hlq hqv
                    by_cases hcm : k < cm.length
                    · have tc : (k : Int) < (cm.length : Nat) := by omega
                      have tc2 : k < cm.length := hcm
                      obtain ⟨pb, rfl⟩ : ∃ b, B = some b := by
                        rcases hbo with e | ⟨b, e, _⟩
                        · rw [e] at hcm; cases hcm
                        · exact ⟨b, e⟩
                      have gb : wq.cell? (pb.add k) = some (.bool cm[k]) := by
                        rcases hbo with e | ⟨b, e, h⟩
                        · rw [e] at hcm; cases hcm
                        · cases e; exact h k hcm
                      clear hbo hBS
                      cases hcb : cm[k] with
                      | false =>
                        rw [hcb] at gb
                        clear hcb hcm
                        go_wp2_with (fail)
                        exact ⟨⟨k + 1, E, J6, m', sent2, sure, _, HMS.out.1, by go_num, rfl, rfl, HPQ.out, HLQ.out, HOQ.out, HVQ.out, HJQ.out, HKQ.out⟩, by have := HMS.out.2; simp [intOf]; omega⟩
                      | true =>
                        rw [hcb] at gb
                        clear hcb hcm
                        obtain ⟨e2, E2, J7, m2, r1, r2⟩ := HPQ.out.commit
                        have c2 := fun w K' (h : JD K' w dk jb E J6) => commit_jd h HPQ.out.jbd
                        simp only [r1] at c2
                        have HC2' := Lib.hid c2
                        clear c2 r1
                        rcases r2 with ⟨rfl, r2⟩ | ⟨r3, r2⟩
                        · have HR2 := Lib.hid r2
                          clear r2
                          go_wp2_with (go_at_call 18; refine (HC2'.out _ _ HJQ.out).mono ?_; rintro x w7 ⟨rfl, j7, k7⟩)
                          exact ⟨⟨k + 1, E2, J7, m2, sent2, sent2.length, _, HMS.out.1, by go_num, rfl, by first | rfl | exact congrArg _ (by simp), HR2.out, HLQ.out, HOQ.out.kp k7 fun g hg => .inr hg, HVQ.out, j7, HKQ.out.trans (k7.mono fun i hi => .inl hi)⟩, by have := HMS.out.2; simp [intOf]; omega⟩
                        · have te : (e2 == 0) = false := by simpa using r3
                          have HR2 := Lib.hid r2
                          clear r2 r3
                          go_wp2_with (go_at_call 18; refine (HC2'.out _ _ HJQ.out).mono ?_; rintro x w7 ⟨rfl, j7, k7⟩)
                          exact ⟨⟨k + 1, E2, J7, m2, sent2, sure, _, HMS.out.1, by go_num, rfl, rfl, HR2.out, HLQ.out, HOQ.out.kp k7 fun g hg => .inr hg, HVQ.out, j7, HKQ.out.trans (k7.mono fun i hi => .inl hi)⟩, by have := HMS.out.2; simp [intOf]; omega⟩
                    · have tc : ¬ (k : Int) < (cm.length : Nat) := by omega
                      clear hcm hbo hBS
                      go_wp2_with (fail)
                      exact ⟨⟨k + 1, E, J6, m', sent2, sure, _, HMS.out.1, by go_num, rfl, rfl, HPQ.out, HLQ.out, HOQ.out, HVQ.out, HJQ.out, HKQ.out⟩, by have := HMS.out.2; simp [intOf]; omega⟩
              · obtain rfl : k9 = k := by omega
                have k1 : ¬ (k9 : Int) < (k9 : Nat) := by omega
                obtain ⟨E, K, o1, o2, o3, o4, o5, o6, o7⟩ := hp.final (by omega) l5
                obtain ⟨pO, pc, hpe, hSv, -⟩ := hO.slice
                simp only [Value.slice.injEq] at hpe
                obtain ⟨rfl, -, rfl⟩ := hpe
                have hSk : ∀ p, vA = some p → p.block < wr.heap.size ∧ (Old W p.block ∨ (Value.slice vA sent.length vc).ownBlock = some p.block) := fun p e => by
                  subst e
                  exact ⟨hO.lt rfl, .inr rfl⟩
                have d1 := crash_dd hj.dd A5 l5 l5.length c5 rfl (HI5.out.next hkp.old) (fun h0 a e => .inl (by subst e; exact block_lt_of_cell (HI5.out.cell (i := 0) h0))) HM5.out
                have c7 := fun w K' (h : DD K' w dk (crashM D l5)) => open_dd h o2
                have c8 := fun w kb K' (h : JD K' w dk kb E K) => records_jd h (by have := o3.recs; omega)
                have c9 := fun w kb K' (h : JD K' w dk kb E K) => state_jd h
                simp only [OpenD, o1] at c7
                rw [o5] at c9
                have q0 : (first != first) = false := by simp
                have hrl := o3.recs
                have c10 := fun w (B : Option Addr) d (h1 : Strs w vA sent) (h2 : Strs w B K.recs) => begins_any w vA B sent K.recs sent.length K.recs.length vc d h1 h2 rfl rfl (by omega) (by omega)
                simp only [o7] at c10
                obtain ⟨gr, hgr⟩ : ∃ gr, K.recs.length = gr := ⟨_, rfl⟩
                have t5 : (gr : Int) ≥ (sure : Nat) := by omega
                have HD1' := Lib.hid d1
                have HC7 := Lib.hid c7
                have HC8 := Lib.hid c8
                have HC9 := Lib.hid c9
                have HC10 := Lib.hid c10
                have HGR := Lib.hid hgr
                have HSV := Lib.hid hSv
                have HSK := Lib.hid hSk
                clear hp hO hvo hj hkp hsl o1 o2 o3 o4 o5 o6 o7 hSv hSk d1 c7 c8 c9 c10 hrl hgr HO HJ HP HVO
                go_upto_region 28 with (go_at_call 28; refine HD1'.out.mono ?_; rintro x w4 ⟨rfl, d4, k4⟩)
                go_upto_region 32 with (first
                  | (go_at_call 21; refine (HC7.out _ _ d4).mono ?_; rintro x w5 ⟨k5, d5, kb, rfl, j5⟩)
                  | (go_at_call 31; refine (HC9.out _ _ _ j5).mono ?_; rintro x w9 ⟨rfl, hw9⟩; obtain rfl := hw9.symm)
                  | (go_at_call 15; refine (HC8.out _ _ _ j5).mono ?_; rintro x w6 ⟨v6, rfl, hv6, b6⟩; obtain ⟨A6, c6, rfl, S6, -⟩ := hv6.slice; rw [HGR.out]))
                have S7 := (HSV.out.kp (k4.trans k5) HSK.out).next b6
                have HK6 := Lib.hid ((HK.out.trans ((k4.trans k5).mono fun i hi => .inl hi)).next b6)
                have h10 := HC10.out w6 A6 c6 S7 S6
                rw [HGR.out] at h10
                have H10 := Lib.hid h10
                clear d4 k4 k5 d5 j5 hv6 b6 S6 S7 h10
                go_wp2_with (first
                  | (go_at_call 33; refine H10.out.mono ?_; rintro x w7 ⟨rfl, b7⟩)
                  | (go_at_call 12; refine (HA.out _).mono ?_; rintro e w8 ⟨rfl, b8⟩))
                go_ret
                exact ⟨rfl, ((HK6.out.next b7).next b8).old⟩
end Go.Proofs.Ytkljfampkkfgdaa
