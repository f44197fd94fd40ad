/- JournalStable answers true: the plain law and the walk. -/
import Derived.Test.YtkljfampkkfgdaaJPlays
namespace Go.Proofs.Ytkljfampkkfgdaa
open Go.RowKit
/-- A journal all of whose records are sure is found again after any crash. -/
theorem WJ.again {N n : Nat} {D : Dk} {J : Jn} {st : Bs} {rs : List Bs} (h : WJ N n D J (openedM st rs)) (hs : J.st = st) (hr : J.recs = rs) (hd : J.dur = J.recs.length) (hn : n + 2 < 160) (keep : List Int) :
    ∃ E K, openM (crashM D keep) = (0, E, some K) ∧ K.st = st ∧ K.recs = rs ∧ K.dur = K.recs.length ∧ WJ N (n + 3) E K (openedM st rs) := by
  obtain ⟨c1, c2, c3, -⟩ := h.ws.crash (by omega) keep
  have hlen := h.ws.len
  have hlow := h.ws.low
  have hhigh := h.ws.high
  have hep := h.ep
  obtain ⟨k, k1, k2, k3⟩ := h.live.read (by omega) (by omega) (by omega) (crash_choice (D := D) (keep := keep))
  rw [hlen, hs, hr] at k3
  rw [List.take_of_length_le (by rw [← hr]; omega)] at k3
  obtain ⟨E, K, q1, -, -, q4, q5, q6, q7⟩ := c1.reopen (by omega) c2 c3 k3
  exact ⟨E, K, q1, q4, q5, q6, q7⟩
/-- After the calls: a crash that keeps nothing, and Open. -/
theorem WI.first {N n : Nat} {X : Wd} (h : WI N n X) (hn : n < 140) :
    (∃ E K, openM (crashM X.D []) = (0, E, some K) ∧ K.dur = K.recs.length ∧ WJ N (n + 3) E K (openedM K.st K.recs)) ∨ (∃ E, openM (crashM X.D []) = (71, E, none) ∧ X.m.Sure = false) := by
  obtain ⟨c1, c2, c3, -⟩ := h.ws.crash (by omega) []
  obtain ⟨-, ⟨J, b1, -, -, -, -, b6, b7⟩ | ⟨b1, -, b3, -⟩ | ⟨-, -, b3, -⟩⟩ := c1.open_ (by omega)
  · exact .inl ⟨_, J, b1, b6, b7⟩
  · exact .inr ⟨_, b1, b3⟩
  · rcases b3 with b3 | b3
    · rw [c2] at b3; cases b3
    · omega
theorem Ints.lt {w : World} {A : Option Addr} {l : List Int} (h : Ints w A l) (h0 : 0 < l.length) {a : Addr} (e : A = some a) : a.block < w.heap.size := by
  rcases h with h | ⟨a', e', h⟩
  · rw [h] at h0; cases h0
  · rw [e] at e'
    cases e'
    have := block_lt_of_cell (h 0 _ (List.getElem?_eq_getElem (by simpa using h0)))
    rwa [add_block'] at this
/-- A world, and blocks that are kept besides. -/
def WdQ (Q : Nat → Prop) (W0 W : World) (wb : Nat) (X : Wd) : Prop := ∃ K dk jp rv av cv, WB K W wb dk jp rv av cv X ∧ (∀ i, Old W0 i → K i) ∧ (∀ i, Q i → K i) ∧ W0.heap.size ≤ wb ∧ Kp (Old W0) W0 W
def WdQJ (Q : Nat → Prop) (W0 W : World) (wb jb : Nat) (X : Wd) (J : Jn) : Prop := ∃ K dk jp rv av cv, WB K W wb dk jp rv av cv X ∧ (∀ i, Old W0 i → K i) ∧ (∀ i, Q i → K i) ∧ W0.heap.size ≤ wb ∧ Kp (Old W0) W0 W ∧ JD K W dk jb X.D J
section
variable {Q : Nat → Prop} {W0 W w1 : World} {wb jb N n : Nat} {X : Wd} {J : Jn}
theorem WdQ.of (h : WdAt W0 W wb X) (hB : Below W.heap.size W w1) : WdQ (fun i => W.heap.size ≤ i ∧ i < w1.heap.size) W0 w1 wb X := by
  obtain ⟨K, dk, jp, rv, av, cv, hw, h1, h2, h3⟩ := h
  exact ⟨_, dk, jp, rv, av, cv, hw.more hB, fun i hi => .inl (h1 i hi), fun i hi => .inr hi, h2, h3.next hB⟩
theorem WdQ.next (h : WdQ Q W0 W wb X) (hB : Below W.heap.size W w1) : WdQ Q W0 w1 wb X := by
  obtain ⟨K, dk, jp, rv, av, cv, hw, h1, hq, h2, h3⟩ := h
  exact ⟨K, dk, jp, rv, av, cv, hw.next hB, h1, hq, h2, h3.next hB⟩
theorem WdQ.wd (h : WdQ Q W0 W wb X) : WdAt W0 W wb X := by
  obtain ⟨K, dk, jp, rv, av, cv, hw, h1, hq, h2, h3⟩ := h
  exact ⟨K, dk, jp, rv, av, cv, hw, h1, h2, h3⟩
theorem WdQJ.q (h : WdQJ Q W0 W wb jb X J) : WdQ Q W0 W wb X := by
  obtain ⟨K, dk, jp, rv, av, cv, hw, h1, hq, h2, h3, h4⟩ := h
  exact ⟨K, dk, jp, rv, av, cv, hw, h1, hq, h2, h3⟩
theorem WdQJ.j (h : WdQJ Q W0 W wb jb X J) : WdJ W0 W wb jb X J := by
  obtain ⟨K, dk, jp, rv, av, cv, hw, h1, hq, h2, h3, h4⟩ := h
  exact ⟨K, dk, jp, rv, av, cv, hw, h1, h2, h3, h4⟩
theorem WdQ.crash (h : WdQ Q W0 W wb X) : ∃ p, W.cell? ⟨wb, 0, none⟩ = some p
    ∧ (∀ A keep n c2, keep.length = n → Ints W A keep → (∀ a, 0 < n → A = some a → a.block < W0.heap.size) → n ≤ 9223372036854775807 → Calls Try.prog 28 #[p, .slice A n c2] W fun e w' => e = .returned (.int .i64 0) ∧ WdQ Q W0 w' wb { X with D := crashM X.D keep } ∧ Kp Q W w') := by
  obtain ⟨K, dk, jp, rv, av, cv, hw, h1, hq, h2, h3⟩ := h
  refine ⟨_, hw.c0, fun A keep n c2 e hA hK hn => (crash_dj hw.dj A keep n c2 e hA (fun h0 a ha => h1 _ (hK a h0 ha)) hn).mono ?_⟩
  rintro x w' ⟨rfl, q1, q2⟩
  exact ⟨rfl, ⟨K, dk, jp, rv, av, cv, hw.call q1 q2, h1, hq, h2, h3.trans (q2.mono h1)⟩, q2.mono hq⟩
theorem WdQ.opn (h : WdQ Q W0 W wb X) (b : Bd X.D) : ∃ p, W.cell? ⟨wb, 0, none⟩ = some p ∧
    (∀ er D' J, openM X.D = (er, D', some J) → Calls Try.prog 21 #[p] W fun e w' => ∃ jb, e = .returned (.tuple #[.pointer (some ⟨jb, 0, none⟩), .int .i64 er]) ∧ WdQJ Q W0 w' wb jb { X with D := D' } J ∧ Kp Q W w') := by
  obtain ⟨K, dk, jp, rv, av, cv, hw, h1, hq, h2, h3⟩ := h
  have ho := open_dj hw.dj b
  refine ⟨_, hw.c0, fun er D' J q => ?_⟩
  rw [q] at ho
  refine ho.mono ?_
  rintro e w' ⟨⟨q1, q2, jb, q3, q5⟩, q4⟩
  exact ⟨jb, q3, ⟨K, dk, jp, rv, av, cv, hw.call q4 q1, h1, hq, h2, h3.trans (q1.mono h1), q5⟩, q1.mono hq⟩
set_option maxRecDepth 100000 in
set_option maxHeartbeats 4000000 in
theorem stable_any (W : World) (z0 : Int) (A : Option Addr) (c : Nat) (L : List Ac) (hA : Acts W A L) (B : Option Addr) (d : Nat) (M : List (Option Addr × Nat × List Int)) (hM : Intss W B M) :
    Calls Try.prog 9 #[.int .i64 z0, .slice A L.length c, .slice B M.length d] W fun e w' => e = .returned (.bool true) ∧ Below W.heap.size W w' := by
  obtain ⟨n, hn⟩ : ∃ n, L.length = n := ⟨_, rfl⟩
  obtain ⟨m, hm⟩ : ∃ m, M.length = m := ⟨_, rfl⟩
  rw [hn, hm]
  have hfe := fun w (b : Below W.heap.size W w) => few_any w A L n c hn (hA.next b)
  have HFE := Lib.hid hfe
  have HAW := Lib.hid awake_any
  have HN := Lib.hid hn
  have HM := Lib.hid hm
  have HA := Lib.hid hA
  have HMM := Lib.hid hM
  clear hfe hn hA hm hM
  by_cases hb : z0 < 8 ∨ 200 < z0
  · have HBG := Lib.hid (begun_bad W z0 hb)
    clear hb
    go_enter Try.func9, Try.ntmps9
    go_upto_region 2 with (go_at_call 34; refine HBG.out.mono ?_; rintro x w1 ⟨rfl, hw1⟩; obtain rfl := hw1.symm)
    go_wp2_with (first
      | (go_at_call 35; refine (HFE.out _ (Below.refl _ _)).mono ?_; rintro x w2 ⟨hw2, b, rfl, -⟩; obtain rfl := hw2.symm; cases b)
      | (go_at_call 12; refine (HAW.out _).mono ?_; rintro x w3 ⟨rfl, b3⟩))
    all_goals
      go_ret
      exact ⟨rfl, b3⟩
  · obtain ⟨N, rfl⟩ : ∃ N : Nat, z0 = N := ⟨z0.toNat, by omega⟩
    have HBG := Lib.hid (begun_any W N (by omega) (by omega))
    have hws : WI N 0 (wd0 N) := ⟨new_ws (by omega) (by omega), fun _ => (by show (-1 : Int) < 0; decide), fun _ => ⟨rfl, rfl, rfl⟩, nofun, nofun, nofun, nofun, ⟨Nat.zero_le _, Nat.zero_le _⟩, rfl⟩
    have HWS := Lib.hid hws
    clear hb hws
    go_enter Try.func9, Try.ntmps9
    go_upto_region 2 with (go_at_call 34; refine HBG.out.mono ?_; rintro x w1 ⟨wb, rfl, h1⟩)
    have hB1 := h1.old
    have HFE1 := Lib.hid (HFE.out _ hB1)
    have H1 := Lib.hid h1
    have HB1 := Lib.hid hB1
    clear h1 hB1
    by_cases hm10 : 10 < m
    · have m10 : (m : Int) > 10 := by omega
      clear hm10
      go_wp2_with (first
        | (go_at_call 35; refine HFE1.out.mono ?_; rintro x w2 ⟨hw2, b, rfl, -⟩; obtain rfl := hw2.symm; cases b)
        | (go_at_call 12; refine (HAW.out _).mono ?_; rintro x w3 ⟨rfl, b3⟩))
      all_goals
        go_ret
        exact ⟨rfl, HB1.out.trans (b3.mono HB1.out.size)⟩
    have m10 : ¬ (m : Int) > 10 := by omega
    go_wp2_with (first
      | (go_at_call 35; refine HFE1.out.mono ?_; rintro x w2 ⟨hw2, b, rfl, hb60⟩; obtain rfl := hw2.symm; cases b)
      | (go_at_call 12; refine (HAW.out _).mono ?_; rintro x w3 ⟨rfl, b3⟩))
    · go_ret
      exact ⟨rfl, HB1.out.trans (b3.mono HB1.out.size)⟩
    · have h60 : n ≤ 60 := hb60 trivial
      clear hb60
      go_loopw [8, 9] (fun ok i w => ∃ (k : Nat) (X : Wd), k ≤ n ∧ i = .int .i64 k ∧ ok = .bool true ∧ WdAt W w wb X ∧ WI N (2 * k) X) (fun _ i _ => n - (intOf i).toNat)
      case atStart => exact ⟨0, _, Nat.zero_le _, rfl, rfl, H1.out, HWS.out⟩
      case round =>
        obtain ⟨k, X, hk, rfl, rfl, h3, hi⟩ := hrel
        by_cases hlt : k < n
        · have k1 : (k : Int) < (n : Nat) := by omega
          have k0 : 0 ≤ (k : Int) := by omega
          have k2 : k < n := hlt
          have hl : k < L.length := by have := HN.out; omega
          obtain ⟨a, rfl⟩ := HA.out.some_ hl
          obtain ⟨-, ⟨g0, g1, g2, g3⟩, ok⟩ := (HA.out.next h3.old).at_ hl
          have okw := (HA.out.at_ hl).2.2
          have hdo := do_any h3 hi (by omega) L[k].kd ok.kd L[k].T L[k].n ok.n L[k].A L[k].keep.length L[k].kc L[k].keep rfl okw.keep.ints okw.keep.nil (by have := okw.keep.few; omega)
          have HDO := Lib.hid hdo
          have HMS := Lib.hid (show k + 1 ≤ n ∧ n - (k + 1) < n - k from by omega)
          generalize L[k] = Y at *
          clear hl ok okw hdo h3 hi
          go_wp2_with (first
            | (go_at_call 36; refine HDO.out.mono ?_; rintro x w4 ⟨rfl, X', h4, hi4⟩))
          exact ⟨⟨k + 1, X', HMS.out.1, by go_num, rfl, h4, hi4⟩, by have := HMS.out.2; simp [intOf]; omega⟩
        · have k1 : ¬ (k : Int) < (n : Nat) := by omega
          obtain ⟨p, c0, -, -, -, -, hcr⟩ := h3.dk
          have hcr0 := hcr none [] 0 0 rfl (.inl rfl) nofun (by decide)
          have hfi := hi.first (by omega)
          have hbd := (hi.ws.crash (by omega) []).1.bd
          have HCR := Lib.hid hcr0
          have HSZ := Lib.hid (show 2 * k ≤ 120 from by omega)
          clear h3 hcr hcr0 hi
          go_upto_region 10 with (go_at_call 28; refine HCR.out.mono ?_; rintro x w4 ⟨rfl, h4⟩)
          obtain ⟨p4, c4, hop⟩ := h4.opn hbd
          rcases hfi with ⟨E, J, q1, q2, q3⟩ | ⟨E, q1, q2⟩
          · have HOP := Lib.hid (hop.2 _ _ _ q1)
            have HQ2 := Lib.hid q2
            have HQ3 := Lib.hid q3
            clear hop hbd q1 q2 q3 h4
            go_upto_region 13 with (go_at_call 21; refine HOP.out.mono ?_; rintro x w5 ⟨jb, rfl, h5⟩)
            obtain ⟨-, ask1, ask2⟩ := h5.asks HQ3.out.jbd
            have HS := Lib.hid ask1
            have HR := Lib.hid ask2
            have H5 := Lib.hid h5
            clear ask1 ask2 h5
            go_upto_region 14 with (first
              | (go_at_call 31; refine HS.out.mono ?_; rintro x w6 ⟨rfl, hw6⟩; obtain rfl := hw6.symm)
              | (go_at_call 15; refine HR.out.mono ?_; rintro x w6 ⟨v6, rfl, hv6, b6⟩))
            have hq6 := WdQ.of H5.out.wd b6
            obtain ⟨A6, c6, rfl, s6, -⟩ := hv6.slice
            have ha6 : ∀ a, A6 = some a → a.block < w6.heap.size ∧ (w5.heap.size ≤ a.block ∧ a.block < w6.heap.size) := fun a e => by
              have := World.ownsRow.lt hv6 a.block (by rw [e]; rfl)
              exact ⟨this.2, this⟩
            have hrl := HQ3.out.used_ok.2.2
            have HQ6 := Lib.hid hq6
            have HS6 := Lib.hid s6
            have HA6 := Lib.hid ha6
            have HRL := Lib.hid hrl
            obtain ⟨st, hst⟩ : ∃ st, J.st = st := ⟨_, rfl⟩
            obtain ⟨rs, hrs⟩ : ∃ rs, J.recs = rs := ⟨_, rfl⟩
            rw [hst, hrs] at HQ3
            rw [hrs] at HS6 HRL
            have HJ1 := Lib.hid hst
            have HJ2 := Lib.hid hrs
            rw [hst, hrs]
            clear hq6 s6 ha6 hrl hst hrs hv6 b6 HS HR H5
            go_wp2_with (fail)
            go_loopw [14, 15, 16] (fun i _ _ w => ∃ (q : Nat) (D : Dk) (J' : Jn), q ≤ m ∧ i = .int .i64 q ∧ WdQ (fun i => w5.heap.size ≤ i ∧ i < w6.heap.size) W w wb { X with D := D } ∧ WJ N (2 * k + 3 + 3 * q) D J' (openedM st rs) ∧ J'.st = st ∧ J'.recs = rs ∧ J'.dur = J'.recs.length ∧ Kp (fun i => w5.heap.size ≤ i ∧ i < w6.heap.size) w6 w) (fun i _ _ _ => m - (intOf i).toNat)
            case atStart => exact ⟨0, E, J, Nat.zero_le _, rfl, HQ6.out, HQ3.out, HJ1.out, HJ2.out, HQ2.out, Kp.refl _ _⟩
            case round =>
              obtain ⟨q, D, J', hq, rfl, h7, hw7, e1, e2, e3, hk7⟩ := hrel
              have hold := h7.wd.old
              by_cases hqm : q < m
              · have k3 : (q : Int) < (m : Nat) := by omega
                have k4 : 0 ≤ (q : Int) := by omega
                have k5 : q < m := hqm
                have hl : q < M.length := by have := HM.out; omega
                obtain ⟨b, rfl⟩ := HMM.out.some_ hl
                obtain ⟨gk, ok⟩ := HMM.out.at_ hl
                obtain ⟨⟨KA, kc, kl⟩, hY⟩ : ∃ y, M[q] = y := ⟨_, rfl⟩
                rw [hY] at gk ok
                simp only at gk ok
                have gkd : wr.drew.cell? (b.add q) = some (.slice KA kl.length kc) := cell_kept hold gk
                have h7d : WdQ (fun i => w5.heap.size ≤ i ∧ i < w6.heap.size) W wr.drew wb { X with D := D } := h7.next (Below.drawn wr 1 _)
                obtain ⟨p7, c7, hcr⟩ := h7d.crash
                have hcr1 := hcr KA kl kl.length kc rfl ((ok.ints.next hold).next (Below.drawn wr 1 _)) (fun a h0 e => ok.ints.lt h0 e) (by have := ok.few; omega)
                obtain ⟨E', K', r1, r2, r3, r4, r5⟩ := WJ.again hw7 e1 e2 e3 (by have := HSZ.out; omega) kl
                have hbd := (hw7.ws.crash (by have := HSZ.out; omega) kl).1.bd
                have HCR := Lib.hid hcr1
                have HMS := Lib.hid (show q + 1 ≤ m ∧ m - (q + 1) < m - q from by omega)
                have HK7 := Lib.hid (hk7.next (Below.drawn wr 1 _))
                have HR1 := Lib.hid r1
                have HR2 := Lib.hid r2
                have HR3 := Lib.hid r3
                have HR4 := Lib.hid r4
                have HR5 := Lib.hid r5
                have HBD := Lib.hid hbd
                clear hl gk ok hY hcr hcr1 h7 h7d hw7 e1 e2 e3 hk7 hold r1 r2 r3 r4 r5 hbd
                go_upto_region 17 with (fail)
                go_region_with (go_at_call 28; refine HCR.out.mono ?_; rintro x w8 ⟨rfl, h8, k8⟩)
                all_goals
                  obtain ⟨p8, c8, hop⟩ := h8.opn HBD.out
                  have HOP := Lib.hid (hop _ _ _ HR1.out)
                  have HK8 := Lib.hid (Kp.trans HK7.out k8)
                  clear hop h8 k8
                  go_upto_region 20 with (go_at_call 21; refine HOP.out.mono ?_; rintro x w9 ⟨jb', rfl, h9, k9⟩)
                  have hk9 := Kp.trans HK8.out k9
                  obtain ⟨-, ask1, ask2⟩ := h9.j.asks HR5.out.jbd
                  rw [HR2.out] at ask1
                  rw [HR3.out] at ask2
                  have s9 := HS6.out.kp hk9 fun a e => HA6.out a e
                  have hsa := fun w A c (b : Below w9.heap.size w9 w) (hS : Strs w A rs) => same_any w A A6 rs rs rs.length rs.length c c6 hS (s9.next b) rfl rfl (by have := HRL.out; omega) (by have := HRL.out; omega)
                  simp only [decide_true] at hsa
                  have q3 : (st != st) = false := by simp
                  have HS := Lib.hid ask1
                  have HR := Lib.hid ask2
                  have HSA := Lib.hid hsa
                  have H9 := Lib.hid h9
                  have HK9 := Lib.hid hk9
                  clear ask1 ask2 hsa h9 hk9 s9 k9
                  go_wp2_with (first
                    | (go_at_call 31; refine HS.out.mono ?_; rintro x w10 ⟨rfl, hw10⟩; obtain rfl := hw10.symm)
                    | (go_at_call 15; refine HR.out.mono ?_; rintro x w10 ⟨v10, rfl, hv10, b10⟩
                       obtain ⟨A10, c10, rfl, s10, -⟩ := hv10.slice)
                    | (go_at_call 22; refine (HSA.out _ A10 c10 b10 s10).mono ?_; rintro x w11 ⟨rfl, b11⟩))
                  exact ⟨⟨q + 1, E', K', HMS.out.1, by go_num, (H9.out.q.next b10).next b11, HR5.out, HR2.out, HR3.out, HR4.out, (HK9.out.next b10).next b11⟩, by have := HMS.out.2; simp [intOf]; omega⟩
              · have k3 : ¬ (q : Int) < (m : Nat) := by omega
                have HO := Lib.hid hold
                clear h7 hw7 e1 e2 e3 hk7 hold
                go_wp2_with (go_at_call 12; refine (HAW.out _).mono ?_; rintro x w8 ⟨rfl, b8⟩)
                go_ret
                exact ⟨rfl, HO.out.trans (b8.mono HO.out.size)⟩
          · have HOP := Lib.hid (hop.1 _ _ q1)
            have HQ2 := Lib.hid q2
            clear hop hbd q1 q2 h4
            go_upto_region 12 with (go_at_call 21; refine HOP.out.mono ?_; rintro x w5 ⟨rfl, h5⟩)
            obtain ⟨-, -, -, -, -, -, -, -, -, -, -, -, -, -, -, -, k5, -, -, -, -, -, -, -, -⟩ := h5.rows
            simp only [HQ2.out] at k5
            have HO := Lib.hid h5.old
            clear h5
            go_wp2_with (go_at_call 12; refine (HAW.out _).mono ?_; rintro x w8 ⟨rfl, b8⟩)
            go_ret
            exact ⟨rfl, HO.out.trans (b8.mono HO.out.size)⟩
end
end Go.Proofs.Ytkljfampkkfgdaa
