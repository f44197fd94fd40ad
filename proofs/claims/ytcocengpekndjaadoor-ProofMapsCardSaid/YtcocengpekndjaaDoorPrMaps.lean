/- The walk over ProofMaps. -/
import Derived.Test.YtcocengpekndjaaDoorPrMapsB
namespace Go.Proofs.YtcocengpekndjaaDoor
open Go.RowKit
set_option maxRecDepth 100000 in
set_option maxHeartbeats 4000000 in
theorem maps_none (A : Option Addr) (at_ lo hi : Int) (n c : Nat) (w : World) (hk : Kon w) (hn : n = 0 ∨ 60 < n) : Calls Tryd.prog 10 #[.slice A n c, .int .i64 at_, .int .i64 lo, .int .i64 hi] w fun e w' => e = .returned (.bool true) ∧ Below w.heap.size w w' := by
  have HMD := Lib.hid (made_no A n c w hn)
  have HA := Lib.hid (fun W kon => awake_any W kon)
  have hx : n = 0 ∨ (((n : Int) == 0) = false ∧ (60 : Int) < n) := by
    rcases hn with h | h
    · exact .inl h
    · exact .inr ⟨by simp; omega, by omega⟩
  clear hn
  rcases hx with rfl | ⟨j1, j2⟩
  all_goals
    go_enter Tryd.func10, Tryd.ntmps10
    go_upto_region 2 with (go_at_call 38; refine HMD.out.mono ?_; rintro e w1 ⟨rfl, b1⟩)
    obtain ⟨w2, hW2⟩ : ∃ w2, (w1.alloc (.cells #[.pointer none] 47)).alloc (.cells #[.int .i64 0, .slice none 0 0] 69) = w2 := ⟨_, rfl⟩
    have b2 : Below w1.heap.size w1 w2 := hW2 ▸ Below.on (Below.new1 _ _) (Below.new1 _ _)
    change Code.wp _ _ _ _ ((w1.alloc (.cells #[.pointer none] 47)).alloc (.cells #[.int .i64 0, .slice none 0 0] 69))
    rw [hW2]
    have B2 := Below.on b1 b2
    have hk2 := hk.next B2
    clear hW2
    go_wp2_with (go_at_call 17; refine (HA.out _ hk2).mono ?_; rintro e w7 ⟨rfl, b7⟩)
    go_ret
    exact ⟨rfl, Below.on B2 b7⟩
set_option maxRecDepth 100000 in
set_option maxHeartbeats 4000000 in
theorem maps_in_in (ts : List UInt8) (A : Option Addr) (q : Nat) (lo hi : Int) (n c : Nat) (w : World) (hn : ts.length = n) (h1 : 1 ≤ n) (h60 : n ≤ 60) (hT : Tags w A ts) (hk : Kon w) (hq : q < n) (l0 : 0 ≤ lo) (l1 : lo < hi) (l2 : hi ≤ n) : Calls Tryd.prog 10 #[.slice A n c, .int .i64 (q : Int), .int .i64 lo, .int .i64 hi] w fun e w' => e = .returned (.bool true) ∧ Below w.heap.size w w' := by
  have hroot : (rootO ts).length = 32 := rootO_length ts
  have hmd := fun W (h : Tags W A ts) => made_yes ts A n c W hn h1 h60 h
  unfold MadePost at hmd
  rw [hn] at hmd
  have hmr := fun W p (h : Rep W p (ofL ts)) (kon : Kon W) => mapRoot_any W p (ofL ts) h kon
  rw [mapRoot_of (by omega) (by omega)] at hmr
  have hrm := fun W A m c (hm : (ofR ts).length = m) (h : Runs W A (ofR ts)) => root_of (ts := ts) (by omega) (by omega) W A m c hm h
  rw [hn] at hrm
  have hmle := (ofR_spec ts).2.2.2.2.1
  have hm1 : 1 ≤ (ofR ts).length := by
    have := (ofL_good (ts := ts) (by omega) (by omega)).1
    have e : (ofL ts).length = (ofR ts).length := segs_length _
    cases hh : ofL ts with
    | nil => exact absurd hh this
    | cons x l => rw [hh] at e; simp at e; omega
  obtain ⟨X0, hX0, hX0t, hfl, hto, hcut⟩ := of_run (ts := ts) (q := q) (by omega) (by omega) (by omega)
  have hst := fun W p (h : Rep W p (ofL ts)) (kon : Kon W) => state_of (ts := ts) (q := q) (by omega) (by omega) (by omega) hX0 W p h kon
  rw [hn] at hst
  have hr1 := fun W ad m c (hm : (ofR ts).length = m) (hc : m ≤ c) (h : Runs W (some ad) (ofR ts)) => rrange_of (ts := ts) (lo := (q : Int)) (hi := (q : Int) + 1) (by omega) (by omega) (by omega) (by omega) (by omega) W ad m c hm hc h
  rw [hn] at hr1
  rw [show cutO ts q ((q : Int) + 1) = [X0] from hcut] at hr1
  have ho1 := outO_length (ts := ts) (by omega) q ((q : Int) + 1)
  have hrg := fun W p (h : Rep W p (ofL ts)) (kon : Kon W) => range_of (ts := ts) (lo := lo) (hi := hi) (by omega) (by omega) l0 l1 (by omega) W p h kon
  rw [hn] at hrg
  have hr2 := fun W ad m c (hm : (ofR ts).length = m) (hc : m ≤ c) (h : Runs W (some ad) (ofR ts)) => rrange_of (ts := ts) (lo := lo) (hi := hi) (by omega) (by omega) l0 l1 (by omega) W ad m c hm hc h
  rw [hn] at hr2
  have ho2 := outO_length (ts := ts) (by omega) lo hi
  have hd2 := (cutO_length (ts := ts) (lo := lo) (hi := hi) (by omega) (by omega) l0 l1 (by omega)).2.2.1
  clear hX0 hX0t hfl hto hcut
  generalize outO ts q ((q : Int) + 1) = V1 at *
  generalize ((fromM q (ofR ts) : Nat) : Int) = f1 at *
  generalize outO ts lo hi = V2 at *
  generalize cutO ts lo hi = D at *
  generalize ((fromM lo (ofR ts) : Nat) : Int) = f2 at *
  generalize rootO ts = root at *
  generalize ofL ts = L at *
  obtain ⟨m, hm⟩ : ∃ m, (ofR ts).length = m := ⟨_, rfl⟩
  rw [hm] at hmd hmle hm1 hst hrg
  generalize ofR ts = R at *
  have HMD := Lib.hid hmd
  have HMR := Lib.hid hmr
  have HRM := Lib.hid hrm
  have HST := Lib.hid hst
  have HRG := Lib.hid hrg
  have HA := Lib.hid (fun W kon => awake_any W kon)
  have HROOT := Lib.hid hroot
  have HRL := Lib.hid hm
  have HR1 := Lib.hid hr1
  have HV1 := Lib.hid ho1
  have k0 : ¬ (q : Int) < 0 := by omega
  have k1 : ¬ (n : Int) ≤ (q : Int) := by omega
  have k2 : (q : Int) ≤ 60 := by omega
  have HR2 := Lib.hid hr2
  have HV2 := Lib.hid ho2
  have HD2 := Lib.hid hd2
  have j1 : ((n : Int) == 0) = false := by simp; omega
  have j2 : ¬ (60 : Int) < n := by omega
  have hqe := fun W => eq_hash hroot hroot true (beq_self_eq_true _) W
  have HQE := Lib.hid hqe
  have hmx : 1 ≤ m ∧ m ≤ 60 := by omega
  clear hmd hmr hrm hst hrg hroot hn hm hmle hm1 h1 h60 hqe hr1 ho1 hq hr2 ho2 hd2
  go_enter Tryd.func10, Tryd.ntmps10
  go_upto_region 2 with (go_at_call 38; refine (HMD.out _ hT).mono ?_; rintro e w1 ⟨p, A1, c1, rfl, hp1, hO1, b1⟩)
  obtain ⟨w2, hW2⟩ : ∃ w2, (w1.alloc (.cells #[.pointer p] 47)).alloc (.cells #[.int .i64 (n : Int), .slice A1 m c1] 69) = w2 := ⟨_, rfl⟩
  have b2 : Below w1.heap.size w1 w2 := hW2 ▸ Below.on (Below.new1 _ _) (Below.new1 _ _)
  have x7 : Boxed w2 w1.heap.size 47 (.pointer p) := hW2 ▸ (Boxed.new w1 _ _).alloc _
  have x8 : BoxM w2 (w1.heap.size + 1) n (.slice A1 m c1) := by
    have := BoxM.new (w1.alloc (.cells #[.pointer p] 47)) n (.slice A1 m c1)
    rw [World.size_alloc] at this; exact hW2 ▸ this
  have hp2 := hp1.below b2
  have hRc : Runs w2 A1 R ∧ R.length ≤ c1 := by
    obtain ⟨A', c', e, hc', h⟩ := (hO1.next b2).runs
    cases e; exact ⟨h, hc'⟩
  obtain ⟨hR2, hc1⟩ := hRc
  change Code.wp _ _ _ _ ((w1.alloc (.cells #[.pointer p] 47)).alloc (.cells #[.int .i64 (n : Int), .slice A1 m c1] 69))
  rw [hW2]
  have B2 := Below.on b1 b2
  have hk2 := hk.next B2
  have c7 := x7.cell
  have hAd : ∃ a, A1 = some a := by
    rcases hR2 with h | ⟨a, h, _⟩
    · have := HRL.out; rw [h] at this; simp at this; omega
    · exact ⟨a, h⟩
  obtain ⟨ad, rfl⟩ := hAd
  have x8' := x8
  generalize hg10 : w1.heap.size + 1 = g10 at *
  generalize w1.heap.size = g9 at *
  clear hW2 hT x7 hp1 hO1 b1 b2 hk hg10 x8'
  have mc1 : m ≤ c1 := by have := HRL.out; omega
  clear hc1
  go_upto_region 5 with (first
    | (go_at_call 18; refine (constants_any _).mono ?_; rintro e w3 ⟨rfl, b3⟩)
    | (refine wpList_newW rfl (.tmp 12) (.tmp 43) rfl rfl rfl ?_))
  have yC := withW_box w3
  have bw := withW_below w3
  obtain ⟨w4, hW⟩ : ∃ w4, withW w3 = w4 := ⟨_, rfl⟩
  change Code.wp _ _ _ _ (withW w3)
  rw [hW] at yC bw ⊢
  have b4 := Below.on b3 bw
  have hk4 := hk2.next b4
  have hp4 := hp2.below b4
  have hR4 := hR2.below b4
  have z10 := x8.next b4
  have BB4 := Below.on B2 b4
  have y12 : BoxW w4 w3.heap.size := yC
  replace c7 := cell_kept b4 c7
  generalize w3.heap.size = g12 at *
  clear yC bw hW b3 b4 hk2 hp2 hR2 x8 B2
  go_upto_region 6 with (first
    | (go_at_call 25; refine (HMR.out _ p hp4 hk4).mono ?_; rintro e w5 ⟨rfl, b5⟩)
    | ((with_reducible refine wpList_storeH ?_ (.tmp 13) (.tmp 47) ?_ w5.heap.size root ?_ ?_ (BoxA.new w5 30 .u8 (List.replicate 32 0) _ rfl) (by simp) HROOT.out ?_); rfl; rfl; rfl; rfl))
  obtain ⟨w6, hW6⟩ : ∃ w6, World.setRow (World.alloc w5 (.cells (ints .u8 (List.replicate 32 0)) 30)) w5.heap.size (ints .u8 (nums root)) = w6 := ⟨_, rfl⟩
  have y13 : BoxH w6 w5.heap.size root := hW6 ▸ (BoxA.new w5 30 .u8 (List.replicate 32 0) _ rfl).setRow (l' := nums root)
  have b6 : Below w5.heap.size w5 w6 := hW6 ▸ below_setRow (Below.new1 w5 _) (Nat.le_refl _) _
  change Code.wp _ _ _ _ (World.setRow (World.alloc w5 (.cells (ints .u8 (List.replicate 32 0)) 30)) w5.heap.size (ints .u8 (nums root)))
  rw [hW6]
  have B6 := Below.on b5 b6
  have hk6 := hk4.next B6
  have hp6 := hp4.below B6
  have hR6 := hR4.below B6
  have v10 := z10.next B6
  have v12 : BoxW w6 g12 := BoxA.next y12 B6
  have BB6 := Below.on BB4 B6
  replace c7 := cell_kept B6 c7
  generalize w5.heap.size = g13 at *
  clear hW6 b5 b6 B6 hk4 hp4 hR4 z10 y12 BB4 HMR HMD
  go_upto_region 7 with (go_at_call 26; refine (HST.out _ p hp6 hk6).mono ?_; rintro e w7 ⟨PA', pn', pc', rfl, hOs, b7⟩)
  obtain ⟨w8, hW8⟩ : ∃ w8, World.alloc w7 (.cells (cellsS X0 f1 m n PA' pn' pc') 37) = w8 := ⟨_, rfl⟩
  have y15 : BoxS w8 w7.heap.size X0 f1 m n PA' pn' pc' := hW8 ▸ BoxS.new w7 X0 f1 m n PA' pn' pc'
  have b8 : Below w7.heap.size w7 w8 := hW8 ▸ Below.new1 _ _
  change Code.wp _ _ _ _ (World.alloc w7 (.cells (cellsS X0 f1 m n PA' pn' pc') 37))
  rw [hW8]
  have B8 := Below.on b7 b8
  have hk8 := hk6.next B8
  have hp8 := hp6.below B8
  have hR8 := hR6.below B8
  have u10 := v10.next B8
  have u12 : BoxW w8 g12 := BoxA.next v12 B8
  have u13 : BoxH w8 g13 root := BoxA.next y13 B8
  have BB8 := Below.on BB6 B8
  replace c7 := cell_kept B8 c7
  have hOs8 := hOs.next b8
  generalize w7.heap.size = g15 at *
  clear hW8 b7 b8 B8 hk6 hp6 hR6 v10 v12 y13 BB6 HST hOs
  go_upto_region 8 with (go_at_call 27; refine (HRG.out _ p hp8 hk8).mono ?_; rintro e w9 ⟨A'', m'', c'', PB, pb, qb, rfl, hOr, hOq, b9⟩)
  obtain ⟨w10, hW10⟩ : ∃ w10, World.alloc w9 (.cells #[.slice A'' m'' c'', .int .i64 f2, .int .i64 m, .int .i64 n, .slice PB pb qb] 43) = w10 := ⟨_, rfl⟩
  have y17 : BoxC w10 w9.heap.size A'' m'' c'' f2 m n PB pb qb := hW10 ▸ BoxC.new w9 A'' m'' c'' f2 m n PB pb qb
  have b10 : Below w9.heap.size w9 w10 := hW10 ▸ Below.new1 _ _
  change Code.wp _ _ _ _ (World.alloc w9 (.cells #[.slice A'' m'' c'', .int .i64 f2, .int .i64 m, .int .i64 n, .slice PB pb qb] 43))
  rw [hW10]
  have B10 := Below.on b9 b10
  have hkA := hk8.next B10
  have hRA := hR8.below B10
  have z10 := u10.next B10
  have z12 : BoxW w10 g12 := BoxA.next u12 B10
  have z13 : BoxH w10 g13 root := BoxA.next u13 B10
  have z15 := y15.next B10
  have BBA := Below.on BB8 B10
  have hOsA := hOs8.next B10
  have hOrA := hOr.next b10
  have hOqA := hOq.next b10
  generalize w9.heap.size = g17 at *
  clear hW10 b9 b10 B10 hk8 hp8 hR8 u10 u12 u13 y15 BB8 HRG c7 hOs8 hOr hOq
  refine wp_name fun a0 ha0 => ?_
  have e10 : a0.eval (.tmp 10) = .pointer (some ⟨g10, 0, none⟩) := by rw [ha0]; rfl
  have e12 : a0.eval (.tmp 12) = .pointer (some ⟨g12, 0, none⟩) := by rw [ha0]; rfl
  have e13 : a0.eval (.tmp 13) = .pointer (some ⟨g13, 0, none⟩) := by rw [ha0]; rfl
  have e14 : a0.eval (.tmp 14) = .int .i64 0 := by rw [ha0]; rfl
  have hz : a0.tmps.size = 229 := by rw [ha0]; rfl
  have HA0 := Lib.hid ha0
  clear ha0
  have SG : ∀ (d d' : Nat → Prop) (W W' : World), (fun (_ : Nat → Prop) (W : World) => Below w10.heap.size w10 W) d W → (∀ j, d j → d' j) → Below W.heap.size W W' → (fun (_ : Nat → Prop) (W : World) => Below w10.heap.size w10 W) d' W' := fun _ _ _ _ h _ b => Below.next h b
  have St : ∀ xc ∈ [(⟨some 0, 62, none, fun v _ => v = hashV root⟩ : Cl), ⟨some 1, 63, none, fun v _ => v = wordsV⟩, ⟨some 2, 64, none, fun v _ => v = .agg #[.int .i64 (n : Int), .slice (some ad) m c1]⟩, ⟨some 3, 65, none, fun v _ => v = hashV root⟩, ⟨some 4, 66, none, fun v _ => v = .bool false⟩, ⟨some 5, 67, none, fun v _ => v = .bool false⟩, ⟨some 6, 68, none, fun v _ => v = .int .i64 0⟩, ⟨some 7, 69, none, fun v _ => v = .bool false⟩, ⟨some 8, 70, none, fun v _ => v = .bool false⟩], Lasts xc := AllC.mem ⟨lastsV0 _ _ _ _, lastsV0 _ _ _ _, lastsV0 _ _ _ _, lastsV0 _ _ _ _, lastsV0 _ _ _ _, lastsV0 _ _ _ _, lastsV0 _ _ _ _, lastsV0 _ _ _ _, lastsV0 _ _ _ _, trivial⟩
  refine wp_region_guards (Inv [62, 63, 64, 65, 66, 67, 68, 69, 70] a0 (fun (_ : Nat → Prop) (W : World) => Below w10.heap.size w10 W) (lst St)) (by kernel_rfl) (by kernel_rfl) (Inv.start (Below.refl _ _).drew ⟨nofun, nofun, nofun, nofun, nofun, nofun, nofun, nofun, nofun, trivial⟩) ?_ ?_
  · clear HA0
    refine ⟨?_, ?_, ?_, ?_, ?_, ?_, ?_, ?_, ?_, trivial⟩
    · refine StepG.of ?_
      refine stepB rfl rfl (by decide) (by rw [hz]; decide) rfl rfl (by kernel_rfl) St SG fun d a W hF hG hH hn hcl hw => ?_
      have q13 := (hF.same 13 (by decide)).trans e13
      refine ⟨hashV root, W, ?_, Below.refl _ _, ?_⟩
      · exact exec_load rfl (by rw [q13]; exact BoxH.load_ (BoxA.next z13 hG) HROOT.out)
      · rfl
    · refine StepG.of ?_
      refine stepB rfl rfl (by decide) (by rw [hz]; decide) rfl rfl (by kernel_rfl) St SG fun d a W hF hG hH hn hcl hw => ?_
      have q12 := (hF.same 12 (by decide)).trans e12
      refine ⟨wordsV, W, ?_, Below.refl _ _, ?_⟩
      · exact exec_load rfl (by rw [q12]; exact BoxW.load (BoxA.next z12 hG))
      · rfl
    · refine StepG.of ?_
      refine stepB rfl rfl (by decide) (by rw [hz]; decide) rfl rfl (by kernel_rfl) St SG fun d a W hF hG hH hn hcl hw => ?_
      have q10 := (hF.same 10 (by decide)).trans e10
      refine ⟨.agg #[.int .i64 (n : Int), .slice (some ad) m c1], W, ?_, Below.refl _ _, ?_⟩
      · exact exec_load rfl (by rw [q10]; exact BoxM.load_ (z10.next hG))
      · rfl
    · refine StepG.of ?_
      refine stepC rfl rfl (by decide) (by rw [hz]; decide) rfl rfl (by kernel_rfl) St SG fun d a W hF hG hH hn hcl hw => ?_
      have q63 : a.eval (.tmp 63) = wordsV := hH.at_ (i := 1) rfl (hw 1 rfl) id
      have q64 : a.eval (.tmp 64) = .agg #[.int .i64 (n : Int), .slice (some ad) m c1] := hH.at_ (i := 2) rfl (hw 2 rfl) id
      have qf : a.eval (.func 39) = .func (.func 39) #[] #[] := rfl
      refine ⟨39, #[wordsV, .agg #[.int .i64 (n : Int), .slice (some ad) m c1]], ?_, ?_⟩
      · clear hF hG hH hn hcl hw
        generalize a.eval = ρ at *
        go_simp
      · refine (HRM.out W (some ad) m c1 HRL.out (hRA.below hG)).mono ?_; rintro e W' ⟨rfl, b⟩; exact ⟨_, rfl, b, rfl⟩
    · refine StepG.of ?_
      refine stepB rfl rfl (by decide) (by rw [hz]; decide) rfl rfl (by kernel_rfl) St SG fun d a W hF hG hH hn hcl hw => ?_
      have q62 : a.eval (.tmp 62) = hashV root := hH.at_ (i := 0) rfl (hw 0 rfl) id
      have q65 : a.eval (.tmp 65) = hashV root := hH.at_ (i := 3) rfl (hw 3 rfl) id
      have qe_ := HQE.out W
      exact ⟨.bool false, W, by clear hF hG hH hn hcl hw; generalize a.eval = ρ at *; go_simp, Below.refl _ _, rfl⟩
    · refine StepG.of ?_
      refine stepB rfl rfl (by decide) (by rw [hz]; decide) rfl rfl (by kernel_rfl) St SG fun d a W hF hG hH hn hcl hw => ?_
      have q66 : a.eval (.tmp 66) = .bool false := hH.at_ (i := 4) rfl (hw 4 rfl) id
      exact ⟨.bool false, W, by clear hF hG hH hn hcl hw; generalize a.eval = ρ at *; go_simp, Below.refl _ _, rfl⟩
    · refine StepG.on rfl (fun d a W hI hw => yielded_of rfl (hI.2.2.at_ (i := 5) rfl (hw 5 rfl) id)) ?_
      refine stepB rfl rfl (by decide) (by rw [hz]; decide) rfl rfl (by kernel_rfl) St SG fun d a W hF hG hH hn hcl hw => ?_
      have q14 := (hF.same 14 (by decide)).trans e14
      exact ⟨.int .i64 0, W, by clear hF hG hH hn hcl hw; generalize a.eval = ρ at *; go_simp, Below.refl _ _, rfl⟩
    · refine StepG.on rfl (fun d a W hI hw => yielded_of rfl (hI.2.2.at_ (i := 5) rfl (hw 5 rfl) id)) ?_
      refine stepB rfl rfl (by decide) (by rw [hz]; decide) rfl rfl (by kernel_rfl) St SG fun d a W hF hG hH hn hcl hw => ?_
      have q68 : a.eval (.tmp 68) = .int .i64 0 := hH.at_ (i := 6) rfl (hw 6 rfl) id
      have qc0 : a.eval (.const (.int .i64 0)) = .int .i64 0 := rfl
      exact ⟨.bool false, W, by clear hF hG hH hn hcl hw; generalize a.eval = ρ at *; go_simp, Below.refl _ _, rfl⟩
    · refine StepG.of ?_
      refine stepB rfl rfl (by decide) (by rw [hz]; decide) rfl rfl (by kernel_rfl) St SG fun d a W hF hG hH hn hcl hw => ?_
      have q67 : a.eval (.tmp 67) = .bool false := hH.at_ (i := 5) rfl (hw 5 rfl) id
      have q69 : a.eval (.tmp 69) = .bool false := hH.at_ (i := 7) rfl (hw 7 rfl) id
      have qk0 : a.eval (.const (.bool true)) = .bool true := rfl
      exact ⟨.bool false, W, by clear hF hG hH hn hcl hw; generalize a.eval = ρ at *; go_simp, Below.refl _ _, rfl⟩
  · intro d a W ⟨hF, hB, hH⟩ hall
    have k70 : a.eval (.tmp 70) = .bool false := hH.at_ (i := 8) rfl (hall 8 (by decide)) id
    clear hH hall
    rw [hF.shape (by rw [hz]; decide)]
    clear hF
    simp only [List.foldl]
    generalize a.eval (.tmp 62) = z62, a.eval (.tmp 63) = z63, a.eval (.tmp 64) = z64, a.eval (.tmp 65) = z65, a.eval (.tmp 66) = z66, a.eval (.tmp 67) = z67, a.eval (.tmp 68) = z68, a.eval (.tmp 69) = z69, a.eval (.tmp 70) = z70 at *
    subst k70
    rw [HA0.out]
    simp only [Act.put, List.setIfInBounds_toArray, List.set_cons_zero, List.set_cons_succ]
    clear hz HA0 St SG e10 e12 e13 e14
    clear a a0
    have hk11 := hkA.next hB
    have hR11 := hRA.below hB
    have a10 := z10.next hB
    have a12 : BoxW W g12 := BoxA.next z12 hB
    have a15 := z15.next hB
    have a17 := y17.next hB
    have BB11 := Below.on BBA hB
    have hOs11 := hOsA.next hB
    have hOr11 := hOrA.next hB
    have hOq11 := hOqA.next hB
    clear hkA hRA z10 z12 z13 z15 y17 BBA hB hOsA hOrA hOqA
    generalize W = w11 at *
    have c80 := a10.c0
    go_upto_region 14 with (first
      | ((with_reducible refine wpList_load_if (o := ⟨some 97, _, _, _, _, _⟩) ?_ 27 (.tmp 12) ?_ (wordsV) ?_ ?_); rfl; rfl; exact BoxW.load a12)
      | ((with_reducible refine wpList_load_if (o := ⟨some 98, _, _, _, _, _⟩) ?_ 69 (.tmp 10) ?_ (.agg #[.int .i64 (n : Int), .slice (some ad) m c1]) ?_ ?_); rfl; rfl; exact BoxM.load_ a10)
      | (go_at_call 40; refine (HR1.out _ ad m c1 HRL.out mc1 hR11).mono ?_; rintro e w12 ⟨Az, kz, cz, PZ, pz, qz, rfl, hOz, hOy, b12⟩))
    obtain ⟨w13, hW13⟩ : ∃ w13, World.alloc w12 (.cells #[.slice Az kz cz, .int .i64 f1, .int .i64 m, .int .i64 n, .slice PZ pz qz] 43) = w13 := ⟨_, rfl⟩
    have y19 : BoxC w13 w12.heap.size Az kz cz f1 m n PZ pz qz := hW13 ▸ BoxC.new w12 Az kz cz f1 m n PZ pz qz
    have b13 : Below w12.heap.size w12 w13 := hW13 ▸ Below.new1 _ _
    change Code.wp _ _ _ _ (World.alloc w12 (.cells #[.slice Az kz cz, .int .i64 f1, .int .i64 m, .int .i64 n, .slice PZ pz qz] 43))
    rw [hW13]
    have B13 := Below.on b12 b13
    have e10 := a10.next B13
    have e12 : BoxW w13 g12 := BoxA.next a12 B13
    have e15 := a15.next B13
    have e17 := a17.next B13
    have hk13 := hk11.next B13
    have hR13 := hR11.below B13
    have BB13 := Below.on BB11 B13
    have hOsB := hOs11.next B13
    have hOr13 := hOr11.next B13
    have hOq13 := hOq11.next B13
    obtain ⟨PZx, qzx, ez, hqz, hsz⟩ := (hOy.next b13).toHs
    simp only [Value.slice.injEq] at ez
    obtain ⟨ez1, ez2, ez3⟩ := ez
    rw [← ez1] at hsz
    obtain ⟨PAx, pcx, ea, hpa, hsa⟩ := hOsB.toHs
    simp only [Value.slice.injEq] at ea
    obtain ⟨ea1, ea2, ea3⟩ := ea
    rw [← ea1] at hsa
    obtain ⟨Azx, czx, eb, hcz, hRz⟩ := (hOz.next b13).runs
    simp only [Value.slice.injEq] at eb
    obtain ⟨eb1, eb2, eb3⟩ := eb
    rw [← eb1] at hRz
    have hAz : ∃ a, Az = some a := by
      rcases hRz with h | ⟨a, h, _⟩
      · cases h
      · exact ⟨a, h⟩
    obtain ⟨az, hAzz⟩ := hAz
    rw [hAzz] at hRz y19 ⊢
    have hR0 := (hRz.at_ (i := 0) (by simp)).2
    simp only [List.getElem_cons_zero] at hR0
    have eaz : az.add (0 * 3) = az := by simp [Addr.add]
    rw [eaz] at hR0
    obtain ⟨r0, r1, r2⟩ := hR0
    have kz1 : kz = 1 := eb2
    have HZP := Lib.hid ez2.symm
    have HAP := Lib.hid ea2.symm
    have HPP := Lib.hid (ea2.trans ez2.symm)
    have C150 := Lib.hid e15.c0
    have C151 := Lib.hid e15.c1
    have C152 := Lib.hid e15.c2
    have C153 := Lib.hid e15.c3
    have C154 := Lib.hid e15.c4
    have C155 := Lib.hid e15.c5
    have C156 := Lib.hid e15.c6
    have C190 := Lib.hid y19.c0
    have C191 := Lib.hid y19.c1
    have C192 := Lib.hid y19.c2
    have C193 := Lib.hid y19.c3
    have C194 := Lib.hid y19.c4
    have R0 := Lib.hid r0
    have R1 := Lib.hid r1
    have R2 := Lib.hid r2
    have kzp : (0 : Int) < (kz : Int) := by omega
    have kzn : 0 < kz := by omega
    generalize w12.heap.size = g19 at *
    clear hW13 b12 b13 B13 a10 a12 a15 a17 hk11 hR11 BB11 hOs11 hOz hOy hOsB ez1 ez2 ez3 ea1 ea2 ea3 eb1 eb2 eb3 hRz r0 r1 r2 hqz hpa hcz hAzz kz1 eaz c80 y19 hOr11 hOq11
    refine wp_name fun a0 ha0 => ?_
    have e15 : a0.eval (.tmp 15) = .pointer (some ⟨g15, 0, none⟩) := by rw [ha0]; rfl
    have e16 : a0.eval (.tmp 16) = .int .i64 0 := by rw [ha0]; rfl
    have e19 : a0.eval (.tmp 19) = .pointer (some ⟨g19, 0, none⟩) := by rw [ha0]; rfl
    have hz : a0.tmps.size = 229 := by rw [ha0]; rfl
    have HA0 := Lib.hid ha0
    clear ha0
    have SG : ∀ (d d' : Nat → Prop) (W W' : World), (fun (_ : Nat → Prop) (W : World) => Below w13.heap.size w13 W) d W → (∀ j, d j → d' j) → Below W.heap.size W W' → (fun (_ : Nat → Prop) (W : World) => Below w13.heap.size w13 W) d' W' := fun _ _ _ _ h _ b => Below.next h b
    have St : ∀ xc ∈ [(⟨some 0, 103, none, fun v _ => v = .int .i64 0⟩ : Cl), ⟨some 1, 104, none, fun v _ => v = .bool false⟩, ⟨some 2, 105, none, fun v _ => v = .bool false⟩, ⟨some 3, 106, none, fun v _ => v = .pointer (some ⟨g15, 0, none⟩)⟩, ⟨some 4, 107, none, fun v _ => v = encR X0⟩, ⟨some 5, 108, none, fun v _ => v = .pointer (some ⟨g19, 0, none⟩)⟩, ⟨some 6, 109, none, fun v _ => v = .slice (some az) kz cz⟩, ⟨some 7, 110, none, fun v _ => v = .pointer (some (az.add (0 * 3)))⟩, ⟨some 8, 111, none, fun v _ => v = encR X0⟩, ⟨some 9, 112, none, fun v _ => v = .bool false⟩, ⟨some 10, 113, none, fun v _ => v = .bool false⟩, ⟨some 11, 114, none, fun v _ => v = .bool false⟩, ⟨some 12, 115, none, fun v _ => v = .pointer (some ⟨g15, 3, none⟩)⟩, ⟨some 13, 116, none, fun v _ => v = .int .i64 f1⟩, ⟨some 14, 117, none, fun v _ => v = .pointer (some ⟨g19, 1, none⟩)⟩, ⟨some 15, 118, none, fun v _ => v = .int .i64 f1⟩, ⟨some 16, 119, none, fun v _ => v = .bool false⟩, ⟨some 17, 120, none, fun v _ => v = .bool false⟩, ⟨some 18, 121, none, fun v _ => v = .bool false⟩, ⟨some 19, 122, none, fun v _ => v = .pointer (some ⟨g15, 4, none⟩)⟩, ⟨some 20, 123, none, fun v _ => v = .int .i64 (m : Int)⟩, ⟨some 21, 124, none, fun v _ => v = .pointer (some ⟨g19, 2, none⟩)⟩, ⟨some 22, 125, none, fun v _ => v = .int .i64 (m : Int)⟩, ⟨some 23, 126, none, fun v _ => v = .bool false⟩, ⟨some 24, 127, none, fun v _ => v = .bool false⟩, ⟨some 25, 128, none, fun v _ => v = .bool false⟩, ⟨some 26, 129, none, fun v _ => v = .pointer (some ⟨g15, 5, none⟩)⟩, ⟨some 27, 130, none, fun v _ => v = .int .i64 (n : Int)⟩, ⟨some 28, 131, none, fun v _ => v = .pointer (some ⟨g19, 3, none⟩)⟩, ⟨some 29, 132, none, fun v _ => v = .int .i64 (n : Int)⟩, ⟨some 30, 133, none, fun v _ => v = .bool false⟩, ⟨some 31, 134, none, fun v _ => v = .bool false⟩, ⟨some 32, 135, none, fun v _ => v = .bool false⟩, ⟨some 33, 136, none, fun v _ => v = .pointer (some ⟨g15, 6, none⟩)⟩, ⟨some 34, 137, none, fun v _ => v = .slice PA' pn' pc'⟩, ⟨some 35, 138, none, fun v _ => v = .pointer (some ⟨g19, 4, none⟩)⟩, ⟨some 36, 139, none, fun v _ => v = .slice PZ pz qz⟩, ⟨some 37, 140, none, fun v _ => v = .bool true⟩, ⟨some 38, 141, none, fun v _ => v = .bool false⟩, ⟨some 39, 142, none, fun v _ => v = .bool false⟩], Lasts xc := AllC.mem ⟨lastsV0 _ _ _ _, lastsV0 _ _ _ _, lastsV0 _ _ _ _, lastsV0 _ _ _ _, lastsV0 _ _ _ _, lastsV0 _ _ _ _, lastsV0 _ _ _ _, lastsV0 _ _ _ _, lastsV0 _ _ _ _, lastsV0 _ _ _ _, lastsV0 _ _ _ _, lastsV0 _ _ _ _, lastsV0 _ _ _ _, lastsV0 _ _ _ _, lastsV0 _ _ _ _, lastsV0 _ _ _ _, lastsV0 _ _ _ _, lastsV0 _ _ _ _, lastsV0 _ _ _ _, lastsV0 _ _ _ _, lastsV0 _ _ _ _, lastsV0 _ _ _ _, lastsV0 _ _ _ _, lastsV0 _ _ _ _, lastsV0 _ _ _ _, lastsV0 _ _ _ _, lastsV0 _ _ _ _, lastsV0 _ _ _ _, lastsV0 _ _ _ _, lastsV0 _ _ _ _, lastsV0 _ _ _ _, lastsV0 _ _ _ _, lastsV0 _ _ _ _, lastsV0 _ _ _ _, lastsV0 _ _ _ _, lastsV0 _ _ _ _, lastsV0 _ _ _ _, lastsV0 _ _ _ _, lastsV0 _ _ _ _, lastsV0 _ _ _ _, trivial⟩
    refine wp_region_guards (Inv [103, 104, 105, 106, 107, 108, 109, 110, 111, 112, 113, 114, 115, 116, 117, 118, 119, 120, 121, 122, 123, 124, 125, 126, 127, 128, 129, 130, 131, 132, 133, 134, 135, 136, 137, 138, 139, 140, 141, 142] a0 (fun (_ : Nat → Prop) (W : World) => Below w13.heap.size w13 W) (lst St)) (by kernel_rfl) (by kernel_rfl) (Inv.start (Below.refl _ _).drew ⟨nofun, nofun, nofun, nofun, nofun, nofun, nofun, nofun, nofun, nofun, nofun, nofun, nofun, nofun, nofun, nofun, nofun, nofun, nofun, nofun, nofun, nofun, nofun, nofun, nofun, nofun, nofun, nofun, nofun, nofun, nofun, nofun, nofun, nofun, nofun, nofun, nofun, nofun, nofun, nofun, trivial⟩) ?_ ?_
    · clear HA0
      refine ⟨?_, ?_, ?_, ?_, ?_, ?_, ?_, ?_, ?_, ?_, ?_, ?_, ?_, ?_, ?_, ?_, ?_, ?_, ?_, ?_, ?_, ?_, ?_, ?_, ?_, ?_, ?_, ?_, ?_, ?_, ?_, ?_, ?_, ?_, ?_, ?_, ?_, ?_, ?_, ?_, trivial⟩
      · refine StepG.of ?_
        refine stepB rfl rfl (by decide) (by rw [hz]; decide) rfl rfl (by kernel_rfl) St SG fun d a W hF hG hH hn hcl hw => ?_
        have q16 := (hF.same 16 (by decide)).trans e16
        exact ⟨.int .i64 0, W, by clear hF hG hH hn hcl hw; generalize a.eval = ρ at *; go_simp, Below.refl _ _, rfl⟩
      · refine StepG.of ?_
        refine stepB rfl rfl (by decide) (by rw [hz]; decide) rfl rfl (by kernel_rfl) St SG fun d a W hF hG hH hn hcl hw => ?_
        have q103 : a.eval (.tmp 103) = .int .i64 0 := hH.at_ (i := 0) rfl (hw 0 rfl) id
        have qc0 : a.eval (.const (.int .i64 0)) = .int .i64 0 := rfl
        exact ⟨.bool false, W, by clear hF hG hH hn hcl hw; generalize a.eval = ρ at *; go_simp, Below.refl _ _, rfl⟩
      · refine StepG.of ?_
        refine stepB rfl rfl (by decide) (by rw [hz]; decide) rfl rfl (by kernel_rfl) St SG fun d a W hF hG hH hn hcl hw => ?_
        have q104 : a.eval (.tmp 104) = .bool false := hH.at_ (i := 1) rfl (hw 1 rfl) id
        exact ⟨.bool false, W, by clear hF hG hH hn hcl hw; generalize a.eval = ρ at *; go_simp, Below.refl _ _, rfl⟩
      · refine StepG.on rfl (fun d a W hI hw => yielded_of rfl (hI.2.2.at_ (i := 2) rfl (hw 2 rfl) id)) ?_
        refine stepB rfl rfl (by decide) (by rw [hz]; decide) rfl rfl (by kernel_rfl) St SG fun d a W hF hG hH hn hcl hw => ?_
        have q15 := (hF.same 15 (by decide)).trans e15
        exact ⟨.pointer (some ⟨g15, 0, none⟩), W, by clear hF hG hH hn hcl hw; generalize a.eval = ρ at *; go_simp, Below.refl _ _, rfl⟩
      · refine StepG.on rfl (fun d a W hI hw => yielded_of rfl (hI.2.2.at_ (i := 2) rfl (hw 2 rfl) id)) ?_
        refine stepB rfl rfl (by decide) (by rw [hz]; decide) rfl rfl (by kernel_rfl) St SG fun d a W hF hG hH hn hcl hw => ?_
        have q106 : a.eval (.tmp 106) = .pointer (some ⟨g15, 0, none⟩) := hH.at_ (i := 3) rfl (hw 3 rfl) id
        have cc0 := cell_kept hG C150.out
        have cc1 := cell_kept hG C151.out
        have cc2 := cell_kept hG C152.out
        refine ⟨encR X0, W, ?_, Below.refl _ _, ?_⟩
        · (clear hF hG hH hn hcl hw; generalize a.eval = ρ at *; go_simp; rfl)
        · rfl
      · refine StepG.on rfl (fun d a W hI hw => yielded_of rfl (hI.2.2.at_ (i := 2) rfl (hw 2 rfl) id)) ?_
        refine stepB rfl rfl (by decide) (by rw [hz]; decide) rfl rfl (by kernel_rfl) St SG fun d a W hF hG hH hn hcl hw => ?_
        have q19 := (hF.same 19 (by decide)).trans e19
        exact ⟨.pointer (some ⟨g19, 0, none⟩), W, by clear hF hG hH hn hcl hw; generalize a.eval = ρ at *; go_simp, Below.refl _ _, rfl⟩
      · refine StepG.on rfl (fun d a W hI hw => yielded_of rfl (hI.2.2.at_ (i := 2) rfl (hw 2 rfl) id)) ?_
        refine stepB rfl rfl (by decide) (by rw [hz]; decide) rfl rfl (by kernel_rfl) St SG fun d a W hF hG hH hn hcl hw => ?_
        have q108 : a.eval (.tmp 108) = .pointer (some ⟨g19, 0, none⟩) := hH.at_ (i := 5) rfl (hw 5 rfl) id
        have cc0 := cell_kept hG C190.out
        exact ⟨.slice (some az) kz cz, W, by clear hF hG hH hn hcl hw; generalize a.eval = ρ at *; go_simp, Below.refl _ _, rfl⟩
      · refine StepG.on rfl (fun d a W hI hw => yielded_of rfl (hI.2.2.at_ (i := 2) rfl (hw 2 rfl) id)) ?_
        refine stepB rfl rfl (by decide) (by rw [hz]; decide) rfl rfl (by kernel_rfl) St SG fun d a W hF hG hH hn hcl hw => ?_
        have q109 : a.eval (.tmp 109) = .slice (some az) kz cz := hH.at_ (i := 6) rfl (hw 6 rfl) id
        have qc0 : a.eval (.const (.int .i64 0)) = .int .i64 0 := rfl
        refine ⟨.pointer (some (az.add (0 * 3))), W, ?_, Below.refl _ _, ?_⟩
        · (clear hF hG hH hn hcl hw; generalize a.eval = ρ at *; go_simp)
        · rfl
      · refine StepG.on rfl (fun d a W hI hw => yielded_of rfl (hI.2.2.at_ (i := 2) rfl (hw 2 rfl) id)) ?_
        refine stepB rfl rfl (by decide) (by rw [hz]; decide) rfl rfl (by kernel_rfl) St SG fun d a W hF hG hH hn hcl hw => ?_
        have q110 : a.eval (.tmp 110) = .pointer (some (az.add (0 * 3))) := hH.at_ (i := 7) rfl (hw 7 rfl) id
        have rr0 := cell_kept hG R0.out
        have rr1 := cell_kept hG R1.out
        have rr2 := cell_kept hG R2.out
        refine ⟨encR X0, W, ?_, Below.refl _ _, ?_⟩
        · (clear hF hG hH hn hcl hw; generalize a.eval = ρ at *; go_simp; rfl)
        · rfl
      · refine StepG.on rfl (fun d a W hI hw => yielded_of rfl (hI.2.2.at_ (i := 2) rfl (hw 2 rfl) id)) ?_
        refine stepB rfl rfl (by decide) (by rw [hz]; decide) rfl rfl (by kernel_rfl) St SG fun d a W hF hG hH hn hcl hw => ?_
        have q107 : a.eval (.tmp 107) = encR X0 := hH.at_ (i := 4) rfl (hw 4 rfl) id
        have q111 : a.eval (.tmp 111) = encR X0 := hH.at_ (i := 8) rfl (hw 8 rfl) id
        unfold encR at q107 q111
        exact ⟨.bool false, W, by clear hF hG hH hn hcl hw; generalize a.eval = ρ at *; go_simp, Below.refl _ _, rfl⟩
      · refine StepG.of ?_
        refine stepB rfl rfl (by decide) (by rw [hz]; decide) rfl rfl (by kernel_rfl) St SG fun d a W hF hG hH hn hcl hw => ?_
        have q105 : a.eval (.tmp 105) = .bool false := hH.at_ (i := 2) rfl (hw 2 rfl) id
        have q112 : a.eval (.tmp 112) = .bool false := hH.at_ (i := 9) rfl (hw 9 rfl) id
        have qk0 : a.eval (.const (.bool true)) = .bool true := rfl
        exact ⟨.bool false, W, by clear hF hG hH hn hcl hw; generalize a.eval = ρ at *; go_simp, Below.refl _ _, rfl⟩
      · refine StepG.of ?_
        refine stepB rfl rfl (by decide) (by rw [hz]; decide) rfl rfl (by kernel_rfl) St SG fun d a W hF hG hH hn hcl hw => ?_
        have q113 : a.eval (.tmp 113) = .bool false := hH.at_ (i := 10) rfl (hw 10 rfl) id
        exact ⟨.bool false, W, by clear hF hG hH hn hcl hw; generalize a.eval = ρ at *; go_simp, Below.refl _ _, rfl⟩
      · refine StepG.on rfl (fun d a W hI hw => yielded_of rfl (hI.2.2.at_ (i := 11) rfl (hw 11 rfl) id)) ?_
        refine stepB rfl rfl (by decide) (by rw [hz]; decide) rfl rfl (by kernel_rfl) St SG fun d a W hF hG hH hn hcl hw => ?_
        have q15 := (hF.same 15 (by decide)).trans e15
        exact ⟨.pointer (some ⟨g15, 3, none⟩), W, by clear hF hG hH hn hcl hw; generalize a.eval = ρ at *; go_simp, Below.refl _ _, rfl⟩
      · refine StepG.on rfl (fun d a W hI hw => yielded_of rfl (hI.2.2.at_ (i := 11) rfl (hw 11 rfl) id)) ?_
        refine stepB rfl rfl (by decide) (by rw [hz]; decide) rfl rfl (by kernel_rfl) St SG fun d a W hF hG hH hn hcl hw => ?_
        have q115 : a.eval (.tmp 115) = .pointer (some ⟨g15, 3, none⟩) := hH.at_ (i := 12) rfl (hw 12 rfl) id
        have cc0 := cell_kept hG C153.out
        exact ⟨.int .i64 f1, W, by clear hF hG hH hn hcl hw; generalize a.eval = ρ at *; go_simp, Below.refl _ _, rfl⟩
      · refine StepG.on rfl (fun d a W hI hw => yielded_of rfl (hI.2.2.at_ (i := 11) rfl (hw 11 rfl) id)) ?_
        refine stepB rfl rfl (by decide) (by rw [hz]; decide) rfl rfl (by kernel_rfl) St SG fun d a W hF hG hH hn hcl hw => ?_
        have q19 := (hF.same 19 (by decide)).trans e19
        exact ⟨.pointer (some ⟨g19, 1, none⟩), W, by clear hF hG hH hn hcl hw; generalize a.eval = ρ at *; go_simp, Below.refl _ _, rfl⟩
      · refine StepG.on rfl (fun d a W hI hw => yielded_of rfl (hI.2.2.at_ (i := 11) rfl (hw 11 rfl) id)) ?_
        refine stepB rfl rfl (by decide) (by rw [hz]; decide) rfl rfl (by kernel_rfl) St SG fun d a W hF hG hH hn hcl hw => ?_
        have q117 : a.eval (.tmp 117) = .pointer (some ⟨g19, 1, none⟩) := hH.at_ (i := 14) rfl (hw 14 rfl) id
        have cc0 := cell_kept hG C191.out
        exact ⟨.int .i64 f1, W, by clear hF hG hH hn hcl hw; generalize a.eval = ρ at *; go_simp, Below.refl _ _, rfl⟩
      · refine StepG.on rfl (fun d a W hI hw => yielded_of rfl (hI.2.2.at_ (i := 11) rfl (hw 11 rfl) id)) ?_
        refine stepB rfl rfl (by decide) (by rw [hz]; decide) rfl rfl (by kernel_rfl) St SG fun d a W hF hG hH hn hcl hw => ?_
        have q116 : a.eval (.tmp 116) = .int .i64 f1 := hH.at_ (i := 13) rfl (hw 13 rfl) id
        have q118 : a.eval (.tmp 118) = .int .i64 f1 := hH.at_ (i := 15) rfl (hw 15 rfl) id
        exact ⟨.bool false, W, by clear hF hG hH hn hcl hw; generalize a.eval = ρ at *; go_simp, Below.refl _ _, rfl⟩
      · refine StepG.of ?_
        refine stepB rfl rfl (by decide) (by rw [hz]; decide) rfl rfl (by kernel_rfl) St SG fun d a W hF hG hH hn hcl hw => ?_
        have q114 : a.eval (.tmp 114) = .bool false := hH.at_ (i := 11) rfl (hw 11 rfl) id
        have q119 : a.eval (.tmp 119) = .bool false := hH.at_ (i := 16) rfl (hw 16 rfl) id
        have qk0 : a.eval (.const (.bool true)) = .bool true := rfl
        exact ⟨.bool false, W, by clear hF hG hH hn hcl hw; generalize a.eval = ρ at *; go_simp, Below.refl _ _, rfl⟩
      · refine StepG.of ?_
        refine stepB rfl rfl (by decide) (by rw [hz]; decide) rfl rfl (by kernel_rfl) St SG fun d a W hF hG hH hn hcl hw => ?_
        have q120 : a.eval (.tmp 120) = .bool false := hH.at_ (i := 17) rfl (hw 17 rfl) id
        exact ⟨.bool false, W, by clear hF hG hH hn hcl hw; generalize a.eval = ρ at *; go_simp, Below.refl _ _, rfl⟩
      · refine StepG.on rfl (fun d a W hI hw => yielded_of rfl (hI.2.2.at_ (i := 18) rfl (hw 18 rfl) id)) ?_
        refine stepB rfl rfl (by decide) (by rw [hz]; decide) rfl rfl (by kernel_rfl) St SG fun d a W hF hG hH hn hcl hw => ?_
        have q15 := (hF.same 15 (by decide)).trans e15
        exact ⟨.pointer (some ⟨g15, 4, none⟩), W, by clear hF hG hH hn hcl hw; generalize a.eval = ρ at *; go_simp, Below.refl _ _, rfl⟩
      · refine StepG.on rfl (fun d a W hI hw => yielded_of rfl (hI.2.2.at_ (i := 18) rfl (hw 18 rfl) id)) ?_
        refine stepB rfl rfl (by decide) (by rw [hz]; decide) rfl rfl (by kernel_rfl) St SG fun d a W hF hG hH hn hcl hw => ?_
        have q122 : a.eval (.tmp 122) = .pointer (some ⟨g15, 4, none⟩) := hH.at_ (i := 19) rfl (hw 19 rfl) id
        have cc0 := cell_kept hG C154.out
        exact ⟨.int .i64 (m : Int), W, by clear hF hG hH hn hcl hw; generalize a.eval = ρ at *; go_simp, Below.refl _ _, rfl⟩
      · refine StepG.on rfl (fun d a W hI hw => yielded_of rfl (hI.2.2.at_ (i := 18) rfl (hw 18 rfl) id)) ?_
        refine stepB rfl rfl (by decide) (by rw [hz]; decide) rfl rfl (by kernel_rfl) St SG fun d a W hF hG hH hn hcl hw => ?_
        have q19 := (hF.same 19 (by decide)).trans e19
        exact ⟨.pointer (some ⟨g19, 2, none⟩), W, by clear hF hG hH hn hcl hw; generalize a.eval = ρ at *; go_simp, Below.refl _ _, rfl⟩
      · refine StepG.on rfl (fun d a W hI hw => yielded_of rfl (hI.2.2.at_ (i := 18) rfl (hw 18 rfl) id)) ?_
        refine stepB rfl rfl (by decide) (by rw [hz]; decide) rfl rfl (by kernel_rfl) St SG fun d a W hF hG hH hn hcl hw => ?_
        have q124 : a.eval (.tmp 124) = .pointer (some ⟨g19, 2, none⟩) := hH.at_ (i := 21) rfl (hw 21 rfl) id
        have cc0 := cell_kept hG C192.out
        exact ⟨.int .i64 (m : Int), W, by clear hF hG hH hn hcl hw; generalize a.eval = ρ at *; go_simp, Below.refl _ _, rfl⟩
      · refine StepG.on rfl (fun d a W hI hw => yielded_of rfl (hI.2.2.at_ (i := 18) rfl (hw 18 rfl) id)) ?_
        refine stepB rfl rfl (by decide) (by rw [hz]; decide) rfl rfl (by kernel_rfl) St SG fun d a W hF hG hH hn hcl hw => ?_
        have q123 : a.eval (.tmp 123) = .int .i64 (m : Int) := hH.at_ (i := 20) rfl (hw 20 rfl) id
        have q125 : a.eval (.tmp 125) = .int .i64 (m : Int) := hH.at_ (i := 22) rfl (hw 22 rfl) id
        exact ⟨.bool false, W, by clear hF hG hH hn hcl hw; generalize a.eval = ρ at *; go_simp, Below.refl _ _, rfl⟩
      · refine StepG.of ?_
        refine stepB rfl rfl (by decide) (by rw [hz]; decide) rfl rfl (by kernel_rfl) St SG fun d a W hF hG hH hn hcl hw => ?_
        have q121 : a.eval (.tmp 121) = .bool false := hH.at_ (i := 18) rfl (hw 18 rfl) id
        have q126 : a.eval (.tmp 126) = .bool false := hH.at_ (i := 23) rfl (hw 23 rfl) id
        have qk0 : a.eval (.const (.bool true)) = .bool true := rfl
        exact ⟨.bool false, W, by clear hF hG hH hn hcl hw; generalize a.eval = ρ at *; go_simp, Below.refl _ _, rfl⟩
      · refine StepG.of ?_
        refine stepB rfl rfl (by decide) (by rw [hz]; decide) rfl rfl (by kernel_rfl) St SG fun d a W hF hG hH hn hcl hw => ?_
        have q127 : a.eval (.tmp 127) = .bool false := hH.at_ (i := 24) rfl (hw 24 rfl) id
        exact ⟨.bool false, W, by clear hF hG hH hn hcl hw; generalize a.eval = ρ at *; go_simp, Below.refl _ _, rfl⟩
      · refine StepG.on rfl (fun d a W hI hw => yielded_of rfl (hI.2.2.at_ (i := 25) rfl (hw 25 rfl) id)) ?_
        refine stepB rfl rfl (by decide) (by rw [hz]; decide) rfl rfl (by kernel_rfl) St SG fun d a W hF hG hH hn hcl hw => ?_
        have q15 := (hF.same 15 (by decide)).trans e15
        exact ⟨.pointer (some ⟨g15, 5, none⟩), W, by clear hF hG hH hn hcl hw; generalize a.eval = ρ at *; go_simp, Below.refl _ _, rfl⟩
      · refine StepG.on rfl (fun d a W hI hw => yielded_of rfl (hI.2.2.at_ (i := 25) rfl (hw 25 rfl) id)) ?_
        refine stepB rfl rfl (by decide) (by rw [hz]; decide) rfl rfl (by kernel_rfl) St SG fun d a W hF hG hH hn hcl hw => ?_
        have q129 : a.eval (.tmp 129) = .pointer (some ⟨g15, 5, none⟩) := hH.at_ (i := 26) rfl (hw 26 rfl) id
        have cc0 := cell_kept hG C155.out
        exact ⟨.int .i64 (n : Int), W, by clear hF hG hH hn hcl hw; generalize a.eval = ρ at *; go_simp, Below.refl _ _, rfl⟩
      · refine StepG.on rfl (fun d a W hI hw => yielded_of rfl (hI.2.2.at_ (i := 25) rfl (hw 25 rfl) id)) ?_
        refine stepB rfl rfl (by decide) (by rw [hz]; decide) rfl rfl (by kernel_rfl) St SG fun d a W hF hG hH hn hcl hw => ?_
        have q19 := (hF.same 19 (by decide)).trans e19
        exact ⟨.pointer (some ⟨g19, 3, none⟩), W, by clear hF hG hH hn hcl hw; generalize a.eval = ρ at *; go_simp, Below.refl _ _, rfl⟩
      · refine StepG.on rfl (fun d a W hI hw => yielded_of rfl (hI.2.2.at_ (i := 25) rfl (hw 25 rfl) id)) ?_
        refine stepB rfl rfl (by decide) (by rw [hz]; decide) rfl rfl (by kernel_rfl) St SG fun d a W hF hG hH hn hcl hw => ?_
        have q131 : a.eval (.tmp 131) = .pointer (some ⟨g19, 3, none⟩) := hH.at_ (i := 28) rfl (hw 28 rfl) id
        have cc0 := cell_kept hG C193.out
        exact ⟨.int .i64 (n : Int), W, by clear hF hG hH hn hcl hw; generalize a.eval = ρ at *; go_simp, Below.refl _ _, rfl⟩
      · refine StepG.on rfl (fun d a W hI hw => yielded_of rfl (hI.2.2.at_ (i := 25) rfl (hw 25 rfl) id)) ?_
        refine stepB rfl rfl (by decide) (by rw [hz]; decide) rfl rfl (by kernel_rfl) St SG fun d a W hF hG hH hn hcl hw => ?_
        have q130 : a.eval (.tmp 130) = .int .i64 (n : Int) := hH.at_ (i := 27) rfl (hw 27 rfl) id
        have q132 : a.eval (.tmp 132) = .int .i64 (n : Int) := hH.at_ (i := 29) rfl (hw 29 rfl) id
        exact ⟨.bool false, W, by clear hF hG hH hn hcl hw; generalize a.eval = ρ at *; go_simp, Below.refl _ _, rfl⟩
      · refine StepG.of ?_
        refine stepB rfl rfl (by decide) (by rw [hz]; decide) rfl rfl (by kernel_rfl) St SG fun d a W hF hG hH hn hcl hw => ?_
        have q128 : a.eval (.tmp 128) = .bool false := hH.at_ (i := 25) rfl (hw 25 rfl) id
        have q133 : a.eval (.tmp 133) = .bool false := hH.at_ (i := 30) rfl (hw 30 rfl) id
        have qk0 : a.eval (.const (.bool true)) = .bool true := rfl
        exact ⟨.bool false, W, by clear hF hG hH hn hcl hw; generalize a.eval = ρ at *; go_simp, Below.refl _ _, rfl⟩
      · refine StepG.of ?_
        refine stepB rfl rfl (by decide) (by rw [hz]; decide) rfl rfl (by kernel_rfl) St SG fun d a W hF hG hH hn hcl hw => ?_
        have q134 : a.eval (.tmp 134) = .bool false := hH.at_ (i := 31) rfl (hw 31 rfl) id
        exact ⟨.bool false, W, by clear hF hG hH hn hcl hw; generalize a.eval = ρ at *; go_simp, Below.refl _ _, rfl⟩
      · refine StepG.on rfl (fun d a W hI hw => yielded_of rfl (hI.2.2.at_ (i := 32) rfl (hw 32 rfl) id)) ?_
        refine stepB rfl rfl (by decide) (by rw [hz]; decide) rfl rfl (by kernel_rfl) St SG fun d a W hF hG hH hn hcl hw => ?_
        have q15 := (hF.same 15 (by decide)).trans e15
        exact ⟨.pointer (some ⟨g15, 6, none⟩), W, by clear hF hG hH hn hcl hw; generalize a.eval = ρ at *; go_simp, Below.refl _ _, rfl⟩
      · refine StepG.on rfl (fun d a W hI hw => yielded_of rfl (hI.2.2.at_ (i := 32) rfl (hw 32 rfl) id)) ?_
        refine stepB rfl rfl (by decide) (by rw [hz]; decide) rfl rfl (by kernel_rfl) St SG fun d a W hF hG hH hn hcl hw => ?_
        have q136 : a.eval (.tmp 136) = .pointer (some ⟨g15, 6, none⟩) := hH.at_ (i := 33) rfl (hw 33 rfl) id
        have cc0 := cell_kept hG C156.out
        exact ⟨.slice PA' pn' pc', W, by clear hF hG hH hn hcl hw; generalize a.eval = ρ at *; go_simp, Below.refl _ _, rfl⟩
      · refine StepG.on rfl (fun d a W hI hw => yielded_of rfl (hI.2.2.at_ (i := 32) rfl (hw 32 rfl) id)) ?_
        refine stepB rfl rfl (by decide) (by rw [hz]; decide) rfl rfl (by kernel_rfl) St SG fun d a W hF hG hH hn hcl hw => ?_
        have q19 := (hF.same 19 (by decide)).trans e19
        exact ⟨.pointer (some ⟨g19, 4, none⟩), W, by clear hF hG hH hn hcl hw; generalize a.eval = ρ at *; go_simp, Below.refl _ _, rfl⟩
      · refine StepG.on rfl (fun d a W hI hw => yielded_of rfl (hI.2.2.at_ (i := 32) rfl (hw 32 rfl) id)) ?_
        refine stepB rfl rfl (by decide) (by rw [hz]; decide) rfl rfl (by kernel_rfl) St SG fun d a W hF hG hH hn hcl hw => ?_
        have q138 : a.eval (.tmp 138) = .pointer (some ⟨g19, 4, none⟩) := hH.at_ (i := 35) rfl (hw 35 rfl) id
        have cc0 := cell_kept hG C194.out
        exact ⟨.slice PZ pz qz, W, by clear hF hG hH hn hcl hw; generalize a.eval = ρ at *; go_simp, Below.refl _ _, rfl⟩
      · refine StepG.on rfl (fun d a W hI hw => yielded_of rfl (hI.2.2.at_ (i := 32) rfl (hw 32 rfl) id)) ?_
        refine stepC rfl rfl (by decide) (by rw [hz]; decide) rfl rfl (by kernel_rfl) St SG fun d a W hF hG hH hn hcl hw => ?_
        have q137 : a.eval (.tmp 137) = .slice PA' pn' pc' := hH.at_ (i := 34) rfl (hw 34 rfl) id
        have q139 : a.eval (.tmp 139) = .slice PZ pz qz := hH.at_ (i := 36) rfl (hw 36 rfl) id
        have qf : a.eval (.func 34) = .func (.func 34) #[] #[] := rfl
        have hpp := HPP.out
        rw [← hpp] at q139
        refine ⟨34, #[.slice PA' pn' pc', .slice PZ pn' qz], ?_, ?_⟩
        · clear hF hG hH hn hcl hw
          generalize a.eval = ρ at *
          go_simp
        · refine (same_yes V1 PA' PZ pn' pc' qz W HAP.out (by have := HV1.out; have := HAP.out; omega) (hsa.next hG) (hsz.next hG)).mono ?_; rintro e W' ⟨rfl, b⟩; exact ⟨_, rfl, b, rfl⟩
      · refine StepG.on rfl (fun d a W hI hw => yielded_of rfl (hI.2.2.at_ (i := 32) rfl (hw 32 rfl) id)) ?_
        refine stepB rfl rfl (by decide) (by rw [hz]; decide) rfl rfl (by kernel_rfl) St SG fun d a W hF hG hH hn hcl hw => ?_
        have q140 : a.eval (.tmp 140) = .bool true := hH.at_ (i := 37) rfl (hw 37 rfl) id
        exact ⟨.bool false, W, by clear hF hG hH hn hcl hw; generalize a.eval = ρ at *; go_simp, Below.refl _ _, rfl⟩
      · refine StepG.of ?_
        refine stepB rfl rfl (by decide) (by rw [hz]; decide) rfl rfl (by kernel_rfl) St SG fun d a W hF hG hH hn hcl hw => ?_
        have q135 : a.eval (.tmp 135) = .bool false := hH.at_ (i := 32) rfl (hw 32 rfl) id
        have q141 : a.eval (.tmp 141) = .bool false := hH.at_ (i := 38) rfl (hw 38 rfl) id
        have qk0 : a.eval (.const (.bool true)) = .bool true := rfl
        exact ⟨.bool false, W, by clear hF hG hH hn hcl hw; generalize a.eval = ρ at *; go_simp, Below.refl _ _, rfl⟩
    · intro d a W ⟨hF, hB, hH⟩ hall
      have k142 : a.eval (.tmp 142) = .bool false := hH.at_ (i := 39) rfl (hall 39 (by decide)) id
      clear hH hall
      rw [hF.shape (by rw [hz]; decide)]
      clear hF
      simp only [List.foldl]
      generalize a.eval (.tmp 103) = z103, a.eval (.tmp 104) = z104, a.eval (.tmp 105) = z105, a.eval (.tmp 106) = z106, a.eval (.tmp 107) = z107, a.eval (.tmp 108) = z108, a.eval (.tmp 109) = z109, a.eval (.tmp 110) = z110, a.eval (.tmp 111) = z111, a.eval (.tmp 112) = z112, a.eval (.tmp 113) = z113, a.eval (.tmp 114) = z114, a.eval (.tmp 115) = z115, a.eval (.tmp 116) = z116, a.eval (.tmp 117) = z117, a.eval (.tmp 118) = z118, a.eval (.tmp 119) = z119, a.eval (.tmp 120) = z120, a.eval (.tmp 121) = z121, a.eval (.tmp 122) = z122, a.eval (.tmp 123) = z123, a.eval (.tmp 124) = z124, a.eval (.tmp 125) = z125, a.eval (.tmp 126) = z126, a.eval (.tmp 127) = z127, a.eval (.tmp 128) = z128, a.eval (.tmp 129) = z129, a.eval (.tmp 130) = z130, a.eval (.tmp 131) = z131, a.eval (.tmp 132) = z132, a.eval (.tmp 133) = z133, a.eval (.tmp 134) = z134, a.eval (.tmp 135) = z135, a.eval (.tmp 136) = z136, a.eval (.tmp 137) = z137, a.eval (.tmp 138) = z138, a.eval (.tmp 139) = z139, a.eval (.tmp 140) = z140, a.eval (.tmp 141) = z141, a.eval (.tmp 142) = z142 at *
      subst k142
      rw [HA0.out]
      simp only [Act.put, List.setIfInBounds_toArray, List.set_cons_zero, List.set_cons_succ]
      clear hz HA0 St SG e15 e16 e19
      clear a a0
      have hk14 := hk13.next hB
      have hR14 := hR13.below hB
      have a10 := e10.next hB
      have a12 : BoxW W g12 := BoxA.next e12 hB
      have a17 := e17.next hB
      have BB14 := Below.on BB13 hB
      have hOr14 := hOr13.next hB
      have hOq14 := hOq13.next hB
      clear hk13 hR13 e10 e12 e15 e17 BB13 hB hsz hsa C150 C151 C152 C153 C154 C155 C156 C190 C191 C192 C193 C194 R0 R1 R2 hOr13 hOq13
      generalize W = w14 at *
      have c80 := a10.c0
      go_upto_region 18 with (fail)
      go_upto_region 19 with (first
        | ((with_reducible refine wpList_load_if (o := ⟨some 184, _, _, _, _, _⟩) ?_ 27 (.tmp 12) ?_ (wordsV) ?_ ?_); rfl; rfl; exact BoxW.load a12)
        | ((with_reducible refine wpList_load_if (o := ⟨some 185, _, _, _, _, _⟩) ?_ 69 (.tmp 10) ?_ (.agg #[.int .i64 (n : Int), .slice (some ad) m c1]) ?_ ?_); rfl; rfl; exact BoxM.load_ a10)
        | (go_at_call 40; refine (HR2.out _ ad m c1 HRL.out mc1 hR14).mono ?_; rintro e w16 ⟨Ay, ky, cy, PY, py, qy, rfl, hOv, hOu, b16⟩))
      obtain ⟨w17, hW17⟩ : ∃ w17, World.alloc w16 (.cells #[.slice Ay ky cy, .int .i64 f2, .int .i64 m, .int .i64 n, .slice PY py qy] 43) = w17 := ⟨_, rfl⟩
      have y20 : BoxC w17 w16.heap.size Ay ky cy f2 m n PY py qy := hW17 ▸ BoxC.new w16 Ay ky cy f2 m n PY py qy
      have b17 : Below w16.heap.size w16 w17 := hW17 ▸ Below.new1 _ _
      change Code.wp _ _ _ _ (World.alloc w16 (.cells #[.slice Ay ky cy, .int .i64 f2, .int .i64 m, .int .i64 n, .slice PY py qy] 43))
      rw [hW17]
      have B17 := Below.on b16 b17
      have s17 := a17.next B17
      have hk17 := hk14.next B17
      have BB17 := Below.on BB14 B17
      obtain ⟨Ax, cx, ea, hca, hRa⟩ := (hOr14.next B17).runs
      simp only [Value.slice.injEq] at ea
      obtain ⟨ea1, ea2, ea3⟩ := ea
      rw [← ea1] at hRa
      rw [← ea3] at hca
      obtain ⟨Bx, dx, eb, hcb, hRb⟩ := (hOv.next b17).runs
      simp only [Value.slice.injEq] at eb
      obtain ⟨eb1, eb2, eb3⟩ := eb
      rw [← eb1] at hRb
      rw [← eb3] at hcb
      obtain ⟨Px, qx, ec, hcc, hsc⟩ := (hOq14.next B17).toHs
      simp only [Value.slice.injEq] at ec
      obtain ⟨ec1, ec2, ec3⟩ := ec
      rw [← ec1] at hsc
      obtain ⟨Qx, rx, ed, hcd, hsd⟩ := (hOu.next b17).toHs
      simp only [Value.slice.injEq] at ed
      obtain ⟨ed1, ed2, ed3⟩ := ed
      rw [← ed1] at hsd
      have hal := alike_same D A'' Ay c'' cy w17 hRa hRb hca hcb (by have := HD2.out; omega)
      have HAL := Lib.hid hal
      have hsm := fun W (h1 : Hs W PB V2) (h2 : Hs W PY V2) => same_yes V2 PB PY V2.length qb qy W rfl (by have := HV2.out; omega) h1 h2
      have HSM := Lib.hid hsm
      subst ea2 eb2 ec2 ed2
      have d0 := s17.c0
      have d1 := s17.c1
      have d2 := s17.c2
      have d3 := s17.c3
      have d4 := s17.c4
      have f0 := y20.c0
      have f1_ := y20.c1
      have f2_ := y20.c2
      have f3 := y20.c3
      have f4 := y20.c4
      generalize w16.heap.size = g20 at *
      clear hW17 b16 b17 B17 a17 a10 a12 hk14 hR14 BB14 hOv hOu hOr14 hOq14 ea1 ea3 eb1 eb3 ec1 ec3 ed1 ed3 hca hRa hcb hRb hcc hcd hal hsm HR2 HV2 HD2 s17 y20 c80
      generalize V2.length = lv at *
      generalize D.length = ld at *
      go_wp2_with (first
        | (go_at_call 41; refine HAL.out.mono ?_; rintro e w18 ⟨rfl, bq⟩; have b18 := bq.below w17.heap.size; replace d1 := cell_kept b18 d1; replace d2 := cell_kept b18 d2; replace d3 := cell_kept b18 d3; replace d4 := cell_kept b18 d4; replace f1_ := cell_kept b18 f1_; replace f2_ := cell_kept b18 f2_; replace f3 := cell_kept b18 f3; replace f4 := cell_kept b18 f4; have hk18 := hk17.next b18; have hsc8 := hsc.next b18; have hsd8 := hsd.next b18; clear HAL)
        | (go_at_call 34; refine (HSM.out _ hsc8 hsd8).mono ?_; rintro e w19 ⟨rfl, b19⟩; have hk19 := hk18.next b19)
        | (go_at_call 17; refine (HA.out _ hk19).mono ?_; rintro e w20 ⟨rfl, b20⟩))
      go_ret
      exact ⟨rfl, Below.on (Below.on (Below.on BB17 b18) b19) b20⟩
set_option maxRecDepth 100000 in
set_option maxHeartbeats 4000000 in
theorem maps_in_out (ts : List UInt8) (A : Option Addr) (q : Nat) (lo hi : Int) (n c : Nat) (w : World) (hn : ts.length = n) (h1 : 1 ≤ n) (h60 : n ≤ 60) (hT : Tags w A ts) (hk : Kon w) (hq : q < n) (hy : lo < 0 ∨ hi ≤ lo ∨ (n : Int) < hi) : Calls Tryd.prog 10 #[.slice A n c, .int .i64 (q : Int), .int .i64 lo, .int .i64 hi] w fun e w' => e = .returned (.bool true) ∧ Below w.heap.size w w' := by
  have hroot : (rootO ts).length = 32 := rootO_length ts
  have hmd := fun W (h : Tags W A ts) => made_yes ts A n c W hn h1 h60 h
  unfold MadePost at hmd
  rw [hn] at hmd
  have hmr := fun W p (h : Rep W p (ofL ts)) (kon : Kon W) => mapRoot_any W p (ofL ts) h kon
  rw [mapRoot_of (by omega) (by omega)] at hmr
  have hrm := fun W A m c (hm : (ofR ts).length = m) (h : Runs W A (ofR ts)) => root_of (ts := ts) (by omega) (by omega) W A m c hm h
  rw [hn] at hrm
  have hmle := (ofR_spec ts).2.2.2.2.1
  have hm1 : 1 ≤ (ofR ts).length := by
    have := (ofL_good (ts := ts) (by omega) (by omega)).1
    have e : (ofL ts).length = (ofR ts).length := segs_length _
    cases hh : ofL ts with
    | nil => exact absurd hh this
    | cons x l => rw [hh] at e; simp at e; omega
  obtain ⟨X0, hX0, hX0t, hfl, hto, hcut⟩ := of_run (ts := ts) (q := q) (by omega) (by omega) (by omega)
  have hst := fun W p (h : Rep W p (ofL ts)) (kon : Kon W) => state_of (ts := ts) (q := q) (by omega) (by omega) (by omega) hX0 W p h kon
  rw [hn] at hst
  have hr1 := fun W ad m c (hm : (ofR ts).length = m) (hc : m ≤ c) (h : Runs W (some ad) (ofR ts)) => rrange_of (ts := ts) (lo := (q : Int)) (hi := (q : Int) + 1) (by omega) (by omega) (by omega) (by omega) (by omega) W ad m c hm hc h
  rw [hn] at hr1
  rw [show cutO ts q ((q : Int) + 1) = [X0] from hcut] at hr1
  have ho1 := outO_length (ts := ts) (by omega) q ((q : Int) + 1)
  have hrg := fun W p (h : Rep W p (ofL ts)) => range_no (ts := ts) (by omega) (by omega) (by rw [hn]; exact hy) W p h
  clear hX0 hX0t hfl hto hcut
  generalize outO ts q ((q : Int) + 1) = V1 at *
  generalize ((fromM q (ofR ts) : Nat) : Int) = f1 at *
  generalize rootO ts = root at *
  generalize ofL ts = L at *
  obtain ⟨m, hm⟩ : ∃ m, (ofR ts).length = m := ⟨_, rfl⟩
  rw [hm] at hmd hmle hm1 hst
  generalize ofR ts = R at *
  have HMD := Lib.hid hmd
  have HMR := Lib.hid hmr
  have HRM := Lib.hid hrm
  have HST := Lib.hid hst
  have HRG := Lib.hid hrg
  have HA := Lib.hid (fun W kon => awake_any W kon)
  have HROOT := Lib.hid hroot
  have HRL := Lib.hid hm
  have HR1 := Lib.hid hr1
  have HV1 := Lib.hid ho1
  have k0 : ¬ (q : Int) < 0 := by omega
  have k1 : ¬ (n : Int) ≤ (q : Int) := by omega
  have k2 : (q : Int) ≤ 60 := by omega
  have hy' : (lo < 0 ∧ decide (0 ≤ lo) = false) ∨ (0 ≤ lo ∧ hi ≤ lo ∧ decide (lo < hi) = false) ∨ (0 ≤ lo ∧ lo < hi ∧ (n : Int) < hi ∧ decide (hi ≤ (n : Int)) = false) := by simp only [decide_eq_false_iff_not]; omega
  have j1 : ((n : Int) == 0) = false := by simp; omega
  have j2 : ¬ (60 : Int) < n := by omega
  have hqe := fun W => eq_hash hroot hroot true (beq_self_eq_true _) W
  have HQE := Lib.hid hqe
  have hmx : 1 ≤ m ∧ m ≤ 60 := by omega
  clear hmd hmr hrm hst hrg hroot hn hm hmle hm1 h1 h60 hqe hr1 ho1 hq hy
  go_enter Tryd.func10, Tryd.ntmps10
  go_upto_region 2 with (go_at_call 38; refine (HMD.out _ hT).mono ?_; rintro e w1 ⟨p, A1, c1, rfl, hp1, hO1, b1⟩)
  obtain ⟨w2, hW2⟩ : ∃ w2, (w1.alloc (.cells #[.pointer p] 47)).alloc (.cells #[.int .i64 (n : Int), .slice A1 m c1] 69) = w2 := ⟨_, rfl⟩
  have b2 : Below w1.heap.size w1 w2 := hW2 ▸ Below.on (Below.new1 _ _) (Below.new1 _ _)
  have x7 : Boxed w2 w1.heap.size 47 (.pointer p) := hW2 ▸ (Boxed.new w1 _ _).alloc _
  have x8 : BoxM w2 (w1.heap.size + 1) n (.slice A1 m c1) := by
    have := BoxM.new (w1.alloc (.cells #[.pointer p] 47)) n (.slice A1 m c1)
    rw [World.size_alloc] at this; exact hW2 ▸ this
  have hp2 := hp1.below b2
  have hRc : Runs w2 A1 R ∧ R.length ≤ c1 := by
    obtain ⟨A', c', e, hc', h⟩ := (hO1.next b2).runs
    cases e; exact ⟨h, hc'⟩
  obtain ⟨hR2, hc1⟩ := hRc
  change Code.wp _ _ _ _ ((w1.alloc (.cells #[.pointer p] 47)).alloc (.cells #[.int .i64 (n : Int), .slice A1 m c1] 69))
  rw [hW2]
  have B2 := Below.on b1 b2
  have hk2 := hk.next B2
  have c7 := x7.cell
  have hAd : ∃ a, A1 = some a := by
    rcases hR2 with h | ⟨a, h, _⟩
    · have := HRL.out; rw [h] at this; simp at this; omega
    · exact ⟨a, h⟩
  obtain ⟨ad, rfl⟩ := hAd
  have x8' := x8
  generalize hg10 : w1.heap.size + 1 = g10 at *
  generalize w1.heap.size = g9 at *
  clear hW2 hT x7 hp1 hO1 b1 b2 hk hg10 x8'
  have mc1 : m ≤ c1 := by have := HRL.out; omega
  clear hc1
  go_upto_region 5 with (first
    | (go_at_call 18; refine (constants_any _).mono ?_; rintro e w3 ⟨rfl, b3⟩)
    | (refine wpList_newW rfl (.tmp 12) (.tmp 43) rfl rfl rfl ?_))
  have yC := withW_box w3
  have bw := withW_below w3
  obtain ⟨w4, hW⟩ : ∃ w4, withW w3 = w4 := ⟨_, rfl⟩
  change Code.wp _ _ _ _ (withW w3)
  rw [hW] at yC bw ⊢
  have b4 := Below.on b3 bw
  have hk4 := hk2.next b4
  have hp4 := hp2.below b4
  have hR4 := hR2.below b4
  have z10 := x8.next b4
  have BB4 := Below.on B2 b4
  have y12 : BoxW w4 w3.heap.size := yC
  replace c7 := cell_kept b4 c7
  generalize w3.heap.size = g12 at *
  clear yC bw hW b3 b4 hk2 hp2 hR2 x8 B2
  go_upto_region 6 with (first
    | (go_at_call 25; refine (HMR.out _ p hp4 hk4).mono ?_; rintro e w5 ⟨rfl, b5⟩)
    | ((with_reducible refine wpList_storeH ?_ (.tmp 13) (.tmp 47) ?_ w5.heap.size root ?_ ?_ (BoxA.new w5 30 .u8 (List.replicate 32 0) _ rfl) (by simp) HROOT.out ?_); rfl; rfl; rfl; rfl))
  obtain ⟨w6, hW6⟩ : ∃ w6, World.setRow (World.alloc w5 (.cells (ints .u8 (List.replicate 32 0)) 30)) w5.heap.size (ints .u8 (nums root)) = w6 := ⟨_, rfl⟩
  have y13 : BoxH w6 w5.heap.size root := hW6 ▸ (BoxA.new w5 30 .u8 (List.replicate 32 0) _ rfl).setRow (l' := nums root)
  have b6 : Below w5.heap.size w5 w6 := hW6 ▸ below_setRow (Below.new1 w5 _) (Nat.le_refl _) _
  change Code.wp _ _ _ _ (World.setRow (World.alloc w5 (.cells (ints .u8 (List.replicate 32 0)) 30)) w5.heap.size (ints .u8 (nums root)))
  rw [hW6]
  have B6 := Below.on b5 b6
  have hk6 := hk4.next B6
  have hp6 := hp4.below B6
  have hR6 := hR4.below B6
  have v10 := z10.next B6
  have v12 : BoxW w6 g12 := BoxA.next y12 B6
  have BB6 := Below.on BB4 B6
  replace c7 := cell_kept B6 c7
  generalize w5.heap.size = g13 at *
  clear hW6 b5 b6 B6 hk4 hp4 hR4 z10 y12 BB4 HMR HMD
  go_upto_region 7 with (go_at_call 26; refine (HST.out _ p hp6 hk6).mono ?_; rintro e w7 ⟨PA', pn', pc', rfl, hOs, b7⟩)
  obtain ⟨w8, hW8⟩ : ∃ w8, World.alloc w7 (.cells (cellsS X0 f1 m n PA' pn' pc') 37) = w8 := ⟨_, rfl⟩
  have y15 : BoxS w8 w7.heap.size X0 f1 m n PA' pn' pc' := hW8 ▸ BoxS.new w7 X0 f1 m n PA' pn' pc'
  have b8 : Below w7.heap.size w7 w8 := hW8 ▸ Below.new1 _ _
  change Code.wp _ _ _ _ (World.alloc w7 (.cells (cellsS X0 f1 m n PA' pn' pc') 37))
  rw [hW8]
  have B8 := Below.on b7 b8
  have hk8 := hk6.next B8
  have hp8 := hp6.below B8
  have hR8 := hR6.below B8
  have u10 := v10.next B8
  have u12 : BoxW w8 g12 := BoxA.next v12 B8
  have u13 : BoxH w8 g13 root := BoxA.next y13 B8
  have BB8 := Below.on BB6 B8
  replace c7 := cell_kept B8 c7
  have hOs8 := hOs.next b8
  generalize w7.heap.size = g15 at *
  clear hW8 b7 b8 B8 hk6 hp6 hR6 v10 v12 y13 BB6 HST hOs
  go_upto_region 8 with (go_at_call 27; refine (HRG.out _ p hp8).mono ?_; rintro e w9 ⟨rfl, b9⟩)
  obtain ⟨w10, hW10⟩ : ∃ w10, World.alloc w9 (.cells #[.slice none 0 0, .int .i64 0, .int .i64 0, .int .i64 0, .slice none 0 0] 43) = w10 := ⟨_, rfl⟩
  have y17 : BoxC w10 w9.heap.size none 0 0 0 0 0 none 0 0 := hW10 ▸ BoxC.new w9 none 0 0 0 0 0 none 0 0
  have b10 : Below w9.heap.size w9 w10 := hW10 ▸ Below.new1 _ _
  change Code.wp _ _ _ _ (World.alloc w9 (.cells #[.slice none 0 0, .int .i64 0, .int .i64 0, .int .i64 0, .slice none 0 0] 43))
  rw [hW10]
  have B10 := Below.on b9 b10
  have hkA := hk8.next B10
  have hRA := hR8.below B10
  have z10 := u10.next B10
  have z12 : BoxW w10 g12 := BoxA.next u12 B10
  have z13 : BoxH w10 g13 root := BoxA.next u13 B10
  have z15 := y15.next B10
  have BBA := Below.on BB8 B10
  have hOsA := hOs8.next B10
  generalize w9.heap.size = g17 at *
  clear hW10 b9 b10 B10 hk8 hp8 hR8 u10 u12 u13 y15 BB8 HRG c7 hOs8
  refine wp_name fun a0 ha0 => ?_
  have e10 : a0.eval (.tmp 10) = .pointer (some ⟨g10, 0, none⟩) := by rw [ha0]; rfl
  have e12 : a0.eval (.tmp 12) = .pointer (some ⟨g12, 0, none⟩) := by rw [ha0]; rfl
  have e13 : a0.eval (.tmp 13) = .pointer (some ⟨g13, 0, none⟩) := by rw [ha0]; rfl
  have e14 : a0.eval (.tmp 14) = .int .i64 0 := by rw [ha0]; rfl
  have hz : a0.tmps.size = 229 := by rw [ha0]; rfl
  have HA0 := Lib.hid ha0
  clear ha0
  have SG : ∀ (d d' : Nat → Prop) (W W' : World), (fun (_ : Nat → Prop) (W : World) => Below w10.heap.size w10 W) d W → (∀ j, d j → d' j) → Below W.heap.size W W' → (fun (_ : Nat → Prop) (W : World) => Below w10.heap.size w10 W) d' W' := fun _ _ _ _ h _ b => Below.next h b
  have St : ∀ xc ∈ [(⟨some 0, 62, none, fun v _ => v = hashV root⟩ : Cl), ⟨some 1, 63, none, fun v _ => v = wordsV⟩, ⟨some 2, 64, none, fun v _ => v = .agg #[.int .i64 (n : Int), .slice (some ad) m c1]⟩, ⟨some 3, 65, none, fun v _ => v = hashV root⟩, ⟨some 4, 66, none, fun v _ => v = .bool false⟩, ⟨some 5, 67, none, fun v _ => v = .bool false⟩, ⟨some 6, 68, none, fun v _ => v = .int .i64 0⟩, ⟨some 7, 69, none, fun v _ => v = .bool false⟩, ⟨some 8, 70, none, fun v _ => v = .bool false⟩], Lasts xc := AllC.mem ⟨lastsV0 _ _ _ _, lastsV0 _ _ _ _, lastsV0 _ _ _ _, lastsV0 _ _ _ _, lastsV0 _ _ _ _, lastsV0 _ _ _ _, lastsV0 _ _ _ _, lastsV0 _ _ _ _, lastsV0 _ _ _ _, trivial⟩
  refine wp_region_guards (Inv [62, 63, 64, 65, 66, 67, 68, 69, 70] a0 (fun (_ : Nat → Prop) (W : World) => Below w10.heap.size w10 W) (lst St)) (by kernel_rfl) (by kernel_rfl) (Inv.start (Below.refl _ _).drew ⟨nofun, nofun, nofun, nofun, nofun, nofun, nofun, nofun, nofun, trivial⟩) ?_ ?_
  · clear HA0
    refine ⟨?_, ?_, ?_, ?_, ?_, ?_, ?_, ?_, ?_, trivial⟩
    · refine StepG.of ?_
      refine stepB rfl rfl (by decide) (by rw [hz]; decide) rfl rfl (by kernel_rfl) St SG fun d a W hF hG hH hn hcl hw => ?_
      have q13 := (hF.same 13 (by decide)).trans e13
      refine ⟨hashV root, W, ?_, Below.refl _ _, ?_⟩
      · exact exec_load rfl (by rw [q13]; exact BoxH.load_ (BoxA.next z13 hG) HROOT.out)
      · rfl
    · refine StepG.of ?_
      refine stepB rfl rfl (by decide) (by rw [hz]; decide) rfl rfl (by kernel_rfl) St SG fun d a W hF hG hH hn hcl hw => ?_
      have q12 := (hF.same 12 (by decide)).trans e12
      refine ⟨wordsV, W, ?_, Below.refl _ _, ?_⟩
      · exact exec_load rfl (by rw [q12]; exact BoxW.load (BoxA.next z12 hG))
      · rfl
    · refine StepG.of ?_
      refine stepB rfl rfl (by decide) (by rw [hz]; decide) rfl rfl (by kernel_rfl) St SG fun d a W hF hG hH hn hcl hw => ?_
      have q10 := (hF.same 10 (by decide)).trans e10
      refine ⟨.agg #[.int .i64 (n : Int), .slice (some ad) m c1], W, ?_, Below.refl _ _, ?_⟩
      · exact exec_load rfl (by rw [q10]; exact BoxM.load_ (z10.next hG))
      · rfl
    · refine StepG.of ?_
      refine stepC rfl rfl (by decide) (by rw [hz]; decide) rfl rfl (by kernel_rfl) St SG fun d a W hF hG hH hn hcl hw => ?_
      have q63 : a.eval (.tmp 63) = wordsV := hH.at_ (i := 1) rfl (hw 1 rfl) id
      have q64 : a.eval (.tmp 64) = .agg #[.int .i64 (n : Int), .slice (some ad) m c1] := hH.at_ (i := 2) rfl (hw 2 rfl) id
      have qf : a.eval (.func 39) = .func (.func 39) #[] #[] := rfl
      refine ⟨39, #[wordsV, .agg #[.int .i64 (n : Int), .slice (some ad) m c1]], ?_, ?_⟩
      · clear hF hG hH hn hcl hw
        generalize a.eval = ρ at *
        go_simp
      · refine (HRM.out W (some ad) m c1 HRL.out (hRA.below hG)).mono ?_; rintro e W' ⟨rfl, b⟩; exact ⟨_, rfl, b, rfl⟩
    · refine StepG.of ?_
      refine stepB rfl rfl (by decide) (by rw [hz]; decide) rfl rfl (by kernel_rfl) St SG fun d a W hF hG hH hn hcl hw => ?_
      have q62 : a.eval (.tmp 62) = hashV root := hH.at_ (i := 0) rfl (hw 0 rfl) id
      have q65 : a.eval (.tmp 65) = hashV root := hH.at_ (i := 3) rfl (hw 3 rfl) id
      have qe_ := HQE.out W
      exact ⟨.bool false, W, by clear hF hG hH hn hcl hw; generalize a.eval = ρ at *; go_simp, Below.refl _ _, rfl⟩
    · refine StepG.of ?_
      refine stepB rfl rfl (by decide) (by rw [hz]; decide) rfl rfl (by kernel_rfl) St SG fun d a W hF hG hH hn hcl hw => ?_
      have q66 : a.eval (.tmp 66) = .bool false := hH.at_ (i := 4) rfl (hw 4 rfl) id
      exact ⟨.bool false, W, by clear hF hG hH hn hcl hw; generalize a.eval = ρ at *; go_simp, Below.refl _ _, rfl⟩
    · refine StepG.on rfl (fun d a W hI hw => yielded_of rfl (hI.2.2.at_ (i := 5) rfl (hw 5 rfl) id)) ?_
      refine stepB rfl rfl (by decide) (by rw [hz]; decide) rfl rfl (by kernel_rfl) St SG fun d a W hF hG hH hn hcl hw => ?_
      have q14 := (hF.same 14 (by decide)).trans e14
      exact ⟨.int .i64 0, W, by clear hF hG hH hn hcl hw; generalize a.eval = ρ at *; go_simp, Below.refl _ _, rfl⟩
    · refine StepG.on rfl (fun d a W hI hw => yielded_of rfl (hI.2.2.at_ (i := 5) rfl (hw 5 rfl) id)) ?_
      refine stepB rfl rfl (by decide) (by rw [hz]; decide) rfl rfl (by kernel_rfl) St SG fun d a W hF hG hH hn hcl hw => ?_
      have q68 : a.eval (.tmp 68) = .int .i64 0 := hH.at_ (i := 6) rfl (hw 6 rfl) id
      have qc0 : a.eval (.const (.int .i64 0)) = .int .i64 0 := rfl
      exact ⟨.bool false, W, by clear hF hG hH hn hcl hw; generalize a.eval = ρ at *; go_simp, Below.refl _ _, rfl⟩
    · refine StepG.of ?_
      refine stepB rfl rfl (by decide) (by rw [hz]; decide) rfl rfl (by kernel_rfl) St SG fun d a W hF hG hH hn hcl hw => ?_
      have q67 : a.eval (.tmp 67) = .bool false := hH.at_ (i := 5) rfl (hw 5 rfl) id
      have q69 : a.eval (.tmp 69) = .bool false := hH.at_ (i := 7) rfl (hw 7 rfl) id
      have qk0 : a.eval (.const (.bool true)) = .bool true := rfl
      exact ⟨.bool false, W, by clear hF hG hH hn hcl hw; generalize a.eval = ρ at *; go_simp, Below.refl _ _, rfl⟩
  · intro d a W ⟨hF, hB, hH⟩ hall
    have k70 : a.eval (.tmp 70) = .bool false := hH.at_ (i := 8) rfl (hall 8 (by decide)) id
    clear hH hall
    rw [hF.shape (by rw [hz]; decide)]
    clear hF
    simp only [List.foldl]
    generalize a.eval (.tmp 62) = z62, a.eval (.tmp 63) = z63, a.eval (.tmp 64) = z64, a.eval (.tmp 65) = z65, a.eval (.tmp 66) = z66, a.eval (.tmp 67) = z67, a.eval (.tmp 68) = z68, a.eval (.tmp 69) = z69, a.eval (.tmp 70) = z70 at *
    subst k70
    rw [HA0.out]
    simp only [Act.put, List.setIfInBounds_toArray, List.set_cons_zero, List.set_cons_succ]
    clear hz HA0 St SG e10 e12 e13 e14
    clear a a0
    have hk11 := hkA.next hB
    have hR11 := hRA.below hB
    have a10 := z10.next hB
    have a12 : BoxW W g12 := BoxA.next z12 hB
    have a15 := z15.next hB
    have a17 := y17.next hB
    have BB11 := Below.on BBA hB
    have hOs11 := hOsA.next hB
    clear hkA hRA z10 z12 z13 z15 y17 BBA hB hOsA
    generalize W = w11 at *
    have c80 := a10.c0
    go_upto_region 14 with (first
      | ((with_reducible refine wpList_load_if (o := ⟨some 97, _, _, _, _, _⟩) ?_ 27 (.tmp 12) ?_ (wordsV) ?_ ?_); rfl; rfl; exact BoxW.load a12)
      | ((with_reducible refine wpList_load_if (o := ⟨some 98, _, _, _, _, _⟩) ?_ 69 (.tmp 10) ?_ (.agg #[.int .i64 (n : Int), .slice (some ad) m c1]) ?_ ?_); rfl; rfl; exact BoxM.load_ a10)
      | (go_at_call 40; refine (HR1.out _ ad m c1 HRL.out mc1 hR11).mono ?_; rintro e w12 ⟨Az, kz, cz, PZ, pz, qz, rfl, hOz, hOy, b12⟩))
    obtain ⟨w13, hW13⟩ : ∃ w13, World.alloc w12 (.cells #[.slice Az kz cz, .int .i64 f1, .int .i64 m, .int .i64 n, .slice PZ pz qz] 43) = w13 := ⟨_, rfl⟩
    have y19 : BoxC w13 w12.heap.size Az kz cz f1 m n PZ pz qz := hW13 ▸ BoxC.new w12 Az kz cz f1 m n PZ pz qz
    have b13 : Below w12.heap.size w12 w13 := hW13 ▸ Below.new1 _ _
    change Code.wp _ _ _ _ (World.alloc w12 (.cells #[.slice Az kz cz, .int .i64 f1, .int .i64 m, .int .i64 n, .slice PZ pz qz] 43))
    rw [hW13]
    have B13 := Below.on b12 b13
    have e10 := a10.next B13
    have e12 : BoxW w13 g12 := BoxA.next a12 B13
    have e15 := a15.next B13
    have e17 := a17.next B13
    have hk13 := hk11.next B13
    have hR13 := hR11.below B13
    have BB13 := Below.on BB11 B13
    have hOsB := hOs11.next B13
    obtain ⟨PZx, qzx, ez, hqz, hsz⟩ := (hOy.next b13).toHs
    simp only [Value.slice.injEq] at ez
    obtain ⟨ez1, ez2, ez3⟩ := ez
    rw [← ez1] at hsz
    obtain ⟨PAx, pcx, ea, hpa, hsa⟩ := hOsB.toHs
    simp only [Value.slice.injEq] at ea
    obtain ⟨ea1, ea2, ea3⟩ := ea
    rw [← ea1] at hsa
    obtain ⟨Azx, czx, eb, hcz, hRz⟩ := (hOz.next b13).runs
    simp only [Value.slice.injEq] at eb
    obtain ⟨eb1, eb2, eb3⟩ := eb
    rw [← eb1] at hRz
    have hAz : ∃ a, Az = some a := by
      rcases hRz with h | ⟨a, h, _⟩
      · cases h
      · exact ⟨a, h⟩
    obtain ⟨az, hAzz⟩ := hAz
    rw [hAzz] at hRz y19 ⊢
    have hR0 := (hRz.at_ (i := 0) (by simp)).2
    simp only [List.getElem_cons_zero] at hR0
    have eaz : az.add (0 * 3) = az := by simp [Addr.add]
    rw [eaz] at hR0
    obtain ⟨r0, r1, r2⟩ := hR0
    have kz1 : kz = 1 := eb2
    have HZP := Lib.hid ez2.symm
    have HAP := Lib.hid ea2.symm
    have HPP := Lib.hid (ea2.trans ez2.symm)
    have C150 := Lib.hid e15.c0
    have C151 := Lib.hid e15.c1
    have C152 := Lib.hid e15.c2
    have C153 := Lib.hid e15.c3
    have C154 := Lib.hid e15.c4
    have C155 := Lib.hid e15.c5
    have C156 := Lib.hid e15.c6
    have C190 := Lib.hid y19.c0
    have C191 := Lib.hid y19.c1
    have C192 := Lib.hid y19.c2
    have C193 := Lib.hid y19.c3
    have C194 := Lib.hid y19.c4
    have R0 := Lib.hid r0
    have R1 := Lib.hid r1
    have R2 := Lib.hid r2
    have kzp : (0 : Int) < (kz : Int) := by omega
    have kzn : 0 < kz := by omega
    generalize w12.heap.size = g19 at *
    clear hW13 b12 b13 B13 a10 a12 a15 a17 hk11 hR11 BB11 hOs11 hOz hOy hOsB ez1 ez2 ez3 ea1 ea2 ea3 eb1 eb2 eb3 hRz r0 r1 r2 hqz hpa hcz hAzz kz1 eaz c80 y19
    refine wp_name fun a0 ha0 => ?_
    have e15 : a0.eval (.tmp 15) = .pointer (some ⟨g15, 0, none⟩) := by rw [ha0]; rfl
    have e16 : a0.eval (.tmp 16) = .int .i64 0 := by rw [ha0]; rfl
    have e19 : a0.eval (.tmp 19) = .pointer (some ⟨g19, 0, none⟩) := by rw [ha0]; rfl
    have hz : a0.tmps.size = 229 := by rw [ha0]; rfl
    have HA0 := Lib.hid ha0
    clear ha0
    have SG : ∀ (d d' : Nat → Prop) (W W' : World), (fun (_ : Nat → Prop) (W : World) => Below w13.heap.size w13 W) d W → (∀ j, d j → d' j) → Below W.heap.size W W' → (fun (_ : Nat → Prop) (W : World) => Below w13.heap.size w13 W) d' W' := fun _ _ _ _ h _ b => Below.next h b
    have St : ∀ xc ∈ [(⟨some 0, 103, none, fun v _ => v = .int .i64 0⟩ : Cl), ⟨some 1, 104, none, fun v _ => v = .bool false⟩, ⟨some 2, 105, none, fun v _ => v = .bool false⟩, ⟨some 3, 106, none, fun v _ => v = .pointer (some ⟨g15, 0, none⟩)⟩, ⟨some 4, 107, none, fun v _ => v = encR X0⟩, ⟨some 5, 108, none, fun v _ => v = .pointer (some ⟨g19, 0, none⟩)⟩, ⟨some 6, 109, none, fun v _ => v = .slice (some az) kz cz⟩, ⟨some 7, 110, none, fun v _ => v = .pointer (some (az.add (0 * 3)))⟩, ⟨some 8, 111, none, fun v _ => v = encR X0⟩, ⟨some 9, 112, none, fun v _ => v = .bool false⟩, ⟨some 10, 113, none, fun v _ => v = .bool false⟩, ⟨some 11, 114, none, fun v _ => v = .bool false⟩, ⟨some 12, 115, none, fun v _ => v = .pointer (some ⟨g15, 3, none⟩)⟩, ⟨some 13, 116, none, fun v _ => v = .int .i64 f1⟩, ⟨some 14, 117, none, fun v _ => v = .pointer (some ⟨g19, 1, none⟩)⟩, ⟨some 15, 118, none, fun v _ => v = .int .i64 f1⟩, ⟨some 16, 119, none, fun v _ => v = .bool false⟩, ⟨some 17, 120, none, fun v _ => v = .bool false⟩, ⟨some 18, 121, none, fun v _ => v = .bool false⟩, ⟨some 19, 122, none, fun v _ => v = .pointer (some ⟨g15, 4, none⟩)⟩, ⟨some 20, 123, none, fun v _ => v = .int .i64 (m : Int)⟩, ⟨some 21, 124, none, fun v _ => v = .pointer (some ⟨g19, 2, none⟩)⟩, ⟨some 22, 125, none, fun v _ => v = .int .i64 (m : Int)⟩, ⟨some 23, 126, none, fun v _ => v = .bool false⟩, ⟨some 24, 127, none, fun v _ => v = .bool false⟩, ⟨some 25, 128, none, fun v _ => v = .bool false⟩, ⟨some 26, 129, none, fun v _ => v = .pointer (some ⟨g15, 5, none⟩)⟩, ⟨some 27, 130, none, fun v _ => v = .int .i64 (n : Int)⟩, ⟨some 28, 131, none, fun v _ => v = .pointer (some ⟨g19, 3, none⟩)⟩, ⟨some 29, 132, none, fun v _ => v = .int .i64 (n : Int)⟩, ⟨some 30, 133, none, fun v _ => v = .bool false⟩, ⟨some 31, 134, none, fun v _ => v = .bool false⟩, ⟨some 32, 135, none, fun v _ => v = .bool false⟩, ⟨some 33, 136, none, fun v _ => v = .pointer (some ⟨g15, 6, none⟩)⟩, ⟨some 34, 137, none, fun v _ => v = .slice PA' pn' pc'⟩, ⟨some 35, 138, none, fun v _ => v = .pointer (some ⟨g19, 4, none⟩)⟩, ⟨some 36, 139, none, fun v _ => v = .slice PZ pz qz⟩, ⟨some 37, 140, none, fun v _ => v = .bool true⟩, ⟨some 38, 141, none, fun v _ => v = .bool false⟩, ⟨some 39, 142, none, fun v _ => v = .bool false⟩], Lasts xc := AllC.mem ⟨lastsV0 _ _ _ _, lastsV0 _ _ _ _, lastsV0 _ _ _ _, lastsV0 _ _ _ _, lastsV0 _ _ _ _, lastsV0 _ _ _ _, lastsV0 _ _ _ _, lastsV0 _ _ _ _, lastsV0 _ _ _ _, lastsV0 _ _ _ _, lastsV0 _ _ _ _, lastsV0 _ _ _ _, lastsV0 _ _ _ _, lastsV0 _ _ _ _, lastsV0 _ _ _ _, lastsV0 _ _ _ _, lastsV0 _ _ _ _, lastsV0 _ _ _ _, lastsV0 _ _ _ _, lastsV0 _ _ _ _, lastsV0 _ _ _ _, lastsV0 _ _ _ _, lastsV0 _ _ _ _, lastsV0 _ _ _ _, lastsV0 _ _ _ _, lastsV0 _ _ _ _, lastsV0 _ _ _ _, lastsV0 _ _ _ _, lastsV0 _ _ _ _, lastsV0 _ _ _ _, lastsV0 _ _ _ _, lastsV0 _ _ _ _, lastsV0 _ _ _ _, lastsV0 _ _ _ _, lastsV0 _ _ _ _, lastsV0 _ _ _ _, lastsV0 _ _ _ _, lastsV0 _ _ _ _, lastsV0 _ _ _ _, lastsV0 _ _ _ _, trivial⟩
    refine wp_region_guards (Inv [103, 104, 105, 106, 107, 108, 109, 110, 111, 112, 113, 114, 115, 116, 117, 118, 119, 120, 121, 122, 123, 124, 125, 126, 127, 128, 129, 130, 131, 132, 133, 134, 135, 136, 137, 138, 139, 140, 141, 142] a0 (fun (_ : Nat → Prop) (W : World) => Below w13.heap.size w13 W) (lst St)) (by kernel_rfl) (by kernel_rfl) (Inv.start (Below.refl _ _).drew ⟨nofun, nofun, nofun, nofun, nofun, nofun, nofun, nofun, nofun, nofun, nofun, nofun, nofun, nofun, nofun, nofun, nofun, nofun, nofun, nofun, nofun, nofun, nofun, nofun, nofun, nofun, nofun, nofun, nofun, nofun, nofun, nofun, nofun, nofun, nofun, nofun, nofun, nofun, nofun, nofun, trivial⟩) ?_ ?_
    · clear HA0
      refine ⟨?_, ?_, ?_, ?_, ?_, ?_, ?_, ?_, ?_, ?_, ?_, ?_, ?_, ?_, ?_, ?_, ?_, ?_, ?_, ?_, ?_, ?_, ?_, ?_, ?_, ?_, ?_, ?_, ?_, ?_, ?_, ?_, ?_, ?_, ?_, ?_, ?_, ?_, ?_, ?_, trivial⟩
      · refine StepG.of ?_
        refine stepB rfl rfl (by decide) (by rw [hz]; decide) rfl rfl (by kernel_rfl) St SG fun d a W hF hG hH hn hcl hw => ?_
        have q16 := (hF.same 16 (by decide)).trans e16
        exact ⟨.int .i64 0, W, by clear hF hG hH hn hcl hw; generalize a.eval = ρ at *; go_simp, Below.refl _ _, rfl⟩
      · refine StepG.of ?_
        refine stepB rfl rfl (by decide) (by rw [hz]; decide) rfl rfl (by kernel_rfl) St SG fun d a W hF hG hH hn hcl hw => ?_
        have q103 : a.eval (.tmp 103) = .int .i64 0 := hH.at_ (i := 0) rfl (hw 0 rfl) id
        have qc0 : a.eval (.const (.int .i64 0)) = .int .i64 0 := rfl
        exact ⟨.bool false, W, by clear hF hG hH hn hcl hw; generalize a.eval = ρ at *; go_simp, Below.refl _ _, rfl⟩
      · refine StepG.of ?_
        refine stepB rfl rfl (by decide) (by rw [hz]; decide) rfl rfl (by kernel_rfl) St SG fun d a W hF hG hH hn hcl hw => ?_
        have q104 : a.eval (.tmp 104) = .bool false := hH.at_ (i := 1) rfl (hw 1 rfl) id
        exact ⟨.bool false, W, by clear hF hG hH hn hcl hw; generalize a.eval = ρ at *; go_simp, Below.refl _ _, rfl⟩
      · refine StepG.on rfl (fun d a W hI hw => yielded_of rfl (hI.2.2.at_ (i := 2) rfl (hw 2 rfl) id)) ?_
        refine stepB rfl rfl (by decide) (by rw [hz]; decide) rfl rfl (by kernel_rfl) St SG fun d a W hF hG hH hn hcl hw => ?_
        have q15 := (hF.same 15 (by decide)).trans e15
        exact ⟨.pointer (some ⟨g15, 0, none⟩), W, by clear hF hG hH hn hcl hw; generalize a.eval = ρ at *; go_simp, Below.refl _ _, rfl⟩
      · refine StepG.on rfl (fun d a W hI hw => yielded_of rfl (hI.2.2.at_ (i := 2) rfl (hw 2 rfl) id)) ?_
        refine stepB rfl rfl (by decide) (by rw [hz]; decide) rfl rfl (by kernel_rfl) St SG fun d a W hF hG hH hn hcl hw => ?_
        have q106 : a.eval (.tmp 106) = .pointer (some ⟨g15, 0, none⟩) := hH.at_ (i := 3) rfl (hw 3 rfl) id
        have cc0 := cell_kept hG C150.out
        have cc1 := cell_kept hG C151.out
        have cc2 := cell_kept hG C152.out
        refine ⟨encR X0, W, ?_, Below.refl _ _, ?_⟩
        · (clear hF hG hH hn hcl hw; generalize a.eval = ρ at *; go_simp; rfl)
        · rfl
      · refine StepG.on rfl (fun d a W hI hw => yielded_of rfl (hI.2.2.at_ (i := 2) rfl (hw 2 rfl) id)) ?_
        refine stepB rfl rfl (by decide) (by rw [hz]; decide) rfl rfl (by kernel_rfl) St SG fun d a W hF hG hH hn hcl hw => ?_
        have q19 := (hF.same 19 (by decide)).trans e19
        exact ⟨.pointer (some ⟨g19, 0, none⟩), W, by clear hF hG hH hn hcl hw; generalize a.eval = ρ at *; go_simp, Below.refl _ _, rfl⟩
      · refine StepG.on rfl (fun d a W hI hw => yielded_of rfl (hI.2.2.at_ (i := 2) rfl (hw 2 rfl) id)) ?_
        refine stepB rfl rfl (by decide) (by rw [hz]; decide) rfl rfl (by kernel_rfl) St SG fun d a W hF hG hH hn hcl hw => ?_
        have q108 : a.eval (.tmp 108) = .pointer (some ⟨g19, 0, none⟩) := hH.at_ (i := 5) rfl (hw 5 rfl) id
        have cc0 := cell_kept hG C190.out
        exact ⟨.slice (some az) kz cz, W, by clear hF hG hH hn hcl hw; generalize a.eval = ρ at *; go_simp, Below.refl _ _, rfl⟩
      · refine StepG.on rfl (fun d a W hI hw => yielded_of rfl (hI.2.2.at_ (i := 2) rfl (hw 2 rfl) id)) ?_
        refine stepB rfl rfl (by decide) (by rw [hz]; decide) rfl rfl (by kernel_rfl) St SG fun d a W hF hG hH hn hcl hw => ?_
        have q109 : a.eval (.tmp 109) = .slice (some az) kz cz := hH.at_ (i := 6) rfl (hw 6 rfl) id
        have qc0 : a.eval (.const (.int .i64 0)) = .int .i64 0 := rfl
        refine ⟨.pointer (some (az.add (0 * 3))), W, ?_, Below.refl _ _, ?_⟩
        · (clear hF hG hH hn hcl hw; generalize a.eval = ρ at *; go_simp)
        · rfl
      · refine StepG.on rfl (fun d a W hI hw => yielded_of rfl (hI.2.2.at_ (i := 2) rfl (hw 2 rfl) id)) ?_
        refine stepB rfl rfl (by decide) (by rw [hz]; decide) rfl rfl (by kernel_rfl) St SG fun d a W hF hG hH hn hcl hw => ?_
        have q110 : a.eval (.tmp 110) = .pointer (some (az.add (0 * 3))) := hH.at_ (i := 7) rfl (hw 7 rfl) id
        have rr0 := cell_kept hG R0.out
        have rr1 := cell_kept hG R1.out
        have rr2 := cell_kept hG R2.out
        refine ⟨encR X0, W, ?_, Below.refl _ _, ?_⟩
        · (clear hF hG hH hn hcl hw; generalize a.eval = ρ at *; go_simp; rfl)
        · rfl
      · refine StepG.on rfl (fun d a W hI hw => yielded_of rfl (hI.2.2.at_ (i := 2) rfl (hw 2 rfl) id)) ?_
        refine stepB rfl rfl (by decide) (by rw [hz]; decide) rfl rfl (by kernel_rfl) St SG fun d a W hF hG hH hn hcl hw => ?_
        have q107 : a.eval (.tmp 107) = encR X0 := hH.at_ (i := 4) rfl (hw 4 rfl) id
        have q111 : a.eval (.tmp 111) = encR X0 := hH.at_ (i := 8) rfl (hw 8 rfl) id
        unfold encR at q107 q111
        exact ⟨.bool false, W, by clear hF hG hH hn hcl hw; generalize a.eval = ρ at *; go_simp, Below.refl _ _, rfl⟩
      · refine StepG.of ?_
        refine stepB rfl rfl (by decide) (by rw [hz]; decide) rfl rfl (by kernel_rfl) St SG fun d a W hF hG hH hn hcl hw => ?_
        have q105 : a.eval (.tmp 105) = .bool false := hH.at_ (i := 2) rfl (hw 2 rfl) id
        have q112 : a.eval (.tmp 112) = .bool false := hH.at_ (i := 9) rfl (hw 9 rfl) id
        have qk0 : a.eval (.const (.bool true)) = .bool true := rfl
        exact ⟨.bool false, W, by clear hF hG hH hn hcl hw; generalize a.eval = ρ at *; go_simp, Below.refl _ _, rfl⟩
      · refine StepG.of ?_
        refine stepB rfl rfl (by decide) (by rw [hz]; decide) rfl rfl (by kernel_rfl) St SG fun d a W hF hG hH hn hcl hw => ?_
        have q113 : a.eval (.tmp 113) = .bool false := hH.at_ (i := 10) rfl (hw 10 rfl) id
        exact ⟨.bool false, W, by clear hF hG hH hn hcl hw; generalize a.eval = ρ at *; go_simp, Below.refl _ _, rfl⟩
      · refine StepG.on rfl (fun d a W hI hw => yielded_of rfl (hI.2.2.at_ (i := 11) rfl (hw 11 rfl) id)) ?_
        refine stepB rfl rfl (by decide) (by rw [hz]; decide) rfl rfl (by kernel_rfl) St SG fun d a W hF hG hH hn hcl hw => ?_
        have q15 := (hF.same 15 (by decide)).trans e15
        exact ⟨.pointer (some ⟨g15, 3, none⟩), W, by clear hF hG hH hn hcl hw; generalize a.eval = ρ at *; go_simp, Below.refl _ _, rfl⟩
      · refine StepG.on rfl (fun d a W hI hw => yielded_of rfl (hI.2.2.at_ (i := 11) rfl (hw 11 rfl) id)) ?_
        refine stepB rfl rfl (by decide) (by rw [hz]; decide) rfl rfl (by kernel_rfl) St SG fun d a W hF hG hH hn hcl hw => ?_
        have q115 : a.eval (.tmp 115) = .pointer (some ⟨g15, 3, none⟩) := hH.at_ (i := 12) rfl (hw 12 rfl) id
        have cc0 := cell_kept hG C153.out
        exact ⟨.int .i64 f1, W, by clear hF hG hH hn hcl hw; generalize a.eval = ρ at *; go_simp, Below.refl _ _, rfl⟩
      · refine StepG.on rfl (fun d a W hI hw => yielded_of rfl (hI.2.2.at_ (i := 11) rfl (hw 11 rfl) id)) ?_
        refine stepB rfl rfl (by decide) (by rw [hz]; decide) rfl rfl (by kernel_rfl) St SG fun d a W hF hG hH hn hcl hw => ?_
        have q19 := (hF.same 19 (by decide)).trans e19
        exact ⟨.pointer (some ⟨g19, 1, none⟩), W, by clear hF hG hH hn hcl hw; generalize a.eval = ρ at *; go_simp, Below.refl _ _, rfl⟩
      · refine StepG.on rfl (fun d a W hI hw => yielded_of rfl (hI.2.2.at_ (i := 11) rfl (hw 11 rfl) id)) ?_
        refine stepB rfl rfl (by decide) (by rw [hz]; decide) rfl rfl (by kernel_rfl) St SG fun d a W hF hG hH hn hcl hw => ?_
        have q117 : a.eval (.tmp 117) = .pointer (some ⟨g19, 1, none⟩) := hH.at_ (i := 14) rfl (hw 14 rfl) id
        have cc0 := cell_kept hG C191.out
        exact ⟨.int .i64 f1, W, by clear hF hG hH hn hcl hw; generalize a.eval = ρ at *; go_simp, Below.refl _ _, rfl⟩
      · refine StepG.on rfl (fun d a W hI hw => yielded_of rfl (hI.2.2.at_ (i := 11) rfl (hw 11 rfl) id)) ?_
        refine stepB rfl rfl (by decide) (by rw [hz]; decide) rfl rfl (by kernel_rfl) St SG fun d a W hF hG hH hn hcl hw => ?_
        have q116 : a.eval (.tmp 116) = .int .i64 f1 := hH.at_ (i := 13) rfl (hw 13 rfl) id
        have q118 : a.eval (.tmp 118) = .int .i64 f1 := hH.at_ (i := 15) rfl (hw 15 rfl) id
        exact ⟨.bool false, W, by clear hF hG hH hn hcl hw; generalize a.eval = ρ at *; go_simp, Below.refl _ _, rfl⟩
      · refine StepG.of ?_
        refine stepB rfl rfl (by decide) (by rw [hz]; decide) rfl rfl (by kernel_rfl) St SG fun d a W hF hG hH hn hcl hw => ?_
        have q114 : a.eval (.tmp 114) = .bool false := hH.at_ (i := 11) rfl (hw 11 rfl) id
        have q119 : a.eval (.tmp 119) = .bool false := hH.at_ (i := 16) rfl (hw 16 rfl) id
        have qk0 : a.eval (.const (.bool true)) = .bool true := rfl
        exact ⟨.bool false, W, by clear hF hG hH hn hcl hw; generalize a.eval = ρ at *; go_simp, Below.refl _ _, rfl⟩
      · refine StepG.of ?_
        refine stepB rfl rfl (by decide) (by rw [hz]; decide) rfl rfl (by kernel_rfl) St SG fun d a W hF hG hH hn hcl hw => ?_
        have q120 : a.eval (.tmp 120) = .bool false := hH.at_ (i := 17) rfl (hw 17 rfl) id
        exact ⟨.bool false, W, by clear hF hG hH hn hcl hw; generalize a.eval = ρ at *; go_simp, Below.refl _ _, rfl⟩
      · refine StepG.on rfl (fun d a W hI hw => yielded_of rfl (hI.2.2.at_ (i := 18) rfl (hw 18 rfl) id)) ?_
        refine stepB rfl rfl (by decide) (by rw [hz]; decide) rfl rfl (by kernel_rfl) St SG fun d a W hF hG hH hn hcl hw => ?_
        have q15 := (hF.same 15 (by decide)).trans e15
        exact ⟨.pointer (some ⟨g15, 4, none⟩), W, by clear hF hG hH hn hcl hw; generalize a.eval = ρ at *; go_simp, Below.refl _ _, rfl⟩
      · refine StepG.on rfl (fun d a W hI hw => yielded_of rfl (hI.2.2.at_ (i := 18) rfl (hw 18 rfl) id)) ?_
        refine stepB rfl rfl (by decide) (by rw [hz]; decide) rfl rfl (by kernel_rfl) St SG fun d a W hF hG hH hn hcl hw => ?_
        have q122 : a.eval (.tmp 122) = .pointer (some ⟨g15, 4, none⟩) := hH.at_ (i := 19) rfl (hw 19 rfl) id
        have cc0 := cell_kept hG C154.out
        exact ⟨.int .i64 (m : Int), W, by clear hF hG hH hn hcl hw; generalize a.eval = ρ at *; go_simp, Below.refl _ _, rfl⟩
      · refine StepG.on rfl (fun d a W hI hw => yielded_of rfl (hI.2.2.at_ (i := 18) rfl (hw 18 rfl) id)) ?_
        refine stepB rfl rfl (by decide) (by rw [hz]; decide) rfl rfl (by kernel_rfl) St SG fun d a W hF hG hH hn hcl hw => ?_
        have q19 := (hF.same 19 (by decide)).trans e19
        exact ⟨.pointer (some ⟨g19, 2, none⟩), W, by clear hF hG hH hn hcl hw; generalize a.eval = ρ at *; go_simp, Below.refl _ _, rfl⟩
      · refine StepG.on rfl (fun d a W hI hw => yielded_of rfl (hI.2.2.at_ (i := 18) rfl (hw 18 rfl) id)) ?_
        refine stepB rfl rfl (by decide) (by rw [hz]; decide) rfl rfl (by kernel_rfl) St SG fun d a W hF hG hH hn hcl hw => ?_
        have q124 : a.eval (.tmp 124) = .pointer (some ⟨g19, 2, none⟩) := hH.at_ (i := 21) rfl (hw 21 rfl) id
        have cc0 := cell_kept hG C192.out
        exact ⟨.int .i64 (m : Int), W, by clear hF hG hH hn hcl hw; generalize a.eval = ρ at *; go_simp, Below.refl _ _, rfl⟩
      · refine StepG.on rfl (fun d a W hI hw => yielded_of rfl (hI.2.2.at_ (i := 18) rfl (hw 18 rfl) id)) ?_
        refine stepB rfl rfl (by decide) (by rw [hz]; decide) rfl rfl (by kernel_rfl) St SG fun d a W hF hG hH hn hcl hw => ?_
        have q123 : a.eval (.tmp 123) = .int .i64 (m : Int) := hH.at_ (i := 20) rfl (hw 20 rfl) id
        have q125 : a.eval (.tmp 125) = .int .i64 (m : Int) := hH.at_ (i := 22) rfl (hw 22 rfl) id
        exact ⟨.bool false, W, by clear hF hG hH hn hcl hw; generalize a.eval = ρ at *; go_simp, Below.refl _ _, rfl⟩
      · refine StepG.of ?_
        refine stepB rfl rfl (by decide) (by rw [hz]; decide) rfl rfl (by kernel_rfl) St SG fun d a W hF hG hH hn hcl hw => ?_
        have q121 : a.eval (.tmp 121) = .bool false := hH.at_ (i := 18) rfl (hw 18 rfl) id
        have q126 : a.eval (.tmp 126) = .bool false := hH.at_ (i := 23) rfl (hw 23 rfl) id
        have qk0 : a.eval (.const (.bool true)) = .bool true := rfl
        exact ⟨.bool false, W, by clear hF hG hH hn hcl hw; generalize a.eval = ρ at *; go_simp, Below.refl _ _, rfl⟩
      · refine StepG.of ?_
        refine stepB rfl rfl (by decide) (by rw [hz]; decide) rfl rfl (by kernel_rfl) St SG fun d a W hF hG hH hn hcl hw => ?_
        have q127 : a.eval (.tmp 127) = .bool false := hH.at_ (i := 24) rfl (hw 24 rfl) id
        exact ⟨.bool false, W, by clear hF hG hH hn hcl hw; generalize a.eval = ρ at *; go_simp, Below.refl _ _, rfl⟩
      · refine StepG.on rfl (fun d a W hI hw => yielded_of rfl (hI.2.2.at_ (i := 25) rfl (hw 25 rfl) id)) ?_
        refine stepB rfl rfl (by decide) (by rw [hz]; decide) rfl rfl (by kernel_rfl) St SG fun d a W hF hG hH hn hcl hw => ?_
        have q15 := (hF.same 15 (by decide)).trans e15
        exact ⟨.pointer (some ⟨g15, 5, none⟩), W, by clear hF hG hH hn hcl hw; generalize a.eval = ρ at *; go_simp, Below.refl _ _, rfl⟩
      · refine StepG.on rfl (fun d a W hI hw => yielded_of rfl (hI.2.2.at_ (i := 25) rfl (hw 25 rfl) id)) ?_
        refine stepB rfl rfl (by decide) (by rw [hz]; decide) rfl rfl (by kernel_rfl) St SG fun d a W hF hG hH hn hcl hw => ?_
        have q129 : a.eval (.tmp 129) = .pointer (some ⟨g15, 5, none⟩) := hH.at_ (i := 26) rfl (hw 26 rfl) id
        have cc0 := cell_kept hG C155.out
        exact ⟨.int .i64 (n : Int), W, by clear hF hG hH hn hcl hw; generalize a.eval = ρ at *; go_simp, Below.refl _ _, rfl⟩
      · refine StepG.on rfl (fun d a W hI hw => yielded_of rfl (hI.2.2.at_ (i := 25) rfl (hw 25 rfl) id)) ?_
        refine stepB rfl rfl (by decide) (by rw [hz]; decide) rfl rfl (by kernel_rfl) St SG fun d a W hF hG hH hn hcl hw => ?_
        have q19 := (hF.same 19 (by decide)).trans e19
        exact ⟨.pointer (some ⟨g19, 3, none⟩), W, by clear hF hG hH hn hcl hw; generalize a.eval = ρ at *; go_simp, Below.refl _ _, rfl⟩
      · refine StepG.on rfl (fun d a W hI hw => yielded_of rfl (hI.2.2.at_ (i := 25) rfl (hw 25 rfl) id)) ?_
        refine stepB rfl rfl (by decide) (by rw [hz]; decide) rfl rfl (by kernel_rfl) St SG fun d a W hF hG hH hn hcl hw => ?_
        have q131 : a.eval (.tmp 131) = .pointer (some ⟨g19, 3, none⟩) := hH.at_ (i := 28) rfl (hw 28 rfl) id
        have cc0 := cell_kept hG C193.out
        exact ⟨.int .i64 (n : Int), W, by clear hF hG hH hn hcl hw; generalize a.eval = ρ at *; go_simp, Below.refl _ _, rfl⟩
      · refine StepG.on rfl (fun d a W hI hw => yielded_of rfl (hI.2.2.at_ (i := 25) rfl (hw 25 rfl) id)) ?_
        refine stepB rfl rfl (by decide) (by rw [hz]; decide) rfl rfl (by kernel_rfl) St SG fun d a W hF hG hH hn hcl hw => ?_
        have q130 : a.eval (.tmp 130) = .int .i64 (n : Int) := hH.at_ (i := 27) rfl (hw 27 rfl) id
        have q132 : a.eval (.tmp 132) = .int .i64 (n : Int) := hH.at_ (i := 29) rfl (hw 29 rfl) id
        exact ⟨.bool false, W, by clear hF hG hH hn hcl hw; generalize a.eval = ρ at *; go_simp, Below.refl _ _, rfl⟩
      · refine StepG.of ?_
        refine stepB rfl rfl (by decide) (by rw [hz]; decide) rfl rfl (by kernel_rfl) St SG fun d a W hF hG hH hn hcl hw => ?_
        have q128 : a.eval (.tmp 128) = .bool false := hH.at_ (i := 25) rfl (hw 25 rfl) id
        have q133 : a.eval (.tmp 133) = .bool false := hH.at_ (i := 30) rfl (hw 30 rfl) id
        have qk0 : a.eval (.const (.bool true)) = .bool true := rfl
        exact ⟨.bool false, W, by clear hF hG hH hn hcl hw; generalize a.eval = ρ at *; go_simp, Below.refl _ _, rfl⟩
      · refine StepG.of ?_
        refine stepB rfl rfl (by decide) (by rw [hz]; decide) rfl rfl (by kernel_rfl) St SG fun d a W hF hG hH hn hcl hw => ?_
        have q134 : a.eval (.tmp 134) = .bool false := hH.at_ (i := 31) rfl (hw 31 rfl) id
        exact ⟨.bool false, W, by clear hF hG hH hn hcl hw; generalize a.eval = ρ at *; go_simp, Below.refl _ _, rfl⟩
      · refine StepG.on rfl (fun d a W hI hw => yielded_of rfl (hI.2.2.at_ (i := 32) rfl (hw 32 rfl) id)) ?_
        refine stepB rfl rfl (by decide) (by rw [hz]; decide) rfl rfl (by kernel_rfl) St SG fun d a W hF hG hH hn hcl hw => ?_
        have q15 := (hF.same 15 (by decide)).trans e15
        exact ⟨.pointer (some ⟨g15, 6, none⟩), W, by clear hF hG hH hn hcl hw; generalize a.eval = ρ at *; go_simp, Below.refl _ _, rfl⟩
      · refine StepG.on rfl (fun d a W hI hw => yielded_of rfl (hI.2.2.at_ (i := 32) rfl (hw 32 rfl) id)) ?_
        refine stepB rfl rfl (by decide) (by rw [hz]; decide) rfl rfl (by kernel_rfl) St SG fun d a W hF hG hH hn hcl hw => ?_
        have q136 : a.eval (.tmp 136) = .pointer (some ⟨g15, 6, none⟩) := hH.at_ (i := 33) rfl (hw 33 rfl) id
        have cc0 := cell_kept hG C156.out
        exact ⟨.slice PA' pn' pc', W, by clear hF hG hH hn hcl hw; generalize a.eval = ρ at *; go_simp, Below.refl _ _, rfl⟩
      · refine StepG.on rfl (fun d a W hI hw => yielded_of rfl (hI.2.2.at_ (i := 32) rfl (hw 32 rfl) id)) ?_
        refine stepB rfl rfl (by decide) (by rw [hz]; decide) rfl rfl (by kernel_rfl) St SG fun d a W hF hG hH hn hcl hw => ?_
        have q19 := (hF.same 19 (by decide)).trans e19
        exact ⟨.pointer (some ⟨g19, 4, none⟩), W, by clear hF hG hH hn hcl hw; generalize a.eval = ρ at *; go_simp, Below.refl _ _, rfl⟩
      · refine StepG.on rfl (fun d a W hI hw => yielded_of rfl (hI.2.2.at_ (i := 32) rfl (hw 32 rfl) id)) ?_
        refine stepB rfl rfl (by decide) (by rw [hz]; decide) rfl rfl (by kernel_rfl) St SG fun d a W hF hG hH hn hcl hw => ?_
        have q138 : a.eval (.tmp 138) = .pointer (some ⟨g19, 4, none⟩) := hH.at_ (i := 35) rfl (hw 35 rfl) id
        have cc0 := cell_kept hG C194.out
        exact ⟨.slice PZ pz qz, W, by clear hF hG hH hn hcl hw; generalize a.eval = ρ at *; go_simp, Below.refl _ _, rfl⟩
      · refine StepG.on rfl (fun d a W hI hw => yielded_of rfl (hI.2.2.at_ (i := 32) rfl (hw 32 rfl) id)) ?_
        refine stepC rfl rfl (by decide) (by rw [hz]; decide) rfl rfl (by kernel_rfl) St SG fun d a W hF hG hH hn hcl hw => ?_
        have q137 : a.eval (.tmp 137) = .slice PA' pn' pc' := hH.at_ (i := 34) rfl (hw 34 rfl) id
        have q139 : a.eval (.tmp 139) = .slice PZ pz qz := hH.at_ (i := 36) rfl (hw 36 rfl) id
        have qf : a.eval (.func 34) = .func (.func 34) #[] #[] := rfl
        have hpp := HPP.out
        rw [← hpp] at q139
        refine ⟨34, #[.slice PA' pn' pc', .slice PZ pn' qz], ?_, ?_⟩
        · clear hF hG hH hn hcl hw
          generalize a.eval = ρ at *
          go_simp
        · refine (same_yes V1 PA' PZ pn' pc' qz W HAP.out (by have := HV1.out; have := HAP.out; omega) (hsa.next hG) (hsz.next hG)).mono ?_; rintro e W' ⟨rfl, b⟩; exact ⟨_, rfl, b, rfl⟩
      · refine StepG.on rfl (fun d a W hI hw => yielded_of rfl (hI.2.2.at_ (i := 32) rfl (hw 32 rfl) id)) ?_
        refine stepB rfl rfl (by decide) (by rw [hz]; decide) rfl rfl (by kernel_rfl) St SG fun d a W hF hG hH hn hcl hw => ?_
        have q140 : a.eval (.tmp 140) = .bool true := hH.at_ (i := 37) rfl (hw 37 rfl) id
        exact ⟨.bool false, W, by clear hF hG hH hn hcl hw; generalize a.eval = ρ at *; go_simp, Below.refl _ _, rfl⟩
      · refine StepG.of ?_
        refine stepB rfl rfl (by decide) (by rw [hz]; decide) rfl rfl (by kernel_rfl) St SG fun d a W hF hG hH hn hcl hw => ?_
        have q135 : a.eval (.tmp 135) = .bool false := hH.at_ (i := 32) rfl (hw 32 rfl) id
        have q141 : a.eval (.tmp 141) = .bool false := hH.at_ (i := 38) rfl (hw 38 rfl) id
        have qk0 : a.eval (.const (.bool true)) = .bool true := rfl
        exact ⟨.bool false, W, by clear hF hG hH hn hcl hw; generalize a.eval = ρ at *; go_simp, Below.refl _ _, rfl⟩
    · intro d a W ⟨hF, hB, hH⟩ hall
      have k142 : a.eval (.tmp 142) = .bool false := hH.at_ (i := 39) rfl (hall 39 (by decide)) id
      clear hH hall
      rw [hF.shape (by rw [hz]; decide)]
      clear hF
      simp only [List.foldl]
      generalize a.eval (.tmp 103) = z103, a.eval (.tmp 104) = z104, a.eval (.tmp 105) = z105, a.eval (.tmp 106) = z106, a.eval (.tmp 107) = z107, a.eval (.tmp 108) = z108, a.eval (.tmp 109) = z109, a.eval (.tmp 110) = z110, a.eval (.tmp 111) = z111, a.eval (.tmp 112) = z112, a.eval (.tmp 113) = z113, a.eval (.tmp 114) = z114, a.eval (.tmp 115) = z115, a.eval (.tmp 116) = z116, a.eval (.tmp 117) = z117, a.eval (.tmp 118) = z118, a.eval (.tmp 119) = z119, a.eval (.tmp 120) = z120, a.eval (.tmp 121) = z121, a.eval (.tmp 122) = z122, a.eval (.tmp 123) = z123, a.eval (.tmp 124) = z124, a.eval (.tmp 125) = z125, a.eval (.tmp 126) = z126, a.eval (.tmp 127) = z127, a.eval (.tmp 128) = z128, a.eval (.tmp 129) = z129, a.eval (.tmp 130) = z130, a.eval (.tmp 131) = z131, a.eval (.tmp 132) = z132, a.eval (.tmp 133) = z133, a.eval (.tmp 134) = z134, a.eval (.tmp 135) = z135, a.eval (.tmp 136) = z136, a.eval (.tmp 137) = z137, a.eval (.tmp 138) = z138, a.eval (.tmp 139) = z139, a.eval (.tmp 140) = z140, a.eval (.tmp 141) = z141, a.eval (.tmp 142) = z142 at *
      subst k142
      rw [HA0.out]
      simp only [Act.put, List.setIfInBounds_toArray, List.set_cons_zero, List.set_cons_succ]
      clear hz HA0 St SG e15 e16 e19
      clear a a0
      have hk14 := hk13.next hB
      have hR14 := hR13.below hB
      have a10 := e10.next hB
      have a12 : BoxW W g12 := BoxA.next e12 hB
      have a17 := e17.next hB
      have BB14 := Below.on BB13 hB
      clear hk13 hR13 e10 e12 e15 e17 BB13 hB hsz hsa C150 C151 C152 C153 C154 C155 C156 C190 C191 C192 C193 C194 R0 R1 R2
      generalize W = w14 at *
      have c80 := a10.c0
      have d0 := a17.c0
      have d2 := a17.c2
      have d3 := a17.c3
      have d4 := a17.c4
      rcases hy' with ⟨hy1, hy2⟩ | ⟨hy1, hy2, hy3⟩ | ⟨hy1, hy2, hy3, hy4⟩
      all_goals
        go_wp2_with (go_at_call 17; refine (HA.out _ hk14).mono ?_; rintro e w20 ⟨rfl, b20⟩)
        go_ret
        exact ⟨rfl, Below.on BB14 b20⟩
set_option maxRecDepth 100000 in
set_option maxHeartbeats 4000000 in
theorem maps_out_in (ts : List UInt8) (A : Option Addr) (at_ : Int) (lo hi : Int) (n c : Nat) (w : World) (hn : ts.length = n) (h1 : 1 ≤ n) (h60 : n ≤ 60) (hT : Tags w A ts) (hk : Kon w) (hx : at_ < 0 ∨ (n : Int) ≤ at_) (ha : -9223372036854775808 ≤ at_ ∧ at_ ≤ 9223372036854775807) (l0 : 0 ≤ lo) (l1 : lo < hi) (l2 : hi ≤ n) : Calls Tryd.prog 10 #[.slice A n c, .int .i64 at_, .int .i64 lo, .int .i64 hi] w fun e w' => e = .returned (.bool true) ∧ Below w.heap.size w w' := by
  have hroot : (rootO ts).length = 32 := rootO_length ts
  have hmd := fun W (h : Tags W A ts) => made_yes ts A n c W hn h1 h60 h
  unfold MadePost at hmd
  rw [hn] at hmd
  have hmr := fun W p (h : Rep W p (ofL ts)) (kon : Kon W) => mapRoot_any W p (ofL ts) h kon
  rw [mapRoot_of (by omega) (by omega)] at hmr
  have hrm := fun W A m c (hm : (ofR ts).length = m) (h : Runs W A (ofR ts)) => root_of (ts := ts) (by omega) (by omega) W A m c hm h
  rw [hn] at hrm
  have hmle := (ofR_spec ts).2.2.2.2.1
  have hm1 : 1 ≤ (ofR ts).length := by
    have := (ofL_good (ts := ts) (by omega) (by omega)).1
    have e : (ofL ts).length = (ofR ts).length := segs_length _
    cases hh : ofL ts with
    | nil => exact absurd hh this
    | cons x l => rw [hh] at e; simp at e; omega
  have hst := fun W p (h : Rep W p (ofL ts)) => state_no (ts := ts) (by omega) (by omega) (by rw [hn]; exact hx) ha W p h
  have hrg := fun W p (h : Rep W p (ofL ts)) (kon : Kon W) => range_of (ts := ts) (lo := lo) (hi := hi) (by omega) (by omega) l0 l1 (by omega) W p h kon
  rw [hn] at hrg
  have hr2 := fun W ad m c (hm : (ofR ts).length = m) (hc : m ≤ c) (h : Runs W (some ad) (ofR ts)) => rrange_of (ts := ts) (lo := lo) (hi := hi) (by omega) (by omega) l0 l1 (by omega) W ad m c hm hc h
  rw [hn] at hr2
  have ho2 := outO_length (ts := ts) (by omega) lo hi
  have hd2 := (cutO_length (ts := ts) (lo := lo) (hi := hi) (by omega) (by omega) l0 l1 (by omega)).2.2.1
  generalize outO ts lo hi = V2 at *
  generalize cutO ts lo hi = D at *
  generalize ((fromM lo (ofR ts) : Nat) : Int) = f2 at *
  generalize rootO ts = root at *
  generalize ofL ts = L at *
  obtain ⟨m, hm⟩ : ∃ m, (ofR ts).length = m := ⟨_, rfl⟩
  rw [hm] at hmd hmle hm1 hrg
  generalize ofR ts = R at *
  have HMD := Lib.hid hmd
  have HMR := Lib.hid hmr
  have HRM := Lib.hid hrm
  have HST := Lib.hid hst
  have HRG := Lib.hid hrg
  have HA := Lib.hid (fun W kon => awake_any W kon)
  have HROOT := Lib.hid hroot
  have HRL := Lib.hid hm
  have HR2 := Lib.hid hr2
  have HV2 := Lib.hid ho2
  have HD2 := Lib.hid hd2
  have j1 : ((n : Int) == 0) = false := by simp; omega
  have j2 : ¬ (60 : Int) < n := by omega
  have hqe := fun W => eq_hash hroot hroot true (beq_self_eq_true _) W
  have HQE := Lib.hid hqe
  have hmx : 1 ≤ m ∧ m ≤ 60 := by omega
  clear hmd hmr hrm hst hrg hroot hn hm hmle hm1 h1 h60 hqe ha hr2 ho2 hd2
  have hx' : at_ < 0 ∨ (¬ at_ < 0 ∧ (n : Int) ≤ at_) := by omega
  clear hx
  go_enter Tryd.func10, Tryd.ntmps10
  go_upto_region 2 with (go_at_call 38; refine (HMD.out _ hT).mono ?_; rintro e w1 ⟨p, A1, c1, rfl, hp1, hO1, b1⟩)
  obtain ⟨w2, hW2⟩ : ∃ w2, (w1.alloc (.cells #[.pointer p] 47)).alloc (.cells #[.int .i64 (n : Int), .slice A1 m c1] 69) = w2 := ⟨_, rfl⟩
  have b2 : Below w1.heap.size w1 w2 := hW2 ▸ Below.on (Below.new1 _ _) (Below.new1 _ _)
  have x7 : Boxed w2 w1.heap.size 47 (.pointer p) := hW2 ▸ (Boxed.new w1 _ _).alloc _
  have x8 : BoxM w2 (w1.heap.size + 1) n (.slice A1 m c1) := by
    have := BoxM.new (w1.alloc (.cells #[.pointer p] 47)) n (.slice A1 m c1)
    rw [World.size_alloc] at this; exact hW2 ▸ this
  have hp2 := hp1.below b2
  have hRc : Runs w2 A1 R ∧ R.length ≤ c1 := by
    obtain ⟨A', c', e, hc', h⟩ := (hO1.next b2).runs
    cases e; exact ⟨h, hc'⟩
  obtain ⟨hR2, hc1⟩ := hRc
  change Code.wp _ _ _ _ ((w1.alloc (.cells #[.pointer p] 47)).alloc (.cells #[.int .i64 (n : Int), .slice A1 m c1] 69))
  rw [hW2]
  have B2 := Below.on b1 b2
  have hk2 := hk.next B2
  have c7 := x7.cell
  have hAd : ∃ a, A1 = some a := by
    rcases hR2 with h | ⟨a, h, _⟩
    · have := HRL.out; rw [h] at this; simp at this; omega
    · exact ⟨a, h⟩
  obtain ⟨ad, rfl⟩ := hAd
  have x8' := x8
  generalize hg10 : w1.heap.size + 1 = g10 at *
  generalize w1.heap.size = g9 at *
  clear hW2 hT x7 hp1 hO1 b1 b2 hk hg10 x8'
  have mc1 : m ≤ c1 := by have := HRL.out; omega
  clear hc1
  go_upto_region 5 with (first
    | (go_at_call 18; refine (constants_any _).mono ?_; rintro e w3 ⟨rfl, b3⟩)
    | (refine wpList_newW rfl (.tmp 12) (.tmp 43) rfl rfl rfl ?_))
  have yC := withW_box w3
  have bw := withW_below w3
  obtain ⟨w4, hW⟩ : ∃ w4, withW w3 = w4 := ⟨_, rfl⟩
  change Code.wp _ _ _ _ (withW w3)
  rw [hW] at yC bw ⊢
  have b4 := Below.on b3 bw
  have hk4 := hk2.next b4
  have hp4 := hp2.below b4
  have hR4 := hR2.below b4
  have z10 := x8.next b4
  have BB4 := Below.on B2 b4
  have y12 : BoxW w4 w3.heap.size := yC
  replace c7 := cell_kept b4 c7
  generalize w3.heap.size = g12 at *
  clear yC bw hW b3 b4 hk2 hp2 hR2 x8 B2
  go_upto_region 6 with (first
    | (go_at_call 25; refine (HMR.out _ p hp4 hk4).mono ?_; rintro e w5 ⟨rfl, b5⟩)
    | ((with_reducible refine wpList_storeH ?_ (.tmp 13) (.tmp 47) ?_ w5.heap.size root ?_ ?_ (BoxA.new w5 30 .u8 (List.replicate 32 0) _ rfl) (by simp) HROOT.out ?_); rfl; rfl; rfl; rfl))
  obtain ⟨w6, hW6⟩ : ∃ w6, World.setRow (World.alloc w5 (.cells (ints .u8 (List.replicate 32 0)) 30)) w5.heap.size (ints .u8 (nums root)) = w6 := ⟨_, rfl⟩
  have y13 : BoxH w6 w5.heap.size root := hW6 ▸ (BoxA.new w5 30 .u8 (List.replicate 32 0) _ rfl).setRow (l' := nums root)
  have b6 : Below w5.heap.size w5 w6 := hW6 ▸ below_setRow (Below.new1 w5 _) (Nat.le_refl _) _
  change Code.wp _ _ _ _ (World.setRow (World.alloc w5 (.cells (ints .u8 (List.replicate 32 0)) 30)) w5.heap.size (ints .u8 (nums root)))
  rw [hW6]
  have B6 := Below.on b5 b6
  have hk6 := hk4.next B6
  have hp6 := hp4.below B6
  have hR6 := hR4.below B6
  have v10 := z10.next B6
  have v12 : BoxW w6 g12 := BoxA.next y12 B6
  have BB6 := Below.on BB4 B6
  replace c7 := cell_kept B6 c7
  generalize w5.heap.size = g13 at *
  clear hW6 b5 b6 B6 hk4 hp4 hR4 z10 y12 BB4 HMR HMD
  go_upto_region 7 with (go_at_call 26; refine (HST.out _ p hp6).mono ?_; rintro e w7 ⟨rfl, b7⟩)
  obtain ⟨w8, hW8⟩ : ∃ w8, World.alloc w7 (.cells (cellsS ⟨0, 0, 0⟩ 0 0 0 none 0 0) 37) = w8 := ⟨_, rfl⟩
  have y15 : BoxS w8 w7.heap.size ⟨0, 0, 0⟩ 0 0 0 none 0 0 := hW8 ▸ BoxS.new w7 ⟨0, 0, 0⟩ 0 0 0 none 0 0
  have b8 : Below w7.heap.size w7 w8 := hW8 ▸ Below.new1 _ _
  change Code.wp _ _ _ _ (World.alloc w7 (.cells (cellsS ⟨0, 0, 0⟩ 0 0 0 none 0 0) 37))
  rw [hW8]
  have B8 := Below.on b7 b8
  have hk8 := hk6.next B8
  have hp8 := hp6.below B8
  have hR8 := hR6.below B8
  have u10 := v10.next B8
  have u12 : BoxW w8 g12 := BoxA.next v12 B8
  have u13 : BoxH w8 g13 root := BoxA.next y13 B8
  have BB8 := Below.on BB6 B8
  replace c7 := cell_kept B8 c7
  generalize w7.heap.size = g15 at *
  clear hW8 b7 b8 B8 hk6 hp6 hR6 v10 v12 y13 BB6 HST
  go_upto_region 8 with (go_at_call 27; refine (HRG.out _ p hp8 hk8).mono ?_; rintro e w9 ⟨A'', m'', c'', PB, pb, qb, rfl, hOr, hOq, b9⟩)
  obtain ⟨w10, hW10⟩ : ∃ w10, World.alloc w9 (.cells #[.slice A'' m'' c'', .int .i64 f2, .int .i64 m, .int .i64 n, .slice PB pb qb] 43) = w10 := ⟨_, rfl⟩
  have y17 : BoxC w10 w9.heap.size A'' m'' c'' f2 m n PB pb qb := hW10 ▸ BoxC.new w9 A'' m'' c'' f2 m n PB pb qb
  have b10 : Below w9.heap.size w9 w10 := hW10 ▸ Below.new1 _ _
  change Code.wp _ _ _ _ (World.alloc w9 (.cells #[.slice A'' m'' c'', .int .i64 f2, .int .i64 m, .int .i64 n, .slice PB pb qb] 43))
  rw [hW10]
  have B10 := Below.on b9 b10
  have hkA := hk8.next B10
  have hRA := hR8.below B10
  have z10 := u10.next B10
  have z12 : BoxW w10 g12 := BoxA.next u12 B10
  have z13 : BoxH w10 g13 root := BoxA.next u13 B10
  have z15 := y15.next B10
  have BBA := Below.on BB8 B10
  have hOrA := hOr.next b10
  have hOqA := hOq.next b10
  generalize w9.heap.size = g17 at *
  clear hW10 b9 b10 B10 hk8 hp8 hR8 u10 u12 u13 y15 BB8 HRG c7 hOr hOq
  refine wp_name fun a0 ha0 => ?_
  have e10 : a0.eval (.tmp 10) = .pointer (some ⟨g10, 0, none⟩) := by rw [ha0]; rfl
  have e12 : a0.eval (.tmp 12) = .pointer (some ⟨g12, 0, none⟩) := by rw [ha0]; rfl
  have e13 : a0.eval (.tmp 13) = .pointer (some ⟨g13, 0, none⟩) := by rw [ha0]; rfl
  have e14 : a0.eval (.tmp 14) = .int .i64 0 := by rw [ha0]; rfl
  have hz : a0.tmps.size = 229 := by rw [ha0]; rfl
  have HA0 := Lib.hid ha0
  clear ha0
  have SG : ∀ (d d' : Nat → Prop) (W W' : World), (fun (_ : Nat → Prop) (W : World) => Below w10.heap.size w10 W) d W → (∀ j, d j → d' j) → Below W.heap.size W W' → (fun (_ : Nat → Prop) (W : World) => Below w10.heap.size w10 W) d' W' := fun _ _ _ _ h _ b => Below.next h b
  have St : ∀ xc ∈ [(⟨some 0, 62, none, fun v _ => v = hashV root⟩ : Cl), ⟨some 1, 63, none, fun v _ => v = wordsV⟩, ⟨some 2, 64, none, fun v _ => v = .agg #[.int .i64 (n : Int), .slice (some ad) m c1]⟩, ⟨some 3, 65, none, fun v _ => v = hashV root⟩, ⟨some 4, 66, none, fun v _ => v = .bool false⟩, ⟨some 5, 67, none, fun v _ => v = .bool false⟩, ⟨some 6, 68, none, fun v _ => v = .int .i64 0⟩, ⟨some 7, 69, none, fun v _ => v = .bool false⟩, ⟨some 8, 70, none, fun v _ => v = .bool false⟩], Lasts xc := AllC.mem ⟨lastsV0 _ _ _ _, lastsV0 _ _ _ _, lastsV0 _ _ _ _, lastsV0 _ _ _ _, lastsV0 _ _ _ _, lastsV0 _ _ _ _, lastsV0 _ _ _ _, lastsV0 _ _ _ _, lastsV0 _ _ _ _, trivial⟩
  refine wp_region_guards (Inv [62, 63, 64, 65, 66, 67, 68, 69, 70] a0 (fun (_ : Nat → Prop) (W : World) => Below w10.heap.size w10 W) (lst St)) (by kernel_rfl) (by kernel_rfl) (Inv.start (Below.refl _ _).drew ⟨nofun, nofun, nofun, nofun, nofun, nofun, nofun, nofun, nofun, trivial⟩) ?_ ?_
  · clear HA0
    refine ⟨?_, ?_, ?_, ?_, ?_, ?_, ?_, ?_, ?_, trivial⟩
    · refine StepG.of ?_
      refine stepB rfl rfl (by decide) (by rw [hz]; decide) rfl rfl (by kernel_rfl) St SG fun d a W hF hG hH hn hcl hw => ?_
      have q13 := (hF.same 13 (by decide)).trans e13
      refine ⟨hashV root, W, ?_, Below.refl _ _, ?_⟩
      · exact exec_load rfl (by rw [q13]; exact BoxH.load_ (BoxA.next z13 hG) HROOT.out)
      · rfl
    · refine StepG.of ?_
      refine stepB rfl rfl (by decide) (by rw [hz]; decide) rfl rfl (by kernel_rfl) St SG fun d a W hF hG hH hn hcl hw => ?_
      have q12 := (hF.same 12 (by decide)).trans e12
      refine ⟨wordsV, W, ?_, Below.refl _ _, ?_⟩
      · exact exec_load rfl (by rw [q12]; exact BoxW.load (BoxA.next z12 hG))
      · rfl
    · refine StepG.of ?_
      refine stepB rfl rfl (by decide) (by rw [hz]; decide) rfl rfl (by kernel_rfl) St SG fun d a W hF hG hH hn hcl hw => ?_
      have q10 := (hF.same 10 (by decide)).trans e10
      refine ⟨.agg #[.int .i64 (n : Int), .slice (some ad) m c1], W, ?_, Below.refl _ _, ?_⟩
      · exact exec_load rfl (by rw [q10]; exact BoxM.load_ (z10.next hG))
      · rfl
    · refine StepG.of ?_
      refine stepC rfl rfl (by decide) (by rw [hz]; decide) rfl rfl (by kernel_rfl) St SG fun d a W hF hG hH hn hcl hw => ?_
      have q63 : a.eval (.tmp 63) = wordsV := hH.at_ (i := 1) rfl (hw 1 rfl) id
      have q64 : a.eval (.tmp 64) = .agg #[.int .i64 (n : Int), .slice (some ad) m c1] := hH.at_ (i := 2) rfl (hw 2 rfl) id
      have qf : a.eval (.func 39) = .func (.func 39) #[] #[] := rfl
      refine ⟨39, #[wordsV, .agg #[.int .i64 (n : Int), .slice (some ad) m c1]], ?_, ?_⟩
      · clear hF hG hH hn hcl hw
        generalize a.eval = ρ at *
        go_simp
      · refine (HRM.out W (some ad) m c1 HRL.out (hRA.below hG)).mono ?_; rintro e W' ⟨rfl, b⟩; exact ⟨_, rfl, b, rfl⟩
    · refine StepG.of ?_
      refine stepB rfl rfl (by decide) (by rw [hz]; decide) rfl rfl (by kernel_rfl) St SG fun d a W hF hG hH hn hcl hw => ?_
      have q62 : a.eval (.tmp 62) = hashV root := hH.at_ (i := 0) rfl (hw 0 rfl) id
      have q65 : a.eval (.tmp 65) = hashV root := hH.at_ (i := 3) rfl (hw 3 rfl) id
      have qe_ := HQE.out W
      exact ⟨.bool false, W, by clear hF hG hH hn hcl hw; generalize a.eval = ρ at *; go_simp, Below.refl _ _, rfl⟩
    · refine StepG.of ?_
      refine stepB rfl rfl (by decide) (by rw [hz]; decide) rfl rfl (by kernel_rfl) St SG fun d a W hF hG hH hn hcl hw => ?_
      have q66 : a.eval (.tmp 66) = .bool false := hH.at_ (i := 4) rfl (hw 4 rfl) id
      exact ⟨.bool false, W, by clear hF hG hH hn hcl hw; generalize a.eval = ρ at *; go_simp, Below.refl _ _, rfl⟩
    · refine StepG.on rfl (fun d a W hI hw => yielded_of rfl (hI.2.2.at_ (i := 5) rfl (hw 5 rfl) id)) ?_
      refine stepB rfl rfl (by decide) (by rw [hz]; decide) rfl rfl (by kernel_rfl) St SG fun d a W hF hG hH hn hcl hw => ?_
      have q14 := (hF.same 14 (by decide)).trans e14
      exact ⟨.int .i64 0, W, by clear hF hG hH hn hcl hw; generalize a.eval = ρ at *; go_simp, Below.refl _ _, rfl⟩
    · refine StepG.on rfl (fun d a W hI hw => yielded_of rfl (hI.2.2.at_ (i := 5) rfl (hw 5 rfl) id)) ?_
      refine stepB rfl rfl (by decide) (by rw [hz]; decide) rfl rfl (by kernel_rfl) St SG fun d a W hF hG hH hn hcl hw => ?_
      have q68 : a.eval (.tmp 68) = .int .i64 0 := hH.at_ (i := 6) rfl (hw 6 rfl) id
      have qc0 : a.eval (.const (.int .i64 0)) = .int .i64 0 := rfl
      exact ⟨.bool false, W, by clear hF hG hH hn hcl hw; generalize a.eval = ρ at *; go_simp, Below.refl _ _, rfl⟩
    · refine StepG.of ?_
      refine stepB rfl rfl (by decide) (by rw [hz]; decide) rfl rfl (by kernel_rfl) St SG fun d a W hF hG hH hn hcl hw => ?_
      have q67 : a.eval (.tmp 67) = .bool false := hH.at_ (i := 5) rfl (hw 5 rfl) id
      have q69 : a.eval (.tmp 69) = .bool false := hH.at_ (i := 7) rfl (hw 7 rfl) id
      have qk0 : a.eval (.const (.bool true)) = .bool true := rfl
      exact ⟨.bool false, W, by clear hF hG hH hn hcl hw; generalize a.eval = ρ at *; go_simp, Below.refl _ _, rfl⟩
  · intro d a W ⟨hF, hB, hH⟩ hall
    have k70 : a.eval (.tmp 70) = .bool false := hH.at_ (i := 8) rfl (hall 8 (by decide)) id
    clear hH hall
    rw [hF.shape (by rw [hz]; decide)]
    clear hF
    simp only [List.foldl]
    generalize a.eval (.tmp 62) = z62, a.eval (.tmp 63) = z63, a.eval (.tmp 64) = z64, a.eval (.tmp 65) = z65, a.eval (.tmp 66) = z66, a.eval (.tmp 67) = z67, a.eval (.tmp 68) = z68, a.eval (.tmp 69) = z69, a.eval (.tmp 70) = z70 at *
    subst k70
    rw [HA0.out]
    simp only [Act.put, List.setIfInBounds_toArray, List.set_cons_zero, List.set_cons_succ]
    clear hz HA0 St SG e10 e12 e13 e14
    clear a a0
    have hk11 := hkA.next hB
    have hR11 := hRA.below hB
    have a10 := z10.next hB
    have a12 : BoxW W g12 := BoxA.next z12 hB
    have a15 := z15.next hB
    have a17 := y17.next hB
    have BB11 := Below.on BBA hB
    have hOr11 := hOrA.next hB
    have hOq11 := hOqA.next hB
    clear hkA hRA z10 z12 z13 z15 y17 BBA hB hOrA hOqA
    generalize W = w11 at *
    have c80 := a10.c0
    have d4 := a15.c4
    have d5 := a15.c5
    have d6 := a15.c6
    rcases hx' with hx' | ⟨hx', hx2⟩
    all_goals
      go_upto_region 16 with (fail)
      clear d4 d5 d6 a15
      go_upto_region 18 with (fail)
      go_upto_region 19 with (first
        | ((with_reducible refine wpList_load_if (o := ⟨some 184, _, _, _, _, _⟩) ?_ 27 (.tmp 12) ?_ (wordsV) ?_ ?_); rfl; rfl; exact BoxW.load a12)
        | ((with_reducible refine wpList_load_if (o := ⟨some 185, _, _, _, _, _⟩) ?_ 69 (.tmp 10) ?_ (.agg #[.int .i64 (n : Int), .slice (some ad) m c1]) ?_ ?_); rfl; rfl; exact BoxM.load_ a10)
        | (go_at_call 40; refine (HR2.out _ ad m c1 HRL.out mc1 hR11).mono ?_; rintro e w16 ⟨Ay, ky, cy, PY, py, qy, rfl, hOv, hOu, b16⟩))
      obtain ⟨w17, hW17⟩ : ∃ w17, World.alloc w16 (.cells #[.slice Ay ky cy, .int .i64 f2, .int .i64 m, .int .i64 n, .slice PY py qy] 43) = w17 := ⟨_, rfl⟩
      have y20 : BoxC w17 w16.heap.size Ay ky cy f2 m n PY py qy := hW17 ▸ BoxC.new w16 Ay ky cy f2 m n PY py qy
      have b17 : Below w16.heap.size w16 w17 := hW17 ▸ Below.new1 _ _
      change Code.wp _ _ _ _ (World.alloc w16 (.cells #[.slice Ay ky cy, .int .i64 f2, .int .i64 m, .int .i64 n, .slice PY py qy] 43))
      rw [hW17]
      have B17 := Below.on b16 b17
      have s17 := a17.next B17
      have hk17 := hk11.next B17
      have BB17 := Below.on BB11 B17
      obtain ⟨Ax, cx, ea, hca, hRa⟩ := (hOr11.next B17).runs
      simp only [Value.slice.injEq] at ea
      obtain ⟨ea1, ea2, ea3⟩ := ea
      rw [← ea1] at hRa
      rw [← ea3] at hca
      obtain ⟨Bx, dx, eb, hcb, hRb⟩ := (hOv.next b17).runs
      simp only [Value.slice.injEq] at eb
      obtain ⟨eb1, eb2, eb3⟩ := eb
      rw [← eb1] at hRb
      rw [← eb3] at hcb
      obtain ⟨Px, qx, ec, hcc, hsc⟩ := (hOq11.next B17).toHs
      simp only [Value.slice.injEq] at ec
      obtain ⟨ec1, ec2, ec3⟩ := ec
      rw [← ec1] at hsc
      obtain ⟨Qx, rx, ed, hcd, hsd⟩ := (hOu.next b17).toHs
      simp only [Value.slice.injEq] at ed
      obtain ⟨ed1, ed2, ed3⟩ := ed
      rw [← ed1] at hsd
      have hal := alike_same D A'' Ay c'' cy w17 hRa hRb hca hcb (by have := HD2.out; omega)
      have HAL := Lib.hid hal
      have hsm := fun W (h1 : Hs W PB V2) (h2 : Hs W PY V2) => same_yes V2 PB PY V2.length qb qy W rfl (by have := HV2.out; omega) h1 h2
      have HSM := Lib.hid hsm
      subst ea2 eb2 ec2 ed2
      have d0 := s17.c0
      have d1 := s17.c1
      have d2 := s17.c2
      have d3 := s17.c3
      have d4 := s17.c4
      have f0 := y20.c0
      have f1_ := y20.c1
      have f2_ := y20.c2
      have f3 := y20.c3
      have f4 := y20.c4
      generalize w16.heap.size = g20 at *
      clear hW17 b16 b17 B17 a17 a10 a12 hk11 hR11 BB11 hOv hOu hOr11 hOq11 ea1 ea3 eb1 eb3 ec1 ec3 ed1 ed3 hca hRa hcb hRb hcc hcd hal hsm HR2 HV2 HD2 s17 y20 c80
      generalize V2.length = lv at *
      generalize D.length = ld at *
      go_wp2_with (first
        | (go_at_call 41; refine HAL.out.mono ?_; rintro e w18 ⟨rfl, bq⟩; have b18 := bq.below w17.heap.size; replace d1 := cell_kept b18 d1; replace d2 := cell_kept b18 d2; replace d3 := cell_kept b18 d3; replace d4 := cell_kept b18 d4; replace f1_ := cell_kept b18 f1_; replace f2_ := cell_kept b18 f2_; replace f3 := cell_kept b18 f3; replace f4 := cell_kept b18 f4; have hk18 := hk17.next b18; have hsc8 := hsc.next b18; have hsd8 := hsd.next b18; clear HAL)
        | (go_at_call 34; refine (HSM.out _ hsc8 hsd8).mono ?_; rintro e w19 ⟨rfl, b19⟩; have hk19 := hk18.next b19)
        | (go_at_call 17; refine (HA.out _ hk19).mono ?_; rintro e w20 ⟨rfl, b20⟩))
      go_ret
      exact ⟨rfl, Below.on (Below.on (Below.on BB17 b18) b19) b20⟩
set_option maxRecDepth 100000 in
set_option maxHeartbeats 4000000 in
theorem maps_out_out (ts : List UInt8) (A : Option Addr) (at_ : Int) (lo hi : Int) (n c : Nat) (w : World) (hn : ts.length = n) (h1 : 1 ≤ n) (h60 : n ≤ 60) (hT : Tags w A ts) (hk : Kon w) (hx : at_ < 0 ∨ (n : Int) ≤ at_) (ha : -9223372036854775808 ≤ at_ ∧ at_ ≤ 9223372036854775807) (hy : lo < 0 ∨ hi ≤ lo ∨ (n : Int) < hi) : Calls Tryd.prog 10 #[.slice A n c, .int .i64 at_, .int .i64 lo, .int .i64 hi] w fun e w' => e = .returned (.bool true) ∧ Below w.heap.size w w' := by
  have hroot : (rootO ts).length = 32 := rootO_length ts
  have hmd := fun W (h : Tags W A ts) => made_yes ts A n c W hn h1 h60 h
  unfold MadePost at hmd
  rw [hn] at hmd
  have hmr := fun W p (h : Rep W p (ofL ts)) (kon : Kon W) => mapRoot_any W p (ofL ts) h kon
  rw [mapRoot_of (by omega) (by omega)] at hmr
  have hrm := fun W A m c (hm : (ofR ts).length = m) (h : Runs W A (ofR ts)) => root_of (ts := ts) (by omega) (by omega) W A m c hm h
  rw [hn] at hrm
  have hmle := (ofR_spec ts).2.2.2.2.1
  have hm1 : 1 ≤ (ofR ts).length := by
    have := (ofL_good (ts := ts) (by omega) (by omega)).1
    have e : (ofL ts).length = (ofR ts).length := segs_length _
    cases hh : ofL ts with
    | nil => exact absurd hh this
    | cons x l => rw [hh] at e; simp at e; omega
  have hst := fun W p (h : Rep W p (ofL ts)) => state_no (ts := ts) (by omega) (by omega) (by rw [hn]; exact hx) ha W p h
  have hrg := fun W p (h : Rep W p (ofL ts)) => range_no (ts := ts) (by omega) (by omega) (by rw [hn]; exact hy) W p h
  generalize rootO ts = root at *
  generalize ofL ts = L at *
  obtain ⟨m, hm⟩ : ∃ m, (ofR ts).length = m := ⟨_, rfl⟩
  rw [hm] at hmd hmle hm1
  generalize ofR ts = R at *
  have HMD := Lib.hid hmd
  have HMR := Lib.hid hmr
  have HRM := Lib.hid hrm
  have HST := Lib.hid hst
  have HRG := Lib.hid hrg
  have HA := Lib.hid (fun W kon => awake_any W kon)
  have HROOT := Lib.hid hroot
  have HRL := Lib.hid hm
  have hy' : (lo < 0 ∧ decide (0 ≤ lo) = false) ∨ (0 ≤ lo ∧ hi ≤ lo ∧ decide (lo < hi) = false) ∨ (0 ≤ lo ∧ lo < hi ∧ (n : Int) < hi ∧ decide (hi ≤ (n : Int)) = false) := by simp only [decide_eq_false_iff_not]; omega
  have j1 : ((n : Int) == 0) = false := by simp; omega
  have j2 : ¬ (60 : Int) < n := by omega
  have hqe := fun W => eq_hash hroot hroot true (beq_self_eq_true _) W
  have HQE := Lib.hid hqe
  have hmx : 1 ≤ m ∧ m ≤ 60 := by omega
  clear hmd hmr hrm hst hrg hroot hn hm hmle hm1 h1 h60 hqe ha hy
  have hx' : at_ < 0 ∨ (¬ at_ < 0 ∧ (n : Int) ≤ at_) := by omega
  clear hx
  go_enter Tryd.func10, Tryd.ntmps10
  go_upto_region 2 with (go_at_call 38; refine (HMD.out _ hT).mono ?_; rintro e w1 ⟨p, A1, c1, rfl, hp1, hO1, b1⟩)
  obtain ⟨w2, hW2⟩ : ∃ w2, (w1.alloc (.cells #[.pointer p] 47)).alloc (.cells #[.int .i64 (n : Int), .slice A1 m c1] 69) = w2 := ⟨_, rfl⟩
  have b2 : Below w1.heap.size w1 w2 := hW2 ▸ Below.on (Below.new1 _ _) (Below.new1 _ _)
  have x7 : Boxed w2 w1.heap.size 47 (.pointer p) := hW2 ▸ (Boxed.new w1 _ _).alloc _
  have x8 : BoxM w2 (w1.heap.size + 1) n (.slice A1 m c1) := by
    have := BoxM.new (w1.alloc (.cells #[.pointer p] 47)) n (.slice A1 m c1)
    rw [World.size_alloc] at this; exact hW2 ▸ this
  have hp2 := hp1.below b2
  have hRc : Runs w2 A1 R ∧ R.length ≤ c1 := by
    obtain ⟨A', c', e, hc', h⟩ := (hO1.next b2).runs
    cases e; exact ⟨h, hc'⟩
  obtain ⟨hR2, hc1⟩ := hRc
  change Code.wp _ _ _ _ ((w1.alloc (.cells #[.pointer p] 47)).alloc (.cells #[.int .i64 (n : Int), .slice A1 m c1] 69))
  rw [hW2]
  have B2 := Below.on b1 b2
  have hk2 := hk.next B2
  have c7 := x7.cell
  have hAd : ∃ a, A1 = some a := by
    rcases hR2 with h | ⟨a, h, _⟩
    · have := HRL.out; rw [h] at this; simp at this; omega
    · exact ⟨a, h⟩
  obtain ⟨ad, rfl⟩ := hAd
  have x8' := x8
  generalize hg10 : w1.heap.size + 1 = g10 at *
  generalize w1.heap.size = g9 at *
  clear hW2 hT x7 hp1 hO1 b1 b2 hk hg10 x8'
  have mc1 : m ≤ c1 := by have := HRL.out; omega
  clear hc1
  go_upto_region 5 with (first
    | (go_at_call 18; refine (constants_any _).mono ?_; rintro e w3 ⟨rfl, b3⟩)
    | (refine wpList_newW rfl (.tmp 12) (.tmp 43) rfl rfl rfl ?_))
  have yC := withW_box w3
  have bw := withW_below w3
  obtain ⟨w4, hW⟩ : ∃ w4, withW w3 = w4 := ⟨_, rfl⟩
  change Code.wp _ _ _ _ (withW w3)
  rw [hW] at yC bw ⊢
  have b4 := Below.on b3 bw
  have hk4 := hk2.next b4
  have hp4 := hp2.below b4
  have hR4 := hR2.below b4
  have z10 := x8.next b4
  have BB4 := Below.on B2 b4
  have y12 : BoxW w4 w3.heap.size := yC
  replace c7 := cell_kept b4 c7
  generalize w3.heap.size = g12 at *
  clear yC bw hW b3 b4 hk2 hp2 hR2 x8 B2
  go_upto_region 6 with (first
    | (go_at_call 25; refine (HMR.out _ p hp4 hk4).mono ?_; rintro e w5 ⟨rfl, b5⟩)
    | ((with_reducible refine wpList_storeH ?_ (.tmp 13) (.tmp 47) ?_ w5.heap.size root ?_ ?_ (BoxA.new w5 30 .u8 (List.replicate 32 0) _ rfl) (by simp) HROOT.out ?_); rfl; rfl; rfl; rfl))
  obtain ⟨w6, hW6⟩ : ∃ w6, World.setRow (World.alloc w5 (.cells (ints .u8 (List.replicate 32 0)) 30)) w5.heap.size (ints .u8 (nums root)) = w6 := ⟨_, rfl⟩
  have y13 : BoxH w6 w5.heap.size root := hW6 ▸ (BoxA.new w5 30 .u8 (List.replicate 32 0) _ rfl).setRow (l' := nums root)
  have b6 : Below w5.heap.size w5 w6 := hW6 ▸ below_setRow (Below.new1 w5 _) (Nat.le_refl _) _
  change Code.wp _ _ _ _ (World.setRow (World.alloc w5 (.cells (ints .u8 (List.replicate 32 0)) 30)) w5.heap.size (ints .u8 (nums root)))
  rw [hW6]
  have B6 := Below.on b5 b6
  have hk6 := hk4.next B6
  have hp6 := hp4.below B6
  have hR6 := hR4.below B6
  have v10 := z10.next B6
  have v12 : BoxW w6 g12 := BoxA.next y12 B6
  have BB6 := Below.on BB4 B6
  replace c7 := cell_kept B6 c7
  generalize w5.heap.size = g13 at *
  clear hW6 b5 b6 B6 hk4 hp4 hR4 z10 y12 BB4 HMR HMD
  go_upto_region 7 with (go_at_call 26; refine (HST.out _ p hp6).mono ?_; rintro e w7 ⟨rfl, b7⟩)
  obtain ⟨w8, hW8⟩ : ∃ w8, World.alloc w7 (.cells (cellsS ⟨0, 0, 0⟩ 0 0 0 none 0 0) 37) = w8 := ⟨_, rfl⟩
  have y15 : BoxS w8 w7.heap.size ⟨0, 0, 0⟩ 0 0 0 none 0 0 := hW8 ▸ BoxS.new w7 ⟨0, 0, 0⟩ 0 0 0 none 0 0
  have b8 : Below w7.heap.size w7 w8 := hW8 ▸ Below.new1 _ _
  change Code.wp _ _ _ _ (World.alloc w7 (.cells (cellsS ⟨0, 0, 0⟩ 0 0 0 none 0 0) 37))
  rw [hW8]
  have B8 := Below.on b7 b8
  have hk8 := hk6.next B8
  have hp8 := hp6.below B8
  have hR8 := hR6.below B8
  have u10 := v10.next B8
  have u12 : BoxW w8 g12 := BoxA.next v12 B8
  have u13 : BoxH w8 g13 root := BoxA.next y13 B8
  have BB8 := Below.on BB6 B8
  replace c7 := cell_kept B8 c7
  generalize w7.heap.size = g15 at *
  clear hW8 b7 b8 B8 hk6 hp6 hR6 v10 v12 y13 BB6 HST
  go_upto_region 8 with (go_at_call 27; refine (HRG.out _ p hp8).mono ?_; rintro e w9 ⟨rfl, b9⟩)
  obtain ⟨w10, hW10⟩ : ∃ w10, World.alloc w9 (.cells #[.slice none 0 0, .int .i64 0, .int .i64 0, .int .i64 0, .slice none 0 0] 43) = w10 := ⟨_, rfl⟩
  have y17 : BoxC w10 w9.heap.size none 0 0 0 0 0 none 0 0 := hW10 ▸ BoxC.new w9 none 0 0 0 0 0 none 0 0
  have b10 : Below w9.heap.size w9 w10 := hW10 ▸ Below.new1 _ _
  change Code.wp _ _ _ _ (World.alloc w9 (.cells #[.slice none 0 0, .int .i64 0, .int .i64 0, .int .i64 0, .slice none 0 0] 43))
  rw [hW10]
  have B10 := Below.on b9 b10
  have hkA := hk8.next B10
  have hRA := hR8.below B10
  have z10 := u10.next B10
  have z12 : BoxW w10 g12 := BoxA.next u12 B10
  have z13 : BoxH w10 g13 root := BoxA.next u13 B10
  have z15 := y15.next B10
  have BBA := Below.on BB8 B10
  generalize w9.heap.size = g17 at *
  clear hW10 b9 b10 B10 hk8 hp8 hR8 u10 u12 u13 y15 BB8 HRG c7
  refine wp_name fun a0 ha0 => ?_
  have e10 : a0.eval (.tmp 10) = .pointer (some ⟨g10, 0, none⟩) := by rw [ha0]; rfl
  have e12 : a0.eval (.tmp 12) = .pointer (some ⟨g12, 0, none⟩) := by rw [ha0]; rfl
  have e13 : a0.eval (.tmp 13) = .pointer (some ⟨g13, 0, none⟩) := by rw [ha0]; rfl
  have e14 : a0.eval (.tmp 14) = .int .i64 0 := by rw [ha0]; rfl
  have hz : a0.tmps.size = 229 := by rw [ha0]; rfl
  have HA0 := Lib.hid ha0
  clear ha0
  have SG : ∀ (d d' : Nat → Prop) (W W' : World), (fun (_ : Nat → Prop) (W : World) => Below w10.heap.size w10 W) d W → (∀ j, d j → d' j) → Below W.heap.size W W' → (fun (_ : Nat → Prop) (W : World) => Below w10.heap.size w10 W) d' W' := fun _ _ _ _ h _ b => Below.next h b
  have St : ∀ xc ∈ [(⟨some 0, 62, none, fun v _ => v = hashV root⟩ : Cl), ⟨some 1, 63, none, fun v _ => v = wordsV⟩, ⟨some 2, 64, none, fun v _ => v = .agg #[.int .i64 (n : Int), .slice (some ad) m c1]⟩, ⟨some 3, 65, none, fun v _ => v = hashV root⟩, ⟨some 4, 66, none, fun v _ => v = .bool false⟩, ⟨some 5, 67, none, fun v _ => v = .bool false⟩, ⟨some 6, 68, none, fun v _ => v = .int .i64 0⟩, ⟨some 7, 69, none, fun v _ => v = .bool false⟩, ⟨some 8, 70, none, fun v _ => v = .bool false⟩], Lasts xc := AllC.mem ⟨lastsV0 _ _ _ _, lastsV0 _ _ _ _, lastsV0 _ _ _ _, lastsV0 _ _ _ _, lastsV0 _ _ _ _, lastsV0 _ _ _ _, lastsV0 _ _ _ _, lastsV0 _ _ _ _, lastsV0 _ _ _ _, trivial⟩
  refine wp_region_guards (Inv [62, 63, 64, 65, 66, 67, 68, 69, 70] a0 (fun (_ : Nat → Prop) (W : World) => Below w10.heap.size w10 W) (lst St)) (by kernel_rfl) (by kernel_rfl) (Inv.start (Below.refl _ _).drew ⟨nofun, nofun, nofun, nofun, nofun, nofun, nofun, nofun, nofun, trivial⟩) ?_ ?_
  · clear HA0
    refine ⟨?_, ?_, ?_, ?_, ?_, ?_, ?_, ?_, ?_, trivial⟩
    · refine StepG.of ?_
      refine stepB rfl rfl (by decide) (by rw [hz]; decide) rfl rfl (by kernel_rfl) St SG fun d a W hF hG hH hn hcl hw => ?_
      have q13 := (hF.same 13 (by decide)).trans e13
      refine ⟨hashV root, W, ?_, Below.refl _ _, ?_⟩
      · exact exec_load rfl (by rw [q13]; exact BoxH.load_ (BoxA.next z13 hG) HROOT.out)
      · rfl
    · refine StepG.of ?_
      refine stepB rfl rfl (by decide) (by rw [hz]; decide) rfl rfl (by kernel_rfl) St SG fun d a W hF hG hH hn hcl hw => ?_
      have q12 := (hF.same 12 (by decide)).trans e12
      refine ⟨wordsV, W, ?_, Below.refl _ _, ?_⟩
      · exact exec_load rfl (by rw [q12]; exact BoxW.load (BoxA.next z12 hG))
      · rfl
    · refine StepG.of ?_
      refine stepB rfl rfl (by decide) (by rw [hz]; decide) rfl rfl (by kernel_rfl) St SG fun d a W hF hG hH hn hcl hw => ?_
      have q10 := (hF.same 10 (by decide)).trans e10
      refine ⟨.agg #[.int .i64 (n : Int), .slice (some ad) m c1], W, ?_, Below.refl _ _, ?_⟩
      · exact exec_load rfl (by rw [q10]; exact BoxM.load_ (z10.next hG))
      · rfl
    · refine StepG.of ?_
      refine stepC rfl rfl (by decide) (by rw [hz]; decide) rfl rfl (by kernel_rfl) St SG fun d a W hF hG hH hn hcl hw => ?_
      have q63 : a.eval (.tmp 63) = wordsV := hH.at_ (i := 1) rfl (hw 1 rfl) id
      have q64 : a.eval (.tmp 64) = .agg #[.int .i64 (n : Int), .slice (some ad) m c1] := hH.at_ (i := 2) rfl (hw 2 rfl) id
      have qf : a.eval (.func 39) = .func (.func 39) #[] #[] := rfl
      refine ⟨39, #[wordsV, .agg #[.int .i64 (n : Int), .slice (some ad) m c1]], ?_, ?_⟩
      · clear hF hG hH hn hcl hw
        generalize a.eval = ρ at *
        go_simp
      · refine (HRM.out W (some ad) m c1 HRL.out (hRA.below hG)).mono ?_; rintro e W' ⟨rfl, b⟩; exact ⟨_, rfl, b, rfl⟩
    · refine StepG.of ?_
      refine stepB rfl rfl (by decide) (by rw [hz]; decide) rfl rfl (by kernel_rfl) St SG fun d a W hF hG hH hn hcl hw => ?_
      have q62 : a.eval (.tmp 62) = hashV root := hH.at_ (i := 0) rfl (hw 0 rfl) id
      have q65 : a.eval (.tmp 65) = hashV root := hH.at_ (i := 3) rfl (hw 3 rfl) id
      have qe_ := HQE.out W
      exact ⟨.bool false, W, by clear hF hG hH hn hcl hw; generalize a.eval = ρ at *; go_simp, Below.refl _ _, rfl⟩
    · refine StepG.of ?_
      refine stepB rfl rfl (by decide) (by rw [hz]; decide) rfl rfl (by kernel_rfl) St SG fun d a W hF hG hH hn hcl hw => ?_
      have q66 : a.eval (.tmp 66) = .bool false := hH.at_ (i := 4) rfl (hw 4 rfl) id
      exact ⟨.bool false, W, by clear hF hG hH hn hcl hw; generalize a.eval = ρ at *; go_simp, Below.refl _ _, rfl⟩
    · refine StepG.on rfl (fun d a W hI hw => yielded_of rfl (hI.2.2.at_ (i := 5) rfl (hw 5 rfl) id)) ?_
      refine stepB rfl rfl (by decide) (by rw [hz]; decide) rfl rfl (by kernel_rfl) St SG fun d a W hF hG hH hn hcl hw => ?_
      have q14 := (hF.same 14 (by decide)).trans e14
      exact ⟨.int .i64 0, W, by clear hF hG hH hn hcl hw; generalize a.eval = ρ at *; go_simp, Below.refl _ _, rfl⟩
    · refine StepG.on rfl (fun d a W hI hw => yielded_of rfl (hI.2.2.at_ (i := 5) rfl (hw 5 rfl) id)) ?_
      refine stepB rfl rfl (by decide) (by rw [hz]; decide) rfl rfl (by kernel_rfl) St SG fun d a W hF hG hH hn hcl hw => ?_
      have q68 : a.eval (.tmp 68) = .int .i64 0 := hH.at_ (i := 6) rfl (hw 6 rfl) id
      have qc0 : a.eval (.const (.int .i64 0)) = .int .i64 0 := rfl
      exact ⟨.bool false, W, by clear hF hG hH hn hcl hw; generalize a.eval = ρ at *; go_simp, Below.refl _ _, rfl⟩
    · refine StepG.of ?_
      refine stepB rfl rfl (by decide) (by rw [hz]; decide) rfl rfl (by kernel_rfl) St SG fun d a W hF hG hH hn hcl hw => ?_
      have q67 : a.eval (.tmp 67) = .bool false := hH.at_ (i := 5) rfl (hw 5 rfl) id
      have q69 : a.eval (.tmp 69) = .bool false := hH.at_ (i := 7) rfl (hw 7 rfl) id
      have qk0 : a.eval (.const (.bool true)) = .bool true := rfl
      exact ⟨.bool false, W, by clear hF hG hH hn hcl hw; generalize a.eval = ρ at *; go_simp, Below.refl _ _, rfl⟩
  · intro d a W ⟨hF, hB, hH⟩ hall
    have k70 : a.eval (.tmp 70) = .bool false := hH.at_ (i := 8) rfl (hall 8 (by decide)) id
    clear hH hall
    rw [hF.shape (by rw [hz]; decide)]
    clear hF
    simp only [List.foldl]
    generalize a.eval (.tmp 62) = z62, a.eval (.tmp 63) = z63, a.eval (.tmp 64) = z64, a.eval (.tmp 65) = z65, a.eval (.tmp 66) = z66, a.eval (.tmp 67) = z67, a.eval (.tmp 68) = z68, a.eval (.tmp 69) = z69, a.eval (.tmp 70) = z70 at *
    subst k70
    rw [HA0.out]
    simp only [Act.put, List.setIfInBounds_toArray, List.set_cons_zero, List.set_cons_succ]
    clear hz HA0 St SG e10 e12 e13 e14
    clear a a0
    have hk11 := hkA.next hB
    have hR11 := hRA.below hB
    have a10 := z10.next hB
    have a12 : BoxW W g12 := BoxA.next z12 hB
    have a15 := z15.next hB
    have a17 := y17.next hB
    have BB11 := Below.on BBA hB
    clear hkA hRA z10 z12 z13 z15 y17 BBA hB
    generalize W = w11 at *
    have c80 := a10.c0
    have d4 := a15.c4
    have d5 := a15.c5
    have d6 := a15.c6
    rcases hx' with hx' | ⟨hx', hx2⟩
    all_goals
      go_upto_region 16 with (fail)
      clear d4 d5 d6 a15
      have d0 := a17.c0
      have d2 := a17.c2
      have d3 := a17.c3
      have d4 := a17.c4
      rcases hy' with ⟨hy1, hy2⟩ | ⟨hy1, hy2, hy3⟩ | ⟨hy1, hy2, hy3, hy4⟩
      all_goals
        go_wp2_with (go_at_call 17; refine (HA.out _ hk11).mono ?_; rintro e w20 ⟨rfl, b20⟩)
        go_ret
        exact ⟨rfl, Below.on BB11 b20⟩
theorem proofMaps_any (ts : List UInt8) (at_ lo hi : Int) (A : Option Addr) (c : Nat) (w : World) (hT : Tags w A ts) (hk : Kon w) (ha : -9223372036854775808 ≤ at_ ∧ at_ ≤ 9223372036854775807) :
    Calls Tryd.prog 10 #[.slice A ts.length c, .int .i64 at_, .int .i64 lo, .int .i64 hi] w fun e w' => e = .returned (.bool true) ∧ Below w.heap.size w w' := by
  by_cases hn : ts.length = 0 ∨ 60 < ts.length
  · exact maps_none A at_ lo hi _ c w hk hn
  have h1 : 1 ≤ ts.length := by omega
  have h60 : ts.length ≤ 60 := by omega
  by_cases hr : 0 ≤ at_ ∧ at_ < ts.length
  · obtain ⟨q, rfl⟩ : ∃ q : Nat, at_ = q := ⟨at_.toNat, by omega⟩
    by_cases hy : 0 ≤ lo ∧ lo < hi ∧ hi ≤ ts.length
    · exact maps_in_in ts A q lo hi _ c w rfl h1 h60 hT hk (by omega) hy.1 hy.2.1 hy.2.2
    · exact maps_in_out ts A q lo hi _ c w rfl h1 h60 hT hk (by omega) (by omega)
  · by_cases hy : 0 ≤ lo ∧ lo < hi ∧ hi ≤ ts.length
    · exact maps_out_in ts A at_ lo hi _ c w rfl h1 h60 hT hk (by omega) ha hy.1 hy.2.1 hy.2.2
    · exact maps_out_out ts A at_ lo hi _ c w rfl h1 h60 hT hk (by omega) ha (by omega)
end Go.Proofs.YtcocengpekndjaaDoor
