/- The walk over ProofRanges. -/
import Derived.Test.YtcocengpekndjaaDoorPrRAccR
import Derived.Test.YtcocengpekndjaaDoorPrRAccE
import Derived.Test.YtcocengpekndjaaDoorPrRAccY
import Derived.Test.YtcocengpekndjaaDoorPrRange
import Derived.Test.YtcocengpekndjaaDoorPrAwake
import Derived.Test.YtcocengpekndjaaDoorPrSums
namespace Go.Proofs.YtcocengpekndjaaDoor
open Go.RowKit
theorem rraccept_any (root : Bs) (lo hi : Int) (R : List Rn) (A : Option Addr) (n c : Nat) (first count size : Int) (path : List Bs) (PA : Option Addr) (pn pc : Nat) (w : World) (hn : R.length = n) (hR : Runs w A R)
    (hci : -9223372036854775808 ≤ count ∧ count < 9223372036854775808) (hn6 : n ≤ 1000000) (hr : root.length = 32) (hs : Hs w PA path) (hpn : path.length = pn) (hpc : pn ≤ pc) (hp5 : pn ≤ 5000) :
    Calls Tryd.prog 24 #[wordsV, hashV root, .int .i64 lo, .int .i64 hi, claimV A n c first count size PA pn pc] w fun e w' => e = .returned (.bool (acceptM root lo hi R first count size path)) ∧ Below w.heap.size w w' := by
  by_cases hH : Head lo hi n first count size
  · obtain ⟨a, rfl⟩ : ∃ a, A = some a := by
      rcases hR with e | ⟨a, e, _⟩
      · subst e; exact absurd hn.symm hH.2.2.2.2.1
      · exact ⟨a, e⟩
    obtain ⟨f, rfl⟩ := Int.eq_ofNat_of_zero_le hH.2.2.2.2.2.2.2.1
    obtain ⟨N, rfl⟩ := Int.eq_ofNat_of_zero_le (show 0 ≤ count by have := hH.2.2.2.2.2.1; omega)
    have hne : R ≠ [] := by rintro rfl; exact hH.2.2.2.2.1 hn.symm
    by_cases hC : Chain R R.length
    · by_cases hE : ∀ (h : R ≠ []), Ends lo hi (R.head h) (R.getLast h) n f N size
      · have hS : Sound lo hi R f N size := ⟨by rw [hn]; exact hH, hC, fun h => by rw [hn]; exact hE h⟩
        have hN : 0 < N := by have := hH.2.2.2.2.1; have := hH.2.2.2.2.2.1; omega
        have hacc := fold_acc (sealM size N) root (n := N) (i := (f : Int)) (inside := R.map textM) (path := path) hN (by simpa using hne)
        have e : acceptM root lo hi R f N size path = ((foldR N f (R.map textM) path).2.2 && (foldR N f (R.map textM) path).2.1 == path.length && root == sealM size N (foldR N f (R.map textM) path).1) := by
          rw [hacc]
          unfold acceptM
          rw [soundB_yes hS, Bool.true_and, Int.toNat_natCast, map_text]
        rw [hpn] at e
        exact rracc_both root lo hi R a n c f N size PA pn pc w hn hH hR hC hE path hr hs hpn hpc hp5 _ _ _ rfl _ e.symm
      · have e : acceptM root lo hi R f N size path = false := acceptM_unsound fun hS => hE fun h => by have := hS.2.2 h; rwa [hn] at this
        rw [e]
        exact rracc_ends root lo hi R a n c f N size PA pn pc w hn hH hR hC fun h he => hE fun _ => he
    · have e : acceptM root lo hi R f N size path = false := acceptM_unsound fun hS => hC hS.2.1
      rw [e]
      exact rracc_bad root lo hi R a n c f N size PA pn pc w hn hH hR hC
  · have e : acceptM root lo hi R first count size path = false := acceptM_unsound fun hS => hH (by have := hS.1; rwa [hn] at this)
    rw [e]
    exact rracc_head root lo hi A n c first count size PA pn pc w hH hci hn6
set_option maxRecDepth 100000 in
set_option maxHeartbeats 4000000 in
theorem proofRanges_any (root : Bs) (lo hi : Int) (R : List Rn) (A : Option Addr) (c : Nat) (first count size : Int) (path : List Bs) (PA : Option Addr) (pc : Nat) (w : World) (hR : Runs w A R) (hc : R.length ≤ c)
    (hci : -9223372036854775808 ≤ count ∧ count < 9223372036854775808) (hr : root.length = 32) (hs : Hs w PA path) (hpc : path.length ≤ pc) (hk : Kon w) :
    Calls Tryd.prog 5 #[hashV root, .int .i64 lo, .int .i64 hi, claimV A R.length c first count size PA path.length pc] w fun e w' => e = .returned (.bool true) ∧ Below w.heap.size w w' := by
  obtain ⟨n, hn⟩ : ∃ n, R.length = n := ⟨_, rfl⟩
  obtain ⟨pn, hpn⟩ : ∃ k, path.length = k := ⟨_, rfl⟩
  rw [hn] at hc ⊢
  rw [hpn] at hpc ⊢
  obtain ⟨w0, hW0⟩ : ∃ w0, World.alloc (w.alloc (.cells (cellsB root).toArray 30)) (.cells #[.slice A n c, .int .i64 first, .int .i64 count, .int .i64 size, .slice PA pn pc] 43) = w0 := ⟨_, rfl⟩
  have B0 : Below w.heap.size w w0 := hW0 ▸ Below.on (Below.new1 _ _) (Below.new1 _ _)
  have y4 : BoxH w0 w.heap.size root := hW0 ▸ (BoxH.new w root).next (Below.new1 _ _)
  have x7 : BoxC w0 (w.heap.size + 1) A n c first count size PA pn pc := by
    have := BoxC.new (w.alloc (.cells (cellsB root).toArray 30)) A n c first count size PA pn pc
    rw [World.size_alloc] at this; exact hW0 ▸ this
  have c0 := x7.c0
  have c4 := x7.c4
  have hk0 := hk.next B0
  have hs0 := hs.next B0
  have hR0 := hR.below B0
  have HO := Lib.hid hW0
  have HA := Lib.hid (fun W (kon : Kon W) => awake_any W kon)
  have key : (40 : Int) < pn ∨ (¬ (40 : Int) < pn ∧ (40 : Int) < n) ∨ (¬ (40 : Int) < pn ∧ ¬ (40 : Int) < n) := by omega
  rcases key with m1 | ⟨m1, m2⟩ | ⟨m1, m2⟩
  · clear hW0 hpn hn hs hk x7 y4
    go_enter Tryd.func5, Tryd.ntmps5
    go_upto_region 1 with (fail)
    change Code.wp _ _ _ _ (World.alloc (w.alloc (.cells (cellsB root).toArray 30)) (.cells #[.slice A n c, .int .i64 first, .int .i64 count, .int .i64 size, .slice PA pn pc] 43))
    rw [HO.out]
    clear HO
    go_wp2_with (go_at_call 17; refine (HA.out _ hk0).mono ?_; rintro e w7 ⟨rfl, b7⟩)
    go_ret
    exact ⟨rfl, Below.on B0 b7⟩
  · clear hW0 hpn hn hs hk x7 y4
    go_enter Tryd.func5, Tryd.ntmps5
    go_upto_region 1 with (fail)
    change Code.wp _ _ _ _ (World.alloc (w.alloc (.cells (cellsB root).toArray 30)) (.cells #[.slice A n c, .int .i64 first, .int .i64 count, .int .i64 size, .slice PA pn pc] 43))
    rw [HO.out]
    clear HO
    go_wp2_with (go_at_call 17; refine (HA.out _ hk0).mono ?_; rintro e w7 ⟨rfl, b7⟩)
    go_ret
    exact ⟨rfl, Below.on B0 b7⟩
  · have HP := Lib.hid (fun W (hR : Runs W A R) (h : Hs W PA path) (kon : Kon W) => accept_any root lo hi R A n c first count size path PA pn pc W hn hR hc h hpn hpc (by omega) kon hr)
    have HV := Lib.hid (fun W (hR : Runs W A R) (h : Hs W PA path) => rraccept_any root lo hi R A n c first count size path PA pn pc W hn hR hci (by omega) hr h hpn hpc (by omega))
    obtain ⟨x, hx⟩ : ∃ x, acceptM root lo hi R first count size path = x := ⟨_, rfl⟩
    rw [hx] at HP HV
    clear hW0 hpn hn hs hk hx hR
    go_enter Tryd.func5, Tryd.ntmps5
    go_upto_region 1 with (fail)
    change Code.wp _ _ _ _ (World.alloc (w.alloc (.cells (cellsB root).toArray 30)) (.cells #[.slice A n c, .int .i64 first, .int .i64 count, .int .i64 size, .slice PA pn pc] 43))
    rw [HO.out]
    clear HO
    go_upto_region 4 with (first
      | (go_at_call 18; refine (constants_any _).mono ?_; rintro e w1 ⟨rfl, b1⟩)
      | (refine wpList_newW rfl (.tmp 9) (.tmp 21) rfl rfl rfl ?_))
    have x9 := withW_box w1
    have b2 := withW_below w1
    obtain ⟨w2, hW⟩ : ∃ w2, withW w1 = w2 := ⟨_, rfl⟩
    change Code.wp _ _ _ _ (withW w1)
    rw [hW] at x9 b2 ⊢
    have B2 := Below.on b1 b2
    generalize w1.heap.size = g1 at *
    have z4 : BoxH w2 w.heap.size root := BoxA.next y4 B2
    have z7 := x7.next B2
    have hk2 := hk0.next B2
    have hs2 := hs0.next B2
    have hR2 := hR0.below B2
    have BB := Below.on B0 B2
    have hxx : ∀ W, (Op.equalIn 10000 4 (.bool x) (.bool x)).run Tryd.prog W = .ok true W := fun W => by cases x <;> kernel_rfl
    clear hW b1 b2 y4 hs0 hk0 hR0 B0 B2 x7 c0 c4
    refine wp_name fun a0 ha0 => ?_
    have e1 : a0.eval (.tmp 1) = .int .i64 lo := by rw [ha0]; rfl
    have e2 : a0.eval (.tmp 2) = .int .i64 hi := by rw [ha0]; rfl
    have e4 : a0.eval (.tmp 4) = .pointer (some ⟨w.heap.size, 0, none⟩) := by rw [ha0]; rfl
    have e7 : a0.eval (.tmp 7) = .pointer (some ⟨(w.heap.size + 1), 0, none⟩) := by rw [ha0]; rfl
    have e9 : a0.eval (.tmp 9) = .pointer (some ⟨g1, 0, none⟩) := by rw [ha0]; rfl
    have hz : a0.tmps.size = 37 := by rw [ha0]; rfl
    have HA0 := Lib.hid ha0
    clear ha0
    have SG : ∀ (d d' : Nat → Prop) (W W' : World), (fun (_ : Nat → Prop) (W : World) => Below w2.heap.size w2 W) d W → (∀ j, d j → d' j) → Below W.heap.size W W' → (fun (_ : Nat → Prop) (W : World) => Below w2.heap.size w2 W) d' W' := fun _ _ _ _ h _ b => Below.next h b
    refine wp_region_guards (Inv [22, 23, 24, 25, 26, 27, 28, 29, 30, 31, 32, 33, 34, 35, 36, 8] a0 (fun (_ : Nat → Prop) (W : World) => Below w2.heap.size w2 W) [(⟨some 0, 22, none, fun v _ => v = hashV root⟩ : Cl), ⟨some 1, 23, none, fun v _ => v = .int .i64 lo⟩, ⟨some 2, 24, none, fun v _ => v = .int .i64 hi⟩, ⟨some 3, 25, none, fun v _ => v = claimV A n c first count size PA pn pc⟩, ⟨some 4, 26, none, fun v _ => v = .bool x⟩, ⟨some 5, 27, none, fun v _ => v = wordsV⟩, ⟨some 6, 28, none, fun v _ => v = hashV root⟩, ⟨some 7, 29, none, fun v _ => v = .int .i64 lo⟩, ⟨some 8, 30, none, fun v _ => v = .int .i64 hi⟩, ⟨some 9, 31, none, fun v _ => v = claimV A n c first count size PA pn pc⟩, ⟨some 10, 32, none, fun v _ => v = .bool x⟩, ⟨some 11, 33, none, fun v _ => v = .bool true⟩, ⟨some 12, 34, none, fun v _ => v = .bool true⟩, ⟨some 13, 35, none, fun v _ => v = .bool true⟩, ⟨some 14, 36, none, fun v _ => v = .bool true⟩, ⟨some 15, 8, none, fun v _ => v = .bool true⟩]) (by kernel_rfl) (by kernel_rfl) (Inv.start (Below.refl _ _).drew ⟨nofun, nofun, nofun, nofun, nofun, nofun, nofun, nofun, nofun, nofun, nofun, nofun, nofun, nofun, nofun, nofun, trivial⟩) ?_ ?_
    · have St : ∀ xc ∈ [(⟨some 0, 22, none, fun v _ => v = hashV root⟩ : Cl), ⟨some 1, 23, none, fun v _ => v = .int .i64 lo⟩, ⟨some 2, 24, none, fun v _ => v = .int .i64 hi⟩, ⟨some 3, 25, none, fun v _ => v = claimV A n c first count size PA pn pc⟩, ⟨some 4, 26, none, fun v _ => v = .bool x⟩, ⟨some 5, 27, none, fun v _ => v = wordsV⟩, ⟨some 6, 28, none, fun v _ => v = hashV root⟩, ⟨some 7, 29, none, fun v _ => v = .int .i64 lo⟩, ⟨some 8, 30, none, fun v _ => v = .int .i64 hi⟩, ⟨some 9, 31, none, fun v _ => v = claimV A n c first count size PA pn pc⟩, ⟨some 10, 32, none, fun v _ => v = .bool x⟩, ⟨some 11, 33, none, fun v _ => v = .bool true⟩, ⟨some 12, 34, none, fun v _ => v = .bool true⟩, ⟨some 13, 35, none, fun v _ => v = .bool true⟩, ⟨some 14, 36, none, fun v _ => v = .bool true⟩, ⟨some 15, 8, none, fun v _ => v = .bool true⟩], Lasts xc := AllC.mem ⟨lastsV0 _ _ _ _, lastsV0 _ _ _ _, lastsV0 _ _ _ _, lastsV0 _ _ _ _, lastsV0 _ _ _ _, lastsV0 _ _ _ _, lastsV0 _ _ _ _, lastsV0 _ _ _ _, lastsV0 _ _ _ _, lastsV0 _ _ _ _, lastsV0 _ _ _ _, lastsV0 _ _ _ _, lastsV0 _ _ _ _, lastsV0 _ _ _ _, lastsV0 _ _ _ _, lastsV0 _ _ _ _, trivial⟩
      clear HA0
      refine ⟨?_, ?_, ?_, ?_, ?_, ?_, ?_, ?_, ?_, ?_, ?_, ?_, ?_, ?_, ?_, ?_, trivial⟩
      · refine StepG.of ?_
        refine stepB rfl rfl (by decide) (by rw [hz]; decide) rfl rfl (by kernel_rfl) St SG fun d a W hF hG hH hn hcl hw => ?_
        have q4 := (hF.same 4 (by decide)).trans e4
        refine ⟨hashV root, W, ?_, Below.refl _ _, ?_⟩
        · exact exec_load rfl (by rw [q4]; exact BoxH.load_ (BoxA.next z4 hG) hr)
        · rfl
      · refine StepG.of ?_
        refine stepB rfl rfl (by decide) (by rw [hz]; decide) rfl rfl (by kernel_rfl) St SG fun d a W hF hG hH hn hcl hw => ?_
        have q1 := (hF.same 1 (by decide)).trans e1
        refine ⟨.int .i64 lo, W, ?_, Below.refl _ _, ?_⟩
        · clear hF hG hH hn hcl hw
          generalize a.eval = ρ at *
          go_simp
        · rfl
      · refine StepG.of ?_
        refine stepB rfl rfl (by decide) (by rw [hz]; decide) rfl rfl (by kernel_rfl) St SG fun d a W hF hG hH hn hcl hw => ?_
        have q2 := (hF.same 2 (by decide)).trans e2
        refine ⟨.int .i64 hi, W, ?_, Below.refl _ _, ?_⟩
        · clear hF hG hH hn hcl hw
          generalize a.eval = ρ at *
          go_simp
        · rfl
      · refine StepG.of ?_
        refine stepB rfl rfl (by decide) (by rw [hz]; decide) rfl rfl (by kernel_rfl) St SG fun d a W hF hG hH hn hcl hw => ?_
        have q7 := (hF.same 7 (by decide)).trans e7
        have d0 := (z7.next hG).c0
        have d1 := (z7.next hG).c1
        have d2 := (z7.next hG).c2
        have d3 := (z7.next hG).c3
        have d4 := (z7.next hG).c4
        refine ⟨claimV A n c first count size PA pn pc, W, ?_, Below.refl _ _, ?_⟩
        · clear hF hG hH hn hcl hw
          generalize a.eval = ρ at *
          go_simp
        · rfl
      · refine StepG.of ?_
        refine stepC rfl rfl (by decide) (by rw [hz]; decide) rfl rfl (by kernel_rfl) St SG fun d a W hF hG hH hn hcl hw => ?_
        have q22 : a.eval (.tmp 22) = hashV root := hH.at_ (i := 0) rfl (hw 0 rfl) id
        have q23 : a.eval (.tmp 23) = .int .i64 lo := hH.at_ (i := 1) rfl (hw 1 rfl) id
        have q24 : a.eval (.tmp 24) = .int .i64 hi := hH.at_ (i := 2) rfl (hw 2 rfl) id
        have q25 : a.eval (.tmp 25) = claimV A n c first count size PA pn pc := hH.at_ (i := 3) rfl (hw 3 rfl) id
        have qf : a.eval (.func 23) = .func (.func 23) #[] #[] := rfl
        refine ⟨23, #[hashV root, .int .i64 lo, .int .i64 hi, claimV A n c first count size PA pn pc], ?_, ?_⟩
        · clear hF hG hH hn hcl hw
          generalize a.eval = ρ at *
          go_simp
        · refine (HP.out W (hR2.below hG) (hs2.next hG) (hk2.next hG)).mono ?_; rintro e W' ⟨rfl, b⟩; exact ⟨_, rfl, b, rfl⟩
      · refine StepG.of ?_
        refine stepB rfl rfl (by decide) (by rw [hz]; decide) rfl rfl (by kernel_rfl) St SG fun d a W hF hG hH hn hcl hw => ?_
        have q9 := (hF.same 9 (by decide)).trans e9
        refine ⟨wordsV, W, ?_, Below.refl _ _, ?_⟩
        · exact exec_load rfl (by rw [q9]; exact BoxW.load (BoxA.next x9 hG))
        · rfl
      · refine StepG.of ?_
        refine stepB rfl rfl (by decide) (by rw [hz]; decide) rfl rfl (by kernel_rfl) St SG fun d a W hF hG hH hn hcl hw => ?_
        have q4 := (hF.same 4 (by decide)).trans e4
        refine ⟨hashV root, W, ?_, Below.refl _ _, ?_⟩
        · exact exec_load rfl (by rw [q4]; exact BoxH.load_ (BoxA.next z4 hG) hr)
        · rfl
      · refine StepG.of ?_
        refine stepB rfl rfl (by decide) (by rw [hz]; decide) rfl rfl (by kernel_rfl) St SG fun d a W hF hG hH hn hcl hw => ?_
        have q1 := (hF.same 1 (by decide)).trans e1
        refine ⟨.int .i64 lo, W, ?_, Below.refl _ _, ?_⟩
        · clear hF hG hH hn hcl hw
          generalize a.eval = ρ at *
          go_simp
        · rfl
      · refine StepG.of ?_
        refine stepB rfl rfl (by decide) (by rw [hz]; decide) rfl rfl (by kernel_rfl) St SG fun d a W hF hG hH hn hcl hw => ?_
        have q2 := (hF.same 2 (by decide)).trans e2
        refine ⟨.int .i64 hi, W, ?_, Below.refl _ _, ?_⟩
        · clear hF hG hH hn hcl hw
          generalize a.eval = ρ at *
          go_simp
        · rfl
      · refine StepG.of ?_
        refine stepB rfl rfl (by decide) (by rw [hz]; decide) rfl rfl (by kernel_rfl) St SG fun d a W hF hG hH hn hcl hw => ?_
        have q7 := (hF.same 7 (by decide)).trans e7
        have d0 := (z7.next hG).c0
        have d1 := (z7.next hG).c1
        have d2 := (z7.next hG).c2
        have d3 := (z7.next hG).c3
        have d4 := (z7.next hG).c4
        refine ⟨claimV A n c first count size PA pn pc, W, ?_, Below.refl _ _, ?_⟩
        · clear hF hG hH hn hcl hw
          generalize a.eval = ρ at *
          go_simp
        · rfl
      · refine StepG.of ?_
        refine stepC rfl rfl (by decide) (by rw [hz]; decide) rfl rfl (by kernel_rfl) St SG fun d a W hF hG hH hn hcl hw => ?_
        have q27 : a.eval (.tmp 27) = wordsV := hH.at_ (i := 5) rfl (hw 5 rfl) id
        have q28 : a.eval (.tmp 28) = hashV root := hH.at_ (i := 6) rfl (hw 6 rfl) id
        have q29 : a.eval (.tmp 29) = .int .i64 lo := hH.at_ (i := 7) rfl (hw 7 rfl) id
        have q30 : a.eval (.tmp 30) = .int .i64 hi := hH.at_ (i := 8) rfl (hw 8 rfl) id
        have q31 : a.eval (.tmp 31) = claimV A n c first count size PA pn pc := hH.at_ (i := 9) rfl (hw 9 rfl) id
        have qf : a.eval (.func 24) = .func (.func 24) #[] #[] := rfl
        refine ⟨24, #[wordsV, hashV root, .int .i64 lo, .int .i64 hi, claimV A n c first count size PA pn pc], ?_, ?_⟩
        · clear hF hG hH hn hcl hw
          generalize a.eval = ρ at *
          go_simp
        · refine (HV.out W (hR2.below hG) (hs2.next hG)).mono ?_; rintro e W' ⟨rfl, b⟩; exact ⟨_, rfl, b, rfl⟩
      · refine StepG.of ?_
        refine stepB rfl rfl (by decide) (by rw [hz]; decide) rfl rfl (by kernel_rfl) St SG fun d a W hF hG hH hn hcl hw => ?_
        have q26 : a.eval (.tmp 26) = .bool x := hH.at_ (i := 4) rfl (hw 4 rfl) id
        have q32 : a.eval (.tmp 32) = .bool x := hH.at_ (i := 10) rfl (hw 10 rfl) id
        have r := hxx W
        refine ⟨.bool true, W, ?_, Below.refl _ _, ?_⟩
        · clear hF hG hH hn hcl hw
          generalize a.eval = ρ at *
          go_simp
        · rfl
      · refine StepG.of ?_
        refine stepB rfl rfl (by decide) (by rw [hz]; decide) rfl rfl (by kernel_rfl) St SG fun d a W hF hG hH hn hcl hw => ?_
        have q33 : a.eval (.tmp 33) = .bool true := hH.at_ (i := 11) rfl (hw 11 rfl) id
        refine ⟨.bool true, W, ?_, Below.refl _ _, ?_⟩
        · clear hF hG hH hn hcl hw
          generalize a.eval = ρ at *
          go_simp
        · rfl
      · refine StepG.on rfl (fun d a W hI hw => yielded_of rfl (hI.2.2.at_ (i := 12) rfl (hw 12 rfl) id)) ?_
        refine stepC rfl rfl (by decide) (by rw [hz]; decide) rfl rfl (by kernel_rfl) St SG fun d a W hF hG hH hn hcl hw => ?_
        have qf : a.eval (.func 17) = .func (.func 17) #[] #[] := rfl
        refine ⟨17, #[], ?_, ?_⟩
        · clear hF hG hH hn hcl hw
          generalize a.eval = ρ at *
          go_simp
        · refine (awake_any W (hk2.next hG)).mono ?_; rintro e W' ⟨rfl, b⟩; exact ⟨_, rfl, b, rfl⟩
      · refine StepG.of ?_
        refine stepB rfl rfl (by decide) (by rw [hz]; decide) rfl rfl (by kernel_rfl) St SG fun d a W hF hG hH hn hcl hw => ?_
        have q34 : a.eval (.tmp 34) = .bool true := hH.at_ (i := 12) rfl (hw 12 rfl) id
        have q35 : a.eval (.tmp 35) = .bool true := hH.at_ (i := 13) rfl (hw 13 rfl) id
        have qk1 : a.eval (.const (.bool false)) = .bool false := rfl
        refine ⟨.bool true, W, ?_, Below.refl _ _, ?_⟩
        · clear hF hG hH hn hcl hw
          generalize a.eval = ρ at *
          go_simp
        · rfl
      · refine StepG.of ?_
        refine stepB rfl rfl (by decide) (by rw [hz]; decide) rfl rfl (by kernel_rfl) St SG fun d a W hF hG hH hn hcl hw => ?_
        have q36 : a.eval (.tmp 36) = .bool true := hH.at_ (i := 14) rfl (hw 14 rfl) id
        refine ⟨.bool true, W, ?_, Below.refl _ _, ?_⟩
        · clear hF hG hH hn hcl hw
          generalize a.eval = ρ at *
          go_simp
        · rfl
    · intro d a W ⟨hF, hB, hH⟩ hall
      have k8 : a.eval (.tmp 8) = .bool true := hH.at_ (i := 15) rfl (hall 15 (by decide)) id
      clear hH hall
      rw [hF.shape (by rw [hz]; decide)]
      clear hF
      simp only [List.foldl]
      generalize a.eval (.tmp 22) = z22 at *
      generalize a.eval (.tmp 23) = z23 at *
      generalize a.eval (.tmp 24) = z24 at *
      generalize a.eval (.tmp 25) = z25 at *
      generalize a.eval (.tmp 26) = z26 at *
      generalize a.eval (.tmp 27) = z27 at *
      generalize a.eval (.tmp 28) = z28 at *
      generalize a.eval (.tmp 29) = z29 at *
      generalize a.eval (.tmp 30) = z30 at *
      generalize a.eval (.tmp 31) = z31 at *
      generalize a.eval (.tmp 32) = z32 at *
      generalize a.eval (.tmp 33) = z33 at *
      generalize a.eval (.tmp 34) = z34 at *
      generalize a.eval (.tmp 35) = z35 at *
      generalize a.eval (.tmp 36) = z36 at *
      generalize a.eval (.tmp 8) = z8 at *
      subst k8
      rw [HA0.out]
      simp only [Act.put, List.setIfInBounds_toArray, List.set_cons_zero, List.set_cons_succ]
      clear hz HA0 SG e1 e2 e4 e7 e9
      clear a a0
      go_wp2_with (fail)
      go_ret
      exact ⟨rfl, Below.on BB hB⟩
end Go.Proofs.YtcocengpekndjaaDoor
