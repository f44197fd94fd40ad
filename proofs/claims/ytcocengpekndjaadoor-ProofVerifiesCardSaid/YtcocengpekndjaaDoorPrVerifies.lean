/- The walk over ProofVerifies. -/
import Derived.Test.YtcocengpekndjaaDoorPrVer
import Derived.Test.YtcocengpekndjaaDoorPrAwake
import Derived.Test.YtcocengpekndjaaDoorPrSums
namespace Go.Proofs.YtcocengpekndjaaDoor
open Go.RowKit
set_option maxRecDepth 100000 in
set_option maxHeartbeats 4000000 in
theorem proofVerifies_any (root s : Bs) (i n : Int) (path : List Bs) (A : Option Addr) (c : Nat) (w : World) (hc : path.length ≤ c) (hr : root.length = 32) (hs : Hs w A path) (hk : Kon w) :
    Calls Tryd.prog 7 #[hashV root, .string ⟨s.toArray⟩, .int .i64 i, .int .i64 n, .slice A path.length c] w fun e w' => e = .returned (.bool true) ∧ Below w.heap.size w w' := by
  obtain ⟨k, hpk⟩ : ∃ k, path.length = k := ⟨_, rfl⟩
  rw [hpk] at hc ⊢
  have hsz := bs_size s
  obtain ⟨w0, hW0⟩ : ∃ w0, w.alloc (.cells (cellsB root).toArray 30) = w0 := ⟨_, rfl⟩
  have B0 : Below w.heap.size w w0 := hW0 ▸ Below.new1 _ _
  have y5 : BoxH w0 w.heap.size root := hW0 ▸ BoxH.new w root
  have hk0 := hk.next B0
  have hs0 := hs.next B0
  have HO := Lib.hid hW0
  by_cases c1 : 30 < k
  · have c2 : (30 : Int) < k := by omega
    have HA := Lib.hid (awake_any w0 hk0)
    clear hW0 hpk hs hk
    go_enter Tryd.func7, Tryd.ntmps7
    go_upto_region 2 with (fail)
    change Code.wp _ _ _ _ (w.alloc (.cells (cellsB root).toArray 30))
    rw [HO.out]
    clear HO
    go_wp2_with (go_at_call 17; refine HA.out.mono ?_; rintro e w7 ⟨rfl, b7⟩)
    go_ret
    exact ⟨rfl, Below.on B0 b7⟩
  by_cases c3 : 600 < s.length
  · have c2 : ¬ (30 : Int) < k := by omega
    have c4 : (600 : Int) < s.length := by omega
    have HA := Lib.hid (awake_any w0 hk0)
    clear hW0 hpk hs hk
    go_enter Tryd.func7, Tryd.ntmps7
    go_upto_region 2 with (fail)
    change Code.wp _ _ _ _ (w.alloc (.cells (cellsB root).toArray 30))
    rw [HO.out]
    clear HO
    go_wp2_with (go_at_call 17; refine HA.out.mono ?_; rintro e w7 ⟨rfl, b7⟩)
    go_ret
    exact ⟨rfl, Below.on B0 b7⟩
  · have c2 : ¬ (30 : Int) < k := by omega
    have c4 : ¬ (600 : Int) < s.length := by omega
    have HP := Lib.hid (fun W (h : Hs W A path) (kon : Kon W) => pver_any root s i n path A k c W hpk hc (by omega) (by omega) hr h kon)
    have HV := Lib.hid (fun W (h : Hs W A path) => rver_any root s i n path A k c W hpk hc (by omega) (by omega) hr h)
    obtain ⟨x, hx⟩ : ∃ x, verM root s i n path = x := ⟨_, rfl⟩
    rw [hx] at HP HV
    clear hW0 hpk hs hk hx c1 c3
    go_enter Tryd.func7, Tryd.ntmps7
    go_upto_region 3 with (fail)
    change Code.wp _ _ _ _ (w.alloc (.cells (cellsB root).toArray 30))
    rw [HO.out]
    clear HO
    go_upto_region 4 with (first
      | (go_at_call 18; refine (constants_any _).mono ?_; rintro e w1 ⟨rfl, b1⟩)
      | (refine wpList_newW rfl (.tmp 11) (.tmp 21) rfl rfl rfl ?_))
    have x3 := withW_box w1
    have b2 := withW_below w1
    obtain ⟨w2, hW⟩ : ∃ w2, withW w1 = w2 := ⟨_, rfl⟩
    change Code.wp _ _ _ _ (withW w1)
    rw [hW] at x3 b2 ⊢
    have B2 := Below.on b1 b2
    generalize w1.heap.size = g1 at *
    have z5 : BoxH w2 w.heap.size root := BoxA.next y5 B2
    have hk2 := hk0.next B2
    have hs2 := hs0.next B2
    have BB := Below.on B0 B2
    have hxx : ∀ W, (Op.equalIn 10000 4 (.bool x) (.bool x)).run Tryd.prog W = .ok true W := fun W => by cases x <;> kernel_rfl
    clear hW b1 b2 y5 hs0 hk0 B0 B2
    refine wp_name fun a0 ha0 => ?_
    have e1 : a0.eval (.tmp 1) = .string ⟨s.toArray⟩ := by rw [ha0]; rfl
    have e2 : a0.eval (.tmp 2) = .int .i64 i := by rw [ha0]; rfl
    have e3 : a0.eval (.tmp 3) = .int .i64 n := by rw [ha0]; rfl
    have e4 : a0.eval (.tmp 4) = .slice A k c := by rw [ha0]; rfl
    have e5 : a0.eval (.tmp 5) = .pointer (some ⟨w.heap.size, 0, none⟩) := by rw [ha0]; rfl
    have e11 : a0.eval (.tmp 11) = .pointer (some ⟨g1, 0, none⟩) := by rw [ha0]; rfl
    have hz : a0.tmps.size = 39 := by rw [ha0]; rfl
    have HA0 := Lib.hid ha0
    clear ha0
    have SG : ∀ (d d' : Nat → Prop) (W W' : World), (fun (_ : Nat → Prop) (W : World) => Below w2.heap.size w2 W) d W → (∀ j, d j → d' j) → Below W.heap.size W W' → (fun (_ : Nat → Prop) (W : World) => Below w2.heap.size w2 W) d' W' := fun _ _ _ _ h _ b => Below.next h b
    refine wp_region_guards (Inv [22, 23, 24, 25, 26, 27, 28, 29, 30, 31, 32, 33, 34, 35, 36, 37, 38, 10] a0 (fun (_ : Nat → Prop) (W : World) => Below w2.heap.size w2 W) [(⟨some 0, 22, none, fun v _ => v = hashV root⟩ : Cl), ⟨some 1, 23, none, fun v _ => v = .string ⟨s.toArray⟩⟩, ⟨some 2, 24, none, fun v _ => v = .int .i64 i⟩, ⟨some 3, 25, none, fun v _ => v = .int .i64 n⟩, ⟨some 4, 26, none, fun v _ => v = .slice A k c⟩, ⟨some 5, 27, none, fun v _ => v = .bool x⟩, ⟨some 6, 28, none, fun v _ => v = wordsV⟩, ⟨some 7, 29, none, fun v _ => v = hashV root⟩, ⟨some 8, 30, none, fun v _ => v = .string ⟨s.toArray⟩⟩, ⟨some 9, 31, none, fun v _ => v = .int .i64 i⟩, ⟨some 10, 32, none, fun v _ => v = .int .i64 n⟩, ⟨some 11, 33, none, fun v _ => v = .slice A k c⟩, ⟨some 12, 34, none, fun v _ => v = .bool x⟩, ⟨some 13, 35, none, fun v _ => v = .bool true⟩, ⟨some 14, 36, none, fun v _ => v = .bool true⟩, ⟨some 15, 37, none, fun v _ => v = .bool true⟩, ⟨some 16, 38, none, fun v _ => v = .bool true⟩, ⟨some 17, 10, none, fun v _ => v = .bool true⟩]) (by kernel_rfl) (by kernel_rfl) (Inv.start (Below.refl _ _).drew ⟨nofun, nofun, nofun, nofun, nofun, nofun, nofun, nofun, nofun, nofun, nofun, nofun, nofun, nofun, nofun, nofun, nofun, nofun, trivial⟩) ?_ ?_
    · have St : ∀ xc ∈ [(⟨some 0, 22, none, fun v _ => v = hashV root⟩ : Cl), ⟨some 1, 23, none, fun v _ => v = .string ⟨s.toArray⟩⟩, ⟨some 2, 24, none, fun v _ => v = .int .i64 i⟩, ⟨some 3, 25, none, fun v _ => v = .int .i64 n⟩, ⟨some 4, 26, none, fun v _ => v = .slice A k c⟩, ⟨some 5, 27, none, fun v _ => v = .bool x⟩, ⟨some 6, 28, none, fun v _ => v = wordsV⟩, ⟨some 7, 29, none, fun v _ => v = hashV root⟩, ⟨some 8, 30, none, fun v _ => v = .string ⟨s.toArray⟩⟩, ⟨some 9, 31, none, fun v _ => v = .int .i64 i⟩, ⟨some 10, 32, none, fun v _ => v = .int .i64 n⟩, ⟨some 11, 33, none, fun v _ => v = .slice A k c⟩, ⟨some 12, 34, none, fun v _ => v = .bool x⟩, ⟨some 13, 35, none, fun v _ => v = .bool true⟩, ⟨some 14, 36, none, fun v _ => v = .bool true⟩, ⟨some 15, 37, none, fun v _ => v = .bool true⟩, ⟨some 16, 38, none, fun v _ => v = .bool true⟩, ⟨some 17, 10, none, fun v _ => v = .bool true⟩], Lasts xc := AllC.mem ⟨lastsV0 _ _ _ _, lastsV0 _ _ _ _, lastsV0 _ _ _ _, lastsV0 _ _ _ _, lastsV0 _ _ _ _, lastsV0 _ _ _ _, lastsV0 _ _ _ _, lastsV0 _ _ _ _, lastsV0 _ _ _ _, lastsV0 _ _ _ _, lastsV0 _ _ _ _, lastsV0 _ _ _ _, lastsV0 _ _ _ _, lastsV0 _ _ _ _, lastsV0 _ _ _ _, lastsV0 _ _ _ _, lastsV0 _ _ _ _, lastsV0 _ _ _ _, trivial⟩
      clear HA0
      refine ⟨?_, ?_, ?_, ?_, ?_, ?_, ?_, ?_, ?_, ?_, ?_, ?_, ?_, ?_, ?_, ?_, ?_, ?_, trivial⟩
      · refine StepG.of ?_
        refine stepB rfl rfl (by decide) (by rw [hz]; decide) rfl rfl (by kernel_rfl) St SG fun d a W hF hG hH hn hcl hw => ?_
        have q5 := (hF.same 5 (by decide)).trans e5
        refine ⟨hashV root, W, ?_, Below.refl _ _, ?_⟩
        · exact exec_load rfl (by rw [q5]; exact BoxH.load_ (BoxA.next z5 hG) hr)
        · rfl
      · refine StepG.of ?_
        refine stepB rfl rfl (by decide) (by rw [hz]; decide) rfl rfl (by kernel_rfl) St SG fun d a W hF hG hH hn hcl hw => ?_
        have q1 := (hF.same 1 (by decide)).trans e1
        refine ⟨.string ⟨s.toArray⟩, W, ?_, Below.refl _ _, ?_⟩
        · clear hF hG hH hn hcl hw
          generalize a.eval = ρ at *
          go_simp
        · rfl
      · refine StepG.of ?_
        refine stepB rfl rfl (by decide) (by rw [hz]; decide) rfl rfl (by kernel_rfl) St SG fun d a W hF hG hH hn hcl hw => ?_
        have q2 := (hF.same 2 (by decide)).trans e2
        refine ⟨.int .i64 i, W, ?_, Below.refl _ _, ?_⟩
        · clear hF hG hH hn hcl hw
          generalize a.eval = ρ at *
          go_simp
        · rfl
      · refine StepG.of ?_
        refine stepB rfl rfl (by decide) (by rw [hz]; decide) rfl rfl (by kernel_rfl) St SG fun d a W hF hG hH hn hcl hw => ?_
        have q3 := (hF.same 3 (by decide)).trans e3
        refine ⟨.int .i64 n, W, ?_, Below.refl _ _, ?_⟩
        · clear hF hG hH hn hcl hw
          generalize a.eval = ρ at *
          go_simp
        · rfl
      · refine StepG.of ?_
        refine stepB rfl rfl (by decide) (by rw [hz]; decide) rfl rfl (by kernel_rfl) St SG fun d a W hF hG hH hn hcl hw => ?_
        have q4 := (hF.same 4 (by decide)).trans e4
        refine ⟨.slice A k c, W, ?_, Below.refl _ _, ?_⟩
        · clear hF hG hH hn hcl hw
          generalize a.eval = ρ at *
          go_simp
        · rfl
      · refine StepG.of ?_
        refine stepC rfl rfl (by decide) (by rw [hz]; decide) rfl rfl (by kernel_rfl) St SG fun d a W hF hG hH hn hcl hw => ?_
        have q22 : a.eval (.tmp 22) = hashV root := hH.at_ (i := 0) rfl (hw 0 rfl) id
        have q23 : a.eval (.tmp 23) = .string ⟨s.toArray⟩ := hH.at_ (i := 1) rfl (hw 1 rfl) id
        have q24 : a.eval (.tmp 24) = .int .i64 i := hH.at_ (i := 2) rfl (hw 2 rfl) id
        have q25 : a.eval (.tmp 25) = .int .i64 n := hH.at_ (i := 3) rfl (hw 3 rfl) id
        have q26 : a.eval (.tmp 26) = .slice A k c := hH.at_ (i := 4) rfl (hw 4 rfl) id
        have qf : a.eval (.func 28) = .func (.func 28) #[] #[] := rfl
        refine ⟨28, #[hashV root, .string ⟨s.toArray⟩, .int .i64 i, .int .i64 n, .slice A k c], ?_, ?_⟩
        · clear hF hG hH hn hcl hw
          generalize a.eval = ρ at *
          go_simp
        · refine (HP.out W (hs2.next hG) (hk2.next hG)).mono ?_; rintro e W' ⟨rfl, b⟩; exact ⟨_, rfl, b, rfl⟩
      · refine StepG.of ?_
        refine stepB rfl rfl (by decide) (by rw [hz]; decide) rfl rfl (by kernel_rfl) St SG fun d a W hF hG hH hn hcl hw => ?_
        have q11 := (hF.same 11 (by decide)).trans e11
        refine ⟨wordsV, W, ?_, Below.refl _ _, ?_⟩
        · exact exec_load rfl (by rw [q11]; exact BoxW.load (BoxA.next x3 hG))
        · rfl
      · refine StepG.of ?_
        refine stepB rfl rfl (by decide) (by rw [hz]; decide) rfl rfl (by kernel_rfl) St SG fun d a W hF hG hH hn hcl hw => ?_
        have q5 := (hF.same 5 (by decide)).trans e5
        refine ⟨hashV root, W, ?_, Below.refl _ _, ?_⟩
        · exact exec_load rfl (by rw [q5]; exact BoxH.load_ (BoxA.next z5 hG) hr)
        · rfl
      · refine StepG.of ?_
        refine stepB rfl rfl (by decide) (by rw [hz]; decide) rfl rfl (by kernel_rfl) St SG fun d a W hF hG hH hn hcl hw => ?_
        have q1 := (hF.same 1 (by decide)).trans e1
        refine ⟨.string ⟨s.toArray⟩, W, ?_, Below.refl _ _, ?_⟩
        · clear hF hG hH hn hcl hw
          generalize a.eval = ρ at *
          go_simp
        · rfl
      · refine StepG.of ?_
        refine stepB rfl rfl (by decide) (by rw [hz]; decide) rfl rfl (by kernel_rfl) St SG fun d a W hF hG hH hn hcl hw => ?_
        have q2 := (hF.same 2 (by decide)).trans e2
        refine ⟨.int .i64 i, W, ?_, Below.refl _ _, ?_⟩
        · clear hF hG hH hn hcl hw
          generalize a.eval = ρ at *
          go_simp
        · rfl
      · refine StepG.of ?_
        refine stepB rfl rfl (by decide) (by rw [hz]; decide) rfl rfl (by kernel_rfl) St SG fun d a W hF hG hH hn hcl hw => ?_
        have q3 := (hF.same 3 (by decide)).trans e3
        refine ⟨.int .i64 n, W, ?_, Below.refl _ _, ?_⟩
        · clear hF hG hH hn hcl hw
          generalize a.eval = ρ at *
          go_simp
        · rfl
      · refine StepG.of ?_
        refine stepB rfl rfl (by decide) (by rw [hz]; decide) rfl rfl (by kernel_rfl) St SG fun d a W hF hG hH hn hcl hw => ?_
        have q4 := (hF.same 4 (by decide)).trans e4
        refine ⟨.slice A k c, W, ?_, Below.refl _ _, ?_⟩
        · clear hF hG hH hn hcl hw
          generalize a.eval = ρ at *
          go_simp
        · rfl
      · refine StepG.of ?_
        refine stepC rfl rfl (by decide) (by rw [hz]; decide) rfl rfl (by kernel_rfl) St SG fun d a W hF hG hH hn hcl hw => ?_
        have q28 : a.eval (.tmp 28) = wordsV := hH.at_ (i := 6) rfl (hw 6 rfl) id
        have q29 : a.eval (.tmp 29) = hashV root := hH.at_ (i := 7) rfl (hw 7 rfl) id
        have q30 : a.eval (.tmp 30) = .string ⟨s.toArray⟩ := hH.at_ (i := 8) rfl (hw 8 rfl) id
        have q31 : a.eval (.tmp 31) = .int .i64 i := hH.at_ (i := 9) rfl (hw 9 rfl) id
        have q32 : a.eval (.tmp 32) = .int .i64 n := hH.at_ (i := 10) rfl (hw 10 rfl) id
        have q33 : a.eval (.tmp 33) = .slice A k c := hH.at_ (i := 11) rfl (hw 11 rfl) id
        have qf : a.eval (.func 29) = .func (.func 29) #[] #[] := rfl
        refine ⟨29, #[wordsV, hashV root, .string ⟨s.toArray⟩, .int .i64 i, .int .i64 n, .slice A k c], ?_, ?_⟩
        · clear hF hG hH hn hcl hw
          generalize a.eval = ρ at *
          go_simp
        · refine (HV.out W (hs2.next hG)).mono ?_; rintro e W' ⟨rfl, b⟩; exact ⟨_, rfl, b, rfl⟩
      · refine StepG.of ?_
        refine stepB rfl rfl (by decide) (by rw [hz]; decide) rfl rfl (by kernel_rfl) St SG fun d a W hF hG hH hn hcl hw => ?_
        have q27 : a.eval (.tmp 27) = .bool x := hH.at_ (i := 5) rfl (hw 5 rfl) id
        have q34 : a.eval (.tmp 34) = .bool x := hH.at_ (i := 12) rfl (hw 12 rfl) id
        have r := hxx W
        refine ⟨.bool true, W, ?_, Below.refl _ _, ?_⟩
        · clear hF hG hH hn hcl hw
          generalize a.eval = ρ at *
          go_simp
        · rfl
      · refine StepG.of ?_
        refine stepB rfl rfl (by decide) (by rw [hz]; decide) rfl rfl (by kernel_rfl) St SG fun d a W hF hG hH hn hcl hw => ?_
        have q35 : a.eval (.tmp 35) = .bool true := hH.at_ (i := 13) rfl (hw 13 rfl) id
        refine ⟨.bool true, W, ?_, Below.refl _ _, ?_⟩
        · clear hF hG hH hn hcl hw
          generalize a.eval = ρ at *
          go_simp
        · rfl
      · refine StepG.on rfl (fun d a W hI hw => yielded_of rfl (hI.2.2.at_ (i := 14) rfl (hw 14 rfl) id)) ?_
        refine stepC rfl rfl (by decide) (by rw [hz]; decide) rfl rfl (by kernel_rfl) St SG fun d a W hF hG hH hn hcl hw => ?_
        have qf : a.eval (.func 17) = .func (.func 17) #[] #[] := rfl
        refine ⟨17, #[], ?_, ?_⟩
        · clear hF hG hH hn hcl hw
          generalize a.eval = ρ at *
          go_simp
        · refine (awake_any W (hk2.next hG)).mono ?_; rintro e W' ⟨rfl, b⟩; exact ⟨_, rfl, b, rfl⟩
      · refine StepG.of ?_
        refine stepB rfl rfl (by decide) (by rw [hz]; decide) rfl rfl (by kernel_rfl) St SG fun d a W hF hG hH hn hcl hw => ?_
        have q36 : a.eval (.tmp 36) = .bool true := hH.at_ (i := 14) rfl (hw 14 rfl) id
        have q37 : a.eval (.tmp 37) = .bool true := hH.at_ (i := 15) rfl (hw 15 rfl) id
        have qk1 : a.eval (.const (.bool false)) = .bool false := rfl
        refine ⟨.bool true, W, ?_, Below.refl _ _, ?_⟩
        · clear hF hG hH hn hcl hw
          generalize a.eval = ρ at *
          go_simp
        · rfl
      · refine StepG.of ?_
        refine stepB rfl rfl (by decide) (by rw [hz]; decide) rfl rfl (by kernel_rfl) St SG fun d a W hF hG hH hn hcl hw => ?_
        have q38 : a.eval (.tmp 38) = .bool true := hH.at_ (i := 16) rfl (hw 16 rfl) id
        refine ⟨.bool true, W, ?_, Below.refl _ _, ?_⟩
        · clear hF hG hH hn hcl hw
          generalize a.eval = ρ at *
          go_simp
        · rfl
    · intro d a W ⟨hF, hB, hH⟩ hall
      have k10 : a.eval (.tmp 10) = .bool true := hH.at_ (i := 17) rfl (hall 17 (by decide)) id
      clear hH hall
      rw [hF.shape (by rw [hz]; decide)]
      clear hF
      simp only [List.foldl]
      generalize a.eval (.tmp 22) = z22 at *
      generalize a.eval (.tmp 23) = z23 at *
      generalize a.eval (.tmp 24) = z24 at *
      generalize a.eval (.tmp 25) = z25 at *
      generalize a.eval (.tmp 26) = z26 at *
      generalize a.eval (.tmp 27) = z27 at *
      generalize a.eval (.tmp 28) = z28 at *
      generalize a.eval (.tmp 29) = z29 at *
      generalize a.eval (.tmp 30) = z30 at *
      generalize a.eval (.tmp 31) = z31 at *
      generalize a.eval (.tmp 32) = z32 at *
      generalize a.eval (.tmp 33) = z33 at *
      generalize a.eval (.tmp 34) = z34 at *
      generalize a.eval (.tmp 35) = z35 at *
      generalize a.eval (.tmp 36) = z36 at *
      generalize a.eval (.tmp 37) = z37 at *
      generalize a.eval (.tmp 38) = z38 at *
      generalize a.eval (.tmp 10) = z10 at *
      subst k10
      rw [HA0.out]
      simp only [Act.put, List.setIfInBounds_toArray, List.set_cons_zero, List.set_cons_succ]
      clear hz HA0 SG e1 e2 e3 e4 e5 e11
      clear a a0
      go_wp2_with (fail)
      go_ret
      exact ⟨rfl, Below.on BB hB⟩
end Go.Proofs.YtcocengpekndjaaDoor
