/- The walk over ProofRoots. -/
import Derived.Test.YtcocengpekndjaaDoorPrShort
import Derived.Test.YtcocengpekndjaaDoorPrProve
import Derived.Test.YtcocengpekndjaaDoorPrSame
import Derived.Test.YtcocengpekndjaaDoorPrOuter
import Derived.Test.YtcocengpekndjaaDoorPrAwake
import Derived.Test.YtcocengpekndjaaDoorPrSums
namespace Go.Proofs.YtcocengpekndjaaDoor
open Go.RowKit
set_option maxRecDepth 100000 in
set_option maxHeartbeats 4000000 in
theorem roots_long (L : List Bs) (i : Int) (A : Option Addr) (n c : Nat) (w : World) (hn : L.length = n) (hL : Strs w A L) (hsh : shortB L = false) (hk : Kon w) :
    Calls Tryd.prog 8 #[.slice A n c, .int .i64 i] w fun e w' => e = .returned (.bool true) ∧ Below w.heap.size w w' := by
  have HS := Lib.hid (short_any L A n c w hn hL)
  rw [hsh] at HS
  have HA := Lib.hid (fun W kon => awake_any W kon)
  clear hL hsh hn
  go_enter Tryd.func8, Tryd.ntmps8
  go_wp2_with (first
    | (go_at_call 30; refine HS.out.mono ?_; rintro e w1 ⟨rfl, b1⟩; have hk1 := hk.next b1)
    | (go_at_call 17; refine (HA.out _ hk1).mono ?_; rintro e w7 ⟨rfl, b7⟩))
  go_ret
  exact ⟨rfl, Below.on b1 b7⟩
set_option maxRecDepth 100000 in
set_option maxHeartbeats 4000000 in
theorem roots_full (L : List Bs) (i : Int) (A : Option Addr) (n c : Nat) (w : World) (hn : L.length = n) (hL : Strs w A L) (hne : (∃ a, A = some a) ∨ (A = none ∧ c = 0)) (_hc : n ≤ c) (hsh : shortB L = true) (hk : Kon w) (h4 : n = 4097) : Calls Tryd.prog 8 #[.slice A n c, .int .i64 i] w fun e w' => e = .returned (.bool true) ∧ Below w.heap.size w w' := by
  have HS := Lib.hid (short_any L A n c w hn hL)
  rw [hsh] at HS
  have HA := Lib.hid (fun W kon => awake_any W kon)
  have HN := Lib.hid hn
  have HNE := Lib.hid hne
  have m1 : (4096 : Int) < n := by omega
  have n5 : n ≤ 5000 := by omega
  have hq : ∀ W, (Op.equalIn 10000 30 (hashV zeroH) (hashV zeroH)).run Tryd.prog W = .ok true W := fun W => eq_hash zeroH_length zeroH_length true (by simp) W
  have hq' : ∀ W, (Op.equalIn 10000 30 (hashV zeroH) (Value.agg #[.int .u8 0, .int .u8 0, .int .u8 0, .int .u8 0, .int .u8 0, .int .u8 0, .int .u8 0, .int .u8 0, .int .u8 0, .int .u8 0, .int .u8 0, .int .u8 0, .int .u8 0, .int .u8 0, .int .u8 0, .int .u8 0, .int .u8 0, .int .u8 0, .int .u8 0, .int .u8 0, .int .u8 0, .int .u8 0, .int .u8 0, .int .u8 0, .int .u8 0, .int .u8 0, .int .u8 0, .int .u8 0, .int .u8 0, .int .u8 0, .int .u8 0, .int .u8 0])).run Tryd.prog W = .ok true W := fun W => hq W
  have HRT := Lib.hid (fun A1 c1 W => root_full A1 n c1 W (by omega))
  have HPR := Lib.hid (fun A1 c1 W => prove_bad A1 n c1 i W 5 (.inl ⟨by omega, rfl⟩))
  clear hsh hne _hc hn h4
  go_enter Tryd.func8, Tryd.ntmps8
  go_upto_region 5 with (first
    | (go_at_call 30; refine HS.out.mono ?_; rintro e w1 ⟨rfl, b1⟩; have hk1 := hk.next b1; have hL1 := hL.next b1)
    | (go_at_call 18; refine (constants_any _).mono ?_; rintro e w2 ⟨rfl, b2⟩; have hk2 := hk1.next b2; have hL2 := hL1.next b2)
    | (refine wpList_newW rfl (.tmp 5) (.tmp 15) rfl rfl rfl ?_; have x5 := withW_box w2; have bw := withW_below w2; have hk2' := hk2.next bw; have hL2' := hL2.next bw; have BB := Below.on (Below.on b1 b2) bw
       generalize withW w2 = wc at *; generalize w2.heap.size = g1 at *
       clear hk1 hk2 hL1 hL2 b1 b2 bw)
    | (at_builtin; refine wpList_append_strs rfl (.tmp 16) (.tmp 17) rfl wc.heap.size _ [] L A n c rfl rfl HN.out (OwnStrs.empty wc) (hL2'.next (Below.new1 wc _)) HNE.out (Nat.zero_le _) (by have := HN.out; omega) (by rw [World.size_alloc]; omega) ?_
       intro v w3 hO3 b3; rw [List.nil_append] at hO3
       have B3 := (Below.new1 wc (.cells #[] 9)).trans b3
       obtain ⟨A1, c1, rfl, hc1, hS3⟩ := hO3.toStrs
       rw [HN.out] at hc1 ⊢
       have hk3 := hk2'.next B3; have x53 := BoxA.next x5 B3; have hL3 := hL2'.next B3; have BB3 := Below.on BB B3))
  go_upto_region 7 with (first
    | (go_at_call 31; refine (HRT.out A1 c1 _).mono ?_; rintro e w4 ⟨rfl, b4⟩; have hk4 := hk3.next b4; have BB4 := Below.on BB3 b4)
    | (refine wpList_storeH rfl (.tmp 7) (.tmp 22) rfl w4.heap.size zeroH rfl rfl (BoxA.new w4 _ _ (List.replicate 32 0) _ rfl) (by simp) zeroH_length ?_
       have y7 : BoxH (World.setRow (World.alloc w4 (.cells (ints .u8 (List.replicate 32 0)) 30)) w4.heap.size (ints .u8 (nums zeroH))) w4.heap.size zeroH := (BoxA.new w4 30 .u8 (List.replicate 32 0) _ rfl).setRow (l' := nums zeroH)
       have b5 : Below w4.heap.size w4 (World.setRow (World.alloc w4 (.cells (ints .u8 (List.replicate 32 0)) 30)) w4.heap.size (ints .u8 (nums zeroH))) := below_setRow (Below.new1 w4 _) (Nat.le_refl _) _
       change wpList _ _ _ _ _ (World.setRow (World.alloc w4 (.cells (ints .u8 (List.replicate 32 0)) 30)) w4.heap.size (ints .u8 (nums zeroH)))
       generalize World.setRow (World.alloc w4 (.cells (ints .u8 (List.replicate 32 0)) 30)) w4.heap.size (ints .u8 (nums zeroH)) = w5 at *)
    | (go_at_call 32; refine (HPR.out A1 c1 _).mono ?_; rintro e w6 ⟨rfl, b6⟩))
  have y7' : BoxH w6 w4.heap.size zeroH := BoxA.next y7 b6
  have hk6 := (hk4.next b5).next b6
  go_wp2_with (first
    | (refine wpList_loadH rfl (.tmp 7) rfl w4.heap.size zeroH rfl y7' zeroH_length ?_)
    | (go_at_call 17; refine (HA.out _ hk6).mono ?_; rintro e w7 ⟨rfl, b7⟩))
  go_ret
  exact ⟨rfl, Below.on (Below.on (Below.on BB4 b5) b6) b7⟩
set_option maxRecDepth 100000 in
set_option maxHeartbeats 4000000 in
theorem roots_out (L : List Bs) (i : Int) (A : Option Addr) (n c : Nat) (w : World) (hn : L.length = n) (hL : Strs w A L) (hne : (∃ a, A = some a) ∨ (A = none ∧ c = 0)) (hc : n ≤ c) (hsh : shortB L = true) (hk : Kon w) (h4 : n ≤ 40) (hst : ∀ s ∈ L, s.length ≤ 4000) (hi : i < 0 ∨ (n : Int) ≤ i) : Calls Tryd.prog 8 #[.slice A n c, .int .i64 i] w fun e w' => e = .returned (.bool true) ∧ Below w.heap.size w w' := by
  have HS := Lib.hid (short_any L A n c w hn hL)
  rw [hsh] at HS
  have HA := Lib.hid (fun W kon => awake_any W kon)
  have HN := Lib.hid hn
  have HNE := Lib.hid hne
  have m1 : ¬ (4096 : Int) < n := by omega
  have n5 : n ≤ 40 := h4
  have hin : ∀ s ∈ L, s.length ≤ 90000 := fun s hs => Nat.le_trans (hst s hs) (by decide)
  have hx : (treeM sha L).length = 32 := treeM_length sha sha_length _
  have hrt := fun A1 c1 W (h : Strs W A1 L) kon => root_any L A1 n c1 W hn h hin (by omega) kon
  have htr := fun W (h : Strs W A L) => rtree_any L A n c W hn (by omega) hc hin h
  have HPR := Lib.hid (fun A1 c1 W => prove_bad A1 n c1 i W 3 (.inr ⟨by omega, hi, rfl⟩))
  generalize treeM sha L = x at *
  have hq : ∀ W, (Op.equalIn 10000 30 (hashV x) (hashV x)).run Tryd.prog W = .ok true W := fun W => eq_hash hx hx true (by simp) W
  have HX := Lib.hid hx
  have HRT := Lib.hid hrt
  have HT := Lib.hid htr
  have HQ := Lib.hid hq
  clear hsh hne hc hn h4 hst hin hx hrt htr hq
  go_enter Tryd.func8, Tryd.ntmps8
  go_upto_region 5 with (first
    | (go_at_call 30; refine HS.out.mono ?_; rintro e w1 ⟨rfl, b1⟩; have hk1 := hk.next b1; have hL1 := hL.next b1)
    | (go_at_call 18; refine (constants_any _).mono ?_; rintro e w2 ⟨rfl, b2⟩; have hk2 := hk1.next b2; have hL2 := hL1.next b2)
    | (refine wpList_newW rfl (.tmp 5) (.tmp 15) rfl rfl rfl ?_; have x5 := withW_box w2; have bw := withW_below w2; have hk2' := hk2.next bw; have hL2' := hL2.next bw; have BB := Below.on (Below.on b1 b2) bw
       generalize withW w2 = wc at *; generalize w2.heap.size = g1 at *
       clear hk1 hk2 hL1 hL2 b1 b2 bw)
    | (at_builtin; refine wpList_append_strs rfl (.tmp 16) (.tmp 17) rfl wc.heap.size _ [] L A n c rfl rfl HN.out (OwnStrs.empty wc) (hL2'.next (Below.new1 wc _)) HNE.out (Nat.zero_le _) (by have := HN.out; omega) (by rw [World.size_alloc]; omega) ?_
       intro v w3 hO3 b3; rw [List.nil_append] at hO3
       have B3 := (Below.new1 wc (.cells #[] 9)).trans b3
       obtain ⟨A1, c1, rfl, hc1, hS3⟩ := hO3.toStrs
       rw [HN.out] at hc1 ⊢
       have hk3 := hk2'.next B3; have x53 := BoxA.next x5 B3; have hL3 := hL2'.next B3; have BB3 := Below.on BB B3))
  go_upto_region 9 with (first
    | (go_at_call 31; refine (HRT.out A1 c1 _ hS3 hk3).mono ?_; rintro e w4 ⟨rfl, b4⟩; have hk4 := hk3.next b4; have BB4 := Below.on BB3 b4)
    | (refine wpList_storeH rfl (.tmp 7) (.tmp 22) rfl w4.heap.size x rfl rfl (BoxA.new w4 _ _ (List.replicate 32 0) _ rfl) (by simp) HX.out ?_
       have y7 : BoxH (World.setRow (World.alloc w4 (.cells (ints .u8 (List.replicate 32 0)) 30)) w4.heap.size (ints .u8 (nums x))) w4.heap.size x := (BoxA.new w4 30 .u8 (List.replicate 32 0) _ rfl).setRow (l' := nums x)
       have b5 : Below w4.heap.size w4 (World.setRow (World.alloc w4 (.cells (ints .u8 (List.replicate 32 0)) 30)) w4.heap.size (ints .u8 (nums x))) := below_setRow (Below.new1 w4 _) (Nat.le_refl _) _
       change wpList _ _ _ _ _ (World.setRow (World.alloc w4 (.cells (ints .u8 (List.replicate 32 0)) 30)) w4.heap.size (ints .u8 (nums x)))
       generalize World.setRow (World.alloc w4 (.cells (ints .u8 (List.replicate 32 0)) 30)) w4.heap.size (ints .u8 (nums x)) = w5 at *)
    | (go_at_call 32; refine (HPR.out A1 c1 _).mono ?_; rintro e w6 ⟨rfl, b6⟩))
  have y7' : BoxH w6 w4.heap.size x := BoxA.next y7 b6
  have x56 : BoxW w6 g1 := BoxA.next (BoxA.next (BoxA.next x53 b4) b5) b6
  have hk6 := (hk4.next b5).next b6
  have hL6 := ((hL3.next b4).next b5).next b6
  have BB6 := Below.on (Below.on BB4 b5) b6
  clear x53 hk4 hL3 b4 b5 b6 y7 BB4 hS3 hk3 HRT HPR
  refine wp_name fun a0 ha0 => ?_
  have e0 : a0.eval (.tmp 0) = .slice A n c := by rw [ha0]; rfl
  have e5 : a0.eval (.tmp 5) = .pointer (some ⟨g1, 0, none⟩) := by rw [ha0]; rfl
  have e7 : a0.eval (.tmp 7) = .pointer (some ⟨w4.heap.size, 0, none⟩) := by rw [ha0]; rfl
  have e8 : a0.eval (.tmp 8) = .int .i64 0 := by rw [ha0]; rfl
  have hz : a0.tmps.size = 94 := by rw [ha0]; rfl
  have HA0 := Lib.hid ha0
  clear ha0
  have SG : ∀ (d d' : Nat → Prop) (W W' : World), (fun (_ : Nat → Prop) (W : World) => Below w6.heap.size w6 W) d W → (∀ j, d j → d' j) → Below W.heap.size W W' → (fun (_ : Nat → Prop) (W : World) => Below w6.heap.size w6 W) d' W' := fun _ _ _ _ h _ b => Below.next h b
  refine wp_region_guards (Inv [52, 53, 54, 55, 56, 57, 58, 59, 60] a0 (fun (_ : Nat → Prop) (W : World) => Below w6.heap.size w6 W) [(⟨some 0, 52, none, fun v _ => v = hashV x⟩ : Cl), ⟨some 1, 53, none, fun v _ => v = wordsV⟩, ⟨some 2, 54, none, fun v _ => v = .slice A n c⟩, ⟨some 3, 55, none, fun v _ => v = hashV x⟩, ⟨some 4, 56, none, fun v _ => v = .bool false⟩, ⟨some 5, 57, none, fun v _ => v = .bool false⟩, ⟨some 6, 58, none, fun v _ => v = .int .i64 0⟩, ⟨some 7, 59, none, fun v _ => v = .bool false⟩, ⟨some 8, 60, none, fun v _ => v = .bool false⟩]) (by kernel_rfl) (by kernel_rfl) (Inv.start (Below.refl _ _).drew ⟨nofun, nofun, nofun, nofun, nofun, nofun, nofun, nofun, nofun, trivial⟩) ?_ ?_
  · have St : ∀ xc ∈ [(⟨some 0, 52, none, fun v _ => v = hashV x⟩ : Cl), ⟨some 1, 53, none, fun v _ => v = wordsV⟩, ⟨some 2, 54, none, fun v _ => v = .slice A n c⟩, ⟨some 3, 55, none, fun v _ => v = hashV x⟩, ⟨some 4, 56, none, fun v _ => v = .bool false⟩, ⟨some 5, 57, none, fun v _ => v = .bool false⟩, ⟨some 6, 58, none, fun v _ => v = .int .i64 0⟩, ⟨some 7, 59, none, fun v _ => v = .bool false⟩, ⟨some 8, 60, none, fun v _ => v = .bool false⟩], Lasts xc := AllC.mem ⟨lastsV0 _ _ _ _, lastsV0 _ _ _ _, lastsV0 _ _ _ _, lastsV0 _ _ _ _, lastsV0 _ _ _ _, lastsV0 _ _ _ _, lastsV0 _ _ _ _, lastsV0 _ _ _ _, lastsV0 _ _ _ _, trivial⟩
    clear HA0
    refine ⟨?_, ?_, ?_, ?_, ?_, ?_, ?_, ?_, ?_, trivial⟩
    · refine StepG.of ?_
      refine stepB rfl rfl (by decide) (by rw [hz]; decide) rfl rfl (by kernel_rfl) St SG fun d a W hF hG hH hn hcl hw => ?_
      have q7 := (hF.same 7 (by decide)).trans e7
      refine ⟨hashV x, W, ?_, Below.refl _ _, ?_⟩
      · exact exec_load rfl (by rw [q7]; exact BoxH.load_ (BoxA.next y7' hG) HX.out)
      · rfl
    · refine StepG.of ?_
      refine stepB rfl rfl (by decide) (by rw [hz]; decide) rfl rfl (by kernel_rfl) St SG fun d a W hF hG hH hn hcl hw => ?_
      have q5 := (hF.same 5 (by decide)).trans e5
      refine ⟨wordsV, W, ?_, Below.refl _ _, ?_⟩
      · exact exec_load rfl (by rw [q5]; exact BoxW.load (BoxA.next x56 hG))
      · rfl
    · refine StepG.of ?_
      refine stepB rfl rfl (by decide) (by rw [hz]; decide) rfl rfl (by kernel_rfl) St SG fun d a W hF hG hH hn hcl hw => ?_
      have q0 := (hF.same 0 (by decide)).trans e0
      refine ⟨.slice A n c, W, ?_, Below.refl _ _, ?_⟩
      · clear hF hG hH hn hcl hw
        generalize a.eval = ρ at *
        go_simp
      · rfl
    · refine StepG.of ?_
      refine stepC rfl rfl (by decide) (by rw [hz]; decide) rfl rfl (by kernel_rfl) St SG fun d a W hF hG hH hn hcl hw => ?_
      have q53 : a.eval (.tmp 53) = wordsV := hH.at_ (i := 1) rfl (hw 1 rfl) id
      have q54 : a.eval (.tmp 54) = .slice A n c := hH.at_ (i := 2) rfl (hw 2 rfl) id
      have qf : a.eval (.func 33) = .func (.func 33) #[] #[] := rfl
      refine ⟨33, #[wordsV, .slice A n c], ?_, ?_⟩
      · clear hF hG hH hn hcl hw
        generalize a.eval = ρ at *
        go_simp
      · refine (HT.out W (hL6.next hG)).mono ?_; rintro e W' ⟨rfl, b⟩; exact ⟨_, rfl, b, rfl⟩
    · refine StepG.of ?_
      refine stepB rfl rfl (by decide) (by rw [hz]; decide) rfl rfl (by kernel_rfl) St SG fun d a W hF hG hH hn hcl hw => ?_
      have q52 : a.eval (.tmp 52) = hashV x := hH.at_ (i := 0) rfl (hw 0 rfl) id
      have q55 : a.eval (.tmp 55) = hashV x := hH.at_ (i := 3) rfl (hw 3 rfl) id
      have r := HQ.out W
      refine ⟨.bool false, W, ?_, Below.refl _ _, ?_⟩
      · clear hF hG hH hn hcl hw
        generalize a.eval = ρ at *
        go_simp
      · rfl
    · refine StepG.of ?_
      refine stepB rfl rfl (by decide) (by rw [hz]; decide) rfl rfl (by kernel_rfl) St SG fun d a W hF hG hH hn hcl hw => ?_
      have q56 : a.eval (.tmp 56) = .bool false := hH.at_ (i := 4) rfl (hw 4 rfl) id
      refine ⟨.bool false, W, ?_, Below.refl _ _, ?_⟩
      · clear hF hG hH hn hcl hw
        generalize a.eval = ρ at *
        go_simp
      · rfl
    · refine StepG.on rfl (fun d a W hI hw => yielded_of rfl (hI.2.2.at_ (i := 5) rfl (hw 5 rfl) id)) ?_
      refine stepB rfl rfl (by decide) (by rw [hz]; decide) rfl rfl (by kernel_rfl) St SG fun d a W hF hG hH hn hcl hw => ?_
      have q8 := (hF.same 8 (by decide)).trans e8
      refine ⟨.int .i64 0, W, ?_, Below.refl _ _, ?_⟩
      · clear hF hG hH hn hcl hw
        generalize a.eval = ρ at *
        go_simp
      · rfl
    · refine StepG.on rfl (fun d a W hI hw => yielded_of rfl (hI.2.2.at_ (i := 5) rfl (hw 5 rfl) id)) ?_
      refine stepB rfl rfl (by decide) (by rw [hz]; decide) rfl rfl (by kernel_rfl) St SG fun d a W hF hG hH hn hcl hw => ?_
      have q58 : a.eval (.tmp 58) = .int .i64 0 := hH.at_ (i := 6) rfl (hw 6 rfl) id
      have qc0 : a.eval (.const (.int .i64 0)) = .int .i64 0 := rfl
      refine ⟨.bool false, W, ?_, Below.refl _ _, ?_⟩
      · clear hF hG hH hn hcl hw
        generalize a.eval = ρ at *
        go_simp
      · rfl
    · refine StepG.of ?_
      refine stepB rfl rfl (by decide) (by rw [hz]; decide) rfl rfl (by kernel_rfl) St SG fun d a W hF hG hH hn hcl hw => ?_
      have q57 : a.eval (.tmp 57) = .bool false := hH.at_ (i := 5) rfl (hw 5 rfl) id
      have q59 : a.eval (.tmp 59) = .bool false := hH.at_ (i := 7) rfl (hw 7 rfl) id
      have qk0 : a.eval (.const (.bool true)) = .bool true := rfl
      refine ⟨.bool false, W, ?_, Below.refl _ _, ?_⟩
      · clear hF hG hH hn hcl hw
        generalize a.eval = ρ at *
        go_simp
      · rfl
  · intro d a W ⟨hF, hB, hH⟩ hall
    have k60 : a.eval (.tmp 60) = .bool false := hH.at_ (i := 8) rfl (hall 8 (by decide)) id
    clear hH hall
    rw [hF.shape (by rw [hz]; decide)]
    clear hF
    simp only [List.foldl]
    generalize a.eval (.tmp 52) = z52 at *
    generalize a.eval (.tmp 53) = z53 at *
    generalize a.eval (.tmp 54) = z54 at *
    generalize a.eval (.tmp 55) = z55 at *
    generalize a.eval (.tmp 56) = z56 at *
    generalize a.eval (.tmp 57) = z57 at *
    generalize a.eval (.tmp 58) = z58 at *
    generalize a.eval (.tmp 59) = z59 at *
    generalize a.eval (.tmp 60) = z60 at *
    subst k60
    rw [HA0.out]
    simp only [Act.put, List.setIfInBounds_toArray, List.set_cons_zero, List.set_cons_succ]
    clear hz HA0 SG e0 e5 e7 e8
    clear a a0
    have hk8 := hk6.next hB
    have hi' : i < 0 ∨ (¬ i < 0 ∧ (n : Int) ≤ i) := by omega
    clear hi
    rcases hi' with j1 | ⟨j1, j2⟩
    all_goals
      go_wp2_with (go_at_call 17; refine (HA.out _ hk8).mono ?_; rintro e w11 ⟨rfl, b11⟩)
      go_ret
      exact ⟨rfl, Below.on (Below.on BB6 hB) b11⟩
set_option maxRecDepth 100000 in
set_option maxHeartbeats 4000000 in
theorem roots_in (L : List Bs) (i : Nat) (A : Option Addr) (n c : Nat) (w : World) (hn : L.length = n) (hL : Strs w A L) (hne : (∃ a, A = some a) ∨ (A = none ∧ c = 0)) (hc : n ≤ c) (hsh : shortB L = true) (hk : Kon w) (h4 : n ≤ 40) (hst : ∀ s ∈ L, s.length ≤ 4000) (hi : i < n) : Calls Tryd.prog 8 #[.slice A n c, .int .i64 i] w fun e w' => e = .returned (.bool true) ∧ Below w.heap.size w w' := by
  have HS := Lib.hid (short_any L A n c w hn hL)
  rw [hsh] at HS
  have HA := Lib.hid (fun W kon => awake_any W kon)
  have HN := Lib.hid hn
  have HNE := Lib.hid hne
  have m1 : ¬ (4096 : Int) < n := by omega
  have n5 : n ≤ 40 := h4
  have hin : ∀ s ∈ L, s.length ≤ 90000 := fun s hs => Nat.le_trans (hst s hs) (by decide)
  have hx : (treeM sha L).length = 32 := treeM_length sha sha_length _
  have hrt := fun A1 c1 W (h : Strs W A1 L) kon => root_any L A1 n c1 W hn h hin (by omega) kon
  have htr := fun W (h : Strs W A L) => rtree_any L A n c W hn (by omega) hc hin h
  have hpr := fun A1 c1 W (h : Strs W A1 L) kon => prove_any L A1 n c1 i W hn h hin (by omega) hi kon
  have hou := fun W (h : Strs W A L) => router_any L i ((i : Int) + 1) A n c W hn (by omega) (by omega) hc (by omega) (by omega) (by omega) (by omega) hin h
  have hvl := visitM_length n (L.map (leafM sha)) i ((i : Int) + 1) (by rw [List.length_map]; omega)
  rw [List.length_map, hn] at hvl
  have hw : IntKind.i64.wrap ((i : Int) + 1) = i + 1 := IntWalk.i64_in _ (by omega)
  have i0 : ¬ (i : Int) < 0 := by omega
  have i1 : ¬ (n : Int) ≤ i := by omega
  have hsa := fun B c' c'' A1 W hA hB => same_yes (visitM sha (L.map (leafM sha)) i ((i : Int) + 1)) A1 B _ c' c'' W rfl (by omega) hA hB
  generalize visitM sha (L.map (leafM sha)) i ((i : Int) + 1) = V at *
  have HPR := Lib.hid hpr
  have HOU := Lib.hid hou
  have HSA := Lib.hid hsa
  have HVL := Lib.hid hvl
  generalize treeM sha L = x at *
  have hq : ∀ W, (Op.equalIn 10000 30 (hashV x) (hashV x)).run Tryd.prog W = .ok true W := fun W => eq_hash hx hx true (by simp) W
  have HX := Lib.hid hx
  have HRT := Lib.hid hrt
  have HT := Lib.hid htr
  have HQ := Lib.hid hq
  clear hsh hne hc hn h4 hst hin hx hrt htr hq hpr hou hsa hvl hi
  go_enter Tryd.func8, Tryd.ntmps8
  go_upto_region 5 with (first
    | (go_at_call 30; refine HS.out.mono ?_; rintro e w1 ⟨rfl, b1⟩; have hk1 := hk.next b1; have hL1 := hL.next b1)
    | (go_at_call 18; refine (constants_any _).mono ?_; rintro e w2 ⟨rfl, b2⟩; have hk2 := hk1.next b2; have hL2 := hL1.next b2)
    | (refine wpList_newW rfl (.tmp 5) (.tmp 15) rfl rfl rfl ?_; have x5 := withW_box w2; have bw := withW_below w2; have hk2' := hk2.next bw; have hL2' := hL2.next bw; have BB := Below.on (Below.on b1 b2) bw
       generalize withW w2 = wc at *; generalize w2.heap.size = g1 at *
       clear hk1 hk2 hL1 hL2 b1 b2 bw)
    | (at_builtin; refine wpList_append_strs rfl (.tmp 16) (.tmp 17) rfl wc.heap.size _ [] L A n c rfl rfl HN.out (OwnStrs.empty wc) (hL2'.next (Below.new1 wc _)) HNE.out (Nat.zero_le _) (by have := HN.out; omega) (by rw [World.size_alloc]; omega) ?_
       intro v w3 hO3 b3; rw [List.nil_append] at hO3
       have B3 := (Below.new1 wc (.cells #[] 9)).trans b3
       obtain ⟨A1, c1, rfl, hc1, hS3⟩ := hO3.toStrs
       rw [HN.out] at hc1 ⊢
       have hk3 := hk2'.next B3; have x53 := BoxA.next x5 B3; have hL3 := hL2'.next B3; have BB3 := Below.on BB B3))
  go_upto_region 9 with (first
    | (go_at_call 31; refine (HRT.out A1 c1 _ hS3 hk3).mono ?_; rintro e w4 ⟨rfl, b4⟩; have hk4 := hk3.next b4; have BB4 := Below.on BB3 b4)
    | (refine wpList_storeH rfl (.tmp 7) (.tmp 22) rfl w4.heap.size x rfl rfl (BoxA.new w4 _ _ (List.replicate 32 0) _ rfl) (by simp) HX.out ?_
       have y7 : BoxH (World.setRow (World.alloc w4 (.cells (ints .u8 (List.replicate 32 0)) 30)) w4.heap.size (ints .u8 (nums x))) w4.heap.size x := (BoxA.new w4 30 .u8 (List.replicate 32 0) _ rfl).setRow (l' := nums x)
       have b5 : Below w4.heap.size w4 (World.setRow (World.alloc w4 (.cells (ints .u8 (List.replicate 32 0)) 30)) w4.heap.size (ints .u8 (nums x))) := below_setRow (Below.new1 w4 _) (Nat.le_refl _) _
       change wpList _ _ _ _ _ (World.setRow (World.alloc w4 (.cells (ints .u8 (List.replicate 32 0)) 30)) w4.heap.size (ints .u8 (nums x)))
       generalize World.setRow (World.alloc w4 (.cells (ints .u8 (List.replicate 32 0)) 30)) w4.heap.size (ints .u8 (nums x)) = w5 at *)
    | (go_at_call 32; refine (HPR.out A1 c1 _ ((hS3.next b4).next b5) ((hk3.next b4).next b5)).mono ?_; rintro e w6 ⟨v, rfl, hO6, b6⟩; obtain ⟨A6, c6, rfl, hc6, hs6⟩ := hO6.toHs))
  have y7' : BoxH w6 w4.heap.size x := BoxA.next y7 b6
  have x56 : BoxW w6 g1 := BoxA.next (BoxA.next (BoxA.next x53 b4) b5) b6
  have hk6 := (hk4.next b5).next b6
  have hL6 := ((hL3.next b4).next b5).next b6
  have BB6 := Below.on (Below.on BB4 b5) b6
  clear x53 hk4 hL3 b4 b5 b6 y7 BB4 hS3 hk3 HRT HPR
  refine wp_name fun a0 ha0 => ?_
  have e0 : a0.eval (.tmp 0) = .slice A n c := by rw [ha0]; rfl
  have e5 : a0.eval (.tmp 5) = .pointer (some ⟨g1, 0, none⟩) := by rw [ha0]; rfl
  have e7 : a0.eval (.tmp 7) = .pointer (some ⟨w4.heap.size, 0, none⟩) := by rw [ha0]; rfl
  have e8 : a0.eval (.tmp 8) = .int .i64 0 := by rw [ha0]; rfl
  have hz : a0.tmps.size = 94 := by rw [ha0]; rfl
  have HA0 := Lib.hid ha0
  clear ha0
  have SG : ∀ (d d' : Nat → Prop) (W W' : World), (fun (_ : Nat → Prop) (W : World) => Below w6.heap.size w6 W) d W → (∀ j, d j → d' j) → Below W.heap.size W W' → (fun (_ : Nat → Prop) (W : World) => Below w6.heap.size w6 W) d' W' := fun _ _ _ _ h _ b => Below.next h b
  refine wp_region_guards (Inv [52, 53, 54, 55, 56, 57, 58, 59, 60] a0 (fun (_ : Nat → Prop) (W : World) => Below w6.heap.size w6 W) [(⟨some 0, 52, none, fun v _ => v = hashV x⟩ : Cl), ⟨some 1, 53, none, fun v _ => v = wordsV⟩, ⟨some 2, 54, none, fun v _ => v = .slice A n c⟩, ⟨some 3, 55, none, fun v _ => v = hashV x⟩, ⟨some 4, 56, none, fun v _ => v = .bool false⟩, ⟨some 5, 57, none, fun v _ => v = .bool false⟩, ⟨some 6, 58, none, fun v _ => v = .int .i64 0⟩, ⟨some 7, 59, none, fun v _ => v = .bool false⟩, ⟨some 8, 60, none, fun v _ => v = .bool false⟩]) (by kernel_rfl) (by kernel_rfl) (Inv.start (Below.refl _ _).drew ⟨nofun, nofun, nofun, nofun, nofun, nofun, nofun, nofun, nofun, trivial⟩) ?_ ?_
  · have St : ∀ xc ∈ [(⟨some 0, 52, none, fun v _ => v = hashV x⟩ : Cl), ⟨some 1, 53, none, fun v _ => v = wordsV⟩, ⟨some 2, 54, none, fun v _ => v = .slice A n c⟩, ⟨some 3, 55, none, fun v _ => v = hashV x⟩, ⟨some 4, 56, none, fun v _ => v = .bool false⟩, ⟨some 5, 57, none, fun v _ => v = .bool false⟩, ⟨some 6, 58, none, fun v _ => v = .int .i64 0⟩, ⟨some 7, 59, none, fun v _ => v = .bool false⟩, ⟨some 8, 60, none, fun v _ => v = .bool false⟩], Lasts xc := AllC.mem ⟨lastsV0 _ _ _ _, lastsV0 _ _ _ _, lastsV0 _ _ _ _, lastsV0 _ _ _ _, lastsV0 _ _ _ _, lastsV0 _ _ _ _, lastsV0 _ _ _ _, lastsV0 _ _ _ _, lastsV0 _ _ _ _, trivial⟩
    clear HA0
    refine ⟨?_, ?_, ?_, ?_, ?_, ?_, ?_, ?_, ?_, trivial⟩
    · refine StepG.of ?_
      refine stepB rfl rfl (by decide) (by rw [hz]; decide) rfl rfl (by kernel_rfl) St SG fun d a W hF hG hH hn hcl hw => ?_
      have q7 := (hF.same 7 (by decide)).trans e7
      refine ⟨hashV x, W, ?_, Below.refl _ _, ?_⟩
      · exact exec_load rfl (by rw [q7]; exact BoxH.load_ (BoxA.next y7' hG) HX.out)
      · rfl
    · refine StepG.of ?_
      refine stepB rfl rfl (by decide) (by rw [hz]; decide) rfl rfl (by kernel_rfl) St SG fun d a W hF hG hH hn hcl hw => ?_
      have q5 := (hF.same 5 (by decide)).trans e5
      refine ⟨wordsV, W, ?_, Below.refl _ _, ?_⟩
      · exact exec_load rfl (by rw [q5]; exact BoxW.load (BoxA.next x56 hG))
      · rfl
    · refine StepG.of ?_
      refine stepB rfl rfl (by decide) (by rw [hz]; decide) rfl rfl (by kernel_rfl) St SG fun d a W hF hG hH hn hcl hw => ?_
      have q0 := (hF.same 0 (by decide)).trans e0
      refine ⟨.slice A n c, W, ?_, Below.refl _ _, ?_⟩
      · clear hF hG hH hn hcl hw
        generalize a.eval = ρ at *
        go_simp
      · rfl
    · refine StepG.of ?_
      refine stepC rfl rfl (by decide) (by rw [hz]; decide) rfl rfl (by kernel_rfl) St SG fun d a W hF hG hH hn hcl hw => ?_
      have q53 : a.eval (.tmp 53) = wordsV := hH.at_ (i := 1) rfl (hw 1 rfl) id
      have q54 : a.eval (.tmp 54) = .slice A n c := hH.at_ (i := 2) rfl (hw 2 rfl) id
      have qf : a.eval (.func 33) = .func (.func 33) #[] #[] := rfl
      refine ⟨33, #[wordsV, .slice A n c], ?_, ?_⟩
      · clear hF hG hH hn hcl hw
        generalize a.eval = ρ at *
        go_simp
      · refine (HT.out W (hL6.next hG)).mono ?_; rintro e W' ⟨rfl, b⟩; exact ⟨_, rfl, b, rfl⟩
    · refine StepG.of ?_
      refine stepB rfl rfl (by decide) (by rw [hz]; decide) rfl rfl (by kernel_rfl) St SG fun d a W hF hG hH hn hcl hw => ?_
      have q52 : a.eval (.tmp 52) = hashV x := hH.at_ (i := 0) rfl (hw 0 rfl) id
      have q55 : a.eval (.tmp 55) = hashV x := hH.at_ (i := 3) rfl (hw 3 rfl) id
      have r := HQ.out W
      refine ⟨.bool false, W, ?_, Below.refl _ _, ?_⟩
      · clear hF hG hH hn hcl hw
        generalize a.eval = ρ at *
        go_simp
      · rfl
    · refine StepG.of ?_
      refine stepB rfl rfl (by decide) (by rw [hz]; decide) rfl rfl (by kernel_rfl) St SG fun d a W hF hG hH hn hcl hw => ?_
      have q56 : a.eval (.tmp 56) = .bool false := hH.at_ (i := 4) rfl (hw 4 rfl) id
      refine ⟨.bool false, W, ?_, Below.refl _ _, ?_⟩
      · clear hF hG hH hn hcl hw
        generalize a.eval = ρ at *
        go_simp
      · rfl
    · refine StepG.on rfl (fun d a W hI hw => yielded_of rfl (hI.2.2.at_ (i := 5) rfl (hw 5 rfl) id)) ?_
      refine stepB rfl rfl (by decide) (by rw [hz]; decide) rfl rfl (by kernel_rfl) St SG fun d a W hF hG hH hn hcl hw => ?_
      have q8 := (hF.same 8 (by decide)).trans e8
      refine ⟨.int .i64 0, W, ?_, Below.refl _ _, ?_⟩
      · clear hF hG hH hn hcl hw
        generalize a.eval = ρ at *
        go_simp
      · rfl
    · refine StepG.on rfl (fun d a W hI hw => yielded_of rfl (hI.2.2.at_ (i := 5) rfl (hw 5 rfl) id)) ?_
      refine stepB rfl rfl (by decide) (by rw [hz]; decide) rfl rfl (by kernel_rfl) St SG fun d a W hF hG hH hn hcl hw => ?_
      have q58 : a.eval (.tmp 58) = .int .i64 0 := hH.at_ (i := 6) rfl (hw 6 rfl) id
      have qc0 : a.eval (.const (.int .i64 0)) = .int .i64 0 := rfl
      refine ⟨.bool false, W, ?_, Below.refl _ _, ?_⟩
      · clear hF hG hH hn hcl hw
        generalize a.eval = ρ at *
        go_simp
      · rfl
    · refine StepG.of ?_
      refine stepB rfl rfl (by decide) (by rw [hz]; decide) rfl rfl (by kernel_rfl) St SG fun d a W hF hG hH hn hcl hw => ?_
      have q57 : a.eval (.tmp 57) = .bool false := hH.at_ (i := 5) rfl (hw 5 rfl) id
      have q59 : a.eval (.tmp 59) = .bool false := hH.at_ (i := 7) rfl (hw 7 rfl) id
      have qk0 : a.eval (.const (.bool true)) = .bool true := rfl
      refine ⟨.bool false, W, ?_, Below.refl _ _, ?_⟩
      · clear hF hG hH hn hcl hw
        generalize a.eval = ρ at *
        go_simp
      · rfl
  · intro d a W ⟨hF, hB, hH⟩ hall
    have k60 : a.eval (.tmp 60) = .bool false := hH.at_ (i := 8) rfl (hall 8 (by decide)) id
    clear hH hall
    rw [hF.shape (by rw [hz]; decide)]
    clear hF
    simp only [List.foldl]
    generalize a.eval (.tmp 52) = z52 at *
    generalize a.eval (.tmp 53) = z53 at *
    generalize a.eval (.tmp 54) = z54 at *
    generalize a.eval (.tmp 55) = z55 at *
    generalize a.eval (.tmp 56) = z56 at *
    generalize a.eval (.tmp 57) = z57 at *
    generalize a.eval (.tmp 58) = z58 at *
    generalize a.eval (.tmp 59) = z59 at *
    generalize a.eval (.tmp 60) = z60 at *
    subst k60
    rw [HA0.out]
    simp only [Act.put, List.setIfInBounds_toArray, List.set_cons_zero, List.set_cons_succ]
    clear hz HA0 SG e0 e5 e7 e8
    clear a a0
    have hk8 := hk6.next hB
    have hL8 := hL6.next hB
    have x58 : BoxW W g1 := BoxA.next x56 hB
    have hs8 := hs6.next hB
    have BB8 := Below.on BB6 hB
    clear hk6 hL6 x56 hs6 BB6 hB
    go_wp2_with (first
      | (refine wpList_load_at rfl 27 (.tmp 5) rfl wordsV (BoxW.load x58) ?_)
      | (go_at_call 35; refine (HOU.out _ hL8).mono ?_; rintro e w9 ⟨v, rfl, hO9, b9⟩; obtain ⟨A9, c9, rfl, hc9, hs9⟩ := hO9.toHs)
      | (go_at_call 34; refine (HSA.out A9 c6 c9 A6 _ (hs8.next b9) hs9).mono ?_; rintro e w10 ⟨rfl, b10⟩; have hk10 := (hk8.next b9).next b10)
      | (go_at_call 17; refine (HA.out _ hk10).mono ?_; rintro e w11 ⟨rfl, b11⟩))
    go_ret
    exact ⟨rfl, Below.on (Below.on (Below.on BB8 b9) b10) b11⟩
theorem proofRoots_any (L : List Bs) (i : Int) (A : Option Addr) (c : Nat) (w : World) (hc : L.length ≤ c) (hL : Strs w A L) (hne : (∃ a, A = some a) ∨ (A = none ∧ c = 0)) (hk : Kon w) :
    Calls Tryd.prog 8 #[.slice A L.length c, .int .i64 i] w fun e w' => e = .returned (.bool true) ∧ Below w.heap.size w w' := by
  cases hsh : shortB L with
  | false => exact roots_long L i A _ c w rfl hL hsh hk
  | true =>
    rcases shortB_len hsh with ⟨h4, hst⟩ | h4
    · by_cases hi : i < 0 ∨ (L.length : Int) ≤ i
      · exact roots_out L i A _ c w rfl hL hne hc hsh hk h4 hst hi
      · obtain ⟨k, rfl⟩ := Int.eq_ofNat_of_zero_le (show 0 ≤ i by omega)
        exact roots_in L k A _ c w rfl hL hne hc hsh hk h4 hst (by omega)
    · exact roots_full L i A _ c w rfl hL hne hc hsh hk h4
end Go.Proofs.YtcocengpekndjaaDoor
