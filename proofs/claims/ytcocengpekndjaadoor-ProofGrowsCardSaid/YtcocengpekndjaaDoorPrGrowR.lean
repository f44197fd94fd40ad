/- The walk over Grown of the reference: the right half. -/
import Derived.Test.YtcocengpekndjaaDoorPrGrown
namespace Go.Proofs.YtcocengpekndjaaDoor
open Go.RowKit
set_option maxRecDepth 100000 in
set_option maxHeartbeats 4000000 in
theorem gr_right (q : Nat) (ih : GrOk q) (old : Bs) (m n : Nat) (whole : Bool) (path : List Bs) (A : Option Addr) (k c : Nat) (w : World) (hq : n ≤ q + 1) (h2 : 2 ≤ n) (_h1 : 1 ≤ m) (hm : ¬ m ≤ half n) (hmn : m < n) (hn : n ≤ 5000) (hk : path.length = k) (hkc : k ≤ c) (hk5 : k ≤ 5000) (ho : old.length = 32) (hs : Hs w A path) :
    Calls Tryd.prog 81 #[wordsV, hashV old, .int .i64 m, .int .i64 n, .bool whole, .slice A k c] w fun e w' => e = .returned (grownV (grownR old m n whole path)) ∧ Below w.heap.size w w' := by
  have hr := half_range h2
  obtain ⟨R, hR⟩ : ∃ R, grownR old (m - half n) (n - half n) false path = R := ⟨_, rfl⟩
  obtain ⟨g1, g2⟩ := grownR_right (old := old) (whole := whole) (path := path) h2 hm (by omega) hR
  have r32 := grownR_32 hs.1 n old (m - half n) (n - half n) false (by omega) (by omega) (by omega) ho
  have p1 := fun W (h : Hs W A path) => ih old (m - half n) (n - half n) false path A k c W (by omega) (by omega) (by omega) (by omega) hk hkc hk5 ho h
  rw [hR] at r32 p1
  have hf := fun W => rhalf_any n W h2 (by omega)
  obtain ⟨x1, x2, u, ok⟩ := R
  obtain ⟨la, lb, lu⟩ := r32
  simp only at la lb lu g1 g2
  clear hR ih
  generalize half n = K at *
  have e1 : ((m - K : Nat) : Int) = (m : Int) - K := by omega
  have e2 : ((n - K : Nat) : Int) = (n : Int) - K := by omega
  simp only [e1, e2] at p1
  clear e1 e2
  obtain ⟨w0, hW0⟩ : ∃ w0, World.alloc (World.alloc (World.alloc (World.alloc w (.cells (ints .u32 wordsL) 27)) (.cells (cellsB old).toArray 30)) (.cells (ints .u8 (List.replicate 32 0)) 30)) (.cells (ints .u8 (List.replicate 32 0)) 30) = w0 := ⟨_, rfl⟩
  have B0 : Below w.heap.size w w0 := hW0 ▸ Below.on (Below.on (Below.on (Below.new1 _ _) (Below.new1 _ _)) (Below.new1 _ _)) (Below.new1 _ _)
  have y6 : BoxW w0 w.heap.size := hW0 ▸ (((BoxW.new w).next (Below.new1 _ _)).next (Below.new1 _ _)).next (Below.new1 _ _)
  have y7 : BoxH w0 (w.heap.size + 1) old := by
    have := ((BoxH.new (w.alloc (.cells (ints .u32 wordsL) 27)) old).next (Below.new1 _ (.cells (ints .u8 (List.replicate 32 0)) 30))).next (Below.new1 _ (.cells (ints .u8 (List.replicate 32 0)) 30))
    rw [World.size_alloc] at this; exact hW0 ▸ this
  have x12 : BoxA w0 (w.heap.size + 1 + 1) 30 .u8 (List.replicate 32 0) := by
    have := (BoxA.new ((w.alloc (.cells (ints .u32 wordsL) 27)).alloc (.cells (cellsB old).toArray 30)) 30 .u8 (List.replicate 32 0) _ rfl).next (Below.new1 _ (.cells (ints .u8 (List.replicate 32 0)) 30))
    rw [World.size_alloc, World.size_alloc] at this; exact hW0 ▸ this
  have x13 : BoxA w0 (w.heap.size + 1 + 1 + 1) 30 .u8 (List.replicate 32 0) := by
    have := BoxA.new (((w.alloc (.cells (ints .u32 wordsL) 27)).alloc (.cells (cellsB old).toArray 30)).alloc (.cells (ints .u8 (List.replicate 32 0)) 30)) 30 .u8 (List.replicate 32 0) _ rfl
    rw [World.size_alloc, World.size_alloc, World.size_alloc] at this; exact hW0 ▸ this
  have hs0 := hs.next B0
  have i0 := hs.inB
  have z0 : w.heap.size + 1 + 1 + 1 < w0.heap.size := x13.lt
  have G0 : GB w0 (w.heap.size + 1 + 1) (w.heap.size + 1 + 1 + 1) (fun _ => False) w0.drew := GB.next (d := fun _ => False) ⟨But2.refl _ _ _, ⟨_, x12, by simp⟩, ⟨_, x13, by simp⟩⟩ (Below.drawn w0 1 _)
  have hld : ∀ (hu : u < path.length), ∃ ad, A = some ad ∧ ∀ W, Hs W A path → (Instr.loadAt 30 (.pointer (some (ad.add (u * 32))))).run Tryd.prog W = .ok (hashV (path[u]'hu)) W := fun hu => by
    obtain ⟨_, h | ⟨ad, e, _⟩⟩ := hs
    · rw [h] at hu; simp at hu
    · exact ⟨ad, e, fun W hW => by subst e; exact hW.load (i := u) hu _ 32 5 (by kernel_rfl) szHash⟩
  have mn : ((m : Int) == n) = false := by simp; omega
  have mK : ¬ (m : Int) ≤ (K : Int) := by omega
  have P1 := Lib.hid p1
  have HF := Lib.hid hf
  have HK := Lib.hid hk
  have HLD := Lib.hid hld
  have HG1 := Lib.hid g1
  have HG2 := Lib.hid g2
  have HS := Lib.hid hs
  clear p1 hf hk hld g1 g2 hs
  have HO := Lib.hid hW0
  clear hW0
  go_enter Tryd.func81, Tryd.ntmps81
  go_upto_region 13 with (go_at_call 78; refine (HF.out _).mono ?_; rintro e w' ⟨rfl, rfl⟩)
  change Code.wp _ _ _ _ (World.alloc (World.alloc (World.alloc (World.alloc w (.cells (ints .u32 wordsL) 27)) (.cells (cellsB old).toArray 30)) (.cells (ints .u8 (List.replicate 32 0)) 30)) (.cells (ints .u8 (List.replicate 32 0)) 30))
  rw [HO.out]
  clear HO
  go_upto_region 14 with (first
    | (refine wpList_load_at rfl 27 (.tmp 6) rfl wordsV (BoxW.load y6) ?_)
    | (refine wpList_loadH rfl (.tmp 7) rfl (w.heap.size + 1) old rfl y7 ho ?_)
    | (go_at_call 81; refine (P1.out _ hs0).mono ?_; rintro e w1 ⟨rfl, b1⟩)
    | (refine wpList_storeH rfl (.tmp 21) (.tmp 90) rfl w1.heap.size x1 rfl rfl ((BoxA.new w1 _ _ (List.replicate 32 0) _ rfl).next (Below.new1 _ _)) rfl la ?_)
    | (refine wpList_storeH rfl (.tmp 22) (.tmp 91) rfl (w1.heap.size + 1) x2 rfl rfl (by have := BoxA.new (w1.alloc (.cells (ints .u8 (List.replicate 32 0)) 30)) 30 .u8 (List.replicate 32 0) _ rfl; rw [World.size_alloc] at this; exact this.farRow (by omega) _) rfl lb ?_))
  obtain ⟨w2, hW2⟩ : ∃ w2, World.setRow (World.setRow (World.alloc (World.alloc w1 (.cells (ints .u8 (List.replicate 32 0)) 30)) (.cells (ints .u8 (List.replicate 32 0)) 30)) w1.heap.size (ints .u8 (nums x1))) (w1.heap.size + 1) (ints .u8 (nums x2)) = w2 := ⟨_, rfl⟩
  have zz := b1.size
  have Bq : Below w0.heap.size w0 w2 := hW2 ▸ below_setRow (below_setRow ((b1.mono (Nat.le_refl _)).trans ((Below.new1 w1 _).trans (Below.mono (Below.new1 _ _) (by rw [World.size_alloc]; omega)) |>.mono zz)) zz _) (by omega) _
  have y17 : BoxH w2 w1.heap.size x1 := hW2 ▸ ((((BoxA.new w1 30 .u8 (List.replicate 32 0) _ rfl).next (Below.new1 _ (.cells (ints .u8 (List.replicate 32 0)) 30))).setRow (l' := nums x1)).farRow (by omega) _)
  have y18 : BoxH w2 (w1.heap.size + 1) x2 := by
    have := BoxA.new (w1.alloc (.cells (ints .u8 (List.replicate 32 0)) 30)) 30 .u8 (List.replicate 32 0) _ rfl
    rw [World.size_alloc] at this
    exact hW2 ▸ ((this.farRow (by omega) _).setRow (l' := nums x2))
  change Code.wp _ _ _ _ (World.setRow (World.setRow (World.alloc (World.alloc w1 (.cells (ints .u8 (List.replicate 32 0)) 30)) (.cells (ints .u8 (List.replicate 32 0)) 30)) w1.heap.size (ints .u8 (nums x1))) (w1.heap.size + 1) (ints .u8 (nums x2)))
  rw [hW2]
  clear hW2
  have y6' : BoxW w2 w.heap.size := BoxA.next y6 Bq
  have y7' : BoxH w2 (w.heap.size + 1) old := BoxA.next y7 Bq
  have hs2 := hs0.next Bq
  have B2 := Below.on B0 Bq
  have zq := Bq.size
  have G2 : GB w2 (w.heap.size + 1 + 1) (w.heap.size + 1 + 1 + 1) (fun _ => False) w2.drew := GB.next (d := fun _ => False) ⟨But2.refl _ _ _, ⟨_, x12.next Bq, by simp⟩, ⟨_, x13.next Bq, by simp⟩⟩ (Below.drawn w2 1 _)
  have z18 : w1.heap.size + 1 < w2.heap.size := BoxA.lt y18
  clear y6 y7 x12 x13 G0 B0 hs0 b1
  cases ok
  · have hgg := HG2.out (.inl rfl)
    have HGG := Lib.hid hgg
    clear hgg HG1 HG2
    go_upto_region 15 with (fail)
    refine wp_name fun a0 ha0 => ?_
    have e7 : a0.eval (.tmp 7) = .pointer (some ⟨(w.heap.size + 1), 0, none⟩) := by rw [ha0]; rfl
    have e12 : a0.eval (.tmp 12) = .pointer (some ⟨(w.heap.size + 1 + 1), 0, none⟩) := by rw [ha0]; rfl
    have e13 : a0.eval (.tmp 13) = .pointer (some ⟨(w.heap.size + 1 + 1 + 1), 0, none⟩) := by rw [ha0]; rfl
    have hz : a0.tmps.size = 120 := by rw [ha0]; rfl
    have HA0 := Lib.hid ha0
    clear ha0
    have SG : ∀ (d d' : Nat → Prop) (W W' : World), (GB w2 (w.heap.size + 1 + 1) (w.heap.size + 1 + 1 + 1)) d W → (∀ j, d j → d' j) → Below W.heap.size W W' → (GB w2 (w.heap.size + 1 + 1) (w.heap.size + 1 + 1 + 1)) d' W' := fun _ _ _ _ h _ b => GB.next h b
    refine wp_region_steps (Inv [102, 103, 14, 15] a0 (GB w2 (w.heap.size + 1 + 1) (w.heap.size + 1 + 1 + 1)) [(⟨some 0, 102, none, fun v _ => v = hashV old⟩ : Cl), ⟨some 1, 103, none, fun v _ => v = hashV old⟩, ⟨some 2, 12, none, fun _ W => BoxH W (w.heap.size + 1 + 1) old⟩, ⟨some 3, 13, none, fun _ W => BoxH W (w.heap.size + 1 + 1 + 1) old⟩, ⟨some 4, 14, none, fun v _ => v = .int .i64 0⟩, ⟨some 5, 15, none, fun v _ => v = .bool false⟩]) (by kernel_rfl) (by kernel_rfl) (Inv.start G2 ⟨nofun, nofun, nofun, nofun, nofun, nofun, trivial⟩) ?_ ?_
    · have St : ∀ xc ∈ [(⟨some 0, 102, none, fun v _ => v = hashV old⟩ : Cl), ⟨some 1, 103, none, fun v _ => v = hashV old⟩, ⟨some 2, 12, none, fun _ W => BoxH W (w.heap.size + 1 + 1) old⟩, ⟨some 3, 13, none, fun _ W => BoxH W (w.heap.size + 1 + 1 + 1) old⟩, ⟨some 4, 14, none, fun v _ => v = .int .i64 0⟩, ⟨some 5, 15, none, fun v _ => v = .bool false⟩], Lasts xc := AllC.mem ⟨lastsV0 _ _ _ _, lastsV0 _ _ _ _, lastsH _ _ _ _ _, lastsH _ _ _ _ _, lastsV0 _ _ _ _, lastsV0 _ _ _ _, trivial⟩
      clear HA0
      refine ⟨?_, ?_, ?_, ?_, ?_, ?_, trivial⟩
      · refine stepB rfl rfl (by decide) (by rw [hz]; decide) rfl rfl (by kernel_rfl) St SG fun d a W hF hG hH hn hcl hw => ?_
        have q7 := (hF.same 7 (by decide)).trans e7
        refine ⟨hashV old, W, ?_, Below.refl _ _, ?_⟩
        · exact exec_load rfl (by rw [q7]; exact BoxH.load_ (But2.box hG.1 y7' (by omega) (by omega)) ho)
        · rfl
      · refine stepB rfl rfl (by decide) (by rw [hz]; decide) rfl rfl (by kernel_rfl) St SG fun d a W hF hG hH hn hcl hw => ?_
        have q7 := (hF.same 7 (by decide)).trans e7
        refine ⟨hashV old, W, ?_, Below.refl _ _, ?_⟩
        · exact exec_load rfl (by rw [q7]; exact BoxH.load_ (But2.box hG.1 y7' (by omega) (by omega)) ho)
        · rfl
      · refine stepH (.tmp 12) (.tmp 102) rfl rfl rfl rfl (w.heap.size + 1 + 1) old ho (fun _ _ h => h) (AllC.mem ⟨.inr fun _ _ _ h => h, .inr fun _ _ _ h => h, .inl rfl, .inr fun _ _ _ h => BoxA.farRow h (by omega) _, .inr fun _ _ _ h => h, .inr fun _ _ _ h => h, trivial⟩) (fun d d' W h _ => GB.rowp h (by omega) _ ho) (fun d W h => h.2.1) fun d a W hF hG hH hn hcl hw => ?_
        have q12 := (hF.same 12 (by decide)).trans e12
        have q102 : a.eval (.tmp 102) = hashV old := hH.at_ (i := 0) rfl (hw 0 rfl) id
        exact ⟨q12, q102⟩
      · refine stepH (.tmp 13) (.tmp 103) rfl rfl rfl rfl (w.heap.size + 1 + 1 + 1) old ho (fun _ _ h => h) (AllC.mem ⟨.inr fun _ _ _ h => h, .inr fun _ _ _ h => h, .inr fun _ _ _ h => BoxA.farRow h (by omega) _, .inl rfl, .inr fun _ _ _ h => h, .inr fun _ _ _ h => h, trivial⟩) (fun d d' W h _ => GB.rowq h (by omega) _ ho) (fun d W h => h.2.2) fun d a W hF hG hH hn hcl hw => ?_
        have q13 := (hF.same 13 (by decide)).trans e13
        have q103 : a.eval (.tmp 103) = hashV old := hH.at_ (i := 1) rfl (hw 1 rfl) id
        exact ⟨q13, q103⟩
      · refine stepB rfl rfl (by decide) (by rw [hz]; decide) rfl rfl (by kernel_rfl) St SG fun d a W hF hG hH hn hcl hw => ?_
        have qc0 : a.eval (.const (.int .i64 0)) = .int .i64 0 := rfl
        refine ⟨.int .i64 0, W, ?_, Below.refl _ _, ?_⟩
        · clear hF hG hH hn hcl hw
          generalize a.eval = ρ at *
          go_simp
        · rfl
      · refine stepB rfl rfl (by decide) (by rw [hz]; decide) rfl rfl (by kernel_rfl) St SG fun d a W hF hG hH hn hcl hw => ?_
        have qk0 : a.eval (.const (.bool false)) = .bool false := rfl
        refine ⟨.bool false, W, ?_, Below.refl _ _, ?_⟩
        · clear hF hG hH hn hcl hw
          generalize a.eval = ρ at *
          go_simp
        · rfl
    · intro d a W ⟨hF, hB, hH⟩ hall
      have k14 : a.eval (.tmp 14) = .int .i64 0 := hH.at_ (i := 4) rfl (hall 4 (by decide)) id
      have k15 : a.eval (.tmp 15) = .bool false := hH.at_ (i := 5) rfl (hall 5 (by decide)) id
      have s2 : BoxH W (w.heap.size + 1 + 1) old := hH.at_ (i := 2) rfl (hall 2 (by decide)) id
      have s3 : BoxH W (w.heap.size + 1 + 1 + 1) old := hH.at_ (i := 3) rfl (hall 3 (by decide)) id
      clear hH hall
      rw [hF.shape (by rw [hz]; decide)]
      clear hF
      simp only [List.foldl]
      generalize a.eval (.tmp 102) = z102 at *
      generalize a.eval (.tmp 103) = z103 at *
      generalize a.eval (.tmp 14) = z14 at *
      generalize a.eval (.tmp 15) = z15 at *
      subst k14
      subst k15
      rw [HA0.out]
      simp only [Act.put, List.setIfInBounds_toArray, List.set_cons_zero, List.set_cons_succ]
      clear hz HA0 SG e7 e12 e13
      clear a a0
      go_wp2_with (fail)
      exact bodyPost_ret (v := .tuple #[hashV old, hashV old, .int .i64 0, .bool false]) (results_two rfl _ _ (w.heap.size + 1 + 1) (w.heap.size + 1 + 1 + 1) old old (.int .i64 0) (.bool false) rfl rfl rfl rfl s2 ho s3 ho) rfl ⟨by rw [HGG.out]; rfl, But2.below hB.1 B2 (by omega) (by omega) (by omega)⟩
  · by_cases hu : u < k
    · have hux : (u : Int) < k := by omega
      have huL : u < path.length := by rw [HK.out]; exact hu
      obtain ⟨ad, rfl, ld⟩ := HLD.out huL
      have hg := HG1.out rfl huL
      have hx : (path[u]'huL).length = 32 := HS.out.1 _ (List.getElem_mem huL)
      have i2 : InB w.heap.size (some ad) path := i0
      obtain ⟨x, hxe⟩ : ∃ x, path[u]'huL = x := ⟨_, rfl⟩
      have ld' : ∀ d W, GB w2 (w.heap.size + 1 + 1) (w.heap.size + 1 + 1 + 1) d W → (Instr.loadAt 30 (.pointer (some (ad.add (u * 32))))).run Tryd.prog W = .ok (hashV x) W := fun d W hG => by
        rw [← hxe]; exact ld W (hG.1.hs hs2 i2 (by omega) (by omega) (by omega))
      rw [hxe] at hg hx
      have HGG := Lib.hid hg
      have HXE := Lib.hid hxe
      clear ld hg hxe i2
      go_upto_region 16 with (fail)
      refine wp_name fun a0 ha0 => ?_
      have e5 : a0.eval (.tmp 5) = .slice (some ad) k c := by rw [ha0]; rfl
      have e6 : a0.eval (.tmp 6) = .pointer (some ⟨w.heap.size, 0, none⟩) := by rw [ha0]; rfl
      have e12 : a0.eval (.tmp 12) = .pointer (some ⟨(w.heap.size + 1 + 1), 0, none⟩) := by rw [ha0]; rfl
      have e13 : a0.eval (.tmp 13) = .pointer (some ⟨(w.heap.size + 1 + 1 + 1), 0, none⟩) := by rw [ha0]; rfl
      have e21 : a0.eval (.tmp 21) = .pointer (some ⟨w1.heap.size, 0, none⟩) := by rw [ha0]; rfl
      have e22 : a0.eval (.tmp 22) = .pointer (some ⟨(w1.heap.size + 1), 0, none⟩) := by rw [ha0]; rfl
      have e23 : a0.eval (.tmp 23) = .int .i64 (u : Int) := by rw [ha0]; rfl
      have hz : a0.tmps.size = 120 := by rw [ha0]; rfl
      have HA0 := Lib.hid ha0
      clear ha0
      have SG : ∀ (d d' : Nat → Prop) (W W' : World), (GB w2 (w.heap.size + 1 + 1) (w.heap.size + 1 + 1 + 1)) d W → (∀ j, d j → d' j) → Below W.heap.size W W' → (GB w2 (w.heap.size + 1 + 1) (w.heap.size + 1 + 1 + 1)) d' W' := fun _ _ _ _ h _ b => GB.next h b
      refine wp_region_steps (Inv [104, 105, 106, 107, 108, 109, 110, 111, 112, 113, 114, 115, 116, 117, 118, 119, 14, 15] a0 (GB w2 (w.heap.size + 1 + 1) (w.heap.size + 1 + 1 + 1)) [(⟨some 0, 104, none, fun v _ => v = wordsV⟩ : Cl), ⟨some 1, 105, none, fun v _ => v = .slice (some ad) k c⟩, ⟨some 2, 106, none, fun v _ => v = .int .i64 (u : Int)⟩, ⟨some 3, 107, none, fun v _ => v = .pointer (some (ad.add (u * 32)))⟩, ⟨some 4, 108, none, fun v _ => v = hashV x⟩, ⟨some 5, 109, none, fun v _ => v = hashV x1⟩, ⟨some 6, 110, none, fun v _ => v = hashV (joinM sha x x1)⟩, ⟨some 7, 111, none, fun v _ => v = wordsV⟩, ⟨some 8, 112, none, fun v _ => v = .slice (some ad) k c⟩, ⟨some 9, 113, none, fun v _ => v = .int .i64 (u : Int)⟩, ⟨some 10, 114, none, fun v _ => v = .pointer (some (ad.add (u * 32)))⟩, ⟨some 11, 115, none, fun v _ => v = hashV x⟩, ⟨some 12, 116, none, fun v _ => v = hashV x2⟩, ⟨some 13, 117, none, fun v _ => v = hashV (joinM sha x x2)⟩, ⟨some 14, 118, none, fun v _ => v = .int .i64 (u : Int)⟩, ⟨some 15, 119, none, fun v _ => v = .int .i64 ((u + 1 : Nat) : Int)⟩, ⟨some 16, 12, none, fun _ W => BoxH W (w.heap.size + 1 + 1) (joinM sha x x1)⟩, ⟨some 17, 13, none, fun _ W => BoxH W (w.heap.size + 1 + 1 + 1) (joinM sha x x2)⟩, ⟨some 18, 14, none, fun v _ => v = .int .i64 ((u + 1 : Nat) : Int)⟩, ⟨some 19, 15, none, fun v _ => v = .bool true⟩]) (by kernel_rfl) (by kernel_rfl) (Inv.start G2 ⟨nofun, nofun, nofun, nofun, nofun, nofun, nofun, nofun, nofun, nofun, nofun, nofun, nofun, nofun, nofun, nofun, nofun, nofun, nofun, nofun, trivial⟩) ?_ ?_
      · have St : ∀ xc ∈ [(⟨some 0, 104, none, fun v _ => v = wordsV⟩ : Cl), ⟨some 1, 105, none, fun v _ => v = .slice (some ad) k c⟩, ⟨some 2, 106, none, fun v _ => v = .int .i64 (u : Int)⟩, ⟨some 3, 107, none, fun v _ => v = .pointer (some (ad.add (u * 32)))⟩, ⟨some 4, 108, none, fun v _ => v = hashV x⟩, ⟨some 5, 109, none, fun v _ => v = hashV x1⟩, ⟨some 6, 110, none, fun v _ => v = hashV (joinM sha x x1)⟩, ⟨some 7, 111, none, fun v _ => v = wordsV⟩, ⟨some 8, 112, none, fun v _ => v = .slice (some ad) k c⟩, ⟨some 9, 113, none, fun v _ => v = .int .i64 (u : Int)⟩, ⟨some 10, 114, none, fun v _ => v = .pointer (some (ad.add (u * 32)))⟩, ⟨some 11, 115, none, fun v _ => v = hashV x⟩, ⟨some 12, 116, none, fun v _ => v = hashV x2⟩, ⟨some 13, 117, none, fun v _ => v = hashV (joinM sha x x2)⟩, ⟨some 14, 118, none, fun v _ => v = .int .i64 (u : Int)⟩, ⟨some 15, 119, none, fun v _ => v = .int .i64 ((u + 1 : Nat) : Int)⟩, ⟨some 16, 12, none, fun _ W => BoxH W (w.heap.size + 1 + 1) (joinM sha x x1)⟩, ⟨some 17, 13, none, fun _ W => BoxH W (w.heap.size + 1 + 1 + 1) (joinM sha x x2)⟩, ⟨some 18, 14, none, fun v _ => v = .int .i64 ((u + 1 : Nat) : Int)⟩, ⟨some 19, 15, none, fun v _ => v = .bool true⟩], Lasts xc := AllC.mem ⟨lastsV0 _ _ _ _, lastsV0 _ _ _ _, lastsV0 _ _ _ _, lastsV0 _ _ _ _, lastsV0 _ _ _ _, lastsV0 _ _ _ _, lastsV0 _ _ _ _, lastsV0 _ _ _ _, lastsV0 _ _ _ _, lastsV0 _ _ _ _, lastsV0 _ _ _ _, lastsV0 _ _ _ _, lastsV0 _ _ _ _, lastsV0 _ _ _ _, lastsV0 _ _ _ _, lastsV0 _ _ _ _, lastsH _ _ _ _ _, lastsH _ _ _ _ _, lastsV0 _ _ _ _, lastsV0 _ _ _ _, trivial⟩
        clear HA0
        refine ⟨?_, ?_, ?_, ?_, ?_, ?_, ?_, ?_, ?_, ?_, ?_, ?_, ?_, ?_, ?_, ?_, ?_, ?_, ?_, ?_, trivial⟩
        · refine stepB rfl rfl (by decide) (by rw [hz]; decide) rfl rfl (by kernel_rfl) St SG fun d a W hF hG hH hn hcl hw => ?_
          have q6 := (hF.same 6 (by decide)).trans e6
          refine ⟨wordsV, W, ?_, Below.refl _ _, ?_⟩
          · exact exec_load rfl (by rw [q6]; exact BoxW.load (But2.box hG.1 y6' (by omega) (by omega)))
          · rfl
        · refine stepB rfl rfl (by decide) (by rw [hz]; decide) rfl rfl (by kernel_rfl) St SG fun d a W hF hG hH hn hcl hw => ?_
          have q5 := (hF.same 5 (by decide)).trans e5
          refine ⟨.slice (some ad) k c, W, ?_, Below.refl _ _, ?_⟩
          · clear hF hG hH hn hcl hw
            generalize a.eval = ρ at *
            go_simp
          · rfl
        · refine stepB rfl rfl (by decide) (by rw [hz]; decide) rfl rfl (by kernel_rfl) St SG fun d a W hF hG hH hn hcl hw => ?_
          have q23 := (hF.same 23 (by decide)).trans e23
          refine ⟨.int .i64 (u : Int), W, ?_, Below.refl _ _, ?_⟩
          · clear hF hG hH hn hcl hw
            generalize a.eval = ρ at *
            go_simp
          · rfl
        · refine stepB rfl rfl (by decide) (by rw [hz]; decide) rfl rfl (by kernel_rfl) St SG fun d a W hF hG hH hn hcl hw => ?_
          have q105 : a.eval (.tmp 105) = .slice (some ad) k c := hH.at_ (i := 1) rfl (hw 1 rfl) id
          have q106 : a.eval (.tmp 106) = .int .i64 (u : Int) := hH.at_ (i := 2) rfl (hw 2 rfl) id
          refine ⟨.pointer (some (ad.add (u * 32))), W, ?_, Below.refl _ _, ?_⟩
          · exact exec_indexH rfl q105 q106 hu
          · rfl
        · refine stepB rfl rfl (by decide) (by rw [hz]; decide) rfl rfl (by kernel_rfl) St SG fun d a W hF hG hH hn hcl hw => ?_
          have q107 : a.eval (.tmp 107) = .pointer (some (ad.add (u * 32))) := hH.at_ (i := 3) rfl (hw 3 rfl) id
          refine ⟨hashV x, W, ?_, Below.refl _ _, ?_⟩
          · exact exec_load rfl (by rw [q107]; exact ld' _ _ hG)
          · rfl
        · refine stepB rfl rfl (by decide) (by rw [hz]; decide) rfl rfl (by kernel_rfl) St SG fun d a W hF hG hH hn hcl hw => ?_
          have q21 := (hF.same 21 (by decide)).trans e21
          refine ⟨hashV x1, W, ?_, Below.refl _ _, ?_⟩
          · exact exec_load rfl (by rw [q21]; exact BoxH.load_ (But2.box hG.1 y17 (by omega) (by omega)) la)
          · rfl
        · refine stepC rfl rfl (by decide) (by rw [hz]; decide) rfl rfl (by kernel_rfl) St SG fun d a W hF hG hH hn hcl hw => ?_
          have q104 : a.eval (.tmp 104) = wordsV := hH.at_ (i := 0) rfl (hw 0 rfl) id
          have q108 : a.eval (.tmp 108) = hashV x := hH.at_ (i := 4) rfl (hw 4 rfl) id
          have q109 : a.eval (.tmp 109) = hashV x1 := hH.at_ (i := 5) rfl (hw 5 rfl) id
          have qf : a.eval (.func 79) = .func (.func 79) #[] #[] := rfl
          refine ⟨79, #[wordsV, hashV x, hashV x1], ?_, ?_⟩
          · clear hF hG hH hn hcl hw
            generalize a.eval = ρ at *
            go_simp
          · refine (rpair_any x x1 W hx la).mono ?_; rintro e W' ⟨rfl, b⟩; exact ⟨_, rfl, b, rfl⟩
        · refine stepB rfl rfl (by decide) (by rw [hz]; decide) rfl rfl (by kernel_rfl) St SG fun d a W hF hG hH hn hcl hw => ?_
          have q6 := (hF.same 6 (by decide)).trans e6
          refine ⟨wordsV, W, ?_, Below.refl _ _, ?_⟩
          · exact exec_load rfl (by rw [q6]; exact BoxW.load (But2.box hG.1 y6' (by omega) (by omega)))
          · rfl
        · refine stepB rfl rfl (by decide) (by rw [hz]; decide) rfl rfl (by kernel_rfl) St SG fun d a W hF hG hH hn hcl hw => ?_
          have q5 := (hF.same 5 (by decide)).trans e5
          refine ⟨.slice (some ad) k c, W, ?_, Below.refl _ _, ?_⟩
          · clear hF hG hH hn hcl hw
            generalize a.eval = ρ at *
            go_simp
          · rfl
        · refine stepB rfl rfl (by decide) (by rw [hz]; decide) rfl rfl (by kernel_rfl) St SG fun d a W hF hG hH hn hcl hw => ?_
          have q23 := (hF.same 23 (by decide)).trans e23
          refine ⟨.int .i64 (u : Int), W, ?_, Below.refl _ _, ?_⟩
          · clear hF hG hH hn hcl hw
            generalize a.eval = ρ at *
            go_simp
          · rfl
        · refine stepB rfl rfl (by decide) (by rw [hz]; decide) rfl rfl (by kernel_rfl) St SG fun d a W hF hG hH hn hcl hw => ?_
          have q112 : a.eval (.tmp 112) = .slice (some ad) k c := hH.at_ (i := 8) rfl (hw 8 rfl) id
          have q113 : a.eval (.tmp 113) = .int .i64 (u : Int) := hH.at_ (i := 9) rfl (hw 9 rfl) id
          refine ⟨.pointer (some (ad.add (u * 32))), W, ?_, Below.refl _ _, ?_⟩
          · exact exec_indexH rfl q112 q113 hu
          · rfl
        · refine stepB rfl rfl (by decide) (by rw [hz]; decide) rfl rfl (by kernel_rfl) St SG fun d a W hF hG hH hn hcl hw => ?_
          have q114 : a.eval (.tmp 114) = .pointer (some (ad.add (u * 32))) := hH.at_ (i := 10) rfl (hw 10 rfl) id
          refine ⟨hashV x, W, ?_, Below.refl _ _, ?_⟩
          · exact exec_load rfl (by rw [q114]; exact ld' _ _ hG)
          · rfl
        · refine stepB rfl rfl (by decide) (by rw [hz]; decide) rfl rfl (by kernel_rfl) St SG fun d a W hF hG hH hn hcl hw => ?_
          have q22 := (hF.same 22 (by decide)).trans e22
          refine ⟨hashV x2, W, ?_, Below.refl _ _, ?_⟩
          · exact exec_load rfl (by rw [q22]; exact BoxH.load_ (But2.box hG.1 y18 (by omega) (by omega)) lb)
          · rfl
        · refine stepC rfl rfl (by decide) (by rw [hz]; decide) rfl rfl (by kernel_rfl) St SG fun d a W hF hG hH hn hcl hw => ?_
          have q111 : a.eval (.tmp 111) = wordsV := hH.at_ (i := 7) rfl (hw 7 rfl) id
          have q115 : a.eval (.tmp 115) = hashV x := hH.at_ (i := 11) rfl (hw 11 rfl) id
          have q116 : a.eval (.tmp 116) = hashV x2 := hH.at_ (i := 12) rfl (hw 12 rfl) id
          have qf : a.eval (.func 79) = .func (.func 79) #[] #[] := rfl
          refine ⟨79, #[wordsV, hashV x, hashV x2], ?_, ?_⟩
          · clear hF hG hH hn hcl hw
            generalize a.eval = ρ at *
            go_simp
          · refine (rpair_any x x2 W hx lb).mono ?_; rintro e W' ⟨rfl, b⟩; exact ⟨_, rfl, b, rfl⟩
        · refine stepB rfl rfl (by decide) (by rw [hz]; decide) rfl rfl (by kernel_rfl) St SG fun d a W hF hG hH hn hcl hw => ?_
          have q23 := (hF.same 23 (by decide)).trans e23
          refine ⟨.int .i64 (u : Int), W, ?_, Below.refl _ _, ?_⟩
          · clear hF hG hH hn hcl hw
            generalize a.eval = ρ at *
            go_simp
          · rfl
        · refine stepB rfl rfl (by decide) (by rw [hz]; decide) rfl rfl (by kernel_rfl) St SG fun d a W hF hG hH hn hcl hw => ?_
          have q118 : a.eval (.tmp 118) = .int .i64 (u : Int) := hH.at_ (i := 14) rfl (hw 14 rfl) id
          have qc1 : a.eval (.const (.int .i64 1)) = .int .i64 1 := rfl
          have wu : IntKind.i64.wrap ((u : Int) + 1) = ((u + 1 : Nat) : Int) := by rw [IntWalk.i64_in _ (by omega)]; rfl
          refine ⟨.int .i64 ((u + 1 : Nat) : Int), W, ?_, Below.refl _ _, ?_⟩
          · clear hF hG hH hn hcl hw
            generalize a.eval = ρ at *
            go_simp
          · rfl
        · refine stepH (.tmp 12) (.tmp 110) rfl rfl rfl rfl (w.heap.size + 1 + 1) (joinM sha x x1) (sha_length _) (fun _ _ h => h) (AllC.mem ⟨.inr fun _ _ _ h => h, .inr fun _ _ _ h => h, .inr fun _ _ _ h => h, .inr fun _ _ _ h => h, .inr fun _ _ _ h => h, .inr fun _ _ _ h => h, .inr fun _ _ _ h => h, .inr fun _ _ _ h => h, .inr fun _ _ _ h => h, .inr fun _ _ _ h => h, .inr fun _ _ _ h => h, .inr fun _ _ _ h => h, .inr fun _ _ _ h => h, .inr fun _ _ _ h => h, .inr fun _ _ _ h => h, .inr fun _ _ _ h => h, .inl rfl, .inr fun _ _ _ h => BoxA.farRow h (by omega) _, .inr fun _ _ _ h => h, .inr fun _ _ _ h => h, trivial⟩) (fun d d' W h _ => GB.rowp h (by omega) _ (sha_length _)) (fun d W h => h.2.1) fun d a W hF hG hH hn hcl hw => ?_
          have q12 := (hF.same 12 (by decide)).trans e12
          have q110 : a.eval (.tmp 110) = hashV (joinM sha x x1) := hH.at_ (i := 6) rfl (hw 6 rfl) id
          exact ⟨q12, q110⟩
        · refine stepH (.tmp 13) (.tmp 117) rfl rfl rfl rfl (w.heap.size + 1 + 1 + 1) (joinM sha x x2) (sha_length _) (fun _ _ h => h) (AllC.mem ⟨.inr fun _ _ _ h => h, .inr fun _ _ _ h => h, .inr fun _ _ _ h => h, .inr fun _ _ _ h => h, .inr fun _ _ _ h => h, .inr fun _ _ _ h => h, .inr fun _ _ _ h => h, .inr fun _ _ _ h => h, .inr fun _ _ _ h => h, .inr fun _ _ _ h => h, .inr fun _ _ _ h => h, .inr fun _ _ _ h => h, .inr fun _ _ _ h => h, .inr fun _ _ _ h => h, .inr fun _ _ _ h => h, .inr fun _ _ _ h => h, .inr fun _ _ _ h => BoxA.farRow h (by omega) _, .inl rfl, .inr fun _ _ _ h => h, .inr fun _ _ _ h => h, trivial⟩) (fun d d' W h _ => GB.rowq h (by omega) _ (sha_length _)) (fun d W h => h.2.2) fun d a W hF hG hH hn hcl hw => ?_
          have q13 := (hF.same 13 (by decide)).trans e13
          have q117 : a.eval (.tmp 117) = hashV (joinM sha x x2) := hH.at_ (i := 13) rfl (hw 13 rfl) id
          exact ⟨q13, q117⟩
        · refine stepB rfl rfl (by decide) (by rw [hz]; decide) rfl rfl (by kernel_rfl) St SG fun d a W hF hG hH hn hcl hw => ?_
          have q119 : a.eval (.tmp 119) = .int .i64 ((u + 1 : Nat) : Int) := hH.at_ (i := 15) rfl (hw 15 rfl) id
          refine ⟨.int .i64 ((u + 1 : Nat) : Int), W, ?_, Below.refl _ _, ?_⟩
          · clear hF hG hH hn hcl hw
            generalize a.eval = ρ at *
            go_simp
          · rfl
        · refine stepB rfl rfl (by decide) (by rw [hz]; decide) rfl rfl (by kernel_rfl) St SG fun d a W hF hG hH hn hcl hw => ?_
          have qk0 : a.eval (.const (.bool true)) = .bool true := rfl
          refine ⟨.bool true, W, ?_, Below.refl _ _, ?_⟩
          · clear hF hG hH hn hcl hw
            generalize a.eval = ρ at *
            go_simp
          · rfl
      · intro d a W ⟨hF, hB, hH⟩ hall
        have k14 : a.eval (.tmp 14) = .int .i64 ((u + 1 : Nat) : Int) := hH.at_ (i := 18) rfl (hall 18 (by decide)) id
        have k15 : a.eval (.tmp 15) = .bool true := hH.at_ (i := 19) rfl (hall 19 (by decide)) id
        have s16 : BoxH W (w.heap.size + 1 + 1) (joinM sha x x1) := hH.at_ (i := 16) rfl (hall 16 (by decide)) id
        have s17 : BoxH W (w.heap.size + 1 + 1 + 1) (joinM sha x x2) := hH.at_ (i := 17) rfl (hall 17 (by decide)) id
        clear hH hall
        rw [hF.shape (by rw [hz]; decide)]
        clear hF
        simp only [List.foldl]
        generalize a.eval (.tmp 104) = z104 at *
        generalize a.eval (.tmp 105) = z105 at *
        generalize a.eval (.tmp 106) = z106 at *
        generalize a.eval (.tmp 107) = z107 at *
        generalize a.eval (.tmp 108) = z108 at *
        generalize a.eval (.tmp 109) = z109 at *
        generalize a.eval (.tmp 110) = z110 at *
        generalize a.eval (.tmp 111) = z111 at *
        generalize a.eval (.tmp 112) = z112 at *
        generalize a.eval (.tmp 113) = z113 at *
        generalize a.eval (.tmp 114) = z114 at *
        generalize a.eval (.tmp 115) = z115 at *
        generalize a.eval (.tmp 116) = z116 at *
        generalize a.eval (.tmp 117) = z117 at *
        generalize a.eval (.tmp 118) = z118 at *
        generalize a.eval (.tmp 119) = z119 at *
        generalize a.eval (.tmp 14) = z14 at *
        generalize a.eval (.tmp 15) = z15 at *
        subst k14
        subst k15
        rw [HA0.out]
        simp only [Act.put, List.setIfInBounds_toArray, List.set_cons_zero, List.set_cons_succ]
        clear hz HA0 SG e5 e6 e12 e13 e21 e22 e23
        clear a a0
        go_wp2_with (fail)
        exact bodyPost_ret (v := .tuple #[hashV (joinM sha x x1), hashV (joinM sha x x2), .int .i64 ((u + 1 : Nat) : Int), .bool true]) (results_two rfl _ _ (w.heap.size + 1 + 1) (w.heap.size + 1 + 1 + 1) (joinM sha x x1) (joinM sha x x2) (.int .i64 ((u + 1 : Nat) : Int)) (.bool true) rfl rfl rfl rfl s16 (sha_length _) s17 (sha_length _)) rfl ⟨by rw [HGG.out], But2.below hB.1 B2 (by omega) (by omega) (by omega)⟩
    · have hux : (k : Int) ≤ u := by omega
      have hgg := HG2.out (.inr (by rw [HK.out]; omega))
      have HGG := Lib.hid hgg
      clear hgg
      go_upto_region 15 with (fail)
      refine wp_name fun a0 ha0 => ?_
      have e7 : a0.eval (.tmp 7) = .pointer (some ⟨(w.heap.size + 1), 0, none⟩) := by rw [ha0]; rfl
      have e12 : a0.eval (.tmp 12) = .pointer (some ⟨(w.heap.size + 1 + 1), 0, none⟩) := by rw [ha0]; rfl
      have e13 : a0.eval (.tmp 13) = .pointer (some ⟨(w.heap.size + 1 + 1 + 1), 0, none⟩) := by rw [ha0]; rfl
      have hz : a0.tmps.size = 120 := by rw [ha0]; rfl
      have HA0 := Lib.hid ha0
      clear ha0
      have SG : ∀ (d d' : Nat → Prop) (W W' : World), (GB w2 (w.heap.size + 1 + 1) (w.heap.size + 1 + 1 + 1)) d W → (∀ j, d j → d' j) → Below W.heap.size W W' → (GB w2 (w.heap.size + 1 + 1) (w.heap.size + 1 + 1 + 1)) d' W' := fun _ _ _ _ h _ b => GB.next h b
      refine wp_region_steps (Inv [102, 103, 14, 15] a0 (GB w2 (w.heap.size + 1 + 1) (w.heap.size + 1 + 1 + 1)) [(⟨some 0, 102, none, fun v _ => v = hashV old⟩ : Cl), ⟨some 1, 103, none, fun v _ => v = hashV old⟩, ⟨some 2, 12, none, fun _ W => BoxH W (w.heap.size + 1 + 1) old⟩, ⟨some 3, 13, none, fun _ W => BoxH W (w.heap.size + 1 + 1 + 1) old⟩, ⟨some 4, 14, none, fun v _ => v = .int .i64 0⟩, ⟨some 5, 15, none, fun v _ => v = .bool false⟩]) (by kernel_rfl) (by kernel_rfl) (Inv.start G2 ⟨nofun, nofun, nofun, nofun, nofun, nofun, trivial⟩) ?_ ?_
      · have St : ∀ xc ∈ [(⟨some 0, 102, none, fun v _ => v = hashV old⟩ : Cl), ⟨some 1, 103, none, fun v _ => v = hashV old⟩, ⟨some 2, 12, none, fun _ W => BoxH W (w.heap.size + 1 + 1) old⟩, ⟨some 3, 13, none, fun _ W => BoxH W (w.heap.size + 1 + 1 + 1) old⟩, ⟨some 4, 14, none, fun v _ => v = .int .i64 0⟩, ⟨some 5, 15, none, fun v _ => v = .bool false⟩], Lasts xc := AllC.mem ⟨lastsV0 _ _ _ _, lastsV0 _ _ _ _, lastsH _ _ _ _ _, lastsH _ _ _ _ _, lastsV0 _ _ _ _, lastsV0 _ _ _ _, trivial⟩
        clear HA0
        refine ⟨?_, ?_, ?_, ?_, ?_, ?_, trivial⟩
        · refine stepB rfl rfl (by decide) (by rw [hz]; decide) rfl rfl (by kernel_rfl) St SG fun d a W hF hG hH hn hcl hw => ?_
          have q7 := (hF.same 7 (by decide)).trans e7
          refine ⟨hashV old, W, ?_, Below.refl _ _, ?_⟩
          · exact exec_load rfl (by rw [q7]; exact BoxH.load_ (But2.box hG.1 y7' (by omega) (by omega)) ho)
          · rfl
        · refine stepB rfl rfl (by decide) (by rw [hz]; decide) rfl rfl (by kernel_rfl) St SG fun d a W hF hG hH hn hcl hw => ?_
          have q7 := (hF.same 7 (by decide)).trans e7
          refine ⟨hashV old, W, ?_, Below.refl _ _, ?_⟩
          · exact exec_load rfl (by rw [q7]; exact BoxH.load_ (But2.box hG.1 y7' (by omega) (by omega)) ho)
          · rfl
        · refine stepH (.tmp 12) (.tmp 102) rfl rfl rfl rfl (w.heap.size + 1 + 1) old ho (fun _ _ h => h) (AllC.mem ⟨.inr fun _ _ _ h => h, .inr fun _ _ _ h => h, .inl rfl, .inr fun _ _ _ h => BoxA.farRow h (by omega) _, .inr fun _ _ _ h => h, .inr fun _ _ _ h => h, trivial⟩) (fun d d' W h _ => GB.rowp h (by omega) _ ho) (fun d W h => h.2.1) fun d a W hF hG hH hn hcl hw => ?_
          have q12 := (hF.same 12 (by decide)).trans e12
          have q102 : a.eval (.tmp 102) = hashV old := hH.at_ (i := 0) rfl (hw 0 rfl) id
          exact ⟨q12, q102⟩
        · refine stepH (.tmp 13) (.tmp 103) rfl rfl rfl rfl (w.heap.size + 1 + 1 + 1) old ho (fun _ _ h => h) (AllC.mem ⟨.inr fun _ _ _ h => h, .inr fun _ _ _ h => h, .inr fun _ _ _ h => BoxA.farRow h (by omega) _, .inl rfl, .inr fun _ _ _ h => h, .inr fun _ _ _ h => h, trivial⟩) (fun d d' W h _ => GB.rowq h (by omega) _ ho) (fun d W h => h.2.2) fun d a W hF hG hH hn hcl hw => ?_
          have q13 := (hF.same 13 (by decide)).trans e13
          have q103 : a.eval (.tmp 103) = hashV old := hH.at_ (i := 1) rfl (hw 1 rfl) id
          exact ⟨q13, q103⟩
        · refine stepB rfl rfl (by decide) (by rw [hz]; decide) rfl rfl (by kernel_rfl) St SG fun d a W hF hG hH hn hcl hw => ?_
          have qc0 : a.eval (.const (.int .i64 0)) = .int .i64 0 := rfl
          refine ⟨.int .i64 0, W, ?_, Below.refl _ _, ?_⟩
          · clear hF hG hH hn hcl hw
            generalize a.eval = ρ at *
            go_simp
          · rfl
        · refine stepB rfl rfl (by decide) (by rw [hz]; decide) rfl rfl (by kernel_rfl) St SG fun d a W hF hG hH hn hcl hw => ?_
          have qk0 : a.eval (.const (.bool false)) = .bool false := rfl
          refine ⟨.bool false, W, ?_, Below.refl _ _, ?_⟩
          · clear hF hG hH hn hcl hw
            generalize a.eval = ρ at *
            go_simp
          · rfl
      · intro d a W ⟨hF, hB, hH⟩ hall
        have k14 : a.eval (.tmp 14) = .int .i64 0 := hH.at_ (i := 4) rfl (hall 4 (by decide)) id
        have k15 : a.eval (.tmp 15) = .bool false := hH.at_ (i := 5) rfl (hall 5 (by decide)) id
        have s2 : BoxH W (w.heap.size + 1 + 1) old := hH.at_ (i := 2) rfl (hall 2 (by decide)) id
        have s3 : BoxH W (w.heap.size + 1 + 1 + 1) old := hH.at_ (i := 3) rfl (hall 3 (by decide)) id
        clear hH hall
        rw [hF.shape (by rw [hz]; decide)]
        clear hF
        simp only [List.foldl]
        generalize a.eval (.tmp 102) = z102 at *
        generalize a.eval (.tmp 103) = z103 at *
        generalize a.eval (.tmp 14) = z14 at *
        generalize a.eval (.tmp 15) = z15 at *
        subst k14
        subst k15
        rw [HA0.out]
        simp only [Act.put, List.setIfInBounds_toArray, List.set_cons_zero, List.set_cons_succ]
        clear hz HA0 SG e7 e12 e13
        clear a a0
        go_wp2_with (fail)
        exact bodyPost_ret (v := .tuple #[hashV old, hashV old, .int .i64 0, .bool false]) (results_two rfl _ _ (w.heap.size + 1 + 1) (w.heap.size + 1 + 1 + 1) old old (.int .i64 0) (.bool false) rfl rfl rfl rfl s2 ho s3 ho) rfl ⟨by rw [HGG.out]; rfl, But2.below hB.1 B2 (by omega) (by omega) (by omega)⟩
end Go.Proofs.YtcocengpekndjaaDoor
