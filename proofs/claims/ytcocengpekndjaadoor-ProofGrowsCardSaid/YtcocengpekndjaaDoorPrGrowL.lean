/- The walk over Grown of the reference: the left half. -/
import Derived.Test.YtcocengpekndjaaDoorPrGrown
namespace Go.Proofs.YtcocengpekndjaaDoor
open Go.RowKit
set_option maxRecDepth 100000 in
set_option maxHeartbeats 4000000 in
theorem gr_left (q : Nat) (ih : GrOk q) (old : Bs) (m n : Nat) (whole : Bool) (path : List Bs) (A : Option Addr) (k c : Nat) (w : World) (hq : n ≤ q + 1) (h2 : 2 ≤ n) (h1 : 1 ≤ m) (hm : m ≤ half n) (hmn : m < n) (hn : n ≤ 5000) (hk : path.length = k) (hkc : k ≤ c) (hk5 : k ≤ 5000) (ho : old.length = 32) (hs : Hs w A path) :
    Calls Tryd.prog 81 #[wordsV, hashV old, .int .i64 m, .int .i64 n, .bool whole, .slice A k c] w fun e w' => e = .returned (grownV (grownR old m n whole path)) ∧ Below w.heap.size w w' := by
  have hr := half_range h2
  obtain ⟨R, hR⟩ : ∃ R, grownR old m (half n) whole path = R := ⟨_, rfl⟩
  obtain ⟨g1, g2⟩ := grownR_left (old := old) (whole := whole) (path := path) h2 hm hR
  have r32 := grownR_32 hs.1 n old m (half n) whole (by omega) (by omega) (by omega) ho
  have p1 := fun W (h : Hs W A path) => ih old m (half n) whole path A k c W (by omega) (by omega) (by omega) (by omega) hk hkc hk5 ho h
  rw [hR] at r32 p1
  have hf := fun W => rhalf_any n W h2 (by omega)
  obtain ⟨x1, x2, u, ok⟩ := R
  obtain ⟨la, lb, lu⟩ := r32
  simp only at la lb lu g1 g2
  clear hR ih
  generalize half n = K at *
  obtain ⟨w0, hW0⟩ : ∃ w0, World.alloc (World.alloc (World.alloc (World.alloc w (.cells (ints .u32 wordsL) 27)) (.cells (cellsB old).toArray 30)) (.cells (ints .u8 (List.replicate 32 0)) 30)) (.cells (ints .u8 (List.replicate 32 0)) 30) = w0 := ⟨_, rfl⟩
  have B0 : Below w.heap.size w w0 := hW0 ▸ Below.on (Below.on (Below.on (Below.new1 _ _) (Below.new1 _ _)) (Below.new1 _ _)) (Below.new1 _ _)
  have y6 : BoxW w0 w.heap.size := hW0 ▸ (((BoxW.new w).next (Below.new1 _ _)).next (Below.new1 _ _)).next (Below.new1 _ _)
  have y7 : BoxH w0 (w.heap.size + 1) old := by
    have := ((BoxH.new (w.alloc (.cells (ints .u32 wordsL) 27)) old).next (Below.new1 _ (.cells (ints .u8 (List.replicate 32 0)) 30))).next (Below.new1 _ (.cells (ints .u8 (List.replicate 32 0)) 30))
    rw [World.size_alloc] at this; exact hW0 ▸ this
  have x12 : BoxA w0 (w.heap.size + 1 + 1) 30 .u8 (List.replicate 32 0) := by
    have := (BoxA.new ((w.alloc (.cells (ints .u32 wordsL) 27)).alloc (.cells (cellsB old).toArray 30)) 30 .u8 (List.replicate 32 0) _ rfl).next (Below.new1 _ (.cells (ints .u8 (List.replicate 32 0)) 30))
    rw [World.size_alloc, World.size_alloc] at this; exact hW0 ▸ this
  have x13 : BoxA w0 (w.heap.size + 1 + 1 + 1) 30 .u8 (List.replicate 32 0) := by
    have := BoxA.new (((w.alloc (.cells (ints .u32 wordsL) 27)).alloc (.cells (cellsB old).toArray 30)).alloc (.cells (ints .u8 (List.replicate 32 0)) 30)) 30 .u8 (List.replicate 32 0) _ rfl
    rw [World.size_alloc, World.size_alloc, World.size_alloc] at this; exact hW0 ▸ this
  have hs0 := hs.next B0
  have i0 := hs.inB
  have z0 : w.heap.size + 1 + 1 + 1 < w0.heap.size := x13.lt
  have G0 : GB w0 (w.heap.size + 1 + 1) (w.heap.size + 1 + 1 + 1) (fun _ => False) w0.drew := GB.next (d := fun _ => False) ⟨But2.refl _ _ _, ⟨_, x12, by simp⟩, ⟨_, x13, by simp⟩⟩ (Below.drawn w0 1 _)
  have hld : ∀ (hu : u < path.length), ∃ ad, A = some ad ∧ ∀ W, Hs W A path → (Instr.loadAt 30 (.pointer (some (ad.add (u * 32))))).run Tryd.prog W = .ok (hashV (path[u]'hu)) W := fun hu => by
    obtain ⟨_, h | ⟨ad, e, _⟩⟩ := hs
    · rw [h] at hu; simp at hu
    · exact ⟨ad, e, fun W hW => by subst e; exact hW.load (i := u) hu _ 32 5 (by kernel_rfl) szHash⟩
  have mn : ((m : Int) == n) = false := by simp; omega
  have mK : (m : Int) ≤ (K : Int) := by omega
  have P1 := Lib.hid p1
  have HF := Lib.hid hf
  have HK := Lib.hid hk
  have HLD := Lib.hid hld
  have HG1 := Lib.hid g1
  have HG2 := Lib.hid g2
  have HS := Lib.hid hs
  clear p1 hf hk hld g1 g2 hs
  have HO := Lib.hid hW0
  clear hW0
  go_enter Tryd.func81, Tryd.ntmps81
  go_upto_region 9 with (go_at_call 78; refine (HF.out _).mono ?_; rintro e w' ⟨rfl, rfl⟩)
  change Code.wp _ _ _ _ (World.alloc (World.alloc (World.alloc (World.alloc w (.cells (ints .u32 wordsL) 27)) (.cells (cellsB old).toArray 30)) (.cells (ints .u8 (List.replicate 32 0)) 30)) (.cells (ints .u8 (List.replicate 32 0)) 30))
  rw [HO.out]
  clear HO
  go_upto_region 10 with (first
    | (refine wpList_load_at rfl 27 (.tmp 6) rfl wordsV (BoxW.load y6) ?_)
    | (refine wpList_loadH rfl (.tmp 7) rfl (w.heap.size + 1) old rfl y7 ho ?_)
    | (go_at_call 81; refine (P1.out _ hs0).mono ?_; rintro e w1 ⟨rfl, b1⟩)
    | (refine wpList_storeH rfl (.tmp 17) (.tmp 55) rfl w1.heap.size x1 rfl rfl ((BoxA.new w1 _ _ (List.replicate 32 0) _ rfl).next (Below.new1 _ _)) rfl la ?_)
    | (refine wpList_storeH rfl (.tmp 18) (.tmp 56) rfl (w1.heap.size + 1) x2 rfl rfl (by have := BoxA.new (w1.alloc (.cells (ints .u8 (List.replicate 32 0)) 30)) 30 .u8 (List.replicate 32 0) _ rfl; rw [World.size_alloc] at this; exact this.farRow (by omega) _) rfl lb ?_))
  obtain ⟨w2, hW2⟩ : ∃ w2, World.setRow (World.setRow (World.alloc (World.alloc w1 (.cells (ints .u8 (List.replicate 32 0)) 30)) (.cells (ints .u8 (List.replicate 32 0)) 30)) w1.heap.size (ints .u8 (nums x1))) (w1.heap.size + 1) (ints .u8 (nums x2)) = w2 := ⟨_, rfl⟩
  have zz := b1.size
  have Bq : Below w0.heap.size w0 w2 := hW2 ▸ below_setRow (below_setRow ((b1.mono (Nat.le_refl _)).trans ((Below.new1 w1 _).trans (Below.mono (Below.new1 _ _) (by rw [World.size_alloc]; omega)) |>.mono zz)) zz _) (by omega) _
  have y17 : BoxH w2 w1.heap.size x1 := hW2 ▸ ((((BoxA.new w1 30 .u8 (List.replicate 32 0) _ rfl).next (Below.new1 _ (.cells (ints .u8 (List.replicate 32 0)) 30))).setRow (l' := nums x1)).farRow (by omega) _)
  have y18 : BoxH w2 (w1.heap.size + 1) x2 := by
    have := BoxA.new (w1.alloc (.cells (ints .u8 (List.replicate 32 0)) 30)) 30 .u8 (List.replicate 32 0) _ rfl
    rw [World.size_alloc] at this
    exact hW2 ▸ ((this.farRow (by omega) _).setRow (l' := nums x2))
  change Code.wp _ _ _ _ (World.setRow (World.setRow (World.alloc (World.alloc w1 (.cells (ints .u8 (List.replicate 32 0)) 30)) (.cells (ints .u8 (List.replicate 32 0)) 30)) w1.heap.size (ints .u8 (nums x1))) (w1.heap.size + 1) (ints .u8 (nums x2)))
  rw [hW2]
  clear hW2
  have y6' : BoxW w2 w.heap.size := BoxA.next y6 Bq
  have y7' : BoxH w2 (w.heap.size + 1) old := BoxA.next y7 Bq
  have hs2 := hs0.next Bq
  have B2 := Below.on B0 Bq
  have zq := Bq.size
  have G2 : GB w2 (w.heap.size + 1 + 1) (w.heap.size + 1 + 1 + 1) (fun _ => False) w2.drew := GB.next (d := fun _ => False) ⟨But2.refl _ _ _, ⟨_, x12.next Bq, by simp⟩, ⟨_, x13.next Bq, by simp⟩⟩ (Below.drawn w2 1 _)
  have z18 : w1.heap.size + 1 < w2.heap.size := BoxA.lt y18
  clear y6 y7 x12 x13 G0 B0 hs0 b1
  cases ok
  · have hgg := HG2.out (.inl rfl)
    have HGG := Lib.hid hgg
    clear hgg HG1 HG2
    go_upto_region 11 with (fail)
    refine wp_name fun a0 ha0 => ?_
    have e7 : a0.eval (.tmp 7) = .pointer (some ⟨(w.heap.size + 1), 0, none⟩) := by rw [ha0]; rfl
    have e12 : a0.eval (.tmp 12) = .pointer (some ⟨(w.heap.size + 1 + 1), 0, none⟩) := by rw [ha0]; rfl
    have e13 : a0.eval (.tmp 13) = .pointer (some ⟨(w.heap.size + 1 + 1 + 1), 0, none⟩) := by rw [ha0]; rfl
    have hz : a0.tmps.size = 120 := by rw [ha0]; rfl
    have HA0 := Lib.hid ha0
    clear ha0
    have SG : ∀ (d d' : Nat → Prop) (W W' : World), (GB w2 (w.heap.size + 1 + 1) (w.heap.size + 1 + 1 + 1)) d W → (∀ j, d j → d' j) → Below W.heap.size W W' → (GB w2 (w.heap.size + 1 + 1) (w.heap.size + 1 + 1 + 1)) d' W' := fun _ _ _ _ h _ b => GB.next h b
    refine wp_region_steps (Inv [67, 68, 14, 15] a0 (GB w2 (w.heap.size + 1 + 1) (w.heap.size + 1 + 1 + 1)) [(⟨some 0, 67, none, fun v _ => v = hashV old⟩ : Cl), ⟨some 1, 68, none, fun v _ => v = hashV old⟩, ⟨some 2, 12, none, fun _ W => BoxH W (w.heap.size + 1 + 1) old⟩, ⟨some 3, 13, none, fun _ W => BoxH W (w.heap.size + 1 + 1 + 1) old⟩, ⟨some 4, 14, none, fun v _ => v = .int .i64 0⟩, ⟨some 5, 15, none, fun v _ => v = .bool false⟩]) (by kernel_rfl) (by kernel_rfl) (Inv.start G2 ⟨nofun, nofun, nofun, nofun, nofun, nofun, trivial⟩) ?_ ?_
    · have St : ∀ xc ∈ [(⟨some 0, 67, none, fun v _ => v = hashV old⟩ : Cl), ⟨some 1, 68, none, fun v _ => v = hashV old⟩, ⟨some 2, 12, none, fun _ W => BoxH W (w.heap.size + 1 + 1) old⟩, ⟨some 3, 13, none, fun _ W => BoxH W (w.heap.size + 1 + 1 + 1) old⟩, ⟨some 4, 14, none, fun v _ => v = .int .i64 0⟩, ⟨some 5, 15, none, fun v _ => v = .bool false⟩], Lasts xc := AllC.mem ⟨lastsV0 _ _ _ _, lastsV0 _ _ _ _, lastsH _ _ _ _ _, lastsH _ _ _ _ _, lastsV0 _ _ _ _, lastsV0 _ _ _ _, trivial⟩
      clear HA0
      refine ⟨?_, ?_, ?_, ?_, ?_, ?_, trivial⟩
      · refine stepB rfl rfl (by decide) (by rw [hz]; decide) rfl rfl (by kernel_rfl) St SG fun d a W hF hG hH hn hcl hw => ?_
        have q7 := (hF.same 7 (by decide)).trans e7
        refine ⟨hashV old, W, ?_, Below.refl _ _, ?_⟩
        · exact exec_load rfl (by rw [q7]; exact BoxH.load_ (But2.box hG.1 y7' (by omega) (by omega)) ho)
        · rfl
      · refine stepB rfl rfl (by decide) (by rw [hz]; decide) rfl rfl (by kernel_rfl) St SG fun d a W hF hG hH hn hcl hw => ?_
        have q7 := (hF.same 7 (by decide)).trans e7
        refine ⟨hashV old, W, ?_, Below.refl _ _, ?_⟩
        · exact exec_load rfl (by rw [q7]; exact BoxH.load_ (But2.box hG.1 y7' (by omega) (by omega)) ho)
        · rfl
      · refine stepH (.tmp 12) (.tmp 67) rfl rfl rfl rfl (w.heap.size + 1 + 1) old ho (fun _ _ h => h) (AllC.mem ⟨.inr fun _ _ _ h => h, .inr fun _ _ _ h => h, .inl rfl, .inr fun _ _ _ h => BoxA.farRow h (by omega) _, .inr fun _ _ _ h => h, .inr fun _ _ _ h => h, trivial⟩) (fun d d' W h _ => GB.rowp h (by omega) _ ho) (fun d W h => h.2.1) fun d a W hF hG hH hn hcl hw => ?_
        have q12 := (hF.same 12 (by decide)).trans e12
        have q67 : a.eval (.tmp 67) = hashV old := hH.at_ (i := 0) rfl (hw 0 rfl) id
        exact ⟨q12, q67⟩
      · refine stepH (.tmp 13) (.tmp 68) rfl rfl rfl rfl (w.heap.size + 1 + 1 + 1) old ho (fun _ _ h => h) (AllC.mem ⟨.inr fun _ _ _ h => h, .inr fun _ _ _ h => h, .inr fun _ _ _ h => BoxA.farRow h (by omega) _, .inl rfl, .inr fun _ _ _ h => h, .inr fun _ _ _ h => h, trivial⟩) (fun d d' W h _ => GB.rowq h (by omega) _ ho) (fun d W h => h.2.2) fun d a W hF hG hH hn hcl hw => ?_
        have q13 := (hF.same 13 (by decide)).trans e13
        have q68 : a.eval (.tmp 68) = hashV old := hH.at_ (i := 1) rfl (hw 1 rfl) id
        exact ⟨q13, q68⟩
      · refine stepB rfl rfl (by decide) (by rw [hz]; decide) rfl rfl (by kernel_rfl) St SG fun d a W hF hG hH hn hcl hw => ?_
        have qc0 : a.eval (.const (.int .i64 0)) = .int .i64 0 := rfl
        refine ⟨.int .i64 0, W, ?_, Below.refl _ _, ?_⟩
        · clear hF hG hH hn hcl hw
          generalize a.eval = ρ at *
          go_simp
        · rfl
      · refine stepB rfl rfl (by decide) (by rw [hz]; decide) rfl rfl (by kernel_rfl) St SG fun d a W hF hG hH hn hcl hw => ?_
        have qk0 : a.eval (.const (.bool false)) = .bool false := rfl
        refine ⟨.bool false, W, ?_, Below.refl _ _, ?_⟩
        · clear hF hG hH hn hcl hw
          generalize a.eval = ρ at *
          go_simp
        · rfl
    · intro d a W ⟨hF, hB, hH⟩ hall
      have k14 : a.eval (.tmp 14) = .int .i64 0 := hH.at_ (i := 4) rfl (hall 4 (by decide)) id
      have k15 : a.eval (.tmp 15) = .bool false := hH.at_ (i := 5) rfl (hall 5 (by decide)) id
      have s2 : BoxH W (w.heap.size + 1 + 1) old := hH.at_ (i := 2) rfl (hall 2 (by decide)) id
      have s3 : BoxH W (w.heap.size + 1 + 1 + 1) old := hH.at_ (i := 3) rfl (hall 3 (by decide)) id
      clear hH hall
      rw [hF.shape (by rw [hz]; decide)]
      clear hF
      simp only [List.foldl]
      generalize a.eval (.tmp 67) = z67 at *
      generalize a.eval (.tmp 68) = z68 at *
      generalize a.eval (.tmp 14) = z14 at *
      generalize a.eval (.tmp 15) = z15 at *
      subst k14
      subst k15
      rw [HA0.out]
      simp only [Act.put, List.setIfInBounds_toArray, List.set_cons_zero, List.set_cons_succ]
      clear hz HA0 SG e7 e12 e13
      clear a a0
      go_wp2_with (fail)
      exact bodyPost_ret (v := .tuple #[hashV old, hashV old, .int .i64 0, .bool false]) (results_two rfl _ _ (w.heap.size + 1 + 1) (w.heap.size + 1 + 1 + 1) old old (.int .i64 0) (.bool false) rfl rfl rfl rfl s2 ho s3 ho) rfl ⟨by rw [HGG.out]; rfl, But2.below hB.1 B2 (by omega) (by omega) (by omega)⟩
  · by_cases hu : u < k
    · have hux : (u : Int) < k := by omega
      have huL : u < path.length := by rw [HK.out]; exact hu
      obtain ⟨ad, rfl, ld⟩ := HLD.out huL
      have hg := HG1.out rfl huL
      have hx : (path[u]'huL).length = 32 := HS.out.1 _ (List.getElem_mem huL)
      have i2 : InB w.heap.size (some ad) path := i0
      obtain ⟨x, hxe⟩ : ∃ x, path[u]'huL = x := ⟨_, rfl⟩
      have ld' : ∀ d W, GB w2 (w.heap.size + 1 + 1) (w.heap.size + 1 + 1 + 1) d W → (Instr.loadAt 30 (.pointer (some (ad.add (u * 32))))).run Tryd.prog W = .ok (hashV x) W := fun d W hG => by
        rw [← hxe]; exact ld W (hG.1.hs hs2 i2 (by omega) (by omega) (by omega))
      rw [hxe] at hg hx
      have HGG := Lib.hid hg
      have HXE := Lib.hid hxe
      clear ld hg hxe i2
      go_upto_region 12 with (fail)
      refine wp_name fun a0 ha0 => ?_
      have e5 : a0.eval (.tmp 5) = .slice (some ad) k c := by rw [ha0]; rfl
      have e6 : a0.eval (.tmp 6) = .pointer (some ⟨w.heap.size, 0, none⟩) := by rw [ha0]; rfl
      have e12 : a0.eval (.tmp 12) = .pointer (some ⟨(w.heap.size + 1 + 1), 0, none⟩) := by rw [ha0]; rfl
      have e13 : a0.eval (.tmp 13) = .pointer (some ⟨(w.heap.size + 1 + 1 + 1), 0, none⟩) := by rw [ha0]; rfl
      have e17 : a0.eval (.tmp 17) = .pointer (some ⟨w1.heap.size, 0, none⟩) := by rw [ha0]; rfl
      have e18 : a0.eval (.tmp 18) = .pointer (some ⟨(w1.heap.size + 1), 0, none⟩) := by rw [ha0]; rfl
      have e19 : a0.eval (.tmp 19) = .int .i64 (u : Int) := by rw [ha0]; rfl
      have hz : a0.tmps.size = 120 := by rw [ha0]; rfl
      have HA0 := Lib.hid ha0
      clear ha0
      have SG : ∀ (d d' : Nat → Prop) (W W' : World), (GB w2 (w.heap.size + 1 + 1) (w.heap.size + 1 + 1 + 1)) d W → (∀ j, d j → d' j) → Below W.heap.size W W' → (GB w2 (w.heap.size + 1 + 1) (w.heap.size + 1 + 1 + 1)) d' W' := fun _ _ _ _ h _ b => GB.next h b
      refine wp_region_steps (Inv [69, 70, 71, 72, 73, 74, 75, 76, 77, 78, 14, 15] a0 (GB w2 (w.heap.size + 1 + 1) (w.heap.size + 1 + 1 + 1)) [(⟨some 0, 69, none, fun v _ => v = hashV x1⟩ : Cl), ⟨some 1, 70, none, fun v _ => v = wordsV⟩, ⟨some 2, 71, none, fun v _ => v = hashV x2⟩, ⟨some 3, 72, none, fun v _ => v = .slice (some ad) k c⟩, ⟨some 4, 73, none, fun v _ => v = .int .i64 (u : Int)⟩, ⟨some 5, 74, none, fun v _ => v = .pointer (some (ad.add (u * 32)))⟩, ⟨some 6, 75, none, fun v _ => v = hashV x⟩, ⟨some 7, 76, none, fun v _ => v = hashV (joinM sha x2 x)⟩, ⟨some 8, 77, none, fun v _ => v = .int .i64 (u : Int)⟩, ⟨some 9, 78, none, fun v _ => v = .int .i64 ((u + 1 : Nat) : Int)⟩, ⟨some 10, 12, none, fun _ W => BoxH W (w.heap.size + 1 + 1) x1⟩, ⟨some 11, 13, none, fun _ W => BoxH W (w.heap.size + 1 + 1 + 1) (joinM sha x2 x)⟩, ⟨some 12, 14, none, fun v _ => v = .int .i64 ((u + 1 : Nat) : Int)⟩, ⟨some 13, 15, none, fun v _ => v = .bool true⟩]) (by kernel_rfl) (by kernel_rfl) (Inv.start G2 ⟨nofun, nofun, nofun, nofun, nofun, nofun, nofun, nofun, nofun, nofun, nofun, nofun, nofun, nofun, trivial⟩) ?_ ?_
      · have St : ∀ xc ∈ [(⟨some 0, 69, none, fun v _ => v = hashV x1⟩ : Cl), ⟨some 1, 70, none, fun v _ => v = wordsV⟩, ⟨some 2, 71, none, fun v _ => v = hashV x2⟩, ⟨some 3, 72, none, fun v _ => v = .slice (some ad) k c⟩, ⟨some 4, 73, none, fun v _ => v = .int .i64 (u : Int)⟩, ⟨some 5, 74, none, fun v _ => v = .pointer (some (ad.add (u * 32)))⟩, ⟨some 6, 75, none, fun v _ => v = hashV x⟩, ⟨some 7, 76, none, fun v _ => v = hashV (joinM sha x2 x)⟩, ⟨some 8, 77, none, fun v _ => v = .int .i64 (u : Int)⟩, ⟨some 9, 78, none, fun v _ => v = .int .i64 ((u + 1 : Nat) : Int)⟩, ⟨some 10, 12, none, fun _ W => BoxH W (w.heap.size + 1 + 1) x1⟩, ⟨some 11, 13, none, fun _ W => BoxH W (w.heap.size + 1 + 1 + 1) (joinM sha x2 x)⟩, ⟨some 12, 14, none, fun v _ => v = .int .i64 ((u + 1 : Nat) : Int)⟩, ⟨some 13, 15, none, fun v _ => v = .bool true⟩], Lasts xc := AllC.mem ⟨lastsV0 _ _ _ _, lastsV0 _ _ _ _, lastsV0 _ _ _ _, lastsV0 _ _ _ _, lastsV0 _ _ _ _, lastsV0 _ _ _ _, lastsV0 _ _ _ _, lastsV0 _ _ _ _, lastsV0 _ _ _ _, lastsV0 _ _ _ _, lastsH _ _ _ _ _, lastsH _ _ _ _ _, lastsV0 _ _ _ _, lastsV0 _ _ _ _, trivial⟩
        clear HA0
        refine ⟨?_, ?_, ?_, ?_, ?_, ?_, ?_, ?_, ?_, ?_, ?_, ?_, ?_, ?_, trivial⟩
        · refine stepB rfl rfl (by decide) (by rw [hz]; decide) rfl rfl (by kernel_rfl) St SG fun d a W hF hG hH hn hcl hw => ?_
          have q17 := (hF.same 17 (by decide)).trans e17
          refine ⟨hashV x1, W, ?_, Below.refl _ _, ?_⟩
          · exact exec_load rfl (by rw [q17]; exact BoxH.load_ (But2.box hG.1 y17 (by omega) (by omega)) la)
          · rfl
        · refine stepB rfl rfl (by decide) (by rw [hz]; decide) rfl rfl (by kernel_rfl) St SG fun d a W hF hG hH hn hcl hw => ?_
          have q6 := (hF.same 6 (by decide)).trans e6
          refine ⟨wordsV, W, ?_, Below.refl _ _, ?_⟩
          · exact exec_load rfl (by rw [q6]; exact BoxW.load (But2.box hG.1 y6' (by omega) (by omega)))
          · rfl
        · refine stepB rfl rfl (by decide) (by rw [hz]; decide) rfl rfl (by kernel_rfl) St SG fun d a W hF hG hH hn hcl hw => ?_
          have q18 := (hF.same 18 (by decide)).trans e18
          refine ⟨hashV x2, W, ?_, Below.refl _ _, ?_⟩
          · exact exec_load rfl (by rw [q18]; exact BoxH.load_ (But2.box hG.1 y18 (by omega) (by omega)) lb)
          · rfl
        · refine stepB rfl rfl (by decide) (by rw [hz]; decide) rfl rfl (by kernel_rfl) St SG fun d a W hF hG hH hn hcl hw => ?_
          have q5 := (hF.same 5 (by decide)).trans e5
          refine ⟨.slice (some ad) k c, W, ?_, Below.refl _ _, ?_⟩
          · clear hF hG hH hn hcl hw
            generalize a.eval = ρ at *
            go_simp
          · rfl
        · refine stepB rfl rfl (by decide) (by rw [hz]; decide) rfl rfl (by kernel_rfl) St SG fun d a W hF hG hH hn hcl hw => ?_
          have q19 := (hF.same 19 (by decide)).trans e19
          refine ⟨.int .i64 (u : Int), W, ?_, Below.refl _ _, ?_⟩
          · clear hF hG hH hn hcl hw
            generalize a.eval = ρ at *
            go_simp
          · rfl
        · refine stepB rfl rfl (by decide) (by rw [hz]; decide) rfl rfl (by kernel_rfl) St SG fun d a W hF hG hH hn hcl hw => ?_
          have q72 : a.eval (.tmp 72) = .slice (some ad) k c := hH.at_ (i := 3) rfl (hw 3 rfl) id
          have q73 : a.eval (.tmp 73) = .int .i64 (u : Int) := hH.at_ (i := 4) rfl (hw 4 rfl) id
          refine ⟨.pointer (some (ad.add (u * 32))), W, ?_, Below.refl _ _, ?_⟩
          · exact exec_indexH rfl q72 q73 hu
          · rfl
        · refine stepB rfl rfl (by decide) (by rw [hz]; decide) rfl rfl (by kernel_rfl) St SG fun d a W hF hG hH hn hcl hw => ?_
          have q74 : a.eval (.tmp 74) = .pointer (some (ad.add (u * 32))) := hH.at_ (i := 5) rfl (hw 5 rfl) id
          refine ⟨hashV x, W, ?_, Below.refl _ _, ?_⟩
          · exact exec_load rfl (by rw [q74]; exact ld' _ _ hG)
          · rfl
        · refine stepC rfl rfl (by decide) (by rw [hz]; decide) rfl rfl (by kernel_rfl) St SG fun d a W hF hG hH hn hcl hw => ?_
          have q70 : a.eval (.tmp 70) = wordsV := hH.at_ (i := 1) rfl (hw 1 rfl) id
          have q71 : a.eval (.tmp 71) = hashV x2 := hH.at_ (i := 2) rfl (hw 2 rfl) id
          have q75 : a.eval (.tmp 75) = hashV x := hH.at_ (i := 6) rfl (hw 6 rfl) id
          have qf : a.eval (.func 79) = .func (.func 79) #[] #[] := rfl
          refine ⟨79, #[wordsV, hashV x2, hashV x], ?_, ?_⟩
          · clear hF hG hH hn hcl hw
            generalize a.eval = ρ at *
            go_simp
          · refine (rpair_any x2 x W lb hx).mono ?_; rintro e W' ⟨rfl, b⟩; exact ⟨_, rfl, b, rfl⟩
        · refine stepB rfl rfl (by decide) (by rw [hz]; decide) rfl rfl (by kernel_rfl) St SG fun d a W hF hG hH hn hcl hw => ?_
          have q19 := (hF.same 19 (by decide)).trans e19
          refine ⟨.int .i64 (u : Int), W, ?_, Below.refl _ _, ?_⟩
          · clear hF hG hH hn hcl hw
            generalize a.eval = ρ at *
            go_simp
          · rfl
        · refine stepB rfl rfl (by decide) (by rw [hz]; decide) rfl rfl (by kernel_rfl) St SG fun d a W hF hG hH hn hcl hw => ?_
          have q77 : a.eval (.tmp 77) = .int .i64 (u : Int) := hH.at_ (i := 8) rfl (hw 8 rfl) id
          have qc1 : a.eval (.const (.int .i64 1)) = .int .i64 1 := rfl
          have wu : IntKind.i64.wrap ((u : Int) + 1) = ((u + 1 : Nat) : Int) := by rw [IntWalk.i64_in _ (by omega)]; rfl
          refine ⟨.int .i64 ((u + 1 : Nat) : Int), W, ?_, Below.refl _ _, ?_⟩
          · clear hF hG hH hn hcl hw
            generalize a.eval = ρ at *
            go_simp
          · rfl
        · refine stepH (.tmp 12) (.tmp 69) rfl rfl rfl rfl (w.heap.size + 1 + 1) x1 la (fun _ _ h => h) (AllC.mem ⟨.inr fun _ _ _ h => h, .inr fun _ _ _ h => h, .inr fun _ _ _ h => h, .inr fun _ _ _ h => h, .inr fun _ _ _ h => h, .inr fun _ _ _ h => h, .inr fun _ _ _ h => h, .inr fun _ _ _ h => h, .inr fun _ _ _ h => h, .inr fun _ _ _ h => h, .inl rfl, .inr fun _ _ _ h => BoxA.farRow h (by omega) _, .inr fun _ _ _ h => h, .inr fun _ _ _ h => h, trivial⟩) (fun d d' W h _ => GB.rowp h (by omega) _ la) (fun d W h => h.2.1) fun d a W hF hG hH hn hcl hw => ?_
          have q12 := (hF.same 12 (by decide)).trans e12
          have q69 : a.eval (.tmp 69) = hashV x1 := hH.at_ (i := 0) rfl (hw 0 rfl) id
          exact ⟨q12, q69⟩
        · refine stepH (.tmp 13) (.tmp 76) rfl rfl rfl rfl (w.heap.size + 1 + 1 + 1) (joinM sha x2 x) (sha_length _) (fun _ _ h => h) (AllC.mem ⟨.inr fun _ _ _ h => h, .inr fun _ _ _ h => h, .inr fun _ _ _ h => h, .inr fun _ _ _ h => h, .inr fun _ _ _ h => h, .inr fun _ _ _ h => h, .inr fun _ _ _ h => h, .inr fun _ _ _ h => h, .inr fun _ _ _ h => h, .inr fun _ _ _ h => h, .inr fun _ _ _ h => BoxA.farRow h (by omega) _, .inl rfl, .inr fun _ _ _ h => h, .inr fun _ _ _ h => h, trivial⟩) (fun d d' W h _ => GB.rowq h (by omega) _ (sha_length _)) (fun d W h => h.2.2) fun d a W hF hG hH hn hcl hw => ?_
          have q13 := (hF.same 13 (by decide)).trans e13
          have q76 : a.eval (.tmp 76) = hashV (joinM sha x2 x) := hH.at_ (i := 7) rfl (hw 7 rfl) id
          exact ⟨q13, q76⟩
        · refine stepB rfl rfl (by decide) (by rw [hz]; decide) rfl rfl (by kernel_rfl) St SG fun d a W hF hG hH hn hcl hw => ?_
          have q78 : a.eval (.tmp 78) = .int .i64 ((u + 1 : Nat) : Int) := hH.at_ (i := 9) rfl (hw 9 rfl) id
          refine ⟨.int .i64 ((u + 1 : Nat) : Int), W, ?_, Below.refl _ _, ?_⟩
          · clear hF hG hH hn hcl hw
            generalize a.eval = ρ at *
            go_simp
          · rfl
        · refine stepB rfl rfl (by decide) (by rw [hz]; decide) rfl rfl (by kernel_rfl) St SG fun d a W hF hG hH hn hcl hw => ?_
          have qk0 : a.eval (.const (.bool true)) = .bool true := rfl
          refine ⟨.bool true, W, ?_, Below.refl _ _, ?_⟩
          · clear hF hG hH hn hcl hw
            generalize a.eval = ρ at *
            go_simp
          · rfl
      · intro d a W ⟨hF, hB, hH⟩ hall
        have k14 : a.eval (.tmp 14) = .int .i64 ((u + 1 : Nat) : Int) := hH.at_ (i := 12) rfl (hall 12 (by decide)) id
        have k15 : a.eval (.tmp 15) = .bool true := hH.at_ (i := 13) rfl (hall 13 (by decide)) id
        have s10 : BoxH W (w.heap.size + 1 + 1) x1 := hH.at_ (i := 10) rfl (hall 10 (by decide)) id
        have s11 : BoxH W (w.heap.size + 1 + 1 + 1) (joinM sha x2 x) := hH.at_ (i := 11) rfl (hall 11 (by decide)) id
        clear hH hall
        rw [hF.shape (by rw [hz]; decide)]
        clear hF
        simp only [List.foldl]
        generalize a.eval (.tmp 69) = z69 at *
        generalize a.eval (.tmp 70) = z70 at *
        generalize a.eval (.tmp 71) = z71 at *
        generalize a.eval (.tmp 72) = z72 at *
        generalize a.eval (.tmp 73) = z73 at *
        generalize a.eval (.tmp 74) = z74 at *
        generalize a.eval (.tmp 75) = z75 at *
        generalize a.eval (.tmp 76) = z76 at *
        generalize a.eval (.tmp 77) = z77 at *
        generalize a.eval (.tmp 78) = z78 at *
        generalize a.eval (.tmp 14) = z14 at *
        generalize a.eval (.tmp 15) = z15 at *
        subst k14
        subst k15
        rw [HA0.out]
        simp only [Act.put, List.setIfInBounds_toArray, List.set_cons_zero, List.set_cons_succ]
        clear hz HA0 SG e5 e6 e12 e13 e17 e18 e19
        clear a a0
        go_wp2_with (fail)
        exact bodyPost_ret (v := .tuple #[hashV x1, hashV (joinM sha x2 x), .int .i64 ((u + 1 : Nat) : Int), .bool true]) (results_two rfl _ _ (w.heap.size + 1 + 1) (w.heap.size + 1 + 1 + 1) x1 (joinM sha x2 x) (.int .i64 ((u + 1 : Nat) : Int)) (.bool true) rfl rfl rfl rfl s10 la s11 (sha_length _)) rfl ⟨by rw [HGG.out], But2.below hB.1 B2 (by omega) (by omega) (by omega)⟩
    · have hux : (k : Int) ≤ u := by omega
      have hgg := HG2.out (.inr (by rw [HK.out]; omega))
      have HGG := Lib.hid hgg
      clear hgg
      go_upto_region 11 with (fail)
      refine wp_name fun a0 ha0 => ?_
      have e7 : a0.eval (.tmp 7) = .pointer (some ⟨(w.heap.size + 1), 0, none⟩) := by rw [ha0]; rfl
      have e12 : a0.eval (.tmp 12) = .pointer (some ⟨(w.heap.size + 1 + 1), 0, none⟩) := by rw [ha0]; rfl
      have e13 : a0.eval (.tmp 13) = .pointer (some ⟨(w.heap.size + 1 + 1 + 1), 0, none⟩) := by rw [ha0]; rfl
      have hz : a0.tmps.size = 120 := by rw [ha0]; rfl
      have HA0 := Lib.hid ha0
      clear ha0
      have SG : ∀ (d d' : Nat → Prop) (W W' : World), (GB w2 (w.heap.size + 1 + 1) (w.heap.size + 1 + 1 + 1)) d W → (∀ j, d j → d' j) → Below W.heap.size W W' → (GB w2 (w.heap.size + 1 + 1) (w.heap.size + 1 + 1 + 1)) d' W' := fun _ _ _ _ h _ b => GB.next h b
      refine wp_region_steps (Inv [67, 68, 14, 15] a0 (GB w2 (w.heap.size + 1 + 1) (w.heap.size + 1 + 1 + 1)) [(⟨some 0, 67, none, fun v _ => v = hashV old⟩ : Cl), ⟨some 1, 68, none, fun v _ => v = hashV old⟩, ⟨some 2, 12, none, fun _ W => BoxH W (w.heap.size + 1 + 1) old⟩, ⟨some 3, 13, none, fun _ W => BoxH W (w.heap.size + 1 + 1 + 1) old⟩, ⟨some 4, 14, none, fun v _ => v = .int .i64 0⟩, ⟨some 5, 15, none, fun v _ => v = .bool false⟩]) (by kernel_rfl) (by kernel_rfl) (Inv.start G2 ⟨nofun, nofun, nofun, nofun, nofun, nofun, trivial⟩) ?_ ?_
      · have St : ∀ xc ∈ [(⟨some 0, 67, none, fun v _ => v = hashV old⟩ : Cl), ⟨some 1, 68, none, fun v _ => v = hashV old⟩, ⟨some 2, 12, none, fun _ W => BoxH W (w.heap.size + 1 + 1) old⟩, ⟨some 3, 13, none, fun _ W => BoxH W (w.heap.size + 1 + 1 + 1) old⟩, ⟨some 4, 14, none, fun v _ => v = .int .i64 0⟩, ⟨some 5, 15, none, fun v _ => v = .bool false⟩], Lasts xc := AllC.mem ⟨lastsV0 _ _ _ _, lastsV0 _ _ _ _, lastsH _ _ _ _ _, lastsH _ _ _ _ _, lastsV0 _ _ _ _, lastsV0 _ _ _ _, trivial⟩
        clear HA0
        refine ⟨?_, ?_, ?_, ?_, ?_, ?_, trivial⟩
        · refine stepB rfl rfl (by decide) (by rw [hz]; decide) rfl rfl (by kernel_rfl) St SG fun d a W hF hG hH hn hcl hw => ?_
          have q7 := (hF.same 7 (by decide)).trans e7
          refine ⟨hashV old, W, ?_, Below.refl _ _, ?_⟩
          · exact exec_load rfl (by rw [q7]; exact BoxH.load_ (But2.box hG.1 y7' (by omega) (by omega)) ho)
          · rfl
        · refine stepB rfl rfl (by decide) (by rw [hz]; decide) rfl rfl (by kernel_rfl) St SG fun d a W hF hG hH hn hcl hw => ?_
          have q7 := (hF.same 7 (by decide)).trans e7
          refine ⟨hashV old, W, ?_, Below.refl _ _, ?_⟩
          · exact exec_load rfl (by rw [q7]; exact BoxH.load_ (But2.box hG.1 y7' (by omega) (by omega)) ho)
          · rfl
        · refine stepH (.tmp 12) (.tmp 67) rfl rfl rfl rfl (w.heap.size + 1 + 1) old ho (fun _ _ h => h) (AllC.mem ⟨.inr fun _ _ _ h => h, .inr fun _ _ _ h => h, .inl rfl, .inr fun _ _ _ h => BoxA.farRow h (by omega) _, .inr fun _ _ _ h => h, .inr fun _ _ _ h => h, trivial⟩) (fun d d' W h _ => GB.rowp h (by omega) _ ho) (fun d W h => h.2.1) fun d a W hF hG hH hn hcl hw => ?_
          have q12 := (hF.same 12 (by decide)).trans e12
          have q67 : a.eval (.tmp 67) = hashV old := hH.at_ (i := 0) rfl (hw 0 rfl) id
          exact ⟨q12, q67⟩
        · refine stepH (.tmp 13) (.tmp 68) rfl rfl rfl rfl (w.heap.size + 1 + 1 + 1) old ho (fun _ _ h => h) (AllC.mem ⟨.inr fun _ _ _ h => h, .inr fun _ _ _ h => h, .inr fun _ _ _ h => BoxA.farRow h (by omega) _, .inl rfl, .inr fun _ _ _ h => h, .inr fun _ _ _ h => h, trivial⟩) (fun d d' W h _ => GB.rowq h (by omega) _ ho) (fun d W h => h.2.2) fun d a W hF hG hH hn hcl hw => ?_
          have q13 := (hF.same 13 (by decide)).trans e13
          have q68 : a.eval (.tmp 68) = hashV old := hH.at_ (i := 1) rfl (hw 1 rfl) id
          exact ⟨q13, q68⟩
        · refine stepB rfl rfl (by decide) (by rw [hz]; decide) rfl rfl (by kernel_rfl) St SG fun d a W hF hG hH hn hcl hw => ?_
          have qc0 : a.eval (.const (.int .i64 0)) = .int .i64 0 := rfl
          refine ⟨.int .i64 0, W, ?_, Below.refl _ _, ?_⟩
          · clear hF hG hH hn hcl hw
            generalize a.eval = ρ at *
            go_simp
          · rfl
        · refine stepB rfl rfl (by decide) (by rw [hz]; decide) rfl rfl (by kernel_rfl) St SG fun d a W hF hG hH hn hcl hw => ?_
          have qk0 : a.eval (.const (.bool false)) = .bool false := rfl
          refine ⟨.bool false, W, ?_, Below.refl _ _, ?_⟩
          · clear hF hG hH hn hcl hw
            generalize a.eval = ρ at *
            go_simp
          · rfl
      · intro d a W ⟨hF, hB, hH⟩ hall
        have k14 : a.eval (.tmp 14) = .int .i64 0 := hH.at_ (i := 4) rfl (hall 4 (by decide)) id
        have k15 : a.eval (.tmp 15) = .bool false := hH.at_ (i := 5) rfl (hall 5 (by decide)) id
        have s2 : BoxH W (w.heap.size + 1 + 1) old := hH.at_ (i := 2) rfl (hall 2 (by decide)) id
        have s3 : BoxH W (w.heap.size + 1 + 1 + 1) old := hH.at_ (i := 3) rfl (hall 3 (by decide)) id
        clear hH hall
        rw [hF.shape (by rw [hz]; decide)]
        clear hF
        simp only [List.foldl]
        generalize a.eval (.tmp 67) = z67 at *
        generalize a.eval (.tmp 68) = z68 at *
        generalize a.eval (.tmp 14) = z14 at *
        generalize a.eval (.tmp 15) = z15 at *
        subst k14
        subst k15
        rw [HA0.out]
        simp only [Act.put, List.setIfInBounds_toArray, List.set_cons_zero, List.set_cons_succ]
        clear hz HA0 SG e7 e12 e13
        clear a a0
        go_wp2_with (fail)
        exact bodyPost_ret (v := .tuple #[hashV old, hashV old, .int .i64 0, .bool false]) (results_two rfl _ _ (w.heap.size + 1 + 1) (w.heap.size + 1 + 1 + 1) old old (.int .i64 0) (.bool false) rfl rfl rfl rfl s2 ho s3 ho) rfl ⟨by rw [HGG.out]; rfl, But2.below hB.1 B2 (by omega) (by omega) (by omega)⟩
end Go.Proofs.YtcocengpekndjaaDoor
