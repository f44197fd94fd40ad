/- The walk over both. -/
import Derived.Test.YtcocengpekndjaaDoorPrBothL
namespace Go.Proofs.YtcocengpekndjaaDoor
open Go.RowKit
theorem But.on' {b : Nat} {w w1 w2 : World} (h : But b w w1) (k : Below w1.heap.size w1 w2) : But b w w2 := h.trans (But.of k)
theorem But.on0 {b g : Nat} {w w1 w2 : World} (h : But b w w1) (hg : w.heap.size ≤ g) (k : But g w1 w2) : But b w w2 :=
  ⟨k.1.trans h.1, k.2.1.trans h.2.1, k.2.2.1.trans h.2.2.1, Nat.le_trans h.size k.size, fun i hi hb => (k.2.2.2.2 i (Nat.lt_of_lt_of_le hi h.size) (by omega)).trans (h.2.2.2.2 i hi hb)⟩
set_option maxRecDepth 100000 in
set_option maxHeartbeats 4000000 in
theorem bo_whole (old : Bs) (m : Nat) (r : Rd) (mm b : Nat) (w : World) (_hm : m ≤ 5000) (ho : old.length = 32) (hk : Kon w) (hb : BoxRd w mm b r) :
    Calls Tryd.prog 80 #[.pointer (some ⟨b, 0, none⟩), hashV old, .int .i64 m, .int .i64 m, .bool true] w fun e w' => e = .returned (.tuple #[hashV (bothM sha old m m true r).1.1, hashV (bothM sha old m m true r).1.2]) ∧ BoxRd w' mm b (bothM sha old m m true r).2 ∧ But b w w' := by
  rw [bothM_all sha rfl, if_pos rfl]
  obtain ⟨w0, hW0⟩ : ∃ w0, World.alloc (World.alloc (World.alloc w (.cells (cellsB old).toArray 30)) (.cells (ints .u8 (List.replicate 32 0)) 30)) (.cells (ints .u8 (List.replicate 32 0)) 30) = w0 := ⟨_, rfl⟩
  have B0 : Below w.heap.size w w0 := hW0 ▸ Below.on (Below.on (Below.new1 _ _) (Below.new1 _ _)) (Below.new1 _ _)
  have y6 : BoxH w0 w.heap.size old := hW0 ▸ ((BoxH.new w old).next (Below.new1 _ _)).next (Below.new1 _ _)
  have x10 : BoxA w0 (w.heap.size + 1) 30 .u8 (List.replicate 32 0) := by
    have := (BoxA.new (w.alloc (.cells (cellsB old).toArray 30)) 30 .u8 (List.replicate 32 0) _ rfl).next (Below.new1 _ (.cells (ints .u8 (List.replicate 32 0)) 30))
    rw [World.size_alloc] at this; exact hW0 ▸ this
  have x11 : BoxA w0 (w.heap.size + 1 + 1) 30 .u8 (List.replicate 32 0) := by
    have := BoxA.new ((w.alloc (.cells (cellsB old).toArray 30)).alloc (.cells (ints .u8 (List.replicate 32 0)) 30)) 30 .u8 (List.replicate 32 0) _ rfl
    rw [World.size_alloc, World.size_alloc] at this; exact hW0 ▸ this
  have z0 : w.heap.size + 1 + 1 < w0.heap.size := x11.lt
  have hk0 := hk.next B0
  have hb0 := hb.next B0
  have bl : b < w.heap.size := hb.lt
  have bm : mm ≤ b := hb.le
  have bz : b ≠ 0 := hb.ne0 hk
  have G0 : (GB w0 (w.heap.size + 1) (w.heap.size + 1 + 1)) (fun _ => False) w0.drew := GB.next (d := fun _ => False) ⟨But2.refl _ _ _, ⟨_, x10, by simp⟩, ⟨_, x11, by simp⟩⟩ (Below.drawn w0 1 _)
  clear x10 x11 hk hb
  have HO := Lib.hid hW0
  clear hW0
  go_enter Tryd.func80, Tryd.ntmps80
  go_upto_region 4 with (fail)
  change Code.wp _ _ _ _ (World.alloc (World.alloc (World.alloc w (.cells (cellsB old).toArray 30)) (.cells (ints .u8 (List.replicate 32 0)) 30)) (.cells (ints .u8 (List.replicate 32 0)) 30))
  rw [HO.out]
  clear HO
  refine wp_name fun a0 ha0 => ?_
  have e6 : a0.eval (.tmp 6) = .pointer (some ⟨w.heap.size, 0, none⟩) := by rw [ha0]; rfl
  have e10 : a0.eval (.tmp 10) = .pointer (some ⟨(w.heap.size + 1), 0, none⟩) := by rw [ha0]; rfl
  have e11 : a0.eval (.tmp 11) = .pointer (some ⟨(w.heap.size + 1 + 1), 0, none⟩) := by rw [ha0]; rfl
  have hz : a0.tmps.size = 66 := by rw [ha0]; rfl
  have HA0 := Lib.hid ha0
  clear ha0
  have SG : ∀ (d d' : Nat → Prop) (W W' : World), (GB w0 (w.heap.size + 1) (w.heap.size + 1 + 1)) d W → (∀ j, d j → d' j) → Below W.heap.size W W' → (GB w0 (w.heap.size + 1) (w.heap.size + 1 + 1)) d' W' := fun _ _ _ _ h _ b => GB.next h b
  refine wp_region_steps (Inv [25, 26] a0 (GB w0 (w.heap.size + 1) (w.heap.size + 1 + 1)) [(⟨some 0, 25, none, fun v _ => v = hashV old⟩ : Cl), ⟨some 1, 26, none, fun v _ => v = hashV old⟩, ⟨some 2, 10, none, fun _ W => BoxH W (w.heap.size + 1) old⟩, ⟨some 3, 11, none, fun _ W => BoxH W (w.heap.size + 1 + 1) old⟩]) (by kernel_rfl) (by kernel_rfl) (Inv.start G0 ⟨nofun, nofun, nofun, nofun, trivial⟩) ?_ ?_
  · have St : ∀ xc ∈ [(⟨some 0, 25, none, fun v _ => v = hashV old⟩ : Cl), ⟨some 1, 26, none, fun v _ => v = hashV old⟩, ⟨some 2, 10, none, fun _ W => BoxH W (w.heap.size + 1) old⟩, ⟨some 3, 11, none, fun _ W => BoxH W (w.heap.size + 1 + 1) old⟩], Lasts xc := AllC.mem ⟨lastsV0 _ _ _ _, lastsV0 _ _ _ _, lastsH _ _ _ _ _, lastsH _ _ _ _ _, trivial⟩
    clear HA0
    refine ⟨?_, ?_, ?_, ?_, trivial⟩
    · refine stepB rfl rfl (by decide) (by rw [hz]; decide) rfl rfl (by kernel_rfl) St SG fun d a W hF hG hH hn hcl hw => ?_
      have q6 := (hF.same 6 (by decide)).trans e6
      refine ⟨hashV old, W, ?_, Below.refl _ _, ?_⟩
      · exact exec_load rfl (by rw [q6]; exact BoxH.load_ (But2.box hG.1 y6 (by omega) (by omega)) ho)
      · rfl
    · refine stepB rfl rfl (by decide) (by rw [hz]; decide) rfl rfl (by kernel_rfl) St SG fun d a W hF hG hH hn hcl hw => ?_
      have q6 := (hF.same 6 (by decide)).trans e6
      refine ⟨hashV old, W, ?_, Below.refl _ _, ?_⟩
      · exact exec_load rfl (by rw [q6]; exact BoxH.load_ (But2.box hG.1 y6 (by omega) (by omega)) ho)
      · rfl
    · refine stepH (.tmp 10) (.tmp 25) rfl rfl rfl rfl (w.heap.size + 1) old ho (fun _ _ h => h) (AllC.mem ⟨.inr fun _ _ _ h => h, .inr fun _ _ _ h => h, .inl rfl, .inr fun _ _ _ h => BoxA.farRow h (by omega) _, trivial⟩) (fun d d' W h _ => GB.rowp h (by omega) _ ho) (fun d W h => h.2.1) fun d a W hF hG hH hn hcl hw => ?_
      have q10 := (hF.same 10 (by decide)).trans e10
      have q25 : a.eval (.tmp 25) = hashV old := hH.at_ (i := 0) rfl (hw 0 rfl) id
      exact ⟨q10, q25⟩
    · refine stepH (.tmp 11) (.tmp 26) rfl rfl rfl rfl (w.heap.size + 1 + 1) old ho (fun _ _ h => h) (AllC.mem ⟨.inr fun _ _ _ h => h, .inr fun _ _ _ h => h, .inr fun _ _ _ h => BoxA.farRow h (by omega) _, .inl rfl, trivial⟩) (fun d d' W h _ => GB.rowq h (by omega) _ ho) (fun d W h => h.2.2) fun d a W hF hG hH hn hcl hw => ?_
      have q11 := (hF.same 11 (by decide)).trans e11
      have q26 : a.eval (.tmp 26) = hashV old := hH.at_ (i := 1) rfl (hw 1 rfl) id
      exact ⟨q11, q26⟩
  · intro d a W ⟨hF, hB, hH⟩ hall
    have s2 : BoxH W (w.heap.size + 1) old := hH.at_ (i := 2) rfl (hall 2 (by decide)) id
    have s3 : BoxH W (w.heap.size + 1 + 1) old := hH.at_ (i := 3) rfl (hall 3 (by decide)) id
    clear hH hall
    rw [hF.shape (by rw [hz]; decide)]
    clear hF
    simp only [List.foldl]
    generalize a.eval (.tmp 25) = z25 at *
    generalize a.eval (.tmp 26) = z26 at *
    rw [HA0.out]
    simp only [Act.put, List.setIfInBounds_toArray, List.set_cons_zero, List.set_cons_succ]
    clear hz HA0 SG e6 e10 e11
    clear a a0
    go_wp2_with (fail)
    exact bodyPost_ret (v := .tuple #[hashV old, hashV old]) (results_pair rfl _ _ (w.heap.size + 1) (w.heap.size + 1 + 1) old old rfl rfl s2 ho s3 ho) rfl ⟨rfl, hB.1.rd hb0 (by omega) (by omega) (by omega) (by omega), hB.1.but (But.of B0) (by omega) (by omega)⟩
set_option maxRecDepth 100000 in
set_option maxHeartbeats 4000000 in
theorem bo_next (old : Bs) (m : Nat) (r : Rd) (mm b : Nat) (w : World) (_hm : m ≤ 5000) (hp : r.1.length ≤ 1000000) (ho : old.length = 32) (hk : Kon w) (hb : BoxRd w mm b r) :
    Calls Tryd.prog 80 #[.pointer (some ⟨b, 0, none⟩), hashV old, .int .i64 m, .int .i64 m, .bool false] w fun e w' => e = .returned (.tuple #[hashV (bothM sha old m m false r).1.1, hashV (bothM sha old m m false r).1.2]) ∧ BoxRd w' mm b (bothM sha old m m false r).2 ∧ But b w w' := by
  rw [bothM_all sha rfl, if_neg (by simp)]
  obtain ⟨nx, _, _⟩ := nextM_32 hb.h32
  have nxt := fun W (h : BoxRd W mm b r) => next_any h hp
  generalize nextM r = X at *
  obtain ⟨x, r1⟩ := X
  simp only at nx nxt ⊢
  obtain ⟨w0, hW0⟩ : ∃ w0, World.alloc (World.alloc (World.alloc w (.cells (cellsB old).toArray 30)) (.cells (ints .u8 (List.replicate 32 0)) 30)) (.cells (ints .u8 (List.replicate 32 0)) 30) = w0 := ⟨_, rfl⟩
  have B0 : Below w.heap.size w w0 := hW0 ▸ Below.on (Below.on (Below.new1 _ _) (Below.new1 _ _)) (Below.new1 _ _)
  have y6 : BoxH w0 w.heap.size old := hW0 ▸ ((BoxH.new w old).next (Below.new1 _ _)).next (Below.new1 _ _)
  have x10 : BoxA w0 (w.heap.size + 1) 30 .u8 (List.replicate 32 0) := by
    have := (BoxA.new (w.alloc (.cells (cellsB old).toArray 30)) 30 .u8 (List.replicate 32 0) _ rfl).next (Below.new1 _ (.cells (ints .u8 (List.replicate 32 0)) 30))
    rw [World.size_alloc] at this; exact hW0 ▸ this
  have x11 : BoxA w0 (w.heap.size + 1 + 1) 30 .u8 (List.replicate 32 0) := by
    have := BoxA.new ((w.alloc (.cells (cellsB old).toArray 30)).alloc (.cells (ints .u8 (List.replicate 32 0)) 30)) 30 .u8 (List.replicate 32 0) _ rfl
    rw [World.size_alloc, World.size_alloc] at this; exact hW0 ▸ this
  have z0 : w.heap.size + 1 + 1 < w0.heap.size := x11.lt
  have hk0 := hk.next B0
  have hb0 := hb.next B0
  have bl : b < w.heap.size := hb.lt
  have bm : mm ≤ b := hb.le
  have bz : b ≠ 0 := hb.ne0 hk
  have NX := Lib.hid nxt
  clear nxt hk hb
  have HO := Lib.hid hW0
  clear hW0
  go_enter Tryd.func80, Tryd.ntmps80
  go_upto_region 3 with (fail)
  change Code.wp _ _ _ _ (World.alloc (World.alloc (World.alloc w (.cells (cellsB old).toArray 30)) (.cells (ints .u8 (List.replicate 32 0)) 30)) (.cells (ints .u8 (List.replicate 32 0)) 30))
  rw [HO.out]
  clear HO
  go_upto_region 4 with (first
    | (go_at_call 92; refine (NX.out _ hb0).mono ?_; rintro e w1 ⟨rfl, q1, q2⟩)
    | (refine wpList_storeH rfl (.tmp 6) (.tmp 24) rfl w.heap.size x rfl rfl (BoxA.but y6 (by omega) q2) (by rw [nums_length, ho]) nx ?_))
  have y6' : BoxH (World.setRow w1 w.heap.size (ints .u8 (nums x))) w.heap.size x := (BoxA.but y6 (by omega) q2).setRow
  have x10' := (x10.but (by omega) q2).farRow (b' := w.heap.size) (by omega) (ints .u8 (nums x))
  have x11' := (x11.but (by omega) q2).farRow (b' := w.heap.size) (by omega) (ints .u8 (nums x))
  have hb1 := q1.farRow (g := w.heap.size) (by omega) (ints .u8 (nums x))
  have q3 : But b w (World.setRow w1 w.heap.size (ints .u8 (nums x))) := ((But.of B0).trans q2).on0 (by omega) (But.row w1 w.heap.size (ints .u8 (nums x)))
  generalize World.setRow w1 w.heap.size (ints .u8 (nums x)) = w2 at *
  clear q1 q2 y6 x10 x11 NX hb0
  have G0 : (GB w2 (w.heap.size + 1) (w.heap.size + 1 + 1)) (fun _ => False) w2.drew := GB.next (d := fun _ => False) ⟨But2.refl _ _ _, ⟨_, x10', by simp⟩, ⟨_, x11', by simp⟩⟩ (Below.drawn w2 1 _)
  refine wp_name fun a0 ha0 => ?_
  have e6 : a0.eval (.tmp 6) = .pointer (some ⟨w.heap.size, 0, none⟩) := by rw [ha0]; rfl
  have e10 : a0.eval (.tmp 10) = .pointer (some ⟨(w.heap.size + 1), 0, none⟩) := by rw [ha0]; rfl
  have e11 : a0.eval (.tmp 11) = .pointer (some ⟨(w.heap.size + 1 + 1), 0, none⟩) := by rw [ha0]; rfl
  have hz : a0.tmps.size = 66 := by rw [ha0]; rfl
  have HA0 := Lib.hid ha0
  clear ha0
  have SG : ∀ (d d' : Nat → Prop) (W W' : World), (GB w2 (w.heap.size + 1) (w.heap.size + 1 + 1)) d W → (∀ j, d j → d' j) → Below W.heap.size W W' → (GB w2 (w.heap.size + 1) (w.heap.size + 1 + 1)) d' W' := fun _ _ _ _ h _ b => GB.next h b
  refine wp_region_steps (Inv [25, 26] a0 (GB w2 (w.heap.size + 1) (w.heap.size + 1 + 1)) [(⟨some 0, 25, none, fun v _ => v = hashV x⟩ : Cl), ⟨some 1, 26, none, fun v _ => v = hashV x⟩, ⟨some 2, 10, none, fun _ W => BoxH W (w.heap.size + 1) x⟩, ⟨some 3, 11, none, fun _ W => BoxH W (w.heap.size + 1 + 1) x⟩]) (by kernel_rfl) (by kernel_rfl) (Inv.start G0 ⟨nofun, nofun, nofun, nofun, trivial⟩) ?_ ?_
  · have St : ∀ xc ∈ [(⟨some 0, 25, none, fun v _ => v = hashV x⟩ : Cl), ⟨some 1, 26, none, fun v _ => v = hashV x⟩, ⟨some 2, 10, none, fun _ W => BoxH W (w.heap.size + 1) x⟩, ⟨some 3, 11, none, fun _ W => BoxH W (w.heap.size + 1 + 1) x⟩], Lasts xc := AllC.mem ⟨lastsV0 _ _ _ _, lastsV0 _ _ _ _, lastsH _ _ _ _ _, lastsH _ _ _ _ _, trivial⟩
    clear HA0
    refine ⟨?_, ?_, ?_, ?_, trivial⟩
    · refine stepB rfl rfl (by decide) (by rw [hz]; decide) rfl rfl (by kernel_rfl) St SG fun d a W hF hG hH hn hcl hw => ?_
      have q6 := (hF.same 6 (by decide)).trans e6
      refine ⟨hashV x, W, ?_, Below.refl _ _, ?_⟩
      · exact exec_load rfl (by rw [q6]; exact BoxH.load_ (But2.box hG.1 y6' (by omega) (by omega)) nx)
      · rfl
    · refine stepB rfl rfl (by decide) (by rw [hz]; decide) rfl rfl (by kernel_rfl) St SG fun d a W hF hG hH hn hcl hw => ?_
      have q6 := (hF.same 6 (by decide)).trans e6
      refine ⟨hashV x, W, ?_, Below.refl _ _, ?_⟩
      · exact exec_load rfl (by rw [q6]; exact BoxH.load_ (But2.box hG.1 y6' (by omega) (by omega)) nx)
      · rfl
    · refine stepH (.tmp 10) (.tmp 25) rfl rfl rfl rfl (w.heap.size + 1) x nx (fun _ _ h => h) (AllC.mem ⟨.inr fun _ _ _ h => h, .inr fun _ _ _ h => h, .inl rfl, .inr fun _ _ _ h => BoxA.farRow h (by omega) _, trivial⟩) (fun d d' W h _ => GB.rowp h (by omega) _ nx) (fun d W h => h.2.1) fun d a W hF hG hH hn hcl hw => ?_
      have q10 := (hF.same 10 (by decide)).trans e10
      have q25 : a.eval (.tmp 25) = hashV x := hH.at_ (i := 0) rfl (hw 0 rfl) id
      exact ⟨q10, q25⟩
    · refine stepH (.tmp 11) (.tmp 26) rfl rfl rfl rfl (w.heap.size + 1 + 1) x nx (fun _ _ h => h) (AllC.mem ⟨.inr fun _ _ _ h => h, .inr fun _ _ _ h => h, .inr fun _ _ _ h => BoxA.farRow h (by omega) _, .inl rfl, trivial⟩) (fun d d' W h _ => GB.rowq h (by omega) _ nx) (fun d W h => h.2.2) fun d a W hF hG hH hn hcl hw => ?_
      have q11 := (hF.same 11 (by decide)).trans e11
      have q26 : a.eval (.tmp 26) = hashV x := hH.at_ (i := 1) rfl (hw 1 rfl) id
      exact ⟨q11, q26⟩
  · intro d a W ⟨hF, hB, hH⟩ hall
    have s2 : BoxH W (w.heap.size + 1) x := hH.at_ (i := 2) rfl (hall 2 (by decide)) id
    have s3 : BoxH W (w.heap.size + 1 + 1) x := hH.at_ (i := 3) rfl (hall 3 (by decide)) id
    clear hH hall
    rw [hF.shape (by rw [hz]; decide)]
    clear hF
    simp only [List.foldl]
    generalize a.eval (.tmp 25) = z25 at *
    generalize a.eval (.tmp 26) = z26 at *
    rw [HA0.out]
    simp only [Act.put, List.setIfInBounds_toArray, List.set_cons_zero, List.set_cons_succ]
    clear hz HA0 SG e6 e10 e11
    clear a a0
    go_wp2_with (fail)
    exact bodyPost_ret (v := .tuple #[hashV x, hashV x]) (results_pair rfl _ _ (w.heap.size + 1) (w.heap.size + 1 + 1) x x rfl rfl s2 nx s3 nx) rfl ⟨rfl, hB.1.rd hb1 (by omega) (by omega) (by omega) (by omega), hB.1.but q3 (by omega) (by omega)⟩
/-- What both does with lists of at most q strings. -/
def BoOk (q : Nat) : Prop := ∀ (old : Bs) (m n : Nat) (whole : Bool) (r : Rd) (mm b : Nat) (w : World), n ≤ q → 1 ≤ m → m ≤ n → n ≤ 5000 → r.1.length ≤ 1000000 → old.length = 32 → Kon w → BoxRd w mm b r →
    Calls Tryd.prog 80 #[.pointer (some ⟨b, 0, none⟩), hashV old, .int .i64 m, .int .i64 n, .bool whole] w fun e w' => e = .returned (.tuple #[hashV (bothM sha old m n whole r).1.1, hashV (bothM sha old m n whole r).1.2]) ∧ BoxRd w' mm b (bothM sha old m n whole r).2 ∧ But b w w'
set_option maxRecDepth 100000 in
set_option maxHeartbeats 4000000 in
theorem bo_left (q : Nat) (ih : BoOk q) (old : Bs) (m n : Nat) (whole : Bool) (r : Rd) (mm b : Nat) (w : World) (hq : n ≤ q + 1) (h2 : 2 ≤ n) (h1 : 1 ≤ m) (hm : m ≤ half n) (hmn : m < n) (hn : n ≤ 5000) (hp : r.1.length ≤ 1000000) (ho : old.length = 32) (hk : Kon w) (hb : BoxRd w mm b r) :
    Calls Tryd.prog 80 #[.pointer (some ⟨b, 0, none⟩), hashV old, .int .i64 m, .int .i64 n, .bool whole] w fun e w' => e = .returned (.tuple #[hashV (bothM sha old m n whole r).1.1, hashV (bothM sha old m n whole r).1.2]) ∧ BoxRd w' mm b (bothM sha old m n whole r).2 ∧ But b w w' := by
  have hr := half_range h2
  rw [bothM_left sha h2 hm]
  obtain ⟨la, lb, lr, lp⟩ := bothM_32 sha_length n old m (half n) whole r (by omega) (by omega) (by omega) ho hb.h32
  have p1 := fun W (h : Kon W) (k : BoxRd W mm b r) => ih old m (half n) whole r mm b W (by omega) (by omega) (by omega) (by omega) hp ho h k
  have hf := fun W => half_any n W h2 (by omega)
  generalize bothM sha old m (half n) whole r = R at *
  obtain ⟨⟨x1, x2⟩, r1⟩ := R
  simp only at la lb lr lp p1 ⊢
  obtain ⟨nx, _, _⟩ := nextM_32 lr
  have nxt := fun W (h : BoxRd W mm b r1) => next_any h (Nat.le_trans lp hp)
  generalize nextM r1 = X at *
  obtain ⟨x, r2⟩ := X
  simp only at nx nxt ⊢
  clear ih
  generalize half n = K at *
  obtain ⟨w0, hW0⟩ : ∃ w0, World.alloc (World.alloc (World.alloc w (.cells (cellsB old).toArray 30)) (.cells (ints .u8 (List.replicate 32 0)) 30)) (.cells (ints .u8 (List.replicate 32 0)) 30) = w0 := ⟨_, rfl⟩
  have B0 : Below w.heap.size w w0 := hW0 ▸ Below.on (Below.on (Below.new1 _ _) (Below.new1 _ _)) (Below.new1 _ _)
  have y6 : BoxH w0 w.heap.size old := hW0 ▸ ((BoxH.new w old).next (Below.new1 _ _)).next (Below.new1 _ _)
  have x10 : BoxA w0 (w.heap.size + 1) 30 .u8 (List.replicate 32 0) := by
    have := (BoxA.new (w.alloc (.cells (cellsB old).toArray 30)) 30 .u8 (List.replicate 32 0) _ rfl).next (Below.new1 _ (.cells (ints .u8 (List.replicate 32 0)) 30))
    rw [World.size_alloc] at this; exact hW0 ▸ this
  have x11 : BoxA w0 (w.heap.size + 1 + 1) 30 .u8 (List.replicate 32 0) := by
    have := BoxA.new ((w.alloc (.cells (cellsB old).toArray 30)).alloc (.cells (ints .u8 (List.replicate 32 0)) 30)) 30 .u8 (List.replicate 32 0) _ rfl
    rw [World.size_alloc, World.size_alloc] at this; exact hW0 ▸ this
  have z0 : w.heap.size + 1 + 1 < w0.heap.size := x11.lt
  have hk0 := hk.next B0
  have hb0 := hb.next B0
  have bl : b < w.heap.size := hb.lt
  have bm : mm ≤ b := hb.le
  have bz : b ≠ 0 := hb.ne0 hk
  have mn : ((m : Int) == n) = false := by simp; omega
  have mK : (m : Int) ≤ (K : Int) := by omega
  have P1 := Lib.hid p1
  have HF := Lib.hid hf
  have NX := Lib.hid nxt
  clear p1 hf nxt hk hb lr lp hp
  have HO := Lib.hid hW0
  clear hW0
  go_enter Tryd.func80, Tryd.ntmps80
  go_upto_region 7 with (go_at_call 93; refine (HF.out _).mono ?_; rintro e w' ⟨rfl, rfl⟩)
  change Code.wp _ _ _ _ (World.alloc (World.alloc (World.alloc w (.cells (cellsB old).toArray 30)) (.cells (ints .u8 (List.replicate 32 0)) 30)) (.cells (ints .u8 (List.replicate 32 0)) 30))
  rw [HO.out]
  clear HO
  go_upto_region 8 with (first
    | (refine wpList_loadH rfl (.tmp 6) rfl w.heap.size old rfl y6 ho ?_)
    | (go_at_call 80; refine (P1.out _ hk0 hb0).mono ?_; rintro e w1 ⟨rfl, q1, q2⟩)
    | (refine wpList_storeH rfl (.tmp 13) (.tmp 39) rfl w1.heap.size x1 rfl rfl ((BoxA.new w1 _ _ (List.replicate 32 0) _ rfl).next (Below.new1 _ _)) rfl la ?_)
    | (refine wpList_storeH rfl (.tmp 14) (.tmp 40) rfl (w1.heap.size + 1) x2 rfl rfl (by have := BoxA.new (w1.alloc (.cells (ints .u8 (List.replicate 32 0)) 30)) 30 .u8 (List.replicate 32 0) _ rfl; rw [World.size_alloc] at this; exact this.farRow (by omega) _) rfl lb ?_))
  obtain ⟨w2, hW2⟩ : ∃ w2, World.setRow (World.setRow (World.alloc (World.alloc w1 (.cells (ints .u8 (List.replicate 32 0)) 30)) (.cells (ints .u8 (List.replicate 32 0)) 30)) w1.heap.size (ints .u8 (nums x1))) (w1.heap.size + 1) (ints .u8 (nums x2)) = w2 := ⟨_, rfl⟩
  have zz := q2.size
  have Bq : Below w1.heap.size w1 w2 := hW2 ▸ below_setRow (below_setRow ((Below.new1 w1 _).trans (Below.mono (Below.new1 _ _) (by rw [World.size_alloc]; omega))) (Nat.le_refl _) _) (by omega) _
  have y17 : BoxH w2 w1.heap.size x1 := hW2 ▸ ((((BoxA.new w1 30 .u8 (List.replicate 32 0) _ rfl).next (Below.new1 _ (.cells (ints .u8 (List.replicate 32 0)) 30))).setRow (l' := nums x1)).farRow (by omega) _)
  have y18 : BoxH w2 (w1.heap.size + 1) x2 := by
    have := BoxA.new (w1.alloc (.cells (ints .u8 (List.replicate 32 0)) 30)) 30 .u8 (List.replicate 32 0) _ rfl
    rw [World.size_alloc] at this
    exact hW2 ▸ ((this.farRow (by omega) _).setRow (l' := nums x2))
  change Code.wp _ _ _ _ (World.setRow (World.setRow (World.alloc (World.alloc w1 (.cells (ints .u8 (List.replicate 32 0)) 30)) (.cells (ints .u8 (List.replicate 32 0)) 30)) w1.heap.size (ints .u8 (nums x1))) (w1.heap.size + 1) (ints .u8 (nums x2)))
  rw [hW2]
  clear hW2
  have x10' := (x10.but (by omega) q2).next Bq
  have x11' := (x11.but (by omega) q2).next Bq
  have hb2 := q1.next Bq
  have hk2 := (hk0.but bz q2).next Bq
  have q3 : But b w w2 := ((But.of B0).trans q2).on' Bq
  have z18 : w1.heap.size + 1 < w2.heap.size := BoxA.lt y18
  clear x10 x11 q1 q2 Bq hk0 hb0 P1 HF y6 B0
  have G2 : (GR w2 b (w.heap.size + 1) (w.heap.size + 1 + 1)) (fun _ => False) w2.drew := GR.next (d := fun _ => False) ⟨But3.refl _ _ _ _, ⟨_, x10', by simp⟩, ⟨_, x11', by simp⟩⟩ (Below.drawn w2 1 _)
  refine wp_name fun a0 ha0 => ?_
  have e0 : a0.eval (.tmp 0) = .pointer (some ⟨b, 0, none⟩) := by rw [ha0]; rfl
  have e10 : a0.eval (.tmp 10) = .pointer (some ⟨(w.heap.size + 1), 0, none⟩) := by rw [ha0]; rfl
  have e11 : a0.eval (.tmp 11) = .pointer (some ⟨(w.heap.size + 1 + 1), 0, none⟩) := by rw [ha0]; rfl
  have e13 : a0.eval (.tmp 13) = .pointer (some ⟨w1.heap.size, 0, none⟩) := by rw [ha0]; rfl
  have e14 : a0.eval (.tmp 14) = .pointer (some ⟨(w1.heap.size + 1), 0, none⟩) := by rw [ha0]; rfl
  have hz : a0.tmps.size = 66 := by rw [ha0]; rfl
  have HA0 := Lib.hid ha0
  clear ha0
  have SG : ∀ (d d' : Nat → Prop) (W W' : World), (GR w2 b (w.heap.size + 1) (w.heap.size + 1 + 1)) d W → (∀ j, d j → d' j) → Below W.heap.size W W' → (GR w2 b (w.heap.size + 1) (w.heap.size + 1 + 1)) d' W' := fun _ _ _ _ h _ b => GR.next h b
  refine wp_region_steps (Inv [41, 42, 43, 44, 45] a0 (GR w2 b (w.heap.size + 1) (w.heap.size + 1 + 1)) [(⟨some 0, 41, none, fun v _ => v = hashV x1⟩ : Cl), ⟨some 1, 42, none, fun v _ => v = hashV x2⟩, ⟨some 2, 43, none, fun v _ => v = .pointer (some ⟨b, 0, none⟩)⟩, ⟨some 3, 44, none, fun v W => v = hashV x ∧ BoxRd W mm b r2⟩, ⟨some 4, 45, none, fun v _ => v = hashV (joinM sha x2 x)⟩, ⟨some 5, 10, none, fun _ W => BoxH W (w.heap.size + 1) x1⟩, ⟨some 6, 11, none, fun _ W => BoxH W (w.heap.size + 1 + 1) (joinM sha x2 x)⟩, ⟨none, 0, some 3, fun _ W => BoxRd W mm b r1⟩]) (by kernel_rfl) (by kernel_rfl) (Inv.start G2 ⟨nofun, nofun, nofun, nofun, nofun, nofun, nofun, (fun _ => hb2.next (Below.drawn w2 1 _)), trivial⟩) ?_ ?_
  · have St : ∀ xc ∈ [(⟨some 0, 41, none, fun v _ => v = hashV x1⟩ : Cl), ⟨some 1, 42, none, fun v _ => v = hashV x2⟩, ⟨some 2, 43, none, fun v _ => v = .pointer (some ⟨b, 0, none⟩)⟩, ⟨some 3, 44, none, fun v W => v = hashV x ∧ BoxRd W mm b r2⟩, ⟨some 4, 45, none, fun v _ => v = hashV (joinM sha x2 x)⟩, ⟨some 5, 10, none, fun _ W => BoxH W (w.heap.size + 1) x1⟩, ⟨some 6, 11, none, fun _ W => BoxH W (w.heap.size + 1 + 1) (joinM sha x2 x)⟩, ⟨none, 0, some 3, fun _ W => BoxRd W mm b r1⟩], Lasts xc := AllC.mem ⟨lastsV0 _ _ _ _, lastsV0 _ _ _ _, lastsV0 _ _ _ _, (fun _ _ _ h b => ⟨h.1, BoxRd.next h.2 b⟩), lastsV0 _ _ _ _, lastsH _ _ _ _ _, lastsH _ _ _ _ _, (fun _ _ _ h b => BoxRd.next h b), trivial⟩
    clear HA0
    refine ⟨?_, ?_, ?_, ?_, ?_, ?_, ?_, trivial⟩
    · refine stepB rfl rfl (by decide) (by rw [hz]; decide) rfl rfl (by kernel_rfl) St SG fun d a W hF hG hH hn hcl hw => ?_
      have q13 := (hF.same 13 (by decide)).trans e13
      refine ⟨hashV x1, W, ?_, Below.refl _ _, ?_⟩
      · exact exec_load rfl (by rw [q13]; exact BoxH.load_ (But3.box hG.1 y17 (by omega) (by omega) (by omega)) la)
      · rfl
    · refine stepB rfl rfl (by decide) (by rw [hz]; decide) rfl rfl (by kernel_rfl) St SG fun d a W hF hG hH hn hcl hw => ?_
      have q14 := (hF.same 14 (by decide)).trans e14
      refine ⟨hashV x2, W, ?_, Below.refl _ _, ?_⟩
      · exact exec_load rfl (by rw [q14]; exact BoxH.load_ (But3.box hG.1 y18 (by omega) (by omega) (by omega)) lb)
      · rfl
    · refine stepB rfl rfl (by decide) (by rw [hz]; decide) rfl rfl (by kernel_rfl) St SG fun d a W hF hG hH hn hcl hw => ?_
      have q0 := (hF.same 0 (by decide)).trans e0
      refine ⟨.pointer (some ⟨b, 0, none⟩), W, ?_, Below.refl _ _, ?_⟩
      · clear hF hG hH hn hcl hw
        generalize a.eval = ρ at *
        go_simp
      · rfl
    · refine stepR b rfl rfl (by decide) (by rw [hz]; decide) rfl rfl (by kernel_rfl) (AllC.mem ⟨.inr (.inr fun _ _ _ _ h => h), .inr (.inr fun _ _ _ _ h => h), .inr (.inr fun _ _ _ _ h => h), .inl rfl, .inr (.inr fun _ _ _ _ h => h), .inr (.inr fun _ _ _ b h => BoxA.but h (by omega) b), .inr (.inr fun _ _ _ b h => BoxA.but h (by omega) b), .inr (.inl rfl), trivial⟩) (fun d d' W W' h _ b => GR.rd h (by omega) (by omega) b) fun d a W hF hG hH hn hcl hw => ?_
      have q43 : a.eval (.tmp 43) = .pointer (some ⟨b, 0, none⟩) := hH.at_ (i := 2) rfl (hw 2 rfl) id
      have qf : a.eval (.func 92) = .func (.func 92) #[] #[] := rfl
      have hrd : BoxRd W mm b r1 := hH.at_ (i := 7) rfl trivial hn
      refine ⟨92, #[.pointer (some ⟨b, 0, none⟩)], ?_, ?_⟩
      · clear hF hG hH hn hcl hw
        generalize a.eval = ρ at *
        go_simp
      · refine (NX.out W hrd).mono ?_; rintro e W' ⟨rfl, k1, k2⟩; exact ⟨_, rfl, k2, rfl, k1⟩
    · refine stepC rfl rfl (by decide) (by rw [hz]; decide) rfl rfl (by kernel_rfl) St SG fun d a W hF hG hH hn hcl hw => ?_
      have q42 : a.eval (.tmp 42) = hashV x2 := hH.at_ (i := 1) rfl (hw 1 rfl) id
      have q44 : a.eval (.tmp 44) = hashV x ∧ BoxRd W mm b r2 := hH.at_ (i := 3) rfl (hw 3 rfl) id
      have qf : a.eval (.func 94) = .func (.func 94) #[] #[] := rfl
      have q44 := q44.1
      refine ⟨94, #[hashV x2, hashV x], ?_, ?_⟩
      · clear hF hG hH hn hcl hw
        generalize a.eval = ρ at *
        go_simp
      · refine (hjoin_any x2 x W lb nx (But3.kon hG.1 hk2 bz (by omega) (by omega))).mono ?_; rintro e W' ⟨rfl, b⟩; exact ⟨_, rfl, b, rfl⟩
    · refine stepH (.tmp 10) (.tmp 41) rfl rfl rfl rfl (w.heap.size + 1) x1 la (fun _ _ h => h) (AllC.mem ⟨.inr fun _ _ _ h => h, .inr fun _ _ _ h => h, .inr fun _ _ _ h => h, .inr fun _ _ _ h => ⟨h.1, BoxRd.farRow h.2 (by omega) _⟩, .inr fun _ _ _ h => h, .inl rfl, .inr fun _ _ _ h => BoxA.farRow h (by omega) _, .inr fun _ _ _ h => BoxRd.farRow h (by omega) _, trivial⟩) (fun d d' W h _ => GR.rowp h (by omega) _ la) (fun d W h => h.2.1) fun d a W hF hG hH hn hcl hw => ?_
      have q10 := (hF.same 10 (by decide)).trans e10
      have q41 : a.eval (.tmp 41) = hashV x1 := hH.at_ (i := 0) rfl (hw 0 rfl) id
      exact ⟨q10, q41⟩
    · refine stepH (.tmp 11) (.tmp 45) rfl rfl rfl rfl (w.heap.size + 1 + 1) (joinM sha x2 x) (sha_length _) (fun _ _ h => h) (AllC.mem ⟨.inr fun _ _ _ h => h, .inr fun _ _ _ h => h, .inr fun _ _ _ h => h, .inr fun _ _ _ h => ⟨h.1, BoxRd.farRow h.2 (by omega) _⟩, .inr fun _ _ _ h => h, .inr fun _ _ _ h => BoxA.farRow h (by omega) _, .inl rfl, .inr fun _ _ _ h => BoxRd.farRow h (by omega) _, trivial⟩) (fun d d' W h _ => GR.rowq h (by omega) _ (sha_length _)) (fun d W h => h.2.2) fun d a W hF hG hH hn hcl hw => ?_
      have q11 := (hF.same 11 (by decide)).trans e11
      have q45 : a.eval (.tmp 45) = hashV (joinM sha x2 x) := hH.at_ (i := 4) rfl (hw 4 rfl) id
      exact ⟨q11, q45⟩
  · intro d a W ⟨hF, hB, hH⟩ hall
    have k44 : a.eval (.tmp 44) = hashV x ∧ BoxRd W mm b r2 := hH.at_ (i := 3) rfl (hall 3 (by decide)) id
    have s5 : BoxH W (w.heap.size + 1) x1 := hH.at_ (i := 5) rfl (hall 5 (by decide)) id
    have s6 : BoxH W (w.heap.size + 1 + 1) (joinM sha x2 x) := hH.at_ (i := 6) rfl (hall 6 (by decide)) id
    clear hH hall
    rw [hF.shape (by rw [hz]; decide)]
    clear hF
    simp only [List.foldl]
    generalize a.eval (.tmp 41) = z41 at *
    generalize a.eval (.tmp 42) = z42 at *
    generalize a.eval (.tmp 43) = z43 at *
    generalize a.eval (.tmp 44) = z44 at *
    generalize a.eval (.tmp 45) = z45 at *
    rw [HA0.out]
    simp only [Act.put, List.setIfInBounds_toArray, List.set_cons_zero, List.set_cons_succ]
    clear hz HA0 SG e0 e10 e11 e13 e14
    clear a a0
    go_wp2_with (fail)
    exact bodyPost_ret (v := .tuple #[hashV x1, hashV (joinM sha x2 x)]) (results_pair rfl _ _ (w.heap.size + 1) (w.heap.size + 1 + 1) x1 (joinM sha x2 x) rfl rfl s5 la s6 (sha_length _)) rfl ⟨rfl, k44.2, hB.1.but q3 (by omega) (by omega)⟩
set_option maxRecDepth 100000 in
set_option maxHeartbeats 4000000 in
theorem bo_right (q : Nat) (ih : BoOk q) (old : Bs) (m n : Nat) (whole : Bool) (r : Rd) (mm b : Nat) (w : World) (hq : n ≤ q + 1) (h2 : 2 ≤ n) (_h1 : 1 ≤ m) (hm : ¬ m ≤ half n) (hmn : m < n) (hn : n ≤ 5000) (hp : r.1.length ≤ 1000000) (ho : old.length = 32) (hk : Kon w) (hb : BoxRd w mm b r) :
    Calls Tryd.prog 80 #[.pointer (some ⟨b, 0, none⟩), hashV old, .int .i64 m, .int .i64 n, .bool whole] w fun e w' => e = .returned (.tuple #[hashV (bothM sha old m n whole r).1.1, hashV (bothM sha old m n whole r).1.2]) ∧ BoxRd w' mm b (bothM sha old m n whole r).2 ∧ But b w w' := by
  have hr := half_range h2
  rw [bothM_right sha h2 hm (by omega)]
  obtain ⟨la, lb, lr, lp⟩ := bothM_32 sha_length n old (m - half n) (n - half n) false r (by omega) (by omega) (by omega) ho hb.h32
  have p1 := fun W (h : Kon W) (k : BoxRd W mm b r) => ih old (m - half n) (n - half n) false r mm b W (by omega) (by omega) (by omega) (by omega) hp ho h k
  have hf := fun W => half_any n W h2 (by omega)
  generalize bothM sha old (m - half n) (n - half n) false r = R at *
  obtain ⟨⟨x1, x2⟩, r1⟩ := R
  simp only at la lb lr lp p1 ⊢
  obtain ⟨nx, _, _⟩ := nextM_32 lr
  have nxt := fun W (h : BoxRd W mm b r1) => next_any h (Nat.le_trans lp hp)
  generalize nextM r1 = X at *
  obtain ⟨x, r2⟩ := X
  simp only at nx nxt ⊢
  clear ih
  generalize half n = K at *
  have e1 : ((m - K : Nat) : Int) = (m : Int) - K := by omega
  have e2 : ((n - K : Nat) : Int) = (n : Int) - K := by omega
  simp only [e1, e2] at p1
  clear e1 e2
  obtain ⟨w0, hW0⟩ : ∃ w0, World.alloc (World.alloc (World.alloc w (.cells (cellsB old).toArray 30)) (.cells (ints .u8 (List.replicate 32 0)) 30)) (.cells (ints .u8 (List.replicate 32 0)) 30) = w0 := ⟨_, rfl⟩
  have B0 : Below w.heap.size w w0 := hW0 ▸ Below.on (Below.on (Below.new1 _ _) (Below.new1 _ _)) (Below.new1 _ _)
  have y6 : BoxH w0 w.heap.size old := hW0 ▸ ((BoxH.new w old).next (Below.new1 _ _)).next (Below.new1 _ _)
  have x10 : BoxA w0 (w.heap.size + 1) 30 .u8 (List.replicate 32 0) := by
    have := (BoxA.new (w.alloc (.cells (cellsB old).toArray 30)) 30 .u8 (List.replicate 32 0) _ rfl).next (Below.new1 _ (.cells (ints .u8 (List.replicate 32 0)) 30))
    rw [World.size_alloc] at this; exact hW0 ▸ this
  have x11 : BoxA w0 (w.heap.size + 1 + 1) 30 .u8 (List.replicate 32 0) := by
    have := BoxA.new ((w.alloc (.cells (cellsB old).toArray 30)).alloc (.cells (ints .u8 (List.replicate 32 0)) 30)) 30 .u8 (List.replicate 32 0) _ rfl
    rw [World.size_alloc, World.size_alloc] at this; exact hW0 ▸ this
  have z0 : w.heap.size + 1 + 1 < w0.heap.size := x11.lt
  have hk0 := hk.next B0
  have hb0 := hb.next B0
  have bl : b < w.heap.size := hb.lt
  have bm : mm ≤ b := hb.le
  have bz : b ≠ 0 := hb.ne0 hk
  have mn : ((m : Int) == n) = false := by simp; omega
  have mK : ¬ (m : Int) ≤ (K : Int) := by omega
  have P1 := Lib.hid p1
  have HF := Lib.hid hf
  have NX := Lib.hid nxt
  clear p1 hf nxt hk hb lr lp hp
  have HO := Lib.hid hW0
  clear hW0
  go_enter Tryd.func80, Tryd.ntmps80
  go_upto_region 9 with (go_at_call 93; refine (HF.out _).mono ?_; rintro e w' ⟨rfl, rfl⟩)
  change Code.wp _ _ _ _ (World.alloc (World.alloc (World.alloc w (.cells (cellsB old).toArray 30)) (.cells (ints .u8 (List.replicate 32 0)) 30)) (.cells (ints .u8 (List.replicate 32 0)) 30))
  rw [HO.out]
  clear HO
  go_upto_region 10 with (first
    | (refine wpList_loadH rfl (.tmp 6) rfl w.heap.size old rfl y6 ho ?_)
    | (go_at_call 80; refine (P1.out _ hk0 hb0).mono ?_; rintro e w1 ⟨rfl, q1, q2⟩)
    | (refine wpList_storeH rfl (.tmp 15) (.tmp 56) rfl w1.heap.size x1 rfl rfl ((BoxA.new w1 _ _ (List.replicate 32 0) _ rfl).next (Below.new1 _ _)) rfl la ?_)
    | (refine wpList_storeH rfl (.tmp 16) (.tmp 57) rfl (w1.heap.size + 1) x2 rfl rfl (by have := BoxA.new (w1.alloc (.cells (ints .u8 (List.replicate 32 0)) 30)) 30 .u8 (List.replicate 32 0) _ rfl; rw [World.size_alloc] at this; exact this.farRow (by omega) _) rfl lb ?_))
  obtain ⟨w2, hW2⟩ : ∃ w2, World.setRow (World.setRow (World.alloc (World.alloc w1 (.cells (ints .u8 (List.replicate 32 0)) 30)) (.cells (ints .u8 (List.replicate 32 0)) 30)) w1.heap.size (ints .u8 (nums x1))) (w1.heap.size + 1) (ints .u8 (nums x2)) = w2 := ⟨_, rfl⟩
  have zz := q2.size
  have Bq : Below w1.heap.size w1 w2 := hW2 ▸ below_setRow (below_setRow ((Below.new1 w1 _).trans (Below.mono (Below.new1 _ _) (by rw [World.size_alloc]; omega))) (Nat.le_refl _) _) (by omega) _
  have y17 : BoxH w2 w1.heap.size x1 := hW2 ▸ ((((BoxA.new w1 30 .u8 (List.replicate 32 0) _ rfl).next (Below.new1 _ (.cells (ints .u8 (List.replicate 32 0)) 30))).setRow (l' := nums x1)).farRow (by omega) _)
  have y18 : BoxH w2 (w1.heap.size + 1) x2 := by
    have := BoxA.new (w1.alloc (.cells (ints .u8 (List.replicate 32 0)) 30)) 30 .u8 (List.replicate 32 0) _ rfl
    rw [World.size_alloc] at this
    exact hW2 ▸ ((this.farRow (by omega) _).setRow (l' := nums x2))
  change Code.wp _ _ _ _ (World.setRow (World.setRow (World.alloc (World.alloc w1 (.cells (ints .u8 (List.replicate 32 0)) 30)) (.cells (ints .u8 (List.replicate 32 0)) 30)) w1.heap.size (ints .u8 (nums x1))) (w1.heap.size + 1) (ints .u8 (nums x2)))
  rw [hW2]
  clear hW2
  have x10' := (x10.but (by omega) q2).next Bq
  have x11' := (x11.but (by omega) q2).next Bq
  have hb2 := q1.next Bq
  have hk2 := (hk0.but bz q2).next Bq
  have q3 : But b w w2 := ((But.of B0).trans q2).on' Bq
  have z18 : w1.heap.size + 1 < w2.heap.size := BoxA.lt y18
  clear x10 x11 q1 q2 Bq hk0 hb0 P1 HF y6 B0
  go_upto_region 11 with (first
    | (go_at_call 92; refine (NX.out _ hb2).mono ?_; rintro e w3 ⟨rfl, q4, q5⟩)
    | (refine wpList_storeH rfl (.tmp 17) (.tmp 59) rfl w3.heap.size x rfl rfl (BoxA.new w3 _ _ (List.replicate 32 0) _ rfl) rfl nx ?_))
  have zz3 := q5.size
  have Bq : Below w3.heap.size w3 (World.setRow (World.alloc w3 (.cells (ints .u8 (List.replicate 32 0)) 30)) w3.heap.size (ints .u8 (nums x))) := below_setRow (Below.new1 w3 _) (Nat.le_refl _) _
  have y19 : BoxH (World.setRow (World.alloc w3 (.cells (ints .u8 (List.replicate 32 0)) 30)) w3.heap.size (ints .u8 (nums x))) w3.heap.size x := (BoxA.new w3 30 .u8 (List.replicate 32 0) _ rfl).setRow (l' := nums x)
  change Code.wp _ _ _ _ (World.setRow (World.alloc w3 (.cells (ints .u8 (List.replicate 32 0)) 30)) w3.heap.size (ints .u8 (nums x)))
  generalize World.setRow (World.alloc w3 (.cells (ints .u8 (List.replicate 32 0)) 30)) w3.heap.size (ints .u8 (nums x)) = w4 at *
  have x10'' := (x10'.but (by omega) q5).next Bq
  have x11'' := (x11'.but (by omega) q5).next Bq
  have y17' : BoxH w4 w1.heap.size x1 := (BoxA.but y17 (by omega) q5).next Bq
  have y18' : BoxH w4 (w1.heap.size + 1) x2 := (BoxA.but y18 (by omega) q5).next Bq
  have hb4 := q4.next Bq
  have hk4 := (hk2.but bz q5).next Bq
  have q6 : But b w w4 := (q3.trans q5).on' Bq
  have z19 : w3.heap.size < w4.heap.size := BoxA.lt y19
  clear x10' x11' y17 y18 q4 q5 q3 Bq hk2 hb2 NX
  have G0 : (GB w4 (w.heap.size + 1) (w.heap.size + 1 + 1)) (fun _ => False) w4.drew := GB.next (d := fun _ => False) ⟨But2.refl _ _ _, ⟨_, x10'', by simp⟩, ⟨_, x11'', by simp⟩⟩ (Below.drawn w4 1 _)
  refine wp_name fun a0 ha0 => ?_
  have e10 : a0.eval (.tmp 10) = .pointer (some ⟨(w.heap.size + 1), 0, none⟩) := by rw [ha0]; rfl
  have e11 : a0.eval (.tmp 11) = .pointer (some ⟨(w.heap.size + 1 + 1), 0, none⟩) := by rw [ha0]; rfl
  have e15 : a0.eval (.tmp 15) = .pointer (some ⟨w1.heap.size, 0, none⟩) := by rw [ha0]; rfl
  have e16 : a0.eval (.tmp 16) = .pointer (some ⟨(w1.heap.size + 1), 0, none⟩) := by rw [ha0]; rfl
  have e17 : a0.eval (.tmp 17) = .pointer (some ⟨w3.heap.size, 0, none⟩) := by rw [ha0]; rfl
  have hz : a0.tmps.size = 66 := by rw [ha0]; rfl
  have HA0 := Lib.hid ha0
  clear ha0
  have SG : ∀ (d d' : Nat → Prop) (W W' : World), (GB w4 (w.heap.size + 1) (w.heap.size + 1 + 1)) d W → (∀ j, d j → d' j) → Below W.heap.size W W' → (GB w4 (w.heap.size + 1) (w.heap.size + 1 + 1)) d' W' := fun _ _ _ _ h _ b => GB.next h b
  refine wp_region_steps (Inv [60, 61, 62, 63, 64, 65] a0 (GB w4 (w.heap.size + 1) (w.heap.size + 1 + 1)) [(⟨some 0, 60, none, fun v _ => v = hashV x⟩ : Cl), ⟨some 1, 61, none, fun v _ => v = hashV x1⟩, ⟨some 2, 62, none, fun v _ => v = hashV (joinM sha x x1)⟩, ⟨some 3, 63, none, fun v _ => v = hashV x⟩, ⟨some 4, 64, none, fun v _ => v = hashV x2⟩, ⟨some 5, 65, none, fun v _ => v = hashV (joinM sha x x2)⟩, ⟨some 6, 10, none, fun _ W => BoxH W (w.heap.size + 1) (joinM sha x x1)⟩, ⟨some 7, 11, none, fun _ W => BoxH W (w.heap.size + 1 + 1) (joinM sha x x2)⟩]) (by kernel_rfl) (by kernel_rfl) (Inv.start G0 ⟨nofun, nofun, nofun, nofun, nofun, nofun, nofun, nofun, trivial⟩) ?_ ?_
  · have St : ∀ xc ∈ [(⟨some 0, 60, none, fun v _ => v = hashV x⟩ : Cl), ⟨some 1, 61, none, fun v _ => v = hashV x1⟩, ⟨some 2, 62, none, fun v _ => v = hashV (joinM sha x x1)⟩, ⟨some 3, 63, none, fun v _ => v = hashV x⟩, ⟨some 4, 64, none, fun v _ => v = hashV x2⟩, ⟨some 5, 65, none, fun v _ => v = hashV (joinM sha x x2)⟩, ⟨some 6, 10, none, fun _ W => BoxH W (w.heap.size + 1) (joinM sha x x1)⟩, ⟨some 7, 11, none, fun _ W => BoxH W (w.heap.size + 1 + 1) (joinM sha x x2)⟩], Lasts xc := AllC.mem ⟨lastsV0 _ _ _ _, lastsV0 _ _ _ _, lastsV0 _ _ _ _, lastsV0 _ _ _ _, lastsV0 _ _ _ _, lastsV0 _ _ _ _, lastsH _ _ _ _ _, lastsH _ _ _ _ _, trivial⟩
    clear HA0
    refine ⟨?_, ?_, ?_, ?_, ?_, ?_, ?_, ?_, trivial⟩
    · refine stepB rfl rfl (by decide) (by rw [hz]; decide) rfl rfl (by kernel_rfl) St SG fun d a W hF hG hH hn hcl hw => ?_
      have q17 := (hF.same 17 (by decide)).trans e17
      refine ⟨hashV x, W, ?_, Below.refl _ _, ?_⟩
      · exact exec_load rfl (by rw [q17]; exact BoxH.load_ (But2.box hG.1 y19 (by omega) (by omega)) nx)
      · rfl
    · refine stepB rfl rfl (by decide) (by rw [hz]; decide) rfl rfl (by kernel_rfl) St SG fun d a W hF hG hH hn hcl hw => ?_
      have q15 := (hF.same 15 (by decide)).trans e15
      refine ⟨hashV x1, W, ?_, Below.refl _ _, ?_⟩
      · exact exec_load rfl (by rw [q15]; exact BoxH.load_ (But2.box hG.1 y17' (by omega) (by omega)) la)
      · rfl
    · refine stepC rfl rfl (by decide) (by rw [hz]; decide) rfl rfl (by kernel_rfl) St SG fun d a W hF hG hH hn hcl hw => ?_
      have q60 : a.eval (.tmp 60) = hashV x := hH.at_ (i := 0) rfl (hw 0 rfl) id
      have q61 : a.eval (.tmp 61) = hashV x1 := hH.at_ (i := 1) rfl (hw 1 rfl) id
      have qf : a.eval (.func 94) = .func (.func 94) #[] #[] := rfl
      refine ⟨94, #[hashV x, hashV x1], ?_, ?_⟩
      · clear hF hG hH hn hcl hw
        generalize a.eval = ρ at *
        go_simp
      · refine (hjoin_any x x1 W nx la (But2.kon hG.1 hk4 (by omega) (by omega))).mono ?_; rintro e W' ⟨rfl, b⟩; exact ⟨_, rfl, b, rfl⟩
    · refine stepB rfl rfl (by decide) (by rw [hz]; decide) rfl rfl (by kernel_rfl) St SG fun d a W hF hG hH hn hcl hw => ?_
      have q17 := (hF.same 17 (by decide)).trans e17
      refine ⟨hashV x, W, ?_, Below.refl _ _, ?_⟩
      · exact exec_load rfl (by rw [q17]; exact BoxH.load_ (But2.box hG.1 y19 (by omega) (by omega)) nx)
      · rfl
    · refine stepB rfl rfl (by decide) (by rw [hz]; decide) rfl rfl (by kernel_rfl) St SG fun d a W hF hG hH hn hcl hw => ?_
      have q16 := (hF.same 16 (by decide)).trans e16
      refine ⟨hashV x2, W, ?_, Below.refl _ _, ?_⟩
      · exact exec_load rfl (by rw [q16]; exact BoxH.load_ (But2.box hG.1 y18' (by omega) (by omega)) lb)
      · rfl
    · refine stepC rfl rfl (by decide) (by rw [hz]; decide) rfl rfl (by kernel_rfl) St SG fun d a W hF hG hH hn hcl hw => ?_
      have q63 : a.eval (.tmp 63) = hashV x := hH.at_ (i := 3) rfl (hw 3 rfl) id
      have q64 : a.eval (.tmp 64) = hashV x2 := hH.at_ (i := 4) rfl (hw 4 rfl) id
      have qf : a.eval (.func 94) = .func (.func 94) #[] #[] := rfl
      refine ⟨94, #[hashV x, hashV x2], ?_, ?_⟩
      · clear hF hG hH hn hcl hw
        generalize a.eval = ρ at *
        go_simp
      · refine (hjoin_any x x2 W nx lb (But2.kon hG.1 hk4 (by omega) (by omega))).mono ?_; rintro e W' ⟨rfl, b⟩; exact ⟨_, rfl, b, rfl⟩
    · refine stepH (.tmp 10) (.tmp 62) rfl rfl rfl rfl (w.heap.size + 1) (joinM sha x x1) (sha_length _) (fun _ _ h => h) (AllC.mem ⟨.inr fun _ _ _ h => h, .inr fun _ _ _ h => h, .inr fun _ _ _ h => h, .inr fun _ _ _ h => h, .inr fun _ _ _ h => h, .inr fun _ _ _ h => h, .inl rfl, .inr fun _ _ _ h => BoxA.farRow h (by omega) _, trivial⟩) (fun d d' W h _ => GB.rowp h (by omega) _ (sha_length _)) (fun d W h => h.2.1) fun d a W hF hG hH hn hcl hw => ?_
      have q10 := (hF.same 10 (by decide)).trans e10
      have q62 : a.eval (.tmp 62) = hashV (joinM sha x x1) := hH.at_ (i := 2) rfl (hw 2 rfl) id
      exact ⟨q10, q62⟩
    · refine stepH (.tmp 11) (.tmp 65) rfl rfl rfl rfl (w.heap.size + 1 + 1) (joinM sha x x2) (sha_length _) (fun _ _ h => h) (AllC.mem ⟨.inr fun _ _ _ h => h, .inr fun _ _ _ h => h, .inr fun _ _ _ h => h, .inr fun _ _ _ h => h, .inr fun _ _ _ h => h, .inr fun _ _ _ h => h, .inr fun _ _ _ h => BoxA.farRow h (by omega) _, .inl rfl, trivial⟩) (fun d d' W h _ => GB.rowq h (by omega) _ (sha_length _)) (fun d W h => h.2.2) fun d a W hF hG hH hn hcl hw => ?_
      have q11 := (hF.same 11 (by decide)).trans e11
      have q65 : a.eval (.tmp 65) = hashV (joinM sha x x2) := hH.at_ (i := 5) rfl (hw 5 rfl) id
      exact ⟨q11, q65⟩
  · intro d a W ⟨hF, hB, hH⟩ hall
    have s6 : BoxH W (w.heap.size + 1) (joinM sha x x1) := hH.at_ (i := 6) rfl (hall 6 (by decide)) id
    have s7 : BoxH W (w.heap.size + 1 + 1) (joinM sha x x2) := hH.at_ (i := 7) rfl (hall 7 (by decide)) id
    clear hH hall
    rw [hF.shape (by rw [hz]; decide)]
    clear hF
    simp only [List.foldl]
    generalize a.eval (.tmp 60) = z60 at *
    generalize a.eval (.tmp 61) = z61 at *
    generalize a.eval (.tmp 62) = z62 at *
    generalize a.eval (.tmp 63) = z63 at *
    generalize a.eval (.tmp 64) = z64 at *
    generalize a.eval (.tmp 65) = z65 at *
    rw [HA0.out]
    simp only [Act.put, List.setIfInBounds_toArray, List.set_cons_zero, List.set_cons_succ]
    clear hz HA0 SG e10 e11 e15 e16 e17
    clear a a0
    go_wp2_with (fail)
    exact bodyPost_ret (v := .tuple #[hashV (joinM sha x x1), hashV (joinM sha x x2)]) (results_pair rfl _ _ (w.heap.size + 1) (w.heap.size + 1 + 1) (joinM sha x x1) (joinM sha x x2) rfl rfl s6 (sha_length _) s7 (sha_length _)) rfl ⟨rfl, hB.1.rd hb4 (by omega) (by omega) (by omega) (by omega), hB.1.but q6 (by omega) (by omega)⟩
theorem bo_le (q : Nat) : BoOk q := by
  induction q with
  | zero => intro old m n whole r mm b w h h1 h2; omega
  | succ q ih =>
    intro old m n whole r mm b w hq h1 h2 hn hp ho hk hb
    by_cases e : m = n
    · subst e
      cases whole
      · exact bo_next old m r mm b w hn hp ho hk hb
      · exact bo_whole old m r mm b w hn ho hk hb
    · by_cases c2 : m ≤ half n
      · exact bo_left q ih old m n whole r mm b w hq (by omega) h1 c2 (by omega) hn hp ho hk hb
      · exact bo_right q ih old m n whole r mm b w hq (by omega) h1 c2 (by omega) hn hp ho hk hb
theorem both_any (old : Bs) (m n : Nat) (whole : Bool) (r : Rd) (mm b : Nat) (w : World) (h1 : 1 ≤ m) (h2 : m ≤ n) (hn : n ≤ 5000) (hp : r.1.length ≤ 1000000) (ho : old.length = 32) (hk : Kon w) (hb : BoxRd w mm b r) :
    Calls Tryd.prog 80 #[.pointer (some ⟨b, 0, none⟩), hashV old, .int .i64 m, .int .i64 n, .bool whole] w fun e w' => e = .returned (.tuple #[hashV (bothM sha old m n whole r).1.1, hashV (bothM sha old m n whole r).1.2]) ∧ BoxRd w' mm b (bothM sha old m n whole r).2 ∧ But b w w' := bo_le n old m n whole r mm b w (Nat.le_refl _) h1 h2 hn hp ho hk hb
end Go.Proofs.YtcocengpekndjaaDoor
