/- The walk over the reference's GrownTexts. -/
import Derived.Test.YtcocengpekndjaaDoorPrGrowV
import Derived.Test.YtcocengpekndjaaDoorPrJoint
namespace Go.Proofs.YtcocengpekndjaaDoor
open Go.RowKit
theorem Hs.text {W : World} {a : Addr} {l : List Bs} (h : Hs W (some a) l) {u : Nat} (hu : u < l.length) (c : Nat) : (convert 67 9 (.slice (some (a.add (u * 32))) 32 c)).run Tryd.prog W = .ok (.string ⟨l[u].toArray⟩) W := by
  have h32 : l[u].length = 32 := h.1 _ (List.getElem_mem hu)
  have := run_convert_bytes_back (P := Tryd.prog) W 67 9 5 (a.add (u * 32)) c l[u] (by kernel_rfl) (by kernel_rfl) (by kernel_rfl) (fun j hj => by
    obtain ⟨h0, h | ⟨a', e, h⟩⟩ := h
    · rw [h] at hu; simp at hu
    · cases e
      rw [add_add]
      exact h _ _ (cellsH_at h0 hu (cellsB_get hj)))
  rwa [h32] at this
theorem grownT_len (d : Nat) : ∀ (old : Bs) (m n : Nat) (whole : Bool) (path : List Bs), n ≤ d → (grownT sha old m n whole path).length ≤ 2 * n := by
  induction d with
  | zero => intro old m n whole path h; rw [grownT, dif_pos (.inr (by omega))]; simp
  | succ d ih =>
    intro old m n whole path h
    by_cases e : m = n ∨ n < 2
    · rw [grownT, dif_pos e]; simp
    · have hr := half_range (n := n) (by omega)
      by_cases c : m ≤ half n
      · rw [grownT_left sha (by omega) c]
        split
        · simp
        · split
          · simp
          · have := ih old m (half n) whole path (by omega)
            simp only [List.length_append, List.length_cons, List.length_nil]; omega
      · rw [grownT_right sha (by omega) c (by omega)]
        split
        · simp
        · split
          · simp
          · have := ih old (m - half n) (n - half n) false path (by omega)
            simp only [List.length_append, List.length_cons, List.length_nil]; omega
theorem grownT_l {old : Bs} {m n : Nat} {whole : Bool} {path : List Bs} (h : 2 ≤ n) (h1 : m ≤ half n) {R : Bs × Bs × Nat × Bool} (hR : grownR old m (half n) whole path = R) :
    (R.2.2.2 = true → ∀ hu : R.2.2.1 < path.length, grownT sha old m n whole path = grownT sha old m (half n) whole path ++ [1 :: (R.2.1 ++ path[R.2.2.1])]) ∧ (R.2.2.2 = false ∨ path.length ≤ R.2.2.1 → grownT sha old m n whole path = []) := by
  subst hR
  unfold grownR
  rw [grownT_left sha h h1]
  cases e : grownM sha old m (half n) whole path with
  | none => exact ⟨fun h => by simp at h, fun _ => rfl⟩
  | some x =>
    obtain ⟨a, b, u⟩ := x
    refine ⟨fun _ hu => ?_, fun hh => ?_⟩
    · simp only at hu ⊢
      rw [List.getElem?_eq_getElem hu]
    · simp only at hh ⊢
      rw [List.getElem?_eq_none (by simpa using hh)]
theorem grownT_r {old : Bs} {m n : Nat} {whole : Bool} {path : List Bs} (h : 2 ≤ n) (h1 : ¬ m ≤ half n) (h2 : m ≠ n) {R : Bs × Bs × Nat × Bool} (hR : grownR old (m - half n) (n - half n) false path = R) :
    (R.2.2.2 = true → ∀ hu : R.2.2.1 < path.length, grownT sha old m n whole path = grownT sha old (m - half n) (n - half n) false path ++ [1 :: (path[R.2.2.1] ++ R.1)] ++ [1 :: (path[R.2.2.1] ++ R.2.1)]) ∧ (R.2.2.2 = false ∨ path.length ≤ R.2.2.1 → grownT sha old m n whole path = []) := by
  subst hR
  unfold grownR
  rw [grownT_right sha h h1 h2]
  cases e : grownM sha old (m - half n) (n - half n) false path with
  | none => exact ⟨fun h => by simp at h, fun _ => rfl⟩
  | some x =>
    obtain ⟨a, b, u⟩ := x
    refine ⟨fun _ hu => ?_, fun hh => ?_⟩
    · simp only at hu ⊢
      rw [List.getElem?_eq_getElem hu]
    · simp only at hh ⊢
      rw [List.getElem?_eq_none (by simpa using hh)]
/-- What GrownTexts does with lists of at most q strings. -/
def GtOk (q : Nat) : Prop := ∀ (old : Bs) (m n : Nat) (whole : Bool) (path : List Bs) (A : Option Addr) (k c : Nat) (w : World), n ≤ q → 1 ≤ m → m ≤ n → n ≤ 5000 → path.length = k → k ≤ c → k ≤ 5000 → old.length = 32 → Hs w A path →
    Calls Tryd.prog 53 #[wordsV, hashV old, .int .i64 m, .int .i64 n, .bool whole, .slice A k c] w fun e w' => ∃ v, e = .returned v ∧ OwnStrs w' w.heap.size v (grownT sha old m n whole path) ∧ Below w.heap.size w w'
set_option maxRecDepth 100000 in
set_option maxHeartbeats 4000000 in
theorem gt_all (old : Bs) (m : Nat) (whole : Bool) (path : List Bs) (A : Option Addr) (k c : Nat) (w : World) (_hm : m ≤ 5000) (hs : Hs w A path) :
    Calls Tryd.prog 53 #[wordsV, hashV old, .int .i64 m, .int .i64 m, .bool whole, .slice A k c] w fun e w' => ∃ v, e = .returned v ∧ OwnStrs w' w.heap.size v (grownT sha old m m whole path) ∧ Below w.heap.size w w' := by
  rw [grownT_all sha rfl]
  obtain ⟨w0, hW0⟩ : ∃ w0, World.alloc (w.alloc (.cells (ints .u32 wordsL) 27)) (.cells (cellsB old).toArray 30) = w0 := ⟨_, rfl⟩
  have B0 : Below w.heap.size w w0 := hW0 ▸ Below.on (Below.new1 _ _) (Below.new1 _ _)
  have y6 : BoxW w0 w.heap.size := hW0 ▸ (BoxW.new w).next (Below.new1 _ _)
  have y7 : BoxH w0 (w.heap.size + 1) old := by
    have := BoxH.new (w.alloc (.cells (ints .u32 wordsL) 27)) old
    rw [World.size_alloc] at this; exact hW0 ▸ this
  have hs0 := hs.next B0
  have HO := Lib.hid hW0
  clear hW0 hs hs0 y6 y7 _hm
  go_enter Tryd.func53, Tryd.ntmps53
  go_upto_region 1 with (fail)
  change Code.wp _ _ _ _ (World.alloc (w.alloc (.cells (ints .u32 wordsL) 27)) (.cells (cellsB old).toArray 30))
  rw [HO.out]
  clear HO
  go_wp2_with (fail)
  go_ret
  exact ⟨_, rfl, OwnStrs.none _ _, B0⟩
set_option maxRecDepth 100000 in
set_option maxHeartbeats 4000000 in
theorem gt_left (q : Nat) (ih : GtOk q) (old : Bs) (m n : Nat) (whole : Bool) (path : List Bs) (A : Option Addr) (k c : Nat) (w : World) (hq : n ≤ q + 1) (h2 : 2 ≤ n) (h1 : 1 ≤ m) (hmn : m < n) (hm : m ≤ half n) (hn : n ≤ 5000) (hk : path.length = k) (hkc : k ≤ c) (hk5 : k ≤ 5000) (ho : old.length = 32) (hs : Hs w A path) :
    Calls Tryd.prog 53 #[wordsV, hashV old, .int .i64 m, .int .i64 n, .bool whole, .slice A k c] w fun e w' => ∃ v, e = .returned v ∧ OwnStrs w' w.heap.size v (grownT sha old m n whole path) ∧ Below w.heap.size w w' := by
  have hr := half_range h2
  obtain ⟨R, hR⟩ : ∃ R, grownR old m (half n) whole path = R := ⟨_, rfl⟩
  obtain ⟨g1, g2⟩ := grownT_l (old := old) (whole := whole) (path := path) h2 hm hR
  have r32 := grownR_32 hs.1 (half n) old m (half n) whole (Nat.le_refl _) (by omega) (by omega) ho
  have p1 := fun W (h : Hs W A path) => grown_any old m (half n) whole path A k c W (by omega) (by omega) (by omega) hk hkc hk5 ho h
  have t1 := fun W (h : Hs W A path) => ih old m (half n) whole path A k c W (by omega) (by omega) (by omega) (by omega) hk hkc hk5 ho h
  have tl := grownT_len (half n) old m (half n) whole path (Nat.le_refl _)
  rw [hR] at r32 p1
  have hf := fun W => rhalf_any n W h2 (by omega)
  obtain ⟨x1, x2, u, ok⟩ := R
  obtain ⟨l1, l2, lu⟩ := r32
  simp only at l1 l2 lu g1 g2
  rw [hk] at lu
  generalize grownT sha old m (half n) whole path = T1 at *
  obtain ⟨TT, hTT⟩ : ∃ TT, grownT sha old m n whole path = TT := ⟨_, rfl⟩
  rw [hTT] at g1 g2 ⊢
  clear hTT
  generalize half n = H at *
  obtain ⟨w0, hW0⟩ : ∃ w0, World.alloc (w.alloc (.cells (ints .u32 wordsL) 27)) (.cells (cellsB old).toArray 30) = w0 := ⟨_, rfl⟩
  have B0 : Below w.heap.size w w0 := hW0 ▸ Below.on (Below.new1 _ _) (Below.new1 _ _)
  have y6 : BoxW w0 w.heap.size := hW0 ▸ (BoxW.new w).next (Below.new1 _ _)
  have y7 : BoxH w0 (w.heap.size + 1) old := by
    have := BoxH.new (w.alloc (.cells (ints .u32 wordsL) 27)) old
    rw [World.size_alloc] at this; exact hW0 ▸ this
  have hs0 := hs.next B0
  have HO := Lib.hid hW0
  have ne : ((m : Int) == n) = false := by simp; omega
  have hm1 : (m : Int) ≤ H := by omega
  have q0 : T1.length ≤ 20000 := by omega
  have q1 : T1.length ≤ 100000 := by omega
  have HF := Lib.hid hf
  have P1 := Lib.hid p1
  have HT := Lib.hid t1
  have L1 := Lib.hid l1
  have L2 := Lib.hid l2
  have HG1 := Lib.hid g1
  have HG2 := Lib.hid g2
  have HOL := Lib.hid ho
  have HK := Lib.hid hk
  clear hW0 hs hf p1 t1 l1 l2 g1 g2 ho ih hR hk tl hm
  go_enter Tryd.func53, Tryd.ntmps53
  go_upto_region 5 with (go_at_call 78; refine (HF.out _).mono ?_; rintro e w' ⟨rfl, rfl⟩)
  change Code.wp _ _ _ _ (World.alloc (w.alloc (.cells (ints .u32 wordsL) 27)) (.cells (cellsB old).toArray 30))
  rw [HO.out]
  clear HO
  clear HF
  go_upto_region 6 with (first
    | (refine wpList_load_at rfl 27 (.tmp 6) rfl wordsV (BoxW.load y6) ?_)
    | (refine wpList_loadH rfl (.tmp 7) rfl (w.heap.size + 1) old rfl y7 HOL.out ?_)
    | (go_at_call 81; refine (P1.out _ hs0).mono ?_; rintro e w1 ⟨rfl, b1⟩)
    | (refine wpList_storeH rfl (.tmp 14) (.tmp 39) rfl w1.heap.size x1 rfl rfl ((BoxA.new w1 30 .u8 (List.replicate 32 0) _ rfl).next (Below.new1 _ _)) (by simp) L1.out ?_)
    | (refine wpList_storeH rfl (.tmp 15) (.tmp 40) rfl (w1.heap.size + 1) x2 rfl rfl (BoxA.farRow (b := w1.heap.size + 1) (l := List.replicate 32 0) (by have := BoxA.new (w1.alloc (.cells (ints .u8 (List.replicate 32 0)) 30)) 30 .u8 (List.replicate 32 0) _ rfl; rw [World.size_alloc] at this; exact this) (by omega) _) (by simp) L2.out ?_))
  obtain ⟨w2, hW2⟩ : ∃ w2, World.setRow (World.setRow (World.alloc (World.alloc w1 (.cells (ints .u8 (List.replicate 32 0)) 30)) (.cells (ints .u8 (List.replicate 32 0)) 30)) w1.heap.size (ints .u8 (nums x1))) (w1.heap.size + 1) (ints .u8 (nums x2)) = w2 := ⟨_, rfl⟩
  have za : BoxA (World.alloc (World.alloc w1 (.cells (ints .u8 (List.replicate 32 0)) 30)) (.cells (ints .u8 (List.replicate 32 0)) 30)) w1.heap.size 30 .u8 (List.replicate 32 0) := (BoxA.new w1 _ _ _ _ rfl).next (Below.new1 _ _)
  have zb : BoxA (World.alloc (World.alloc w1 (.cells (ints .u8 (List.replicate 32 0)) 30)) (.cells (ints .u8 (List.replicate 32 0)) 30)) (w1.heap.size + 1) 30 .u8 (List.replicate 32 0) := by
    have := BoxA.new (w1.alloc (.cells (ints .u8 (List.replicate 32 0)) 30)) 30 .u8 (List.replicate 32 0) _ rfl
    rw [World.size_alloc] at this; exact this
  have Bq0 : Below w1.heap.size w1 w2 := hW2 ▸ below_setRow (below_setRow (Below.on (Below.new1 _ _) (Below.new1 _ _)) (Nat.le_refl _) _) (Nat.le_succ _) _
  have ya : BoxH w2 w1.heap.size x1 := hW2 ▸ BoxA.farRow (za.setRow (l' := nums x1)) (by omega) _
  have yb : BoxH w2 (w1.heap.size + 1) x2 := hW2 ▸ (zb.farRow (by omega) _).setRow (l' := nums x2)
  change Code.wp _ _ _ _ (World.setRow (World.setRow (World.alloc (World.alloc w1 (.cells (ints .u8 (List.replicate 32 0)) 30)) (.cells (ints .u8 (List.replicate 32 0)) 30)) w1.heap.size (ints .u8 (nums x1))) (w1.heap.size + 1) (ints .u8 (nums x2)))
  rw [hW2]
  clear hW2 za zb
  have Bq := Below.on b1 Bq0
  have y6' : BoxW w2 w.heap.size := BoxA.next y6 Bq
  have y7' : BoxH w2 (w.heap.size + 1) old := BoxA.next y7 Bq
  have hs2 := hs0.next Bq
  have B2 := Below.on B0 Bq
  generalize w1.heap.size + 1 = gb at *
  generalize w1.heap.size = ga at *
  clear y6 y7 hs0 Bq Bq0 b1 B0 P1
  by_cases hc : ok = false ∨ k ≤ u
  · obtain rfl : TT = [] := HG2.out (by rw [HK.out]; exact hc)
    have hc' : ok = false ∨ (ok = true ∧ (k : Int) ≤ u) := by cases ok <;> simp at hc ⊢ <;> omega
    clear hc
    rcases hc' with rfl | ⟨rfl, hc⟩
    all_goals
      go_wp2_with (fail)
      go_ret
      exact ⟨_, rfl, OwnStrs.none _ _, B2⟩
  obtain ⟨rfl, hu⟩ : ok = true ∧ u < k := by cases ok <;> simp at hc ⊢ <;> omega
  have hcu : ¬ (k : Int) ≤ u := by omega
  have hup : u < path.length := by rw [HK.out]; exact hu
  have hg := HG1.out rfl hup
  obtain ⟨ad, rfl⟩ : ∃ a, A = some a := by
    obtain ⟨_, h | ⟨a, e, _⟩⟩ := hs2
    · rw [h] at hup; simp at hup
    · exact ⟨a, e⟩
  have htx := fun W (h : Hs W (some ad) path) => h.text hup 32
  have lp : path[u].length = 32 := hs2.1 _ (List.getElem_mem hup)
  generalize path[u] = xp at *
  have b1 := fun W => s_add (P := Tryd.prog) [1] x2 W (by simp; have := L2.out; omega)
  have b2 := fun W => s_add (P := Tryd.prog) (1 :: x2) xp W (by simp; have := L2.out; omega)
  have eb : ([1] : Bs) ++ x2 = 1 :: x2 := rfl
  simp only [eb, List.cons_append] at b1 b2
  have HB1 := Lib.hid b1
  have HB2 := Lib.hid b2
  have HTX := Lib.hid htx
  have HG := Lib.hid hg
  clear HG1 HG2 hc hg htx b1 b2 eb lp
  go_upto_region 8 with (fail)
  refine wp_name fun a0 ha0 => ?_
  have e2 : a0.eval (.tmp 2) = .int .i64 (m : Int) := by rw [ha0]; rfl
  have e4 : a0.eval (.tmp 4) = .bool whole := by rw [ha0]; rfl
  have e5 : a0.eval (.tmp 5) = .slice (some ad) k c := by rw [ha0]; rfl
  have e6 : a0.eval (.tmp 6) = .pointer (some ⟨w.heap.size, 0, none⟩) := by rw [ha0]; rfl
  have e7 : a0.eval (.tmp 7) = .pointer (some ⟨(w.heap.size + 1), 0, none⟩) := by rw [ha0]; rfl
  have e13 : a0.eval (.tmp 13) = .int .i64 (H : Int) := by rw [ha0]; rfl
  have e15 : a0.eval (.tmp 15) = .pointer (some ⟨gb, 0, none⟩) := by rw [ha0]; rfl
  have e16 : a0.eval (.tmp 16) = .int .i64 (u : Int) := by rw [ha0]; rfl
  have hz : a0.tmps.size = 125 := by rw [ha0]; rfl
  have HA0 := Lib.hid ha0
  clear ha0
  have SG : ∀ (d d' : Nat → Prop) (W W' : World), (fun (_ : Nat → Prop) (W : World) => Below w2.heap.size w2 W) d W → (∀ j, d j → d' j) → Below W.heap.size W W' → (fun (_ : Nat → Prop) (W : World) => Below w2.heap.size w2 W) d' W' := fun _ _ _ _ h _ b => Below.next h b
  refine wp_region_lastly2 17 _ _ (Inv [51, 52, 53, 54, 55, 56, 57, 58, 59, 60, 61, 62, 63, 64, 65, 66, 67] a0 (fun (_ : Nat → Prop) (W : World) => Below w2.heap.size w2 W) [(⟨some 0, 51, none, fun v _ => v = wordsV⟩ : Cl), ⟨some 1, 52, none, fun v _ => v = hashV old⟩, ⟨some 2, 53, none, fun v _ => v = .int .i64 (m : Int)⟩, ⟨some 3, 54, none, fun v _ => v = .int .i64 (H : Int)⟩, ⟨some 4, 55, none, fun v _ => v = .bool whole⟩, ⟨some 5, 56, none, fun v _ => v = .slice (some ad) k c⟩, ⟨some 6, 57, none, fun v W => OwnStrs W w2.heap.size v T1⟩, ⟨some 7, 58, none, fun v _ => v = .slice (some ⟨gb, 0, none⟩) 32 32⟩, ⟨some 8, 59, none, fun v _ => v = .string ⟨x2.toArray⟩⟩, ⟨some 9, 60, none, fun v _ => v = .string ⟨(1 :: x2).toArray⟩⟩, ⟨some 10, 61, none, fun v _ => v = .slice (some ad) k c⟩, ⟨some 11, 62, none, fun v _ => v = .int .i64 (u : Int)⟩, ⟨some 12, 63, none, fun v _ => v = .pointer (some (ad.add (u * 32)))⟩, ⟨some 13, 64, none, fun v _ => v = .slice (some (ad.add (u * 32))) 32 32⟩, ⟨some 14, 65, none, fun v _ => v = .string ⟨xp.toArray⟩⟩, ⟨some 15, 66, none, fun v _ => v = .string ⟨(1 :: (x2 ++ xp)).toArray⟩⟩, ⟨some 16, 67, none, fun v W => OwnStrs W w2.heap.size v [(1 :: (x2 ++ xp))]⟩]) (by kernel_rfl) (by kernel_rfl) rfl rfl rfl (fun d hcl hw j hj => ?_) (by kernel_rfl) rfl rfl (Inv.start (Below.refl _ _).drew ⟨nofun, nofun, nofun, nofun, nofun, nofun, nofun, nofun, nofun, nofun, nofun, nofun, nofun, nofun, nofun, nofun, nofun, trivial⟩) ?_ ?_
  · have r6 := hw 6 rfl
    have r16 := hw 16 rfl
    have r15 := hcl 16 _ 15 rfl rfl r16
    have r9 := hcl 15 _ 9 rfl rfl r15
    have r14 := hcl 15 _ 14 rfl rfl r15
    have r13 := hcl 14 _ 13 rfl rfl r14
    have r12 := hcl 13 _ 12 rfl rfl r13
    have r10 := hcl 12 _ 10 rfl rfl r12
    have r11 := hcl 12 _ 11 rfl rfl r12
    have r8 := hcl 9 _ 8 rfl rfl r9
    have r7 := hcl 8 _ 7 rfl rfl r8
    have r0 := hcl 6 _ 0 rfl rfl r6
    have r1 := hcl 6 _ 1 rfl rfl r6
    have r2 := hcl 6 _ 2 rfl rfl r6
    have r3 := hcl 6 _ 3 rfl rfl r6
    have r4 := hcl 6 _ 4 rfl rfl r6
    have r5 := hcl 6 _ 5 rfl rfl r6
    match j, hj with
    | 0, _ => exact r0
    | 1, _ => exact r1
    | 2, _ => exact r2
    | 3, _ => exact r3
    | 4, _ => exact r4
    | 5, _ => exact r5
    | 6, _ => exact r6
    | 7, _ => exact r7
    | 8, _ => exact r8
    | 9, _ => exact r9
    | 10, _ => exact r10
    | 11, _ => exact r11
    | 12, _ => exact r12
    | 13, _ => exact r13
    | 14, _ => exact r14
    | 15, _ => exact r15
    | 16, _ => exact r16
    | j + 17, h => exact absurd h (by omega)
  · have St : ∀ xc ∈ [(⟨some 0, 51, none, fun v _ => v = wordsV⟩ : Cl), ⟨some 1, 52, none, fun v _ => v = hashV old⟩, ⟨some 2, 53, none, fun v _ => v = .int .i64 (m : Int)⟩, ⟨some 3, 54, none, fun v _ => v = .int .i64 (H : Int)⟩, ⟨some 4, 55, none, fun v _ => v = .bool whole⟩, ⟨some 5, 56, none, fun v _ => v = .slice (some ad) k c⟩, ⟨some 6, 57, none, fun v W => OwnStrs W w2.heap.size v T1⟩, ⟨some 7, 58, none, fun v _ => v = .slice (some ⟨gb, 0, none⟩) 32 32⟩, ⟨some 8, 59, none, fun v _ => v = .string ⟨x2.toArray⟩⟩, ⟨some 9, 60, none, fun v _ => v = .string ⟨(1 :: x2).toArray⟩⟩, ⟨some 10, 61, none, fun v _ => v = .slice (some ad) k c⟩, ⟨some 11, 62, none, fun v _ => v = .int .i64 (u : Int)⟩, ⟨some 12, 63, none, fun v _ => v = .pointer (some (ad.add (u * 32)))⟩, ⟨some 13, 64, none, fun v _ => v = .slice (some (ad.add (u * 32))) 32 32⟩, ⟨some 14, 65, none, fun v _ => v = .string ⟨xp.toArray⟩⟩, ⟨some 15, 66, none, fun v _ => v = .string ⟨(1 :: (x2 ++ xp)).toArray⟩⟩, ⟨some 16, 67, none, fun v W => OwnStrs W w2.heap.size v [(1 :: (x2 ++ xp))]⟩], Lasts xc := AllC.mem ⟨lastsV0 _ _ _ _, lastsV0 _ _ _ _, lastsV0 _ _ _ _, lastsV0 _ _ _ _, lastsV0 _ _ _ _, lastsV0 _ _ _ _, (fun _ _ _ h b => h.next b), lastsV0 _ _ _ _, lastsV0 _ _ _ _, lastsV0 _ _ _ _, lastsV0 _ _ _ _, lastsV0 _ _ _ _, lastsV0 _ _ _ _, lastsV0 _ _ _ _, lastsV0 _ _ _ _, lastsV0 _ _ _ _, (fun _ _ _ h b => h.next b), trivial⟩
    clear HA0
    refine ⟨?_, ?_, ?_, ?_, ?_, ?_, ?_, ?_, ?_, ?_, ?_, ?_, ?_, ?_, ?_, ?_, ?_, trivial⟩
    · refine stepB rfl rfl (by decide) (by rw [hz]; decide) rfl rfl (by kernel_rfl) St SG fun d a W hF hG hH hn hcl hw => ?_
      have q6 := (hF.same 6 (by decide)).trans e6
      refine ⟨wordsV, W, ?_, Below.refl _ _, ?_⟩
      · exact exec_load rfl (by rw [q6]; exact BoxW.load (BoxA.next y6' hG))
      · rfl
    · refine stepB rfl rfl (by decide) (by rw [hz]; decide) rfl rfl (by kernel_rfl) St SG fun d a W hF hG hH hn hcl hw => ?_
      have q7 := (hF.same 7 (by decide)).trans e7
      refine ⟨hashV old, W, ?_, Below.refl _ _, ?_⟩
      · exact exec_load rfl (by rw [q7]; exact BoxH.load_ (BoxA.next y7' hG) HOL.out)
      · rfl
    · refine stepB rfl rfl (by decide) (by rw [hz]; decide) rfl rfl (by kernel_rfl) St SG fun d a W hF hG hH hn hcl hw => ?_
      have q2 := (hF.same 2 (by decide)).trans e2
      refine ⟨.int .i64 (m : Int), W, ?_, Below.refl _ _, ?_⟩
      · clear hF hG hH hn hcl hw
        generalize a.eval = ρ at *
        go_simp
      · rfl
    · refine stepB rfl rfl (by decide) (by rw [hz]; decide) rfl rfl (by kernel_rfl) St SG fun d a W hF hG hH hn hcl hw => ?_
      have q13 := (hF.same 13 (by decide)).trans e13
      refine ⟨.int .i64 (H : Int), W, ?_, Below.refl _ _, ?_⟩
      · clear hF hG hH hn hcl hw
        generalize a.eval = ρ at *
        go_simp
      · rfl
    · refine stepB rfl rfl (by decide) (by rw [hz]; decide) rfl rfl (by kernel_rfl) St SG fun d a W hF hG hH hn hcl hw => ?_
      have q4 := (hF.same 4 (by decide)).trans e4
      refine ⟨.bool whole, W, ?_, Below.refl _ _, ?_⟩
      · clear hF hG hH hn hcl hw
        generalize a.eval = ρ at *
        go_simp
      · rfl
    · refine stepB rfl rfl (by decide) (by rw [hz]; decide) rfl rfl (by kernel_rfl) St SG fun d a W hF hG hH hn hcl hw => ?_
      have q5 := (hF.same 5 (by decide)).trans e5
      refine ⟨.slice (some ad) k c, W, ?_, Below.refl _ _, ?_⟩
      · clear hF hG hH hn hcl hw
        generalize a.eval = ρ at *
        go_simp
      · rfl
    · refine stepC rfl rfl (by decide) (by rw [hz]; decide) rfl rfl (by kernel_rfl) St SG fun d a W hF hG hH hn hcl hw => ?_
      have q51 : a.eval (.tmp 51) = wordsV := hH.at_ (i := 0) rfl (hw 0 rfl) id
      have q52 : a.eval (.tmp 52) = hashV old := hH.at_ (i := 1) rfl (hw 1 rfl) id
      have q53 : a.eval (.tmp 53) = .int .i64 (m : Int) := hH.at_ (i := 2) rfl (hw 2 rfl) id
      have q54 : a.eval (.tmp 54) = .int .i64 (H : Int) := hH.at_ (i := 3) rfl (hw 3 rfl) id
      have q55 : a.eval (.tmp 55) = .bool whole := hH.at_ (i := 4) rfl (hw 4 rfl) id
      have q56 : a.eval (.tmp 56) = .slice (some ad) k c := hH.at_ (i := 5) rfl (hw 5 rfl) id
      have qf : a.eval (.func 53) = .func (.func 53) #[] #[] := rfl
      refine ⟨53, #[wordsV, hashV old, .int .i64 (m : Int), .int .i64 (H : Int), .bool whole, .slice (some ad) k c], ?_, ?_⟩
      · clear hF hG hH hn hcl hw
        generalize a.eval = ρ at *
        go_simp
      · refine (HT.out W (hs2.next hG)).mono ?_; rintro e W' ⟨v, rfl, hO, b⟩; exact ⟨v, rfl, b, hO.mono (by have := hG.size; omega)⟩
    · refine stepB rfl rfl (by decide) (by rw [hz]; decide) rfl rfl (by kernel_rfl) St SG fun d a W hF hG hH hn hcl hw => ?_
      have q15 := (hF.same 15 (by decide)).trans e15
      refine ⟨.slice (some ⟨gb, 0, none⟩) 32 32, W, ?_, Below.refl _ _, ?_⟩
      · clear hF hG hH hn hcl hw
        generalize a.eval = ρ at *
        go_simp
      · rfl
    · refine stepB rfl rfl (by decide) (by rw [hz]; decide) rfl rfl (by kernel_rfl) St SG fun d a W hF hG hH hn hcl hw => ?_
      have q58 : a.eval (.tmp 58) = .slice (some ⟨gb, 0, none⟩) 32 32 := hH.at_ (i := 7) rfl (hw 7 rfl) id
      have r := BoxH.text (BoxA.next yb hG) L2.out 32
      refine ⟨.string ⟨x2.toArray⟩, W, ?_, Below.refl _ _, ?_⟩
      · clear hF hG hH hn hcl hw
        generalize a.eval = ρ at *
        go_simp
      · rfl
    · refine stepB rfl rfl (by decide) (by rw [hz]; decide) rfl rfl (by kernel_rfl) St SG fun d a W hF hG hH hn hcl hw => ?_
      have q59 : a.eval (.tmp 59) = .string ⟨x2.toArray⟩ := hH.at_ (i := 8) rfl (hw 8 rfl) id
      have r := HB1.out W
      have qs : a.eval (.const (.string ⟨#[1]⟩)) = .string ⟨#[1]⟩ := rfl
      refine ⟨.string ⟨(1 :: x2).toArray⟩, W, ?_, Below.refl _ _, ?_⟩
      · clear hF hG hH hn hcl hw
        generalize a.eval = ρ at *
        go_simp
      · rfl
    · refine stepB rfl rfl (by decide) (by rw [hz]; decide) rfl rfl (by kernel_rfl) St SG fun d a W hF hG hH hn hcl hw => ?_
      have q5 := (hF.same 5 (by decide)).trans e5
      refine ⟨.slice (some ad) k c, W, ?_, Below.refl _ _, ?_⟩
      · clear hF hG hH hn hcl hw
        generalize a.eval = ρ at *
        go_simp
      · rfl
    · refine stepB rfl rfl (by decide) (by rw [hz]; decide) rfl rfl (by kernel_rfl) St SG fun d a W hF hG hH hn hcl hw => ?_
      have q16 := (hF.same 16 (by decide)).trans e16
      refine ⟨.int .i64 (u : Int), W, ?_, Below.refl _ _, ?_⟩
      · clear hF hG hH hn hcl hw
        generalize a.eval = ρ at *
        go_simp
      · rfl
    · refine stepB rfl rfl (by decide) (by rw [hz]; decide) rfl rfl (by kernel_rfl) St SG fun d a W hF hG hH hn hcl hw => ?_
      have q61 : a.eval (.tmp 61) = .slice (some ad) k c := hH.at_ (i := 10) rfl (hw 10 rfl) id
      have q62 : a.eval (.tmp 62) = .int .i64 (u : Int) := hH.at_ (i := 11) rfl (hw 11 rfl) id
      refine ⟨.pointer (some (ad.add (u * 32))), W, ?_, Below.refl _ _, ?_⟩
      · exact exec_indexH rfl q61 q62 hu
      · rfl
    · refine stepB rfl rfl (by decide) (by rw [hz]; decide) rfl rfl (by kernel_rfl) St SG fun d a W hF hG hH hn hcl hw => ?_
      have q63 : a.eval (.tmp 63) = .pointer (some (ad.add (u * 32))) := hH.at_ (i := 12) rfl (hw 12 rfl) id
      refine ⟨.slice (some (ad.add (u * 32))) 32 32, W, ?_, Below.refl _ _, ?_⟩
      · clear hF hG hH hn hcl hw
        generalize a.eval = ρ at *
        go_simp
      · rfl
    · refine stepB rfl rfl (by decide) (by rw [hz]; decide) rfl rfl (by kernel_rfl) St SG fun d a W hF hG hH hn hcl hw => ?_
      have q64 : a.eval (.tmp 64) = .slice (some (ad.add (u * 32))) 32 32 := hH.at_ (i := 13) rfl (hw 13 rfl) id
      have r := HTX.out W (hs2.next hG)
      refine ⟨.string ⟨xp.toArray⟩, W, ?_, Below.refl _ _, ?_⟩
      · clear hF hG hH hn hcl hw
        generalize a.eval = ρ at *
        go_simp
      · rfl
    · refine stepB rfl rfl (by decide) (by rw [hz]; decide) rfl rfl (by kernel_rfl) St SG fun d a W hF hG hH hn hcl hw => ?_
      have q60 : a.eval (.tmp 60) = .string ⟨(1 :: x2).toArray⟩ := hH.at_ (i := 9) rfl (hw 9 rfl) id
      have q65 : a.eval (.tmp 65) = .string ⟨xp.toArray⟩ := hH.at_ (i := 14) rfl (hw 14 rfl) id
      have r := HB2.out W
      refine ⟨.string ⟨(1 :: (x2 ++ xp)).toArray⟩, W, ?_, Below.refl _ _, ?_⟩
      · clear hF hG hH hn hcl hw
        generalize a.eval = ρ at *
        go_simp
      · rfl
    · refine stepB rfl rfl (by decide) (by rw [hz]; decide) rfl rfl (by kernel_rfl) St SG fun d a W hF hG hH hn hcl hw => ?_
      have q66 : a.eval (.tmp 66) = .string ⟨(1 :: (x2 ++ xp)).toArray⟩ := hH.at_ (i := 15) rfl (hw 15 rfl) id
      refine ⟨.slice (some ⟨W.heap.size, 0, none⟩) 1 1, W.alloc (.cells #[.string ⟨(1 :: (x2 ++ xp)).toArray⟩] 9), ?_, Below.new1 W _, ?_⟩
      · clear hF hG hH hn hcl hw
        generalize a.eval = ρ at *
        go_simp
      · exact OwnStrs.one W _ _ hG.size
  · intro d a W ⟨hF, hB, hH⟩ hall
    have k57 : OwnStrs W w2.heap.size (a.eval (.tmp 57)) T1 := hH.at_ (i := 6) rfl (hall 6 (by decide)) id
    have k67 : OwnStrs W w2.heap.size (a.eval (.tmp 67)) [(1 :: (x2 ++ xp))] := hH.at_ (i := 16) rfl (hall 16 (by decide)) id
    clear hH hall
    rw [hF.shape (by rw [hz]; decide)]
    clear hF
    simp only [List.foldl]
    generalize a.eval (.tmp 51) = z51 at *
    generalize a.eval (.tmp 52) = z52 at *
    generalize a.eval (.tmp 53) = z53 at *
    generalize a.eval (.tmp 54) = z54 at *
    generalize a.eval (.tmp 55) = z55 at *
    generalize a.eval (.tmp 56) = z56 at *
    generalize a.eval (.tmp 57) = z57 at *
    generalize a.eval (.tmp 58) = z58 at *
    generalize a.eval (.tmp 59) = z59 at *
    generalize a.eval (.tmp 60) = z60 at *
    generalize a.eval (.tmp 61) = z61 at *
    generalize a.eval (.tmp 62) = z62 at *
    generalize a.eval (.tmp 63) = z63 at *
    generalize a.eval (.tmp 64) = z64 at *
    generalize a.eval (.tmp 65) = z65 at *
    generalize a.eval (.tmp 66) = z66 at *
    generalize a.eval (.tmp 67) = z67 at *
    rw [HA0.out]
    simp only [Act.put, List.setIfInBounds_toArray, List.set_cons_zero, List.set_cons_succ]
    clear hz HA0 SG e2 e4 e5 e6 e7 e13 e15 e16
    clear a a0
    refine wp_append_strs (.tmp 57) (.tmp 67) rfl w2.heap.size w2.heap.size _ _ T1 [(1 :: (x2 ++ xp))] rfl rfl k57 k67 q1 (by simp) hB.size (fun z12 w4 hO b4 => ?_)
    refine wp_yields (v := z12) (by rfl) ?_
    dsimp only [Act.put]
    have bs := B2.size
    go_wp2_with (fail)
    go_ret
    exact ⟨z12, rfl, by rw [HG.out]; exact hO.mono bs, B2.trans ((hB.trans b4).mono bs)⟩
set_option maxRecDepth 100000 in
set_option maxHeartbeats 4000000 in
theorem gt_right (q : Nat) (ih : GtOk q) (old : Bs) (m n : Nat) (whole : Bool) (path : List Bs) (A : Option Addr) (k c : Nat) (w : World) (hq : n ≤ q + 1) (h2 : 2 ≤ n) (_h1 : 1 ≤ m) (hmn : m < n) (hm : ¬ m ≤ half n) (hn : n ≤ 5000) (hk : path.length = k) (hkc : k ≤ c) (hk5 : k ≤ 5000) (ho : old.length = 32) (hs : Hs w A path) :
    Calls Tryd.prog 53 #[wordsV, hashV old, .int .i64 m, .int .i64 n, .bool whole, .slice A k c] w fun e w' => ∃ v, e = .returned v ∧ OwnStrs w' w.heap.size v (grownT sha old m n whole path) ∧ Below w.heap.size w w' := by
  have hr := half_range h2
  obtain ⟨R, hR⟩ : ∃ R, grownR old (m - half n) (n - half n) false path = R := ⟨_, rfl⟩
  obtain ⟨g1, g2⟩ := grownT_r (old := old) (whole := whole) (path := path) h2 hm (by omega) hR
  have r32 := grownR_32 hs.1 (n - half n) old (m - half n) (n - half n) false (Nat.le_refl _) (by omega) (by omega) ho
  have p1 := fun W (h : Hs W A path) => grown_any old (m - half n) (n - half n) false path A k c W (by omega) (by omega) (by omega) hk hkc hk5 ho h
  have t1 := fun W (h : Hs W A path) => ih old (m - half n) (n - half n) false path A k c W (by omega) (by omega) (by omega) (by omega) hk hkc hk5 ho h
  have tl := grownT_len (n - half n) old (m - half n) (n - half n) false path (Nat.le_refl _)
  rw [hR] at r32 p1
  have hf := fun W => rhalf_any n W h2 (by omega)
  obtain ⟨x1, x2, u, ok⟩ := R
  obtain ⟨l1, l2, lu⟩ := r32
  simp only at l1 l2 lu g1 g2
  rw [hk] at lu
  generalize grownT sha old (m - half n) (n - half n) false path = T1 at *
  obtain ⟨TT, hTT⟩ : ∃ TT, grownT sha old m n whole path = TT := ⟨_, rfl⟩
  rw [hTT] at g1 g2 ⊢
  clear hTT
  generalize half n = H at *
  obtain ⟨m2, hm2⟩ : ∃ x, m - H = x := ⟨_, rfl⟩
  obtain ⟨n2, hn2⟩ : ∃ x, n - H = x := ⟨_, rfl⟩
  rw [hm2, hn2] at p1 t1
  rw [hn2] at tl
  have ww1 : IntKind.i64.wrap ((m : Int) - (H : Int)) = m2 := by rw [IntWalk.i64_in _ (by omega)]; omega
  have ww2 : IntKind.i64.wrap ((n : Int) - (H : Int)) = n2 := by rw [IntWalk.i64_in _ (by omega)]; omega
  have n2b : n2 ≤ 5000 := by omega
  have WA := Lib.hid ww1
  have WB := Lib.hid ww2
  clear hm2 hn2
  obtain ⟨w0, hW0⟩ : ∃ w0, World.alloc (w.alloc (.cells (ints .u32 wordsL) 27)) (.cells (cellsB old).toArray 30) = w0 := ⟨_, rfl⟩
  have B0 : Below w.heap.size w w0 := hW0 ▸ Below.on (Below.new1 _ _) (Below.new1 _ _)
  have y6 : BoxW w0 w.heap.size := hW0 ▸ (BoxW.new w).next (Below.new1 _ _)
  have y7 : BoxH w0 (w.heap.size + 1) old := by
    have := BoxH.new (w.alloc (.cells (ints .u32 wordsL) 27)) old
    rw [World.size_alloc] at this; exact hW0 ▸ this
  have hs0 := hs.next B0
  have HO := Lib.hid hW0
  have ne : ((m : Int) == n) = false := by simp; omega
  have hm1 : ¬ (m : Int) ≤ H := by omega
  have q0 : T1.length ≤ 20000 := by omega
  have q1 : T1.length ≤ 100000 := by omega
  have HF := Lib.hid hf
  have P1 := Lib.hid p1
  have HT := Lib.hid t1
  have L1 := Lib.hid l1
  have L2 := Lib.hid l2
  have HG1 := Lib.hid g1
  have HG2 := Lib.hid g2
  have HOL := Lib.hid ho
  have HK := Lib.hid hk
  clear hW0 hs hf p1 t1 l1 l2 g1 g2 ho ih hR hk tl hm
  go_enter Tryd.func53, Tryd.ntmps53
  go_upto_region 9 with (go_at_call 78; refine (HF.out _).mono ?_; rintro e w' ⟨rfl, rfl⟩)
  change Code.wp _ _ _ _ (World.alloc (w.alloc (.cells (ints .u32 wordsL) 27)) (.cells (cellsB old).toArray 30))
  rw [HO.out]
  clear HO
  clear HF
  go_upto_region 10 with (first
    | (refine wpList_load_at rfl 27 (.tmp 6) rfl wordsV (BoxW.load y6) ?_)
    | (refine wpList_loadH rfl (.tmp 7) rfl (w.heap.size + 1) old rfl y7 HOL.out ?_)
    | (go_at_call 81; refine (P1.out _ hs0).mono ?_; rintro e w1 ⟨rfl, b1⟩)
    | (refine wpList_storeH rfl (.tmp 18) (.tmp 80) rfl w1.heap.size x1 rfl rfl ((BoxA.new w1 30 .u8 (List.replicate 32 0) _ rfl).next (Below.new1 _ _)) (by simp) L1.out ?_)
    | (refine wpList_storeH rfl (.tmp 19) (.tmp 81) rfl (w1.heap.size + 1) x2 rfl rfl (BoxA.farRow (b := w1.heap.size + 1) (l := List.replicate 32 0) (by have := BoxA.new (w1.alloc (.cells (ints .u8 (List.replicate 32 0)) 30)) 30 .u8 (List.replicate 32 0) _ rfl; rw [World.size_alloc] at this; exact this) (by omega) _) (by simp) L2.out ?_))
  obtain ⟨w2, hW2⟩ : ∃ w2, World.setRow (World.setRow (World.alloc (World.alloc w1 (.cells (ints .u8 (List.replicate 32 0)) 30)) (.cells (ints .u8 (List.replicate 32 0)) 30)) w1.heap.size (ints .u8 (nums x1))) (w1.heap.size + 1) (ints .u8 (nums x2)) = w2 := ⟨_, rfl⟩
  have za : BoxA (World.alloc (World.alloc w1 (.cells (ints .u8 (List.replicate 32 0)) 30)) (.cells (ints .u8 (List.replicate 32 0)) 30)) w1.heap.size 30 .u8 (List.replicate 32 0) := (BoxA.new w1 _ _ _ _ rfl).next (Below.new1 _ _)
  have zb : BoxA (World.alloc (World.alloc w1 (.cells (ints .u8 (List.replicate 32 0)) 30)) (.cells (ints .u8 (List.replicate 32 0)) 30)) (w1.heap.size + 1) 30 .u8 (List.replicate 32 0) := by
    have := BoxA.new (w1.alloc (.cells (ints .u8 (List.replicate 32 0)) 30)) 30 .u8 (List.replicate 32 0) _ rfl
    rw [World.size_alloc] at this; exact this
  have Bq0 : Below w1.heap.size w1 w2 := hW2 ▸ below_setRow (below_setRow (Below.on (Below.new1 _ _) (Below.new1 _ _)) (Nat.le_refl _) _) (Nat.le_succ _) _
  have ya : BoxH w2 w1.heap.size x1 := hW2 ▸ BoxA.farRow (za.setRow (l' := nums x1)) (by omega) _
  have yb : BoxH w2 (w1.heap.size + 1) x2 := hW2 ▸ (zb.farRow (by omega) _).setRow (l' := nums x2)
  change Code.wp _ _ _ _ (World.setRow (World.setRow (World.alloc (World.alloc w1 (.cells (ints .u8 (List.replicate 32 0)) 30)) (.cells (ints .u8 (List.replicate 32 0)) 30)) w1.heap.size (ints .u8 (nums x1))) (w1.heap.size + 1) (ints .u8 (nums x2)))
  rw [hW2]
  clear hW2 za zb
  have Bq := Below.on b1 Bq0
  have y6' : BoxW w2 w.heap.size := BoxA.next y6 Bq
  have y7' : BoxH w2 (w.heap.size + 1) old := BoxA.next y7 Bq
  have hs2 := hs0.next Bq
  have B2 := Below.on B0 Bq
  generalize w1.heap.size + 1 = gb at *
  generalize w1.heap.size = ga at *
  clear y6 y7 hs0 Bq Bq0 b1 B0 P1
  by_cases hc : ok = false ∨ k ≤ u
  · obtain rfl : TT = [] := HG2.out (by rw [HK.out]; exact hc)
    have hc' : ok = false ∨ (ok = true ∧ (k : Int) ≤ u) := by cases ok <;> simp at hc ⊢ <;> omega
    clear hc
    rcases hc' with rfl | ⟨rfl, hc⟩
    all_goals
      go_wp2_with (fail)
      go_ret
      exact ⟨_, rfl, OwnStrs.none _ _, B2⟩
  obtain ⟨rfl, hu⟩ : ok = true ∧ u < k := by cases ok <;> simp at hc ⊢ <;> omega
  have hcu : ¬ (k : Int) ≤ u := by omega
  have hup : u < path.length := by rw [HK.out]; exact hu
  have hg := HG1.out rfl hup
  obtain ⟨ad, rfl⟩ : ∃ a, A = some a := by
    obtain ⟨_, h | ⟨a, e, _⟩⟩ := hs2
    · rw [h] at hup; simp at hup
    · exact ⟨a, e⟩
  have htx := fun W (h : Hs W (some ad) path) => h.text hup 32
  have lp : path[u].length = 32 := hs2.1 _ (List.getElem_mem hup)
  generalize path[u] = xp at *
  have b1 := fun W => s_add (P := Tryd.prog) [1] xp W (by simp; omega)
  have b2 := fun W => s_add (P := Tryd.prog) (1 :: xp) x1 W (by simp; have := L1.out; omega)
  have b3 := fun W => s_add (P := Tryd.prog) (1 :: xp) x2 W (by simp; have := L2.out; omega)
  have eb : ([1] : Bs) ++ xp = 1 :: xp := rfl
  simp only [eb, List.cons_append] at b1 b2 b3
  have HB3 := Lib.hid b3
  have HB1 := Lib.hid b1
  have HB2 := Lib.hid b2
  have HTX := Lib.hid htx
  have HG := Lib.hid hg
  clear HG1 HG2 hc hg htx b1 b2 b3 eb lp
  go_upto_region 12 with (fail)
  refine wp_name fun a0 ha0 => ?_
  have e2 : a0.eval (.tmp 2) = .int .i64 (m : Int) := by rw [ha0]; rfl
  have e3 : a0.eval (.tmp 3) = .int .i64 (n : Int) := by rw [ha0]; rfl
  have e5 : a0.eval (.tmp 5) = .slice (some ad) k c := by rw [ha0]; rfl
  have e6 : a0.eval (.tmp 6) = .pointer (some ⟨w.heap.size, 0, none⟩) := by rw [ha0]; rfl
  have e7 : a0.eval (.tmp 7) = .pointer (some ⟨(w.heap.size + 1), 0, none⟩) := by rw [ha0]; rfl
  have e13 : a0.eval (.tmp 13) = .int .i64 (H : Int) := by rw [ha0]; rfl
  have e18 : a0.eval (.tmp 18) = .pointer (some ⟨ga, 0, none⟩) := by rw [ha0]; rfl
  have e20 : a0.eval (.tmp 20) = .int .i64 (u : Int) := by rw [ha0]; rfl
  have hz : a0.tmps.size = 125 := by rw [ha0]; rfl
  have HA0 := Lib.hid ha0
  clear ha0
  have SG : ∀ (d d' : Nat → Prop) (W W' : World), (fun (_ : Nat → Prop) (W : World) => Below w2.heap.size w2 W) d W → (∀ j, d j → d' j) → Below W.heap.size W W' → (fun (_ : Nat → Prop) (W : World) => Below w2.heap.size w2 W) d' W' := fun _ _ _ _ h _ b => Below.next h b
  refine wp_region_lastly2 20 _ _ (Inv [92, 93, 94, 95, 96, 97, 98, 99, 100, 101, 102, 103, 104, 105, 106, 107, 108, 109, 110, 111] a0 (fun (_ : Nat → Prop) (W : World) => Below w2.heap.size w2 W) [(⟨some 0, 92, none, fun v _ => v = wordsV⟩ : Cl), ⟨some 1, 93, none, fun v _ => v = hashV old⟩, ⟨some 2, 94, none, fun v _ => v = .int .i64 (m : Int)⟩, ⟨some 3, 95, none, fun v _ => v = .int .i64 (H : Int)⟩, ⟨some 4, 96, none, fun v _ => v = .int .i64 (m2 : Int)⟩, ⟨some 5, 97, none, fun v _ => v = .int .i64 (n : Int)⟩, ⟨some 6, 98, none, fun v _ => v = .int .i64 (H : Int)⟩, ⟨some 7, 99, none, fun v _ => v = .int .i64 (n2 : Int)⟩, ⟨some 8, 100, none, fun v _ => v = .slice (some ad) k c⟩, ⟨some 9, 101, none, fun v W => OwnStrs W w2.heap.size v T1⟩, ⟨some 10, 102, none, fun v _ => v = .slice (some ad) k c⟩, ⟨some 11, 103, none, fun v _ => v = .int .i64 (u : Int)⟩, ⟨some 12, 104, none, fun v _ => v = .pointer (some (ad.add (u * 32)))⟩, ⟨some 13, 105, none, fun v _ => v = .slice (some (ad.add (u * 32))) 32 32⟩, ⟨some 14, 106, none, fun v _ => v = .string ⟨xp.toArray⟩⟩, ⟨some 15, 107, none, fun v _ => v = .string ⟨(1 :: xp).toArray⟩⟩, ⟨some 16, 108, none, fun v _ => v = .slice (some ⟨ga, 0, none⟩) 32 32⟩, ⟨some 17, 109, none, fun v _ => v = .string ⟨x1.toArray⟩⟩, ⟨some 18, 110, none, fun v _ => v = .string ⟨(1 :: (xp ++ x1)).toArray⟩⟩, ⟨some 19, 111, none, fun v W => OwnStrs W w2.heap.size v [(1 :: (xp ++ x1))]⟩]) (by kernel_rfl) (by kernel_rfl) rfl rfl rfl (fun d hcl hw j hj => ?_) (by kernel_rfl) rfl rfl (Inv.start (Below.refl _ _).drew ⟨nofun, nofun, nofun, nofun, nofun, nofun, nofun, nofun, nofun, nofun, nofun, nofun, nofun, nofun, nofun, nofun, nofun, nofun, nofun, nofun, trivial⟩) ?_ ?_
  · have r9 := hw 9 rfl
    have r19 := hw 19 rfl
    have r18 := hcl 19 _ 18 rfl rfl r19
    have r15 := hcl 18 _ 15 rfl rfl r18
    have r17 := hcl 18 _ 17 rfl rfl r18
    have r16 := hcl 17 _ 16 rfl rfl r17
    have r14 := hcl 15 _ 14 rfl rfl r15
    have r13 := hcl 14 _ 13 rfl rfl r14
    have r12 := hcl 13 _ 12 rfl rfl r13
    have r10 := hcl 12 _ 10 rfl rfl r12
    have r11 := hcl 12 _ 11 rfl rfl r12
    have r0 := hcl 9 _ 0 rfl rfl r9
    have r1 := hcl 9 _ 1 rfl rfl r9
    have r4 := hcl 9 _ 4 rfl rfl r9
    have r7 := hcl 9 _ 7 rfl rfl r9
    have r8 := hcl 9 _ 8 rfl rfl r9
    have r5 := hcl 7 _ 5 rfl rfl r7
    have r6 := hcl 7 _ 6 rfl rfl r7
    have r2 := hcl 4 _ 2 rfl rfl r4
    have r3 := hcl 4 _ 3 rfl rfl r4
    match j, hj with
    | 0, _ => exact r0
    | 1, _ => exact r1
    | 2, _ => exact r2
    | 3, _ => exact r3
    | 4, _ => exact r4
    | 5, _ => exact r5
    | 6, _ => exact r6
    | 7, _ => exact r7
    | 8, _ => exact r8
    | 9, _ => exact r9
    | 10, _ => exact r10
    | 11, _ => exact r11
    | 12, _ => exact r12
    | 13, _ => exact r13
    | 14, _ => exact r14
    | 15, _ => exact r15
    | 16, _ => exact r16
    | 17, _ => exact r17
    | 18, _ => exact r18
    | 19, _ => exact r19
    | j + 20, h => exact absurd h (by omega)
  · have St : ∀ xc ∈ [(⟨some 0, 92, none, fun v _ => v = wordsV⟩ : Cl), ⟨some 1, 93, none, fun v _ => v = hashV old⟩, ⟨some 2, 94, none, fun v _ => v = .int .i64 (m : Int)⟩, ⟨some 3, 95, none, fun v _ => v = .int .i64 (H : Int)⟩, ⟨some 4, 96, none, fun v _ => v = .int .i64 (m2 : Int)⟩, ⟨some 5, 97, none, fun v _ => v = .int .i64 (n : Int)⟩, ⟨some 6, 98, none, fun v _ => v = .int .i64 (H : Int)⟩, ⟨some 7, 99, none, fun v _ => v = .int .i64 (n2 : Int)⟩, ⟨some 8, 100, none, fun v _ => v = .slice (some ad) k c⟩, ⟨some 9, 101, none, fun v W => OwnStrs W w2.heap.size v T1⟩, ⟨some 10, 102, none, fun v _ => v = .slice (some ad) k c⟩, ⟨some 11, 103, none, fun v _ => v = .int .i64 (u : Int)⟩, ⟨some 12, 104, none, fun v _ => v = .pointer (some (ad.add (u * 32)))⟩, ⟨some 13, 105, none, fun v _ => v = .slice (some (ad.add (u * 32))) 32 32⟩, ⟨some 14, 106, none, fun v _ => v = .string ⟨xp.toArray⟩⟩, ⟨some 15, 107, none, fun v _ => v = .string ⟨(1 :: xp).toArray⟩⟩, ⟨some 16, 108, none, fun v _ => v = .slice (some ⟨ga, 0, none⟩) 32 32⟩, ⟨some 17, 109, none, fun v _ => v = .string ⟨x1.toArray⟩⟩, ⟨some 18, 110, none, fun v _ => v = .string ⟨(1 :: (xp ++ x1)).toArray⟩⟩, ⟨some 19, 111, none, fun v W => OwnStrs W w2.heap.size v [(1 :: (xp ++ x1))]⟩], Lasts xc := AllC.mem ⟨lastsV0 _ _ _ _, lastsV0 _ _ _ _, lastsV0 _ _ _ _, lastsV0 _ _ _ _, lastsV0 _ _ _ _, lastsV0 _ _ _ _, lastsV0 _ _ _ _, lastsV0 _ _ _ _, lastsV0 _ _ _ _, (fun _ _ _ h b => h.next b), lastsV0 _ _ _ _, lastsV0 _ _ _ _, lastsV0 _ _ _ _, lastsV0 _ _ _ _, lastsV0 _ _ _ _, lastsV0 _ _ _ _, lastsV0 _ _ _ _, lastsV0 _ _ _ _, lastsV0 _ _ _ _, (fun _ _ _ h b => h.next b), trivial⟩
    clear HA0
    refine ⟨?_, ?_, ?_, ?_, ?_, ?_, ?_, ?_, ?_, ?_, ?_, ?_, ?_, ?_, ?_, ?_, ?_, ?_, ?_, ?_, trivial⟩
    · refine stepB rfl rfl (by decide) (by rw [hz]; decide) rfl rfl (by kernel_rfl) St SG fun d a W hF hG hH hn hcl hw => ?_
      have q6 := (hF.same 6 (by decide)).trans e6
      refine ⟨wordsV, W, ?_, Below.refl _ _, ?_⟩
      · exact exec_load rfl (by rw [q6]; exact BoxW.load (BoxA.next y6' hG))
      · rfl
    · refine stepB rfl rfl (by decide) (by rw [hz]; decide) rfl rfl (by kernel_rfl) St SG fun d a W hF hG hH hn hcl hw => ?_
      have q7 := (hF.same 7 (by decide)).trans e7
      refine ⟨hashV old, W, ?_, Below.refl _ _, ?_⟩
      · exact exec_load rfl (by rw [q7]; exact BoxH.load_ (BoxA.next y7' hG) HOL.out)
      · rfl
    · refine stepB rfl rfl (by decide) (by rw [hz]; decide) rfl rfl (by kernel_rfl) St SG fun d a W hF hG hH hn hcl hw => ?_
      have q2 := (hF.same 2 (by decide)).trans e2
      refine ⟨.int .i64 (m : Int), W, ?_, Below.refl _ _, ?_⟩
      · clear hF hG hH hn hcl hw
        generalize a.eval = ρ at *
        go_simp
      · rfl
    · refine stepB rfl rfl (by decide) (by rw [hz]; decide) rfl rfl (by kernel_rfl) St SG fun d a W hF hG hH hn hcl hw => ?_
      have q13 := (hF.same 13 (by decide)).trans e13
      refine ⟨.int .i64 (H : Int), W, ?_, Below.refl _ _, ?_⟩
      · clear hF hG hH hn hcl hw
        generalize a.eval = ρ at *
        go_simp
      · rfl
    · refine stepB rfl rfl (by decide) (by rw [hz]; decide) rfl rfl (by kernel_rfl) St SG fun d a W hF hG hH hn hcl hw => ?_
      have q94 : a.eval (.tmp 94) = .int .i64 (m : Int) := hH.at_ (i := 2) rfl (hw 2 rfl) id
      have q95 : a.eval (.tmp 95) = .int .i64 (H : Int) := hH.at_ (i := 3) rfl (hw 3 rfl) id
      have qw_ := WA.out
      refine ⟨.int .i64 (m2 : Int), W, ?_, Below.refl _ _, ?_⟩
      · clear hF hG hH hn hcl hw
        generalize a.eval = ρ at *
        go_simp
      · rfl
    · refine stepB rfl rfl (by decide) (by rw [hz]; decide) rfl rfl (by kernel_rfl) St SG fun d a W hF hG hH hn hcl hw => ?_
      have q3 := (hF.same 3 (by decide)).trans e3
      refine ⟨.int .i64 (n : Int), W, ?_, Below.refl _ _, ?_⟩
      · clear hF hG hH hn hcl hw
        generalize a.eval = ρ at *
        go_simp
      · rfl
    · refine stepB rfl rfl (by decide) (by rw [hz]; decide) rfl rfl (by kernel_rfl) St SG fun d a W hF hG hH hn hcl hw => ?_
      have q13 := (hF.same 13 (by decide)).trans e13
      refine ⟨.int .i64 (H : Int), W, ?_, Below.refl _ _, ?_⟩
      · clear hF hG hH hn hcl hw
        generalize a.eval = ρ at *
        go_simp
      · rfl
    · refine stepB rfl rfl (by decide) (by rw [hz]; decide) rfl rfl (by kernel_rfl) St SG fun d a W hF hG hH hn hcl hw => ?_
      have q97 : a.eval (.tmp 97) = .int .i64 (n : Int) := hH.at_ (i := 5) rfl (hw 5 rfl) id
      have q98 : a.eval (.tmp 98) = .int .i64 (H : Int) := hH.at_ (i := 6) rfl (hw 6 rfl) id
      have qw_ := WB.out
      refine ⟨.int .i64 (n2 : Int), W, ?_, Below.refl _ _, ?_⟩
      · clear hF hG hH hn hcl hw
        generalize a.eval = ρ at *
        go_simp
      · rfl
    · refine stepB rfl rfl (by decide) (by rw [hz]; decide) rfl rfl (by kernel_rfl) St SG fun d a W hF hG hH hn hcl hw => ?_
      have q5 := (hF.same 5 (by decide)).trans e5
      refine ⟨.slice (some ad) k c, W, ?_, Below.refl _ _, ?_⟩
      · clear hF hG hH hn hcl hw
        generalize a.eval = ρ at *
        go_simp
      · rfl
    · refine stepC rfl rfl (by decide) (by rw [hz]; decide) rfl rfl (by kernel_rfl) St SG fun d a W hF hG hH hn hcl hw => ?_
      have q92 : a.eval (.tmp 92) = wordsV := hH.at_ (i := 0) rfl (hw 0 rfl) id
      have q93 : a.eval (.tmp 93) = hashV old := hH.at_ (i := 1) rfl (hw 1 rfl) id
      have q96 : a.eval (.tmp 96) = .int .i64 (m2 : Int) := hH.at_ (i := 4) rfl (hw 4 rfl) id
      have q99 : a.eval (.tmp 99) = .int .i64 (n2 : Int) := hH.at_ (i := 7) rfl (hw 7 rfl) id
      have q100 : a.eval (.tmp 100) = .slice (some ad) k c := hH.at_ (i := 8) rfl (hw 8 rfl) id
      have qf : a.eval (.func 53) = .func (.func 53) #[] #[] := rfl
      have qk0 : a.eval (.const (.bool false)) = .bool false := rfl
      refine ⟨53, #[wordsV, hashV old, .int .i64 (m2 : Int), .int .i64 (n2 : Int), .bool false, .slice (some ad) k c], ?_, ?_⟩
      · clear hF hG hH hn hcl hw
        generalize a.eval = ρ at *
        go_simp
      · refine (HT.out W (hs2.next hG)).mono ?_; rintro e W' ⟨v, rfl, hO, b⟩; exact ⟨v, rfl, b, hO.mono (by have := hG.size; omega)⟩
    · refine stepB rfl rfl (by decide) (by rw [hz]; decide) rfl rfl (by kernel_rfl) St SG fun d a W hF hG hH hn hcl hw => ?_
      have q5 := (hF.same 5 (by decide)).trans e5
      refine ⟨.slice (some ad) k c, W, ?_, Below.refl _ _, ?_⟩
      · clear hF hG hH hn hcl hw
        generalize a.eval = ρ at *
        go_simp
      · rfl
    · refine stepB rfl rfl (by decide) (by rw [hz]; decide) rfl rfl (by kernel_rfl) St SG fun d a W hF hG hH hn hcl hw => ?_
      have q20 := (hF.same 20 (by decide)).trans e20
      refine ⟨.int .i64 (u : Int), W, ?_, Below.refl _ _, ?_⟩
      · clear hF hG hH hn hcl hw
        generalize a.eval = ρ at *
        go_simp
      · rfl
    · refine stepB rfl rfl (by decide) (by rw [hz]; decide) rfl rfl (by kernel_rfl) St SG fun d a W hF hG hH hn hcl hw => ?_
      have q102 : a.eval (.tmp 102) = .slice (some ad) k c := hH.at_ (i := 10) rfl (hw 10 rfl) id
      have q103 : a.eval (.tmp 103) = .int .i64 (u : Int) := hH.at_ (i := 11) rfl (hw 11 rfl) id
      refine ⟨.pointer (some (ad.add (u * 32))), W, ?_, Below.refl _ _, ?_⟩
      · exact exec_indexH rfl q102 q103 hu
      · rfl
    · refine stepB rfl rfl (by decide) (by rw [hz]; decide) rfl rfl (by kernel_rfl) St SG fun d a W hF hG hH hn hcl hw => ?_
      have q104 : a.eval (.tmp 104) = .pointer (some (ad.add (u * 32))) := hH.at_ (i := 12) rfl (hw 12 rfl) id
      refine ⟨.slice (some (ad.add (u * 32))) 32 32, W, ?_, Below.refl _ _, ?_⟩
      · clear hF hG hH hn hcl hw
        generalize a.eval = ρ at *
        go_simp
      · rfl
    · refine stepB rfl rfl (by decide) (by rw [hz]; decide) rfl rfl (by kernel_rfl) St SG fun d a W hF hG hH hn hcl hw => ?_
      have q105 : a.eval (.tmp 105) = .slice (some (ad.add (u * 32))) 32 32 := hH.at_ (i := 13) rfl (hw 13 rfl) id
      have r := HTX.out W (hs2.next hG)
      refine ⟨.string ⟨xp.toArray⟩, W, ?_, Below.refl _ _, ?_⟩
      · clear hF hG hH hn hcl hw
        generalize a.eval = ρ at *
        go_simp
      · rfl
    · refine stepB rfl rfl (by decide) (by rw [hz]; decide) rfl rfl (by kernel_rfl) St SG fun d a W hF hG hH hn hcl hw => ?_
      have q106 : a.eval (.tmp 106) = .string ⟨xp.toArray⟩ := hH.at_ (i := 14) rfl (hw 14 rfl) id
      have r := HB1.out W
      have qs : a.eval (.const (.string ⟨#[1]⟩)) = .string ⟨#[1]⟩ := rfl
      refine ⟨.string ⟨(1 :: xp).toArray⟩, W, ?_, Below.refl _ _, ?_⟩
      · clear hF hG hH hn hcl hw
        generalize a.eval = ρ at *
        go_simp
      · rfl
    · refine stepB rfl rfl (by decide) (by rw [hz]; decide) rfl rfl (by kernel_rfl) St SG fun d a W hF hG hH hn hcl hw => ?_
      have q18 := (hF.same 18 (by decide)).trans e18
      refine ⟨.slice (some ⟨ga, 0, none⟩) 32 32, W, ?_, Below.refl _ _, ?_⟩
      · clear hF hG hH hn hcl hw
        generalize a.eval = ρ at *
        go_simp
      · rfl
    · refine stepB rfl rfl (by decide) (by rw [hz]; decide) rfl rfl (by kernel_rfl) St SG fun d a W hF hG hH hn hcl hw => ?_
      have q108 : a.eval (.tmp 108) = .slice (some ⟨ga, 0, none⟩) 32 32 := hH.at_ (i := 16) rfl (hw 16 rfl) id
      have r := BoxH.text (BoxA.next ya hG) L1.out 32
      refine ⟨.string ⟨x1.toArray⟩, W, ?_, Below.refl _ _, ?_⟩
      · clear hF hG hH hn hcl hw
        generalize a.eval = ρ at *
        go_simp
      · rfl
    · refine stepB rfl rfl (by decide) (by rw [hz]; decide) rfl rfl (by kernel_rfl) St SG fun d a W hF hG hH hn hcl hw => ?_
      have q107 : a.eval (.tmp 107) = .string ⟨(1 :: xp).toArray⟩ := hH.at_ (i := 15) rfl (hw 15 rfl) id
      have q109 : a.eval (.tmp 109) = .string ⟨x1.toArray⟩ := hH.at_ (i := 17) rfl (hw 17 rfl) id
      have r := HB2.out W
      refine ⟨.string ⟨(1 :: (xp ++ x1)).toArray⟩, W, ?_, Below.refl _ _, ?_⟩
      · clear hF hG hH hn hcl hw
        generalize a.eval = ρ at *
        go_simp
      · rfl
    · refine stepB rfl rfl (by decide) (by rw [hz]; decide) rfl rfl (by kernel_rfl) St SG fun d a W hF hG hH hn hcl hw => ?_
      have q110 : a.eval (.tmp 110) = .string ⟨(1 :: (xp ++ x1)).toArray⟩ := hH.at_ (i := 18) rfl (hw 18 rfl) id
      refine ⟨.slice (some ⟨W.heap.size, 0, none⟩) 1 1, W.alloc (.cells #[.string ⟨(1 :: (xp ++ x1)).toArray⟩] 9), ?_, Below.new1 W _, ?_⟩
      · clear hF hG hH hn hcl hw
        generalize a.eval = ρ at *
        go_simp
      · exact OwnStrs.one W _ _ hG.size
  · intro d a W ⟨hF, hB, hH⟩ hall
    have k101 : OwnStrs W w2.heap.size (a.eval (.tmp 101)) T1 := hH.at_ (i := 9) rfl (hall 9 (by decide)) id
    have k111 : OwnStrs W w2.heap.size (a.eval (.tmp 111)) [(1 :: (xp ++ x1))] := hH.at_ (i := 19) rfl (hall 19 (by decide)) id
    clear hH hall
    rw [hF.shape (by rw [hz]; decide)]
    clear hF
    simp only [List.foldl]
    generalize a.eval (.tmp 92) = z92 at *
    generalize a.eval (.tmp 93) = z93 at *
    generalize a.eval (.tmp 94) = z94 at *
    generalize a.eval (.tmp 95) = z95 at *
    generalize a.eval (.tmp 96) = z96 at *
    generalize a.eval (.tmp 97) = z97 at *
    generalize a.eval (.tmp 98) = z98 at *
    generalize a.eval (.tmp 99) = z99 at *
    generalize a.eval (.tmp 100) = z100 at *
    generalize a.eval (.tmp 101) = z101 at *
    generalize a.eval (.tmp 102) = z102 at *
    generalize a.eval (.tmp 103) = z103 at *
    generalize a.eval (.tmp 104) = z104 at *
    generalize a.eval (.tmp 105) = z105 at *
    generalize a.eval (.tmp 106) = z106 at *
    generalize a.eval (.tmp 107) = z107 at *
    generalize a.eval (.tmp 108) = z108 at *
    generalize a.eval (.tmp 109) = z109 at *
    generalize a.eval (.tmp 110) = z110 at *
    generalize a.eval (.tmp 111) = z111 at *
    rw [HA0.out]
    simp only [Act.put, List.setIfInBounds_toArray, List.set_cons_zero, List.set_cons_succ]
    clear hz HA0 SG e2 e3 e5 e6 e7 e13 e18 e20
    clear a a0
    refine wp_append_strs (.tmp 101) (.tmp 111) rfl w2.heap.size w2.heap.size _ _ T1 [(1 :: (xp ++ x1))] rfl rfl k101 k111 q1 (by simp) hB.size (fun z22 w4 hO b4 => ?_)
    refine wp_yields (v := z22) (by rfl) ?_
    dsimp only [Act.put]
    have B4 := hB.trans b4
    have BB4 := Below.on B2 B4
    have yb4 : BoxH w4 gb x2 := BoxA.next yb B4
    have hs4 := hs2.next B4
    have bs := B2.size
    have q3 : (T1 ++ [(1 :: (xp ++ x1))]).length ≤ 100000 := by rw [List.length_append]; simp; omega
    clear k101 k111 hB b4 ya yb hs2 HT
    go_upto_region 13 with (fail)
    refine wp_name fun a0 ha0 => ?_
    have e5 : a0.eval (.tmp 5) = .slice (some ad) k c := by rw [ha0]; rfl
    have e19 : a0.eval (.tmp 19) = .pointer (some ⟨gb, 0, none⟩) := by rw [ha0]; rfl
    have e20 : a0.eval (.tmp 20) = .int .i64 (u : Int) := by rw [ha0]; rfl
    have e22 : a0.eval (.tmp 22) = z22 := by rw [ha0]; rfl
    have hz : a0.tmps.size = 125 := by rw [ha0]; rfl
    have HA0 := Lib.hid ha0
    clear ha0
    have SG : ∀ (d d' : Nat → Prop) (W W' : World), (fun (_ : Nat → Prop) (W : World) => Below w4.heap.size w4 W) d W → (∀ j, d j → d' j) → Below W.heap.size W W' → (fun (_ : Nat → Prop) (W : World) => Below w4.heap.size w4 W) d' W' := fun _ _ _ _ h _ b => Below.next h b
    refine wp_region_lastly2 11 _ _ (Inv [113, 114, 115, 116, 117, 118, 119, 120, 121, 122, 123] a0 (fun (_ : Nat → Prop) (W : World) => Below w4.heap.size w4 W) [(⟨some 0, 113, none, fun v _ => v = z22⟩ : Cl), ⟨some 1, 114, none, fun v _ => v = .slice (some ad) k c⟩, ⟨some 2, 115, none, fun v _ => v = .int .i64 (u : Int)⟩, ⟨some 3, 116, none, fun v _ => v = .pointer (some (ad.add (u * 32)))⟩, ⟨some 4, 117, none, fun v _ => v = .slice (some (ad.add (u * 32))) 32 32⟩, ⟨some 5, 118, none, fun v _ => v = .string ⟨xp.toArray⟩⟩, ⟨some 6, 119, none, fun v _ => v = .string ⟨(1 :: xp).toArray⟩⟩, ⟨some 7, 120, none, fun v _ => v = .slice (some ⟨gb, 0, none⟩) 32 32⟩, ⟨some 8, 121, none, fun v _ => v = .string ⟨x2.toArray⟩⟩, ⟨some 9, 122, none, fun v _ => v = .string ⟨(1 :: (xp ++ x2)).toArray⟩⟩, ⟨some 10, 123, none, fun v W => OwnStrs W w4.heap.size v [(1 :: (xp ++ x2))]⟩]) (by kernel_rfl) (by kernel_rfl) rfl rfl rfl (fun d hcl hw j hj => ?_) (by kernel_rfl) rfl rfl (Inv.start (Below.refl _ _).drew ⟨nofun, nofun, nofun, nofun, nofun, nofun, nofun, nofun, nofun, nofun, nofun, trivial⟩) ?_ ?_
    · have r0 := hw 0 rfl
      have r10 := hw 10 rfl
      have r9 := hcl 10 _ 9 rfl rfl r10
      have r6 := hcl 9 _ 6 rfl rfl r9
      have r8 := hcl 9 _ 8 rfl rfl r9
      have r7 := hcl 8 _ 7 rfl rfl r8
      have r5 := hcl 6 _ 5 rfl rfl r6
      have r4 := hcl 5 _ 4 rfl rfl r5
      have r3 := hcl 4 _ 3 rfl rfl r4
      have r1 := hcl 3 _ 1 rfl rfl r3
      have r2 := hcl 3 _ 2 rfl rfl r3
      match j, hj with
      | 0, _ => exact r0
      | 1, _ => exact r1
      | 2, _ => exact r2
      | 3, _ => exact r3
      | 4, _ => exact r4
      | 5, _ => exact r5
      | 6, _ => exact r6
      | 7, _ => exact r7
      | 8, _ => exact r8
      | 9, _ => exact r9
      | 10, _ => exact r10
      | j + 11, h => exact absurd h (by omega)
    · have St : ∀ xc ∈ [(⟨some 0, 113, none, fun v _ => v = z22⟩ : Cl), ⟨some 1, 114, none, fun v _ => v = .slice (some ad) k c⟩, ⟨some 2, 115, none, fun v _ => v = .int .i64 (u : Int)⟩, ⟨some 3, 116, none, fun v _ => v = .pointer (some (ad.add (u * 32)))⟩, ⟨some 4, 117, none, fun v _ => v = .slice (some (ad.add (u * 32))) 32 32⟩, ⟨some 5, 118, none, fun v _ => v = .string ⟨xp.toArray⟩⟩, ⟨some 6, 119, none, fun v _ => v = .string ⟨(1 :: xp).toArray⟩⟩, ⟨some 7, 120, none, fun v _ => v = .slice (some ⟨gb, 0, none⟩) 32 32⟩, ⟨some 8, 121, none, fun v _ => v = .string ⟨x2.toArray⟩⟩, ⟨some 9, 122, none, fun v _ => v = .string ⟨(1 :: (xp ++ x2)).toArray⟩⟩, ⟨some 10, 123, none, fun v W => OwnStrs W w4.heap.size v [(1 :: (xp ++ x2))]⟩], Lasts xc := AllC.mem ⟨lastsV0 _ _ _ _, lastsV0 _ _ _ _, lastsV0 _ _ _ _, lastsV0 _ _ _ _, lastsV0 _ _ _ _, lastsV0 _ _ _ _, lastsV0 _ _ _ _, lastsV0 _ _ _ _, lastsV0 _ _ _ _, lastsV0 _ _ _ _, (fun _ _ _ h b => h.next b), trivial⟩
      clear HA0
      refine ⟨?_, ?_, ?_, ?_, ?_, ?_, ?_, ?_, ?_, ?_, ?_, trivial⟩
      · refine stepB rfl rfl (by decide) (by rw [hz]; decide) rfl rfl (by kernel_rfl) St SG fun d a W hF hG hH hn hcl hw => ?_
        have q22 := (hF.same 22 (by decide)).trans e22
        refine ⟨z22, W, ?_, Below.refl _ _, ?_⟩
        · clear hF hG hH hn hcl hw
          generalize a.eval = ρ at *
          go_simp
        · rfl
      · refine stepB rfl rfl (by decide) (by rw [hz]; decide) rfl rfl (by kernel_rfl) St SG fun d a W hF hG hH hn hcl hw => ?_
        have q5 := (hF.same 5 (by decide)).trans e5
        refine ⟨.slice (some ad) k c, W, ?_, Below.refl _ _, ?_⟩
        · clear hF hG hH hn hcl hw
          generalize a.eval = ρ at *
          go_simp
        · rfl
      · refine stepB rfl rfl (by decide) (by rw [hz]; decide) rfl rfl (by kernel_rfl) St SG fun d a W hF hG hH hn hcl hw => ?_
        have q20 := (hF.same 20 (by decide)).trans e20
        refine ⟨.int .i64 (u : Int), W, ?_, Below.refl _ _, ?_⟩
        · clear hF hG hH hn hcl hw
          generalize a.eval = ρ at *
          go_simp
        · rfl
      · refine stepB rfl rfl (by decide) (by rw [hz]; decide) rfl rfl (by kernel_rfl) St SG fun d a W hF hG hH hn hcl hw => ?_
        have q114 : a.eval (.tmp 114) = .slice (some ad) k c := hH.at_ (i := 1) rfl (hw 1 rfl) id
        have q115 : a.eval (.tmp 115) = .int .i64 (u : Int) := hH.at_ (i := 2) rfl (hw 2 rfl) id
        refine ⟨.pointer (some (ad.add (u * 32))), W, ?_, Below.refl _ _, ?_⟩
        · exact exec_indexH rfl q114 q115 hu
        · rfl
      · refine stepB rfl rfl (by decide) (by rw [hz]; decide) rfl rfl (by kernel_rfl) St SG fun d a W hF hG hH hn hcl hw => ?_
        have q116 : a.eval (.tmp 116) = .pointer (some (ad.add (u * 32))) := hH.at_ (i := 3) rfl (hw 3 rfl) id
        refine ⟨.slice (some (ad.add (u * 32))) 32 32, W, ?_, Below.refl _ _, ?_⟩
        · clear hF hG hH hn hcl hw
          generalize a.eval = ρ at *
          go_simp
        · rfl
      · refine stepB rfl rfl (by decide) (by rw [hz]; decide) rfl rfl (by kernel_rfl) St SG fun d a W hF hG hH hn hcl hw => ?_
        have q117 : a.eval (.tmp 117) = .slice (some (ad.add (u * 32))) 32 32 := hH.at_ (i := 4) rfl (hw 4 rfl) id
        have r := HTX.out W (hs4.next hG)
        refine ⟨.string ⟨xp.toArray⟩, W, ?_, Below.refl _ _, ?_⟩
        · clear hF hG hH hn hcl hw
          generalize a.eval = ρ at *
          go_simp
        · rfl
      · refine stepB rfl rfl (by decide) (by rw [hz]; decide) rfl rfl (by kernel_rfl) St SG fun d a W hF hG hH hn hcl hw => ?_
        have q118 : a.eval (.tmp 118) = .string ⟨xp.toArray⟩ := hH.at_ (i := 5) rfl (hw 5 rfl) id
        have r := HB1.out W
        have qs : a.eval (.const (.string ⟨#[1]⟩)) = .string ⟨#[1]⟩ := rfl
        refine ⟨.string ⟨(1 :: xp).toArray⟩, W, ?_, Below.refl _ _, ?_⟩
        · clear hF hG hH hn hcl hw
          generalize a.eval = ρ at *
          go_simp
        · rfl
      · refine stepB rfl rfl (by decide) (by rw [hz]; decide) rfl rfl (by kernel_rfl) St SG fun d a W hF hG hH hn hcl hw => ?_
        have q19 := (hF.same 19 (by decide)).trans e19
        refine ⟨.slice (some ⟨gb, 0, none⟩) 32 32, W, ?_, Below.refl _ _, ?_⟩
        · clear hF hG hH hn hcl hw
          generalize a.eval = ρ at *
          go_simp
        · rfl
      · refine stepB rfl rfl (by decide) (by rw [hz]; decide) rfl rfl (by kernel_rfl) St SG fun d a W hF hG hH hn hcl hw => ?_
        have q120 : a.eval (.tmp 120) = .slice (some ⟨gb, 0, none⟩) 32 32 := hH.at_ (i := 7) rfl (hw 7 rfl) id
        have r := BoxH.text (BoxA.next yb4 hG) L2.out 32
        refine ⟨.string ⟨x2.toArray⟩, W, ?_, Below.refl _ _, ?_⟩
        · clear hF hG hH hn hcl hw
          generalize a.eval = ρ at *
          go_simp
        · rfl
      · refine stepB rfl rfl (by decide) (by rw [hz]; decide) rfl rfl (by kernel_rfl) St SG fun d a W hF hG hH hn hcl hw => ?_
        have q119 : a.eval (.tmp 119) = .string ⟨(1 :: xp).toArray⟩ := hH.at_ (i := 6) rfl (hw 6 rfl) id
        have q121 : a.eval (.tmp 121) = .string ⟨x2.toArray⟩ := hH.at_ (i := 8) rfl (hw 8 rfl) id
        have r := HB3.out W
        refine ⟨.string ⟨(1 :: (xp ++ x2)).toArray⟩, W, ?_, Below.refl _ _, ?_⟩
        · clear hF hG hH hn hcl hw
          generalize a.eval = ρ at *
          go_simp
        · rfl
      · refine stepB rfl rfl (by decide) (by rw [hz]; decide) rfl rfl (by kernel_rfl) St SG fun d a W hF hG hH hn hcl hw => ?_
        have q122 : a.eval (.tmp 122) = .string ⟨(1 :: (xp ++ x2)).toArray⟩ := hH.at_ (i := 9) rfl (hw 9 rfl) id
        refine ⟨.slice (some ⟨W.heap.size, 0, none⟩) 1 1, W.alloc (.cells #[.string ⟨(1 :: (xp ++ x2)).toArray⟩] 9), ?_, Below.new1 W _, ?_⟩
        · clear hF hG hH hn hcl hw
          generalize a.eval = ρ at *
          go_simp
        · exact OwnStrs.one W _ _ hG.size
    · intro d a W ⟨hF, hB, hH⟩ hall
      have k113 : a.eval (.tmp 113) = z22 := hH.at_ (i := 0) rfl (hall 0 (by decide)) id
      have k123 : OwnStrs W w4.heap.size (a.eval (.tmp 123)) [(1 :: (xp ++ x2))] := hH.at_ (i := 10) rfl (hall 10 (by decide)) id
      clear hH hall
      rw [hF.shape (by rw [hz]; decide)]
      clear hF
      simp only [List.foldl]
      generalize a.eval (.tmp 113) = z113 at *
      generalize a.eval (.tmp 114) = z114 at *
      generalize a.eval (.tmp 115) = z115 at *
      generalize a.eval (.tmp 116) = z116 at *
      generalize a.eval (.tmp 117) = z117 at *
      generalize a.eval (.tmp 118) = z118 at *
      generalize a.eval (.tmp 119) = z119 at *
      generalize a.eval (.tmp 120) = z120 at *
      generalize a.eval (.tmp 121) = z121 at *
      generalize a.eval (.tmp 122) = z122 at *
      generalize a.eval (.tmp 123) = z123 at *
      subst k113
      rw [HA0.out]
      simp only [Act.put, List.setIfInBounds_toArray, List.set_cons_zero, List.set_cons_succ]
      clear hz HA0 SG e5 e19 e20 e22
      clear a a0
      refine wp_append_strs (.tmp 113) (.tmp 123) rfl w2.heap.size w4.heap.size _ _ (T1 ++ [(1 :: (xp ++ x1))]) [(1 :: (xp ++ x2))] rfl rfl (hO.next hB) k123 q3 (by simp) (by have := hB.size; have := B4.size; omega) (fun z12 w6 hO5 b5 => ?_)
      refine wp_yields (v := z12) (by rfl) ?_
      dsimp only [Act.put]
      go_wp2_with (fail)
      go_ret
      exact ⟨z12, rfl, by rw [HG.out]; exact hO5.mono bs, (Below.on BB4 hB).trans (b5.mono bs)⟩
theorem gt_le (q : Nat) : GtOk q := by
  induction q with
  | zero => intro old m n whole path A k c w hq h1 hm; omega
  | succ q ih =>
    intro old m n whole path A k c w hq h1 hm hn hk hkc hk5 ho hs
    by_cases e : m = n
    · subst e; exact gt_all old m whole path A k c w hn hs
    · by_cases hl : m ≤ half n
      · exact gt_left q ih old m n whole path A k c w hq (by omega) h1 (by omega) hl hn hk hkc hk5 ho hs
      · exact gt_right q ih old m n whole path A k c w hq (by omega) h1 (by omega) hl hn hk hkc hk5 ho hs
theorem rgtexts_any (old : Bs) (m n : Nat) (whole : Bool) (path : List Bs) (A : Option Addr) (k c : Nat) (w : World) (h1 : 1 ≤ m) (hm : m ≤ n) (hn : n ≤ 5000) (hk : path.length = k) (hkc : k ≤ c) (hk5 : k ≤ 5000) (ho : old.length = 32) (hs : Hs w A path) :
    Calls Tryd.prog 53 #[wordsV, hashV old, .int .i64 m, .int .i64 n, .bool whole, .slice A k c] w fun e w' => ∃ v, e = .returned v ∧ OwnStrs w' w.heap.size v (grownT sha old m n whole path) ∧ Below w.heap.size w w' := gt_le n old m n whole path A k c w (Nat.le_refl _) h1 hm hn hk hkc hk5 ho hs
end Go.Proofs.YtcocengpekndjaaDoor
