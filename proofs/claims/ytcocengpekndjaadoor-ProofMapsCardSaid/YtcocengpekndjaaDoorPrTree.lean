/- The walk over the reference's Tree. -/
import Derived.Test.YtcocengpekndjaaDoorPrRows
import Derived.Test.YtcocengpekndjaaDoorPrFold
namespace Go.Proofs.YtcocengpekndjaaDoor
open Go.RowKit
set_option maxRecDepth 100000 in
set_option maxHeartbeats 4000000 in
theorem tree_nil (A : Option Addr) (c : Nat) (w : World) : Calls Tryd.prog 33 #[wordsV, .slice A 0 c] w fun e w' => e = .returned (hashV (treeM sha [])) ∧ Below w.heap.size w w' := by
  have hS : Strs w A [] := .inl rfl
  rw [show treeM sha [] = sha [] from topM_nil sha]
  have hl : (sha []).length = 32 := sha_length _
  have hrs := fun W => rsum_any [] W (by decide)
  generalize sha [] = x at *
  obtain ⟨w0, hW0⟩ : ∃ w0, World.alloc (w.alloc (.cells (ints .u32 wordsL) 27)) (.cells (ints .u8 (List.replicate 32 0)) 30) = w0 := ⟨_, rfl⟩
  have B0 : Below w.heap.size w w0 := hW0 ▸ Below.on (Below.new1 _ _) (Below.new1 _ _)
  have y2 : BoxW w0 w.heap.size := hW0 ▸ (BoxW.new w).next (Below.new1 _ _)
  have x4 : BoxA w0 (w.heap.size + 1) 30 .u8 (List.replicate 32 0) := by
    have := BoxA.new (w.alloc (.cells (ints .u32 wordsL) 27)) 30 .u8 (List.replicate 32 0) _ rfl
    rw [World.size_alloc] at this; exact hW0 ▸ this
  have hS0 := hS.next B0
  have HO := Lib.hid hW0
  have HR := Lib.hid hrs
  have HL := Lib.hid hl
  clear hW0 hS hS0 hrs hl
  go_enter Tryd.func33, Tryd.ntmps33
  go_upto_region 1 with (fail)
  change Code.wp _ _ _ _ (World.alloc (w.alloc (.cells (ints .u32 wordsL) 27)) (.cells (ints .u8 (List.replicate 32 0)) 30))
  rw [HO.out]
  clear HO
  go_wp2_with (first
    | (refine wpList_load_at rfl 27 (.tmp 2) rfl wordsV (BoxW.load y2) ?_)
    | (go_at_call 20; refine (HR.out _).mono ?_; rintro e w1 ⟨rfl, b1⟩)
    | (refine wpList_storeH rfl (.tmp 4) (.tmp 11) rfl (w.heap.size + 1) x rfl rfl (x4.next b1) (by simp) HL.out ?_))
  exact bodyPost_ret (v := hashV x) (results_hash rfl _ (w.heap.size + 1) _ rfl ((x4.next b1).setRow) HL.out) rfl ⟨rfl, below_setRow (Below.on B0 b1) (by omega) _⟩
set_option maxRecDepth 100000 in
set_option maxHeartbeats 4000000 in
theorem tree_one (s : Bs) (A : Option Addr) (c : Nat) (w : World) (hsl : s.length ≤ 90000) (hS : Strs w A [s]) : Calls Tryd.prog 33 #[wordsV, .slice A 1 c] w fun e w' => e = .returned (hashV (treeM sha [s])) ∧ Below w.heap.size w w' := by
  have hx : treeM sha [s] = leafM sha s := topM_one sha _
  rw [hx]
  obtain ⟨ad, rfl⟩ : ∃ a, A = some a := by
    rcases hS with h | ⟨a, e, _⟩
    · cases h
    · exact ⟨a, e⟩
  have hl : (leafM sha s).length = 32 := sha_length _
  have a0' : ∀ W, (Op.stringOp .add ⟨#[0]⟩ ⟨s.toArray⟩).run Tryd.prog W = .ok (.string ⟨(0 :: s).toArray⟩) W := fun W => s_add (P := Tryd.prog) [0] s W (by simp; omega)
  have hrs := fun W => rsum_any (0 :: s) W (by simp; omega)
  have hxe : sha (0 :: s) = leafM sha s := rfl
  rw [hxe] at hrs
  generalize leafM sha s = x at *
  obtain ⟨w0, hW0⟩ : ∃ w0, World.alloc (w.alloc (.cells (ints .u32 wordsL) 27)) (.cells (ints .u8 (List.replicate 32 0)) 30) = w0 := ⟨_, rfl⟩
  have B0 : Below w.heap.size w w0 := hW0 ▸ Below.on (Below.new1 _ _) (Below.new1 _ _)
  have y2 : BoxW w0 w.heap.size := hW0 ▸ (BoxW.new w).next (Below.new1 _ _)
  have x4 : BoxA w0 (w.heap.size + 1) 30 .u8 (List.replicate 32 0) := by
    have := BoxA.new (w.alloc (.cells (ints .u32 wordsL) 27)) 30 .u8 (List.replicate 32 0) _ rfl
    rw [World.size_alloc] at this; exact hW0 ▸ this
  have hS0 := hS.next B0
  have HO := Lib.hid hW0
  have hcell : ∀ W, Below w0.heap.size w0 W → W.cell? (ad.add 0) = some (.string ⟨s.toArray⟩) := fun W h => (hS0.next h).cell (i := 0) (by simp)
  have HL := Lib.hid hl
  have HR := Lib.hid hrs
  have HC := Lib.hid hcell
  clear hW0 hS hS0 hrs hl hx hxe hcell
  go_enter Tryd.func33, Tryd.ntmps33
  go_upto_region 5 with (fail)
  change Code.wp _ _ _ _ (World.alloc (w.alloc (.cells (ints .u32 wordsL) 27)) (.cells (ints .u8 (List.replicate 32 0)) 30))
  rw [HO.out]
  clear HO
  refine wp_name fun a0 ha0 => ?_
  have e1 : a0.eval (.tmp 1) = .slice (some ad) 1 c := by rw [ha0]; rfl
  have e2 : a0.eval (.tmp 2) = .pointer (some ⟨w.heap.size, 0, none⟩) := by rw [ha0]; rfl
  have e4 : a0.eval (.tmp 4) = .pointer (some ⟨(w.heap.size + 1), 0, none⟩) := by rw [ha0]; rfl
  have hz : a0.tmps.size = 35 := by rw [ha0]; rfl
  have HA0 := Lib.hid ha0
  clear ha0
  have SG : ∀ (d d' : Nat → Prop) (W W' : World), (fun (_ : Nat → Prop) (W : World) => Below w0.heap.size w0 W) d W → (∀ j, d j → d' j) → Below W.heap.size W W' → (fun (_ : Nat → Prop) (W : World) => Below w0.heap.size w0 W) d' W' := fun _ _ _ _ h _ b => Below.next h b
  refine wp_region_lastly 6 _ (Inv [14, 15, 16, 17, 18, 19] a0 (fun (_ : Nat → Prop) (W : World) => Below w0.heap.size w0 W) [(⟨some 0, 14, none, fun v _ => v = wordsV⟩ : Cl), ⟨some 1, 15, none, fun v _ => v = .slice (some ad) 1 c⟩, ⟨some 2, 16, none, fun v _ => v = .pointer (some (ad.add 0))⟩, ⟨some 3, 17, none, fun v _ => v = .string ⟨s.toArray⟩⟩, ⟨some 4, 18, none, fun v _ => v = .string ⟨(0 :: s).toArray⟩⟩, ⟨some 5, 19, none, fun v _ => v = hashV x⟩]) (by kernel_rfl) (by kernel_rfl) rfl rfl (by kernel_rfl) rfl (Inv.start (Below.refl _ _).drew ⟨nofun, nofun, nofun, nofun, nofun, nofun, trivial⟩) ?_ ?_
  · have St : ∀ xc ∈ [(⟨some 0, 14, none, fun v _ => v = wordsV⟩ : Cl), ⟨some 1, 15, none, fun v _ => v = .slice (some ad) 1 c⟩, ⟨some 2, 16, none, fun v _ => v = .pointer (some (ad.add 0))⟩, ⟨some 3, 17, none, fun v _ => v = .string ⟨s.toArray⟩⟩, ⟨some 4, 18, none, fun v _ => v = .string ⟨(0 :: s).toArray⟩⟩, ⟨some 5, 19, none, fun v _ => v = hashV x⟩], Lasts xc := AllC.mem ⟨lastsV0 _ _ _ _, lastsV0 _ _ _ _, lastsV0 _ _ _ _, lastsV0 _ _ _ _, lastsV0 _ _ _ _, lastsV0 _ _ _ _, trivial⟩
    clear HA0
    refine ⟨?_, ?_, ?_, ?_, ?_, ?_, trivial⟩
    · refine stepB rfl rfl (by decide) (by rw [hz]; decide) rfl rfl (by kernel_rfl) St SG fun d a W hF hG hH hn hcl hw => ?_
      have q2 := (hF.same 2 (by decide)).trans e2
      refine ⟨wordsV, W, ?_, Below.refl _ _, ?_⟩
      · exact exec_load rfl (by rw [q2]; exact BoxW.load (BoxA.next y2 hG))
      · rfl
    · refine stepB rfl rfl (by decide) (by rw [hz]; decide) rfl rfl (by kernel_rfl) St SG fun d a W hF hG hH hn hcl hw => ?_
      have q1 := (hF.same 1 (by decide)).trans e1
      refine ⟨.slice (some ad) 1 c, W, ?_, Below.refl _ _, ?_⟩
      · clear hF hG hH hn hcl hw
        generalize a.eval = ρ at *
        go_simp
      · rfl
    · refine stepB rfl rfl (by decide) (by rw [hz]; decide) rfl rfl (by kernel_rfl) St SG fun d a W hF hG hH hn hcl hw => ?_
      have q15 : a.eval (.tmp 15) = .slice (some ad) 1 c := hH.at_ (i := 1) rfl (hw 1 rfl) id
      have qc0 : a.eval (.const (.int .i64 0)) = .int .i64 0 := rfl
      refine ⟨.pointer (some (ad.add 0)), W, ?_, Below.refl _ _, ?_⟩
      · exact exec_indexS (i := 0) rfl q15 rfl (by decide)
      · rfl
    · refine stepB rfl rfl (by decide) (by rw [hz]; decide) rfl rfl (by kernel_rfl) St SG fun d a W hF hG hH hn hcl hw => ?_
      have q16 : a.eval (.tmp 16) = .pointer (some (ad.add 0)) := hH.at_ (i := 2) rfl (hw 2 rfl) id
      have c := HC.out W hG
      have c' : W.cell? ad = some (.string ⟨s.toArray⟩) := by rw [Addr.add, if_pos rfl] at c; exact c
      refine ⟨.string ⟨s.toArray⟩, W, ?_, Below.refl _ _, ?_⟩
      · clear hF hG hH hn hcl hw
        generalize a.eval = ρ at *
        go_simp
      · rfl
    · refine stepB rfl rfl (by decide) (by rw [hz]; decide) rfl rfl (by kernel_rfl) St SG fun d a W hF hG hH hn hcl hw => ?_
      have q17 : a.eval (.tmp 17) = .string ⟨s.toArray⟩ := hH.at_ (i := 3) rfl (hw 3 rfl) id
      have c := a0' W
      have qk : a.eval (.const (.string ⟨#[0]⟩)) = .string ⟨#[0]⟩ := rfl
      refine ⟨.string ⟨(0 :: s).toArray⟩, W, ?_, Below.refl _ _, ?_⟩
      · clear hF hG hH hn hcl hw
        generalize a.eval = ρ at *
        go_simp
      · rfl
    · refine stepC rfl rfl (by decide) (by rw [hz]; decide) rfl rfl (by kernel_rfl) St SG fun d a W hF hG hH hn hcl hw => ?_
      have q14 : a.eval (.tmp 14) = wordsV := hH.at_ (i := 0) rfl (hw 0 rfl) id
      have q18 : a.eval (.tmp 18) = .string ⟨(0 :: s).toArray⟩ := hH.at_ (i := 4) rfl (hw 4 rfl) id
      have qf : a.eval (.func 20) = .func (.func 20) #[] #[] := rfl
      refine ⟨20, #[wordsV, .string ⟨(0 :: s).toArray⟩], ?_, ?_⟩
      · clear hF hG hH hn hcl hw
        generalize a.eval = ρ at *
        go_simp
      · refine (HR.out W).mono ?_; rintro e W' ⟨rfl, b⟩; exact ⟨_, rfl, b, rfl⟩
  · intro d a W ⟨hF, hB, hH⟩ hall
    have k19 : a.eval (.tmp 19) = hashV x := hH.at_ (i := 5) rfl (hall 5 (by decide)) id
    clear hH hall
    rw [hF.shape (by rw [hz]; decide)]
    clear hF
    simp only [List.foldl]
    generalize a.eval (.tmp 14) = z14 at *
    generalize a.eval (.tmp 15) = z15 at *
    generalize a.eval (.tmp 16) = z16 at *
    generalize a.eval (.tmp 17) = z17 at *
    generalize a.eval (.tmp 18) = z18 at *
    generalize a.eval (.tmp 19) = z19 at *
    subst k19
    rw [HA0.out]
    simp only [Act.put, List.setIfInBounds_toArray, List.set_cons_zero, List.set_cons_succ]
    clear hz HA0 SG e1 e2 e4
    clear a a0
    refine wp_storeH (.tmp 4) (.tmp 19) rfl (w.heap.size + 1) x rfl rfl (x4.next hB) (by simp) HL.out ?_
    have y6 : BoxH (W.setRow (w.heap.size + 1) (ints .u8 (nums x))) (w.heap.size + 1) x := (x4.next hB).setRow
    have b6 := below_setRow (Below.on B0 hB) (show w.heap.size ≤ w.heap.size + 1 by omega) (ints .u8 (nums x))
    generalize World.setRow W (w.heap.size + 1) (ints .u8 (nums x)) = W6 at *
    dsimp only [Act.put]
    go_wp2_with (fail)
    exact bodyPost_ret (v := hashV x) (results_hash rfl _ (w.heap.size + 1) _ rfl y6 HL.out) rfl ⟨rfl, b6⟩
/-- What Tree does with lists of at most q strings. -/
def TreeOk (q : Nat) : Prop := ∀ (l : List Bs) (A : Option Addr) (n c : Nat) (w : World), n ≤ q → l.length = n → n ≤ 5000 → n ≤ c → (∀ s ∈ l, s.length ≤ 90000) → Strs w A l → Calls Tryd.prog 33 #[wordsV, .slice A n c] w fun e w' => e = .returned (hashV (treeM sha l)) ∧ Below w.heap.size w w'
set_option maxRecDepth 100000 in
set_option maxHeartbeats 4000000 in
theorem tree_two (q : Nat) (ih : TreeOk q) (l : List Bs) (A : Option Addr) (n c : Nat) (w : World) (hq : n ≤ q + 1) (hn : l.length = n) (h2 : 2 ≤ n) (h5 : n ≤ 5000) (hc : n ≤ c) (hin : ∀ s ∈ l, s.length ≤ 90000) (hS : Strs w A l) : Calls Tryd.prog 33 #[wordsV, .slice A n c] w fun e w' => e = .returned (hashV (treeM sha l)) ∧ Below w.heap.size w w' := by
  have hr := half_range h2
  have ht := treeM_two sha (l := l) (by omega)
  rw [hn] at ht
  rw [ht]
  have l1 : (treeM sha (l.take (half n))).length = 32 := treeM_length sha sha_length _
  have l2 : (treeM sha (l.drop (half n))).length = 32 := treeM_length sha sha_length _
  have p1 := fun W (h : Strs W A l) => ih (l.take (half n)) A (half n) c W (by omega) (by rw [List.length_take]; omega) (by omega) (by omega) (fun s hs => hin s (List.mem_of_mem_take hs)) (h.take _)
  have p2 := fun W (h : Strs W A l) => ih (l.drop (half n)) (cutS A c (half n)) (n - half n) (c - half n) W (by omega) (by rw [List.length_drop, hn]) (by omega) (by omega) (fun s hs => hin s (List.mem_of_mem_drop hs)) (h.from_ _ c (by omega))
  have hf := fun W => rhalf_any n W h2 (by omega)
  have HA2 : ∀ (ev : Operand → Value) (o : Oper) (W : World) (x y : Operand), o.op = .slice 57 x (some y) none none → ev x = .slice A n c → ev y = .int .i64 ((half n : Nat) : Int) → (execOp ev o).run Tryd.prog W = .ok (.value (.slice (cutS A c (half n)) (n - half n) (c - half n))) W := fun _ _ _ _ _ ho hx hy => exec_sliceS_from ho hx hy (by omega)
  generalize cutS A c (half n) = A2 at *
  generalize half n = H at *
  generalize treeM sha (l.take H) = x1 at *
  generalize treeM sha (l.drop H) = x2 at *
  have hj := fun W => rpair_any x1 x2 W l1 l2
  have hl : (joinM sha x1 x2).length = 32 := sha_length _
  generalize joinM sha x1 x2 = x at *
  obtain ⟨w0, hW0⟩ : ∃ w0, World.alloc (w.alloc (.cells (ints .u32 wordsL) 27)) (.cells (ints .u8 (List.replicate 32 0)) 30) = w0 := ⟨_, rfl⟩
  have B0 : Below w.heap.size w w0 := hW0 ▸ Below.on (Below.new1 _ _) (Below.new1 _ _)
  have y2 : BoxW w0 w.heap.size := hW0 ▸ (BoxW.new w).next (Below.new1 _ _)
  have x4 : BoxA w0 (w.heap.size + 1) 30 .u8 (List.replicate 32 0) := by
    have := BoxA.new (w.alloc (.cells (ints .u32 wordsL) 27)) 30 .u8 (List.replicate 32 0) _ rfl
    rw [World.size_alloc] at this; exact hW0 ▸ this
  have hS0 := hS.next B0
  have HO := Lib.hid hW0
  have ne0 : ((n : Int) == 0) = false := by simp; omega
  have ne1 : ((n : Int) == 1) = false := by simp; omega
  have P1 := Lib.hid p1
  have P2 := Lib.hid p2
  have HF := Lib.hid hf
  have HJ := Lib.hid hj
  have HL := Lib.hid hl
  have kc : H ≤ c := by omega
  clear hW0 hS p1 p2 hf hj hl ih ht l1 l2 hin hn
  go_enter Tryd.func33, Tryd.ntmps33
  go_upto_region 7 with (go_at_call 78; refine (HF.out _).mono ?_; rintro e w' ⟨rfl, rfl⟩)
  change Code.wp _ _ _ _ (World.alloc (w.alloc (.cells (ints .u32 wordsL) 27)) (.cells (ints .u8 (List.replicate 32 0)) 30))
  rw [HO.out]
  clear HO
  refine wp_name fun a0 ha0 => ?_
  have e1 : a0.eval (.tmp 1) = .slice A n c := by rw [ha0]; rfl
  have e2 : a0.eval (.tmp 2) = .pointer (some ⟨w.heap.size, 0, none⟩) := by rw [ha0]; rfl
  have e4 : a0.eval (.tmp 4) = .pointer (some ⟨(w.heap.size + 1), 0, none⟩) := by rw [ha0]; rfl
  have e5 : a0.eval (.tmp 5) = .int .i64 (H : Int) := by rw [ha0]; rfl
  have hz : a0.tmps.size = 35 := by rw [ha0]; rfl
  have HA0 := Lib.hid ha0
  clear ha0
  have SG : ∀ (d d' : Nat → Prop) (W W' : World), (fun (_ : Nat → Prop) (W : World) => Below w0.heap.size w0 W) d W → (∀ j, d j → d' j) → Below W.heap.size W W' → (fun (_ : Nat → Prop) (W : World) => Below w0.heap.size w0 W) d' W' := fun _ _ _ _ h _ b => Below.next h b
  refine wp_region_lastly 12 _ (Inv [23, 24, 25, 26, 27, 28, 29, 30, 31, 32, 33, 34] a0 (fun (_ : Nat → Prop) (W : World) => Below w0.heap.size w0 W) [(⟨some 0, 23, none, fun v _ => v = wordsV⟩ : Cl), ⟨some 1, 24, none, fun v _ => v = wordsV⟩, ⟨some 2, 25, none, fun v _ => v = .slice A n c⟩, ⟨some 3, 26, none, fun v _ => v = .int .i64 (H : Int)⟩, ⟨some 4, 27, none, fun v _ => v = .slice A H c⟩, ⟨some 5, 28, none, fun v _ => v = hashV x1⟩, ⟨some 6, 29, none, fun v _ => v = wordsV⟩, ⟨some 7, 30, none, fun v _ => v = .slice A n c⟩, ⟨some 8, 31, none, fun v _ => v = .int .i64 (H : Int)⟩, ⟨some 9, 32, none, fun v _ => v = .slice A2 (n - H) (c - H)⟩, ⟨some 10, 33, none, fun v _ => v = hashV x2⟩, ⟨some 11, 34, none, fun v _ => v = hashV x⟩]) (by kernel_rfl) (by kernel_rfl) rfl rfl (by kernel_rfl) rfl (Inv.start (Below.refl _ _).drew ⟨nofun, nofun, nofun, nofun, nofun, nofun, nofun, nofun, nofun, nofun, nofun, nofun, trivial⟩) ?_ ?_
  · have St : ∀ xc ∈ [(⟨some 0, 23, none, fun v _ => v = wordsV⟩ : Cl), ⟨some 1, 24, none, fun v _ => v = wordsV⟩, ⟨some 2, 25, none, fun v _ => v = .slice A n c⟩, ⟨some 3, 26, none, fun v _ => v = .int .i64 (H : Int)⟩, ⟨some 4, 27, none, fun v _ => v = .slice A H c⟩, ⟨some 5, 28, none, fun v _ => v = hashV x1⟩, ⟨some 6, 29, none, fun v _ => v = wordsV⟩, ⟨some 7, 30, none, fun v _ => v = .slice A n c⟩, ⟨some 8, 31, none, fun v _ => v = .int .i64 (H : Int)⟩, ⟨some 9, 32, none, fun v _ => v = .slice A2 (n - H) (c - H)⟩, ⟨some 10, 33, none, fun v _ => v = hashV x2⟩, ⟨some 11, 34, none, fun v _ => v = hashV x⟩], Lasts xc := AllC.mem ⟨lastsV0 _ _ _ _, lastsV0 _ _ _ _, lastsV0 _ _ _ _, lastsV0 _ _ _ _, lastsV0 _ _ _ _, lastsV0 _ _ _ _, lastsV0 _ _ _ _, lastsV0 _ _ _ _, lastsV0 _ _ _ _, lastsV0 _ _ _ _, lastsV0 _ _ _ _, lastsV0 _ _ _ _, trivial⟩
    clear HA0
    refine ⟨?_, ?_, ?_, ?_, ?_, ?_, ?_, ?_, ?_, ?_, ?_, ?_, trivial⟩
    · refine stepB rfl rfl (by decide) (by rw [hz]; decide) rfl rfl (by kernel_rfl) St SG fun d a W hF hG hH hn hcl hw => ?_
      have q2 := (hF.same 2 (by decide)).trans e2
      refine ⟨wordsV, W, ?_, Below.refl _ _, ?_⟩
      · exact exec_load rfl (by rw [q2]; exact BoxW.load (BoxA.next y2 hG))
      · rfl
    · refine stepB rfl rfl (by decide) (by rw [hz]; decide) rfl rfl (by kernel_rfl) St SG fun d a W hF hG hH hn hcl hw => ?_
      have q2 := (hF.same 2 (by decide)).trans e2
      refine ⟨wordsV, W, ?_, Below.refl _ _, ?_⟩
      · exact exec_load rfl (by rw [q2]; exact BoxW.load (BoxA.next y2 hG))
      · rfl
    · refine stepB rfl rfl (by decide) (by rw [hz]; decide) rfl rfl (by kernel_rfl) St SG fun d a W hF hG hH hn hcl hw => ?_
      have q1 := (hF.same 1 (by decide)).trans e1
      refine ⟨.slice A n c, W, ?_, Below.refl _ _, ?_⟩
      · clear hF hG hH hn hcl hw
        generalize a.eval = ρ at *
        go_simp
      · rfl
    · refine stepB rfl rfl (by decide) (by rw [hz]; decide) rfl rfl (by kernel_rfl) St SG fun d a W hF hG hH hn hcl hw => ?_
      have q5 := (hF.same 5 (by decide)).trans e5
      refine ⟨.int .i64 (H : Int), W, ?_, Below.refl _ _, ?_⟩
      · clear hF hG hH hn hcl hw
        generalize a.eval = ρ at *
        go_simp
      · rfl
    · refine stepB rfl rfl (by decide) (by rw [hz]; decide) rfl rfl (by kernel_rfl) St SG fun d a W hF hG hH hn hcl hw => ?_
      have q25 : a.eval (.tmp 25) = .slice A n c := hH.at_ (i := 2) rfl (hw 2 rfl) id
      have q26 : a.eval (.tmp 26) = .int .i64 (H : Int) := hH.at_ (i := 3) rfl (hw 3 rfl) id
      refine ⟨.slice A H c, W, ?_, Below.refl _ _, ?_⟩
      · exact exec_sliceS_to rfl q25 q26 kc
      · rfl
    · refine stepC rfl rfl (by decide) (by rw [hz]; decide) rfl rfl (by kernel_rfl) St SG fun d a W hF hG hH hn hcl hw => ?_
      have q24 : a.eval (.tmp 24) = wordsV := hH.at_ (i := 1) rfl (hw 1 rfl) id
      have q27 : a.eval (.tmp 27) = .slice A H c := hH.at_ (i := 4) rfl (hw 4 rfl) id
      have qf : a.eval (.func 33) = .func (.func 33) #[] #[] := rfl
      refine ⟨33, #[wordsV, .slice A H c], ?_, ?_⟩
      · clear hF hG hH hn hcl hw
        generalize a.eval = ρ at *
        go_simp
      · refine (P1.out W (hS0.next hG)).mono ?_; rintro e W' ⟨rfl, b⟩; exact ⟨_, rfl, b, rfl⟩
    · refine stepB rfl rfl (by decide) (by rw [hz]; decide) rfl rfl (by kernel_rfl) St SG fun d a W hF hG hH hn hcl hw => ?_
      have q2 := (hF.same 2 (by decide)).trans e2
      refine ⟨wordsV, W, ?_, Below.refl _ _, ?_⟩
      · exact exec_load rfl (by rw [q2]; exact BoxW.load (BoxA.next y2 hG))
      · rfl
    · refine stepB rfl rfl (by decide) (by rw [hz]; decide) rfl rfl (by kernel_rfl) St SG fun d a W hF hG hH hn hcl hw => ?_
      have q1 := (hF.same 1 (by decide)).trans e1
      refine ⟨.slice A n c, W, ?_, Below.refl _ _, ?_⟩
      · clear hF hG hH hn hcl hw
        generalize a.eval = ρ at *
        go_simp
      · rfl
    · refine stepB rfl rfl (by decide) (by rw [hz]; decide) rfl rfl (by kernel_rfl) St SG fun d a W hF hG hH hn hcl hw => ?_
      have q5 := (hF.same 5 (by decide)).trans e5
      refine ⟨.int .i64 (H : Int), W, ?_, Below.refl _ _, ?_⟩
      · clear hF hG hH hn hcl hw
        generalize a.eval = ρ at *
        go_simp
      · rfl
    · refine stepB rfl rfl (by decide) (by rw [hz]; decide) rfl rfl (by kernel_rfl) St SG fun d a W hF hG hH hn hcl hw => ?_
      have q30 : a.eval (.tmp 30) = .slice A n c := hH.at_ (i := 7) rfl (hw 7 rfl) id
      have q31 : a.eval (.tmp 31) = .int .i64 (H : Int) := hH.at_ (i := 8) rfl (hw 8 rfl) id
      refine ⟨.slice A2 (n - H) (c - H), W, ?_, Below.refl _ _, ?_⟩
      · exact HA2 _ _ W _ _ rfl q30 q31
      · rfl
    · refine stepC rfl rfl (by decide) (by rw [hz]; decide) rfl rfl (by kernel_rfl) St SG fun d a W hF hG hH hn hcl hw => ?_
      have q29 : a.eval (.tmp 29) = wordsV := hH.at_ (i := 6) rfl (hw 6 rfl) id
      have q32 : a.eval (.tmp 32) = .slice A2 (n - H) (c - H) := hH.at_ (i := 9) rfl (hw 9 rfl) id
      have qf : a.eval (.func 33) = .func (.func 33) #[] #[] := rfl
      refine ⟨33, #[wordsV, .slice A2 (n - H) (c - H)], ?_, ?_⟩
      · clear hF hG hH hn hcl hw
        generalize a.eval = ρ at *
        go_simp
      · refine (P2.out W (hS0.next hG)).mono ?_; rintro e W' ⟨rfl, b⟩; exact ⟨_, rfl, b, rfl⟩
    · refine stepC rfl rfl (by decide) (by rw [hz]; decide) rfl rfl (by kernel_rfl) St SG fun d a W hF hG hH hn hcl hw => ?_
      have q23 : a.eval (.tmp 23) = wordsV := hH.at_ (i := 0) rfl (hw 0 rfl) id
      have q28 : a.eval (.tmp 28) = hashV x1 := hH.at_ (i := 5) rfl (hw 5 rfl) id
      have q33 : a.eval (.tmp 33) = hashV x2 := hH.at_ (i := 10) rfl (hw 10 rfl) id
      have qf : a.eval (.func 79) = .func (.func 79) #[] #[] := rfl
      refine ⟨79, #[wordsV, hashV x1, hashV x2], ?_, ?_⟩
      · clear hF hG hH hn hcl hw
        generalize a.eval = ρ at *
        go_simp
      · refine (HJ.out W).mono ?_; rintro e W' ⟨rfl, b⟩; exact ⟨_, rfl, b, rfl⟩
  · intro d a W ⟨hF, hB, hH⟩ hall
    have k34 : a.eval (.tmp 34) = hashV x := hH.at_ (i := 11) rfl (hall 11 (by decide)) id
    clear hH hall
    rw [hF.shape (by rw [hz]; decide)]
    clear hF
    simp only [List.foldl]
    generalize a.eval (.tmp 23) = z23 at *
    generalize a.eval (.tmp 24) = z24 at *
    generalize a.eval (.tmp 25) = z25 at *
    generalize a.eval (.tmp 26) = z26 at *
    generalize a.eval (.tmp 27) = z27 at *
    generalize a.eval (.tmp 28) = z28 at *
    generalize a.eval (.tmp 29) = z29 at *
    generalize a.eval (.tmp 30) = z30 at *
    generalize a.eval (.tmp 31) = z31 at *
    generalize a.eval (.tmp 32) = z32 at *
    generalize a.eval (.tmp 33) = z33 at *
    generalize a.eval (.tmp 34) = z34 at *
    subst k34
    rw [HA0.out]
    simp only [Act.put, List.setIfInBounds_toArray, List.set_cons_zero, List.set_cons_succ]
    clear hz HA0 SG e1 e2 e4 e5
    clear a a0
    refine wp_storeH (.tmp 4) (.tmp 34) rfl (w.heap.size + 1) x rfl rfl (x4.next hB) (by simp) HL.out ?_
    have y6 : BoxH (W.setRow (w.heap.size + 1) (ints .u8 (nums x))) (w.heap.size + 1) x := (x4.next hB).setRow
    have b6 := below_setRow (Below.on B0 hB) (show w.heap.size ≤ w.heap.size + 1 by omega) (ints .u8 (nums x))
    generalize World.setRow W (w.heap.size + 1) (ints .u8 (nums x)) = W6 at *
    dsimp only [Act.put]
    go_wp2_with (fail)
    exact bodyPost_ret (v := hashV x) (results_hash rfl _ (w.heap.size + 1) _ rfl y6 HL.out) rfl ⟨rfl, b6⟩
theorem tree_le (q : Nat) : TreeOk q := by
  induction q with
  | zero =>
    intro l A n c w hq hn h5 hc hin hS
    obtain rfl : n = 0 := by omega
    obtain rfl : l = [] := List.length_eq_zero_iff.1 hn
    exact tree_nil A c w
  | succ q ih =>
    intro l A n c w hq hn h5 hc hin hS
    by_cases h2 : 2 ≤ n
    · exact tree_two q ih l A n c w hq hn h2 h5 hc hin hS
    · match l, hn with
      | [], hn => subst hn; exact tree_nil A c w
      | [s], hn => subst hn; exact tree_one s A c w (hin s (by simp)) hS
      | x :: y :: l, hn => simp at hn; omega
theorem rtree_any (l : List Bs) (A : Option Addr) (n c : Nat) (w : World) (hn : l.length = n) (h5 : n ≤ 5000) (hc : n ≤ c) (hin : ∀ s ∈ l, s.length ≤ 90000) (hS : Strs w A l) : Calls Tryd.prog 33 #[wordsV, .slice A n c] w fun e w' => e = .returned (hashV (treeM sha l)) ∧ Below w.heap.size w w' := tree_le n l A n c w (Nat.le_refl _) hn h5 hc hin hS
end Go.Proofs.YtcocengpekndjaaDoor
