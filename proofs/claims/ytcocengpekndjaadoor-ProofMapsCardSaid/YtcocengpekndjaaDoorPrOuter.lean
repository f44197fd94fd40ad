/- The walk over the reference's Outer. -/
import Derived.Test.YtcocengpekndjaaDoorPrTree
namespace Go.Proofs.YtcocengpekndjaaDoor
open Go.RowKit
set_option maxRecDepth 100000 in
set_option maxHeartbeats 4000000 in
theorem outer_out (l : List Bs) (i j : Int) (A : Option Addr) (n c : Nat) (w : World) (hn : l.length = n) (h1 : 1 ≤ n) (h5 : n ≤ 5000) (hc : n ≤ c) (i0 : -10000 ≤ i - n) (i1 : i ≤ 5000) (j0 : i < j) (_j1 : j ≤ 10000) (hin : ∀ s ∈ l, s.length ≤ 90000) (hS : Strs w A l) (cc : j ≤ 0 ∨ (n : Int) ≤ i) : Calls Tryd.prog 35 #[wordsV, .slice A n c, .int .i64 i, .int .i64 j] w fun e w' => ∃ v, e = .returned v ∧ OwnHs w' w.heap.size v (visitM sha (l.map (leafM sha)) i j) ∧ Below w.heap.size w w' := by
  have cm : min j (n : Int) ≤ max i 0 := by omega
  rw [visitM_out sha (by rw [List.length_map, hn]; exact cc)]
  have ht : topM sha (l.map (leafM sha)) = treeM sha l := rfl
  rw [ht]
  have hp := fun W (h : Strs W A l) => rtree_any l A n c W hn h5 hc hin h
  have hl : (treeM sha l).length = 32 := treeM_length sha sha_length _
  generalize treeM sha l = x at *
  obtain ⟨w0, hW0⟩ : ∃ w0, (w.alloc (.cells (ints .u32 wordsL) 27)) = w0 := ⟨_, rfl⟩
  have B0 : Below w.heap.size w w0 := hW0 ▸ Below.new1 _ _
  have y4 : BoxW w0 w.heap.size := hW0 ▸ BoxW.new w
  have hS0 := hS.next B0
  have HO := Lib.hid hW0
  have P1 := Lib.hid (hp w0 hS0)
  have HL := Lib.hid hl
  clear hW0 hS hS0 hp hl ht hin hn cc
  go_enter Tryd.func35, Tryd.ntmps35
  go_upto_region 3 with (fail)
  all_goals change Code.wp _ _ _ _ (w.alloc (.cells (ints .u32 wordsL) 27))
  all_goals rw [HO.out]
  all_goals clear HO
  all_goals go_wp2_with (first
    | (refine wpList_load_at rfl 27 (.tmp 4) rfl wordsV (BoxW.load y4) ?_)
    | (go_at_call 33; refine P1.out.mono ?_; rintro e w1 ⟨rfl, b1⟩)
    | (refine wpList_buildHash rfl (.tmp 21) rfl x rfl HL.out ?_))
  all_goals go_ret
  all_goals exact ⟨_, rfl, OwnHs.one _ _ HL.out (by have := B0.size; have := b1.size; omega), Below.on (Below.on B0 b1) (Below.new1 _ _)⟩
set_option maxRecDepth 100000 in
set_option maxHeartbeats 4000000 in
theorem outer_in (l : List Bs) (i j : Int) (A : Option Addr) (n c : Nat) (w : World) (hn : l.length = n) (h1 : 1 ≤ n) (h5 : n ≤ 5000) (_hc : n ≤ c) (_i0 : -10000 ≤ i - n) (_i1 : i ≤ 5000) (_j0 : i < j) (_j1 : j ≤ 10000) (_hin : ∀ s ∈ l, s.length ≤ 90000) (hS : Strs w A l) (cc : ¬ (j ≤ 0 ∨ (n : Int) ≤ i)) (ci : i ≤ 0 ∧ (n : Int) ≤ j) : Calls Tryd.prog 35 #[wordsV, .slice A n c, .int .i64 i, .int .i64 j] w fun e w' => ∃ v, e = .returned v ∧ OwnHs w' w.heap.size v (visitM sha (l.map (leafM sha)) i j) ∧ Below w.heap.size w w' := by
  have cm : ¬ min j (n : Int) ≤ max i 0 := by omega
  obtain ⟨ci1, ci2⟩ := ci
  rw [visitM_in sha (by rw [List.length_map, hn]; exact cc) (by rw [List.length_map, hn]; exact ⟨ci1, ci2⟩)]
  obtain ⟨w0, hW0⟩ : ∃ w0, (w.alloc (.cells (ints .u32 wordsL) 27)) = w0 := ⟨_, rfl⟩
  have B0 : Below w.heap.size w w0 := hW0 ▸ Below.new1 _ _
  have y4 : BoxW w0 w.heap.size := hW0 ▸ BoxW.new w
  have hS0 := hS.next B0
  have HO := Lib.hid hW0
  clear hW0 hS hS0 y4 _hin hn cc
  go_enter Tryd.func35, Tryd.ntmps35
  go_upto_region 2 with (fail)
  change Code.wp _ _ _ _ (w.alloc (.cells (ints .u32 wordsL) 27))
  rw [HO.out]
  clear HO
  go_wp2_with (fail)
  all_goals go_ret
  all_goals exact ⟨_, rfl, OwnHs.nil _ _, B0⟩
/-- What Outer does with lists of at most q strings. -/
def OuterOk (q : Nat) : Prop := ∀ (l : List Bs) (i j : Int) (A : Option Addr) (n c : Nat) (w : World), n ≤ q → l.length = n → 1 ≤ n → n ≤ 5000 → n ≤ c → -10000 ≤ i - n → i ≤ 5000 → i < j → j ≤ 10000 → (∀ s ∈ l, s.length ≤ 90000) → Strs w A l → Calls Tryd.prog 35 #[wordsV, .slice A n c, .int .i64 i, .int .i64 j] w fun e w' => ∃ v, e = .returned v ∧ OwnHs w' w.heap.size v (visitM sha (l.map (leafM sha)) i j) ∧ Below w.heap.size w w'
set_option maxRecDepth 100000 in
set_option maxHeartbeats 4000000 in
theorem outer_two (q : Nat) (ih : OuterOk q) (l : List Bs) (i j : Int) (A : Option Addr) (n c : Nat) (w : World) (hq : n ≤ q + 1) (hn : l.length = n) (h1 : 1 ≤ n) (h5 : n ≤ 5000) (hc : n ≤ c) (i0 : -10000 ≤ i - n) (i1 : i ≤ 5000) (j0 : i < j) (j1 : j ≤ 10000) (hin : ∀ s ∈ l, s.length ≤ 90000) (hS : Strs w A l) (cc : ¬ (j ≤ 0 ∨ (n : Int) ≤ i)) (ci : ¬ (i ≤ 0 ∧ (n : Int) ≤ j)) : Calls Tryd.prog 35 #[wordsV, .slice A n c, .int .i64 i, .int .i64 j] w fun e w' => ∃ v, e = .returned v ∧ OwnHs w' w.heap.size v (visitM sha (l.map (leafM sha)) i j) ∧ Below w.heap.size w w' := by
  have h2 : 2 ≤ n := by omega
  have hr := half_range h2
  have cm : ¬ min j (n : Int) ≤ max i 0 := by omega
  have hv := visitM_two sha (l := l.map (leafM sha)) (i := i) (j := j) (by rw [List.length_map, hn]; exact cc) (by rw [List.length_map, hn]; exact ci)
  rw [List.length_map, hn, ← List.map_take, ← List.map_drop] at hv
  rw [hv]
  have v1l := visitM_length n ((l.take (half n)).map (leafM sha)) i j (by simp; omega)
  have v2l := visitM_length n ((l.drop (half n)).map (leafM sha)) (i - (half n : Nat)) (j - (half n : Nat)) (by simp; omega)
  rw [List.length_map, List.length_take] at v1l
  rw [List.length_map, List.length_drop] at v2l
  have p1 := fun W (h : Strs W A l) => ih (l.take (half n)) i j A (half n) c W (by omega) (by rw [List.length_take]; omega) (by omega) (by omega) (by omega) (by omega) (by omega) j0 j1 (fun s hs => hin s (List.mem_of_mem_take hs)) (h.take _)
  have p2 := fun W (h : Strs W A l) => ih (l.drop (half n)) (i - (half n : Nat)) (j - (half n : Nat)) (cutS A c (half n)) (n - half n) (c - half n) W (by omega) (by rw [List.length_drop, hn]) (by omega) (by omega) (by omega) (by omega) (by omega) (by omega) (by omega) (fun s hs => hin s (List.mem_of_mem_drop hs)) (h.from_ _ c (by omega))
  have hf := fun W => rhalf_any n W h2 (by omega)
  have HA2 : ∀ (ev : Operand → Value) (o : Oper) (W : World) (x y : Operand), o.op = .slice 57 x (some y) none none → ev x = .slice A n c → ev y = .int .i64 ((half n : Nat) : Int) → (execOp ev o).run Tryd.prog W = .ok (.value (.slice (cutS A c (half n)) (n - half n) (c - half n))) W := fun _ _ _ _ _ ho hx hy => exec_sliceS_from ho hx hy (by omega)
  generalize cutS A c (half n) = A2 at *
  generalize half n = H at *
  generalize visitM sha ((l.take H).map (leafM sha)) i j = L1 at *
  generalize visitM sha ((l.drop H).map (leafM sha)) (i - (H : Nat)) (j - (H : Nat)) = L2 at *
  obtain ⟨w0, hW0⟩ : ∃ w0, (w.alloc (.cells (ints .u32 wordsL) 27)) = w0 := ⟨_, rfl⟩
  have B0 : Below w.heap.size w w0 := hW0 ▸ Below.new1 _ _
  have y4 : BoxW w0 w.heap.size := hW0 ▸ BoxW.new w
  have hS0 := hS.next B0
  have HO := Lib.hid hW0
  have P1 := Lib.hid p1
  have P2 := Lib.hid p2
  have HF := Lib.hid hf
  have kc : H ≤ c := by omega
  have q1 : L1.length ≤ 100000 := by omega
  have q2 : L2.length ≤ 100000 := by omega
  have m1 : IntKind.i64.wrap (i - (H : Int)) = i - H := IntWalk.i64_in _ (by omega)
  have m2 : IntKind.i64.wrap (j - (H : Int)) = j - H := IntWalk.i64_in _ (by omega)
  have M1 := Lib.hid m1
  have M2 := Lib.hid m2
  have CI : (i ≤ 0) = False ∨ (i ≤ 0) = True ∧ ((n : Int) ≤ j) = False := by
    by_cases h : i ≤ 0
    · exact .inr ⟨by simp [h], by simp; omega⟩
    · exact .inl (by simp; omega)
  clear hW0 hS p1 p2 hf ih hv v1l v2l hin hn cc m1 m2
  have cz : ¬ i ≤ 0 ∨ (i ≤ 0 ∧ ¬ (n : Int) ≤ j) := by omega
  clear ci CI
  rcases cz with cz | ⟨cz, cy⟩
  all_goals
    go_enter Tryd.func35, Tryd.ntmps35
    go_upto_region 7 with (go_at_call 78; refine (HF.out _).mono ?_; rintro e w' ⟨rfl, rfl⟩)
    change Code.wp _ _ _ _ (w.alloc (.cells (ints .u32 wordsL) 27))
    rw [HO.out]
    clear HO
    refine wp_name fun a0 ha0 => ?_
    have e1 : a0.eval (.tmp 1) = .slice A n c := by rw [ha0]; rfl
    have e2 : a0.eval (.tmp 2) = .int .i64 i := by rw [ha0]; rfl
    have e3 : a0.eval (.tmp 3) = .int .i64 j := by rw [ha0]; rfl
    have e4 : a0.eval (.tmp 4) = .pointer (some ⟨w.heap.size, 0, none⟩) := by rw [ha0]; rfl
    have e10 : a0.eval (.tmp 10) = .int .i64 (H : Int) := by rw [ha0]; rfl
    have hz : a0.tmps.size = 51 := by rw [ha0]; rfl
    have HA0 := Lib.hid ha0
    clear ha0
    have SG : ∀ (d d' : Nat → Prop) (W W' : World), (fun (_ : Nat → Prop) (W : World) => Below w0.heap.size w0 W) d W → (∀ j, d j → d' j) → Below W.heap.size W W' → (fun (_ : Nat → Prop) (W : World) => Below w0.heap.size w0 W) d' W' := fun _ _ _ _ h _ b => Below.next h b
    refine wp_region_lastly 19 _ (Inv [32, 33, 34, 35, 36, 37, 38, 39, 40, 41, 42, 43, 44, 45, 46, 47, 48, 49, 50] a0 (fun (_ : Nat → Prop) (W : World) => Below w0.heap.size w0 W) [(⟨some 0, 32, none, fun v _ => v = wordsV⟩ : Cl), ⟨some 1, 33, none, fun v _ => v = .slice A n c⟩, ⟨some 2, 34, none, fun v _ => v = .int .i64 (H : Int)⟩, ⟨some 3, 35, none, fun v _ => v = .slice A H c⟩, ⟨some 4, 36, none, fun v _ => v = .int .i64 i⟩, ⟨some 5, 37, none, fun v _ => v = .int .i64 j⟩, ⟨some 6, 38, some 18, fun v W => OwnHs W w0.heap.size v L1⟩, ⟨some 7, 39, none, fun v _ => v = wordsV⟩, ⟨some 8, 40, none, fun v _ => v = .slice A n c⟩, ⟨some 9, 41, none, fun v _ => v = .int .i64 (H : Int)⟩, ⟨some 10, 42, none, fun v _ => v = .slice A2 (n - H) (c - H)⟩, ⟨some 11, 43, none, fun v _ => v = .int .i64 i⟩, ⟨some 12, 44, none, fun v _ => v = .int .i64 (H : Int)⟩, ⟨some 13, 45, none, fun v _ => v = .int .i64 (i - (H : Int))⟩, ⟨some 14, 46, none, fun v _ => v = .int .i64 j⟩, ⟨some 15, 47, none, fun v _ => v = .int .i64 (H : Int)⟩, ⟨some 16, 48, none, fun v _ => v = .int .i64 (j - (H : Int))⟩, ⟨some 17, 49, some 18, fun v W => OwnHs W w0.heap.size v L2⟩, ⟨some 18, 50, none, fun v W => OwnHs W w0.heap.size v (L1 ++ L2)⟩]) (by kernel_rfl) (by kernel_rfl) rfl rfl (by kernel_rfl) rfl (Inv.start (Below.refl _ _).drew ⟨nofun, nofun, nofun, nofun, nofun, nofun, nofun, nofun, nofun, nofun, nofun, nofun, nofun, nofun, nofun, nofun, nofun, nofun, nofun, trivial⟩) ?_ ?_
    · have St : ∀ xc ∈ [(⟨some 0, 32, none, fun v _ => v = wordsV⟩ : Cl), ⟨some 1, 33, none, fun v _ => v = .slice A n c⟩, ⟨some 2, 34, none, fun v _ => v = .int .i64 (H : Int)⟩, ⟨some 3, 35, none, fun v _ => v = .slice A H c⟩, ⟨some 4, 36, none, fun v _ => v = .int .i64 i⟩, ⟨some 5, 37, none, fun v _ => v = .int .i64 j⟩, ⟨some 6, 38, some 18, fun v W => OwnHs W w0.heap.size v L1⟩, ⟨some 7, 39, none, fun v _ => v = wordsV⟩, ⟨some 8, 40, none, fun v _ => v = .slice A n c⟩, ⟨some 9, 41, none, fun v _ => v = .int .i64 (H : Int)⟩, ⟨some 10, 42, none, fun v _ => v = .slice A2 (n - H) (c - H)⟩, ⟨some 11, 43, none, fun v _ => v = .int .i64 i⟩, ⟨some 12, 44, none, fun v _ => v = .int .i64 (H : Int)⟩, ⟨some 13, 45, none, fun v _ => v = .int .i64 (i - (H : Int))⟩, ⟨some 14, 46, none, fun v _ => v = .int .i64 j⟩, ⟨some 15, 47, none, fun v _ => v = .int .i64 (H : Int)⟩, ⟨some 16, 48, none, fun v _ => v = .int .i64 (j - (H : Int))⟩, ⟨some 17, 49, some 18, fun v W => OwnHs W w0.heap.size v L2⟩, ⟨some 18, 50, none, fun v W => OwnHs W w0.heap.size v (L1 ++ L2)⟩], Lasts xc := AllC.mem ⟨lastsV0 _ _ _ _, lastsV0 _ _ _ _, lastsV0 _ _ _ _, lastsV0 _ _ _ _, lastsV0 _ _ _ _, lastsV0 _ _ _ _, (fun _ _ _ h b => h.next b), lastsV0 _ _ _ _, lastsV0 _ _ _ _, lastsV0 _ _ _ _, lastsV0 _ _ _ _, lastsV0 _ _ _ _, lastsV0 _ _ _ _, lastsV0 _ _ _ _, lastsV0 _ _ _ _, lastsV0 _ _ _ _, lastsV0 _ _ _ _, (fun _ _ _ h b => h.next b), (fun _ _ _ h b => h.next b), trivial⟩
      clear HA0
      refine ⟨?_, ?_, ?_, ?_, ?_, ?_, ?_, ?_, ?_, ?_, ?_, ?_, ?_, ?_, ?_, ?_, ?_, ?_, ?_, trivial⟩
      · refine stepB rfl rfl (by decide) (by rw [hz]; decide) rfl rfl (by kernel_rfl) St SG fun d a W hF hG hH hn hcl hw => ?_
        have q4 := (hF.same 4 (by decide)).trans e4
        refine ⟨wordsV, W, ?_, Below.refl _ _, ?_⟩
        · exact exec_load rfl (by rw [q4]; exact BoxW.load (BoxA.next y4 hG))
        · rfl
      · refine stepB rfl rfl (by decide) (by rw [hz]; decide) rfl rfl (by kernel_rfl) St SG fun d a W hF hG hH hn hcl hw => ?_
        have q1 := (hF.same 1 (by decide)).trans e1
        refine ⟨.slice A n c, W, ?_, Below.refl _ _, ?_⟩
        · clear hF hG hH hn hcl hw
          generalize a.eval = ρ at *
          go_simp
        · rfl
      · refine stepB rfl rfl (by decide) (by rw [hz]; decide) rfl rfl (by kernel_rfl) St SG fun d a W hF hG hH hn hcl hw => ?_
        have q10 := (hF.same 10 (by decide)).trans e10
        refine ⟨.int .i64 (H : Int), W, ?_, Below.refl _ _, ?_⟩
        · clear hF hG hH hn hcl hw
          generalize a.eval = ρ at *
          go_simp
        · rfl
      · refine stepB rfl rfl (by decide) (by rw [hz]; decide) rfl rfl (by kernel_rfl) St SG fun d a W hF hG hH hn hcl hw => ?_
        have q33 : a.eval (.tmp 33) = .slice A n c := hH.at_ (i := 1) rfl (hw 1 rfl) id
        have q34 : a.eval (.tmp 34) = .int .i64 (H : Int) := hH.at_ (i := 2) rfl (hw 2 rfl) id
        refine ⟨.slice A H c, W, ?_, Below.refl _ _, ?_⟩
        · exact exec_sliceS_to rfl q33 q34 kc
        · rfl
      · refine stepB rfl rfl (by decide) (by rw [hz]; decide) rfl rfl (by kernel_rfl) St SG fun d a W hF hG hH hn hcl hw => ?_
        have q2 := (hF.same 2 (by decide)).trans e2
        refine ⟨.int .i64 i, W, ?_, Below.refl _ _, ?_⟩
        · clear hF hG hH hn hcl hw
          generalize a.eval = ρ at *
          go_simp
        · rfl
      · refine stepB rfl rfl (by decide) (by rw [hz]; decide) rfl rfl (by kernel_rfl) St SG fun d a W hF hG hH hn hcl hw => ?_
        have q3 := (hF.same 3 (by decide)).trans e3
        refine ⟨.int .i64 j, W, ?_, Below.refl _ _, ?_⟩
        · clear hF hG hH hn hcl hw
          generalize a.eval = ρ at *
          go_simp
        · rfl
      · refine stepC rfl rfl (by decide) (by rw [hz]; decide) rfl rfl (by kernel_rfl) St SG fun d a W hF hG hH hn hcl hw => ?_
        have q32 : a.eval (.tmp 32) = wordsV := hH.at_ (i := 0) rfl (hw 0 rfl) id
        have q35 : a.eval (.tmp 35) = .slice A H c := hH.at_ (i := 3) rfl (hw 3 rfl) id
        have q36 : a.eval (.tmp 36) = .int .i64 i := hH.at_ (i := 4) rfl (hw 4 rfl) id
        have q37 : a.eval (.tmp 37) = .int .i64 j := hH.at_ (i := 5) rfl (hw 5 rfl) id
        have qf : a.eval (.func 35) = .func (.func 35) #[] #[] := rfl
        refine ⟨35, #[wordsV, .slice A H c, .int .i64 i, .int .i64 j], ?_, ?_⟩
        · clear hF hG hH hn hcl hw
          generalize a.eval = ρ at *
          go_simp
        · refine (P1.out W (hS0.next hG)).mono ?_; rintro e W' ⟨v, rfl, hO, b⟩; exact ⟨v, rfl, b, hO.mono (by have := hG.size; omega)⟩
      · refine stepB rfl rfl (by decide) (by rw [hz]; decide) rfl rfl (by kernel_rfl) St SG fun d a W hF hG hH hn hcl hw => ?_
        have q4 := (hF.same 4 (by decide)).trans e4
        refine ⟨wordsV, W, ?_, Below.refl _ _, ?_⟩
        · exact exec_load rfl (by rw [q4]; exact BoxW.load (BoxA.next y4 hG))
        · rfl
      · refine stepB rfl rfl (by decide) (by rw [hz]; decide) rfl rfl (by kernel_rfl) St SG fun d a W hF hG hH hn hcl hw => ?_
        have q1 := (hF.same 1 (by decide)).trans e1
        refine ⟨.slice A n c, W, ?_, Below.refl _ _, ?_⟩
        · clear hF hG hH hn hcl hw
          generalize a.eval = ρ at *
          go_simp
        · rfl
      · refine stepB rfl rfl (by decide) (by rw [hz]; decide) rfl rfl (by kernel_rfl) St SG fun d a W hF hG hH hn hcl hw => ?_
        have q10 := (hF.same 10 (by decide)).trans e10
        refine ⟨.int .i64 (H : Int), W, ?_, Below.refl _ _, ?_⟩
        · clear hF hG hH hn hcl hw
          generalize a.eval = ρ at *
          go_simp
        · rfl
      · refine stepB rfl rfl (by decide) (by rw [hz]; decide) rfl rfl (by kernel_rfl) St SG fun d a W hF hG hH hn hcl hw => ?_
        have q40 : a.eval (.tmp 40) = .slice A n c := hH.at_ (i := 8) rfl (hw 8 rfl) id
        have q41 : a.eval (.tmp 41) = .int .i64 (H : Int) := hH.at_ (i := 9) rfl (hw 9 rfl) id
        refine ⟨.slice A2 (n - H) (c - H), W, ?_, Below.refl _ _, ?_⟩
        · exact HA2 _ _ W _ _ rfl q40 q41
        · rfl
      · refine stepB rfl rfl (by decide) (by rw [hz]; decide) rfl rfl (by kernel_rfl) St SG fun d a W hF hG hH hn hcl hw => ?_
        have q2 := (hF.same 2 (by decide)).trans e2
        refine ⟨.int .i64 i, W, ?_, Below.refl _ _, ?_⟩
        · clear hF hG hH hn hcl hw
          generalize a.eval = ρ at *
          go_simp
        · rfl
      · refine stepB rfl rfl (by decide) (by rw [hz]; decide) rfl rfl (by kernel_rfl) St SG fun d a W hF hG hH hn hcl hw => ?_
        have q10 := (hF.same 10 (by decide)).trans e10
        refine ⟨.int .i64 (H : Int), W, ?_, Below.refl _ _, ?_⟩
        · clear hF hG hH hn hcl hw
          generalize a.eval = ρ at *
          go_simp
        · rfl
      · refine stepB rfl rfl (by decide) (by rw [hz]; decide) rfl rfl (by kernel_rfl) St SG fun d a W hF hG hH hn hcl hw => ?_
        have q43 : a.eval (.tmp 43) = .int .i64 i := hH.at_ (i := 11) rfl (hw 11 rfl) id
        have q44 : a.eval (.tmp 44) = .int .i64 (H : Int) := hH.at_ (i := 12) rfl (hw 12 rfl) id
        have c := M1.out
        refine ⟨.int .i64 (i - (H : Int)), W, ?_, Below.refl _ _, ?_⟩
        · clear hF hG hH hn hcl hw
          generalize a.eval = ρ at *
          go_simp
        · rfl
      · refine stepB rfl rfl (by decide) (by rw [hz]; decide) rfl rfl (by kernel_rfl) St SG fun d a W hF hG hH hn hcl hw => ?_
        have q3 := (hF.same 3 (by decide)).trans e3
        refine ⟨.int .i64 j, W, ?_, Below.refl _ _, ?_⟩
        · clear hF hG hH hn hcl hw
          generalize a.eval = ρ at *
          go_simp
        · rfl
      · refine stepB rfl rfl (by decide) (by rw [hz]; decide) rfl rfl (by kernel_rfl) St SG fun d a W hF hG hH hn hcl hw => ?_
        have q10 := (hF.same 10 (by decide)).trans e10
        refine ⟨.int .i64 (H : Int), W, ?_, Below.refl _ _, ?_⟩
        · clear hF hG hH hn hcl hw
          generalize a.eval = ρ at *
          go_simp
        · rfl
      · refine stepB rfl rfl (by decide) (by rw [hz]; decide) rfl rfl (by kernel_rfl) St SG fun d a W hF hG hH hn hcl hw => ?_
        have q46 : a.eval (.tmp 46) = .int .i64 j := hH.at_ (i := 14) rfl (hw 14 rfl) id
        have q47 : a.eval (.tmp 47) = .int .i64 (H : Int) := hH.at_ (i := 15) rfl (hw 15 rfl) id
        have c := M2.out
        refine ⟨.int .i64 (j - (H : Int)), W, ?_, Below.refl _ _, ?_⟩
        · clear hF hG hH hn hcl hw
          generalize a.eval = ρ at *
          go_simp
        · rfl
      · refine stepC rfl rfl (by decide) (by rw [hz]; decide) rfl rfl (by kernel_rfl) St SG fun d a W hF hG hH hn hcl hw => ?_
        have q39 : a.eval (.tmp 39) = wordsV := hH.at_ (i := 7) rfl (hw 7 rfl) id
        have q42 : a.eval (.tmp 42) = .slice A2 (n - H) (c - H) := hH.at_ (i := 10) rfl (hw 10 rfl) id
        have q45 : a.eval (.tmp 45) = .int .i64 (i - (H : Int)) := hH.at_ (i := 13) rfl (hw 13 rfl) id
        have q48 : a.eval (.tmp 48) = .int .i64 (j - (H : Int)) := hH.at_ (i := 16) rfl (hw 16 rfl) id
        have qf : a.eval (.func 35) = .func (.func 35) #[] #[] := rfl
        refine ⟨35, #[wordsV, .slice A2 (n - H) (c - H), .int .i64 (i - (H : Int)), .int .i64 (j - (H : Int))], ?_, ?_⟩
        · clear hF hG hH hn hcl hw
          generalize a.eval = ρ at *
          go_simp
        · refine (P2.out W (hS0.next hG)).mono ?_; rintro e W' ⟨v, rfl, hO, b⟩; exact ⟨v, rfl, b, hO.mono (by have := hG.size; omega)⟩
      · refine stepA rfl rfl (by decide) (by rw [hz]; decide) rfl rfl (by kernel_rfl) w0.heap.size (AllC.mem ⟨.inr (.inr fun _ _ _ h _ => h), .inr (.inr fun _ _ _ h _ => h), .inr (.inr fun _ _ _ h _ => h), .inr (.inr fun _ _ _ h _ => h), .inr (.inr fun _ _ _ h _ => h), .inr (.inr fun _ _ _ h _ => h), .inr (.inl rfl), .inr (.inr fun _ _ _ h _ => h), .inr (.inr fun _ _ _ h _ => h), .inr (.inr fun _ _ _ h _ => h), .inr (.inr fun _ _ _ h _ => h), .inr (.inr fun _ _ _ h _ => h), .inr (.inr fun _ _ _ h _ => h), .inr (.inr fun _ _ _ h _ => h), .inr (.inr fun _ _ _ h _ => h), .inr (.inr fun _ _ _ h _ => h), .inr (.inr fun _ _ _ h _ => h), .inr (.inl rfl), .inl rfl, trivial⟩) (fun _ _ _ _ h _ b => h.trans b) fun d a W hF hG hH hn hcl hw => ?_
        have q38 : OwnHs W w0.heap.size (a.eval (.tmp 38)) L1 := hH.at_ (i := 6) rfl (hw 6 rfl) hn
        have q49 : OwnHs W w0.heap.size (a.eval (.tmp 49)) L2 := hH.at_ (i := 17) rfl (hw 17 rfl) hn
        exact exec_append_hs2 (.tmp 38) (.tmp 49) rfl w0.heap.size w0.heap.size W _ _ L1 L2 rfl rfl q38 q49 q1 q2 hG.size
    · intro d a W ⟨hF, hB, hH⟩ hall
      have k50 : OwnHs W w0.heap.size (a.eval (.tmp 50)) (L1 ++ L2) := hH.at_ (i := 18) rfl (hall 18 (by decide)) id
      clear hH hall
      rw [hF.shape (by rw [hz]; decide)]
      clear hF
      simp only [List.foldl]
      generalize a.eval (.tmp 32) = z32 at *
      generalize a.eval (.tmp 33) = z33 at *
      generalize a.eval (.tmp 34) = z34 at *
      generalize a.eval (.tmp 35) = z35 at *
      generalize a.eval (.tmp 36) = z36 at *
      generalize a.eval (.tmp 37) = z37 at *
      generalize a.eval (.tmp 38) = z38 at *
      generalize a.eval (.tmp 39) = z39 at *
      generalize a.eval (.tmp 40) = z40 at *
      generalize a.eval (.tmp 41) = z41 at *
      generalize a.eval (.tmp 42) = z42 at *
      generalize a.eval (.tmp 43) = z43 at *
      generalize a.eval (.tmp 44) = z44 at *
      generalize a.eval (.tmp 45) = z45 at *
      generalize a.eval (.tmp 46) = z46 at *
      generalize a.eval (.tmp 47) = z47 at *
      generalize a.eval (.tmp 48) = z48 at *
      generalize a.eval (.tmp 49) = z49 at *
      generalize a.eval (.tmp 50) = z50 at *
      rw [HA0.out]
      simp only [Act.put, List.setIfInBounds_toArray, List.set_cons_zero, List.set_cons_succ]
      clear hz HA0 SG e1 e2 e3 e4 e10
      clear a a0
      refine wp_yields (v := z50) (by rfl) ?_
      dsimp only [Act.put]
      go_wp2_with (fail)
      all_goals go_ret
      all_goals exact ⟨_, rfl, k50.mono B0.size, B0.trans (hB.mono B0.size)⟩
theorem outer_le (q : Nat) : OuterOk q := by
  induction q with
  | zero => intro l i j A n c w hq hn h1; omega
  | succ q ih =>
    intro l i j A n c w hq hn h1 h5 hc i0 i1 j0 j1 hin hS
    by_cases cc : j ≤ 0 ∨ (n : Int) ≤ i
    · exact outer_out l i j A n c w hn h1 h5 hc i0 i1 j0 j1 hin hS cc
    · by_cases ci : i ≤ 0 ∧ (n : Int) ≤ j
      · exact outer_in l i j A n c w hn h1 h5 hc i0 i1 j0 j1 hin hS cc ci
      · exact outer_two q ih l i j A n c w hq hn h1 h5 hc i0 i1 j0 j1 hin hS cc ci
theorem router_any (l : List Bs) (i j : Int) (A : Option Addr) (n c : Nat) (w : World) (hn : l.length = n) (h1 : 1 ≤ n) (h5 : n ≤ 5000) (hc : n ≤ c) (i0 : -10000 ≤ i - n) (i1 : i ≤ 5000) (j0 : i < j) (j1 : j ≤ 10000) (hin : ∀ s ∈ l, s.length ≤ 90000) (hS : Strs w A l) : Calls Tryd.prog 35 #[wordsV, .slice A n c, .int .i64 i, .int .i64 j] w fun e w' => ∃ v, e = .returned v ∧ OwnHs w' w.heap.size v (visitM sha (l.map (leafM sha)) i j) ∧ Below w.heap.size w w' := outer_le n l i j A n c w (Nat.le_refl _) hn h1 h5 hc i0 i1 j0 j1 hin hS
end Go.Proofs.YtcocengpekndjaaDoor
