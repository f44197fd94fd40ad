/- The walk over the reference's Extend. -/
import Derived.Test.YtcocengpekndjaaDoorPrExtA
namespace Go.Proofs.YtcocengpekndjaaDoor
open Go.RowKit
set_option maxRecDepth 100000 in
set_option maxHeartbeats 4000000 in
theorem rext_whole (l : List Bs) (m : Nat) (A : Option Addr) (n c : Nat) (w : World) (hn : l.length = n) (_h1 : 1 ≤ m) (hm : m ≤ n) (h5 : n ≤ 5000) (hc : n ≤ c) (_hin : ∀ s ∈ l, s.length ≤ 90000) (hS : Strs w A l)  (e : m = n) : Calls Tryd.prog 52 #[wordsV, .slice A n c, .int .i64 m, .bool true] w fun e w' => ∃ v, e = .returned v ∧ OwnHs w' w.heap.size v (extendM sha (l.map (leafM sha)) m true) ∧ Below w.heap.size w w' := by
  subst e
  rw [extendM_all sha (by rw [List.length_map, hn]), if_pos rfl]
  obtain ⟨w0, hW0⟩ : ∃ w0, (w.alloc (.cells (ints .u32 wordsL) 27)) = w0 := ⟨_, rfl⟩
  have B0 : Below w.heap.size w w0 := hW0 ▸ Below.new1 _ _
  have y4 : BoxW w0 w.heap.size := hW0 ▸ BoxW.new w
  have hS0 := hS.next B0
  have HO := Lib.hid hW0
  clear hW0 hS hS0 y4 _hin
  go_enter Tryd.func52, Tryd.ntmps52
  go_upto_region 2 with (fail)
  change Code.wp _ _ _ _ (w.alloc (.cells (ints .u32 wordsL) 27))
  rw [HO.out]
  clear HO
  go_wp2_with (fail)
  go_ret
  exact ⟨_, rfl, OwnHs.nil _ _, B0⟩
set_option maxRecDepth 100000 in
set_option maxHeartbeats 4000000 in
theorem rext_top (l : List Bs) (m : Nat) (A : Option Addr) (n c : Nat) (w : World) (hn : l.length = n) (_h1 : 1 ≤ m) (hm : m ≤ n) (h5 : n ≤ 5000) (hc : n ≤ c) (hin : ∀ s ∈ l, s.length ≤ 90000) (hS : Strs w A l)  (e : m = n) : Calls Tryd.prog 52 #[wordsV, .slice A n c, .int .i64 m, .bool false] w fun e w' => ∃ v, e = .returned v ∧ OwnHs w' w.heap.size v (extendM sha (l.map (leafM sha)) m false) ∧ Below w.heap.size w w' := by
  subst e
  rw [extendM_all sha (by rw [List.length_map, hn]), if_neg (by simp)]
  have ht : topM sha (l.map (leafM sha)) = treeM sha l := rfl
  rw [ht]
  have hp := fun W (h : Strs W A l) => rtree_any l A m c W hn h5 hc hin h
  have hl : (treeM sha l).length = 32 := treeM_length sha sha_length _
  generalize treeM sha l = x at *
  obtain ⟨w0, hW0⟩ : ∃ w0, (w.alloc (.cells (ints .u32 wordsL) 27)) = w0 := ⟨_, rfl⟩
  have B0 : Below w.heap.size w w0 := hW0 ▸ Below.new1 _ _
  have y4 : BoxW w0 w.heap.size := hW0 ▸ BoxW.new w
  have hS0 := hS.next B0
  have HO := Lib.hid hW0
  have P1 := Lib.hid (hp w0 hS0)
  have HL := Lib.hid hl
  clear hW0 hS hS0 hp hl ht hin hn
  go_enter Tryd.func52, Tryd.ntmps52
  go_upto_region 2 with (fail)
  change Code.wp _ _ _ _ (w.alloc (.cells (ints .u32 wordsL) 27))
  rw [HO.out]
  clear HO
  go_wp2_with (first
    | (refine wpList_load_at rfl 27 (.tmp 4) rfl wordsV (BoxW.load y4) ?_)
    | (go_at_call 33; refine P1.out.mono ?_; rintro e w1 ⟨rfl, b1⟩)
    | (refine wpList_buildHash rfl (.tmp 19) rfl x rfl HL.out ?_))
  go_ret
  exact ⟨_, rfl, OwnHs.one _ _ HL.out (by have := B0.size; have := b1.size; omega), Below.on (Below.on B0 b1) (Below.new1 _ _)⟩
/-- What it does with lists of at most q. -/
def RExtOk (q : Nat) : Prop := ∀ (l : List Bs) (m : Nat) (whole : Bool) (A : Option Addr) (n c : Nat) (w : World), n ≤ q → l.length = n → 1 ≤ m → m ≤ n → n ≤ 5000 → n ≤ c → (∀ s ∈ l, s.length ≤ 90000) → Strs w A l → Calls Tryd.prog 52 #[wordsV, .slice A n c, .int .i64 m, .bool whole] w fun e w' => ∃ v, e = .returned v ∧ OwnHs w' w.heap.size v (extendM sha (l.map (leafM sha)) m whole) ∧ Below w.heap.size w w'
set_option maxRecDepth 100000 in
set_option maxHeartbeats 4000000 in
theorem rext_left (q : Nat) (ih : RExtOk q) (l : List Bs) (m : Nat) (whole : Bool) (A : Option Addr) (n c : Nat) (w : World) (hq : n ≤ q + 1) (hn : l.length = n) (h1 : 1 ≤ m) (hm : m ≤ n) (h5 : n ≤ 5000) (hc : n ≤ c) (hin : ∀ s ∈ l, s.length ≤ 90000) (hS : Strs w A l)  (e : m ≠ n) (hl : m ≤ half n) : Calls Tryd.prog 52 #[wordsV, .slice A n c, .int .i64 m, .bool whole] w fun e w' => ∃ v, e = .returned v ∧ OwnHs w' w.heap.size v (extendM sha (l.map (leafM sha)) m whole) ∧ Below w.heap.size w w' := by
  have h2 : 2 ≤ n := by omega
  have hr := half_range h2
  have hv := extendM_left sha (l := (l.map (leafM sha))) (m := m) (whole := whole) (by rw [List.length_map, hn]; exact h2) (by rw [List.length_map, hn]; exact hl)
  rw [List.length_map, hn] at hv
  rw [← List.map_take, ← List.map_drop] at hv
  rw [hv]
  have v1l := extendM_length n ((l.take (half n)).map (leafM sha)) m whole (by simp; omega)
  rw [List.length_map, List.length_take] at v1l
  have p1 := fun W (h : Strs W A l) => ih (l.take (half n)) m whole A (half n) c W (by omega) (by rw [List.length_take]; omega) (by omega) (by omega) (by omega) (by omega) (fun s hs => hin s (List.mem_of_mem_take hs)) (h.take _)
  have p2 := fun W (h : Strs W A l) => rtree_any (l.drop (half n)) (cutS A c (half n)) (n - half n) (c - half n) W (by rw [List.length_drop, hn]) (by omega) (by omega) (fun s hs => hin s (List.mem_of_mem_drop hs)) (h.from_ _ c (by omega))
  have l2 : (treeM sha (l.drop (half n))).length = 32 := treeM_length sha sha_length _
  have ht2 : topM sha ((l.drop (half n)).map (leafM sha)) = treeM sha (l.drop (half n)) := rfl
  rw [ht2]
  have hf := fun W => rhalf_any n W h2 (by omega)
  have HA2 : ∀ (ev : Operand → Value) (o : Oper) (W : World) (x y : Operand), o.op = .slice 57 x (some y) none none → ev x = .slice A n c → ev y = .int .i64 ((half n : Nat) : Int) → (execOp ev o).run Tryd.prog W = .ok (.value (.slice (cutS A c (half n)) (n - half n) (c - half n))) W := fun _ _ _ _ _ ho hx hy => exec_sliceS_from ho hx hy (by omega)
  generalize cutS A c (half n) = A2 at *
  generalize half n = H at *
  generalize extendM sha ((l.take (H)).map (leafM sha)) m whole = L1 at *
  generalize treeM sha (l.drop (H)) = x at *
  obtain ⟨w0, hW0⟩ : ∃ w0, (w.alloc (.cells (ints .u32 wordsL) 27)) = w0 := ⟨_, rfl⟩
  have B0 : Below w.heap.size w w0 := hW0 ▸ Below.new1 _ _
  have y4 : BoxW w0 w.heap.size := hW0 ▸ BoxW.new w
  have hS0 := hS.next B0
  have HO := Lib.hid hW0
  have P1 := Lib.hid p1
  have P2 := Lib.hid p2
  have HF := Lib.hid hf
  have HL := Lib.hid l2
  have kc : H ≤ c := by omega
  have q1 : L1.length ≤ 100000 := by omega
  have q2 : [x].length ≤ 100000 := by simp
  have ne : ((m : Int) == n) = false := by simp; omega
  have ml : (m : Int) ≤ H := by omega
  clear hW0 hS p1 p2 hf ih hv v1l l2 hn hin ht2
  go_enter Tryd.func52, Tryd.ntmps52
  go_upto_region 8 with (go_at_call 78; refine (HF.out _).mono ?_; rintro e w' ⟨rfl, rfl⟩)
  change Code.wp _ _ _ _ (w.alloc (.cells (ints .u32 wordsL) 27))
  rw [HO.out]
  clear HO
  refine wp_name fun a0 ha0 => ?_
  have e1 : a0.eval (.tmp 1) = .slice A n c := by rw [ha0]; rfl
  have e2 : a0.eval (.tmp 2) = .int .i64 (m : Int) := by rw [ha0]; rfl
  have e3 : a0.eval (.tmp 3) = .bool whole := by rw [ha0]; rfl
  have e4 : a0.eval (.tmp 4) = .pointer (some ⟨w.heap.size, 0, none⟩) := by rw [ha0]; rfl
  have e10 : a0.eval (.tmp 10) = .int .i64 (H : Int) := by rw [ha0]; rfl
  have hz : a0.tmps.size = 55 := by rw [ha0]; rfl
  have HA0 := Lib.hid ha0
  clear ha0
  have SG : ∀ (d d' : Nat → Prop) (W W' : World), (fun (_ : Nat → Prop) (W : World) => Below w0.heap.size w0 W) d W → (∀ j, d j → d' j) → Below W.heap.size W W' → (fun (_ : Nat → Prop) (W : World) => Below w0.heap.size w0 W) d' W' := fun _ _ _ _ h _ b => Below.next h b
  refine wp_region_lastly 14 _ (Inv [26, 27, 28, 29, 30, 31, 32, 33, 34, 35, 36, 37, 38, 39] a0 (fun (_ : Nat → Prop) (W : World) => Below w0.heap.size w0 W) [(⟨some 0, 26, none, fun v _ => v = wordsV⟩ : Cl), ⟨some 1, 27, none, fun v _ => v = .slice A n c⟩, ⟨some 2, 28, none, fun v _ => v = .int .i64 (H : Int)⟩, ⟨some 3, 29, none, fun v _ => v = .slice A H c⟩, ⟨some 4, 30, none, fun v _ => v = .int .i64 (m : Int)⟩, ⟨some 5, 31, none, fun v _ => v = .bool whole⟩, ⟨some 6, 32, some 13, fun v W => OwnHs W w0.heap.size v L1⟩, ⟨some 7, 33, none, fun v _ => v = wordsV⟩, ⟨some 8, 34, none, fun v _ => v = .slice A n c⟩, ⟨some 9, 35, none, fun v _ => v = .int .i64 (H : Int)⟩, ⟨some 10, 36, none, fun v _ => v = .slice A2 (n - H) (c - H)⟩, ⟨some 11, 37, none, fun v _ => v = hashV x⟩, ⟨some 12, 38, some 13, fun v W => OwnHs W w0.heap.size v [x]⟩, ⟨some 13, 39, none, fun v W => OwnHs W w0.heap.size v (L1 ++ [x])⟩]) (by kernel_rfl) (by kernel_rfl) rfl rfl (by kernel_rfl) rfl (Inv.start (Below.refl _ _).drew ⟨nofun, nofun, nofun, nofun, nofun, nofun, nofun, nofun, nofun, nofun, nofun, nofun, nofun, nofun, trivial⟩) ?_ ?_
  · have St : ∀ xc ∈ [(⟨some 0, 26, none, fun v _ => v = wordsV⟩ : Cl), ⟨some 1, 27, none, fun v _ => v = .slice A n c⟩, ⟨some 2, 28, none, fun v _ => v = .int .i64 (H : Int)⟩, ⟨some 3, 29, none, fun v _ => v = .slice A H c⟩, ⟨some 4, 30, none, fun v _ => v = .int .i64 (m : Int)⟩, ⟨some 5, 31, none, fun v _ => v = .bool whole⟩, ⟨some 6, 32, some 13, fun v W => OwnHs W w0.heap.size v L1⟩, ⟨some 7, 33, none, fun v _ => v = wordsV⟩, ⟨some 8, 34, none, fun v _ => v = .slice A n c⟩, ⟨some 9, 35, none, fun v _ => v = .int .i64 (H : Int)⟩, ⟨some 10, 36, none, fun v _ => v = .slice A2 (n - H) (c - H)⟩, ⟨some 11, 37, none, fun v _ => v = hashV x⟩, ⟨some 12, 38, some 13, fun v W => OwnHs W w0.heap.size v [x]⟩, ⟨some 13, 39, none, fun v W => OwnHs W w0.heap.size v (L1 ++ [x])⟩], Lasts xc := AllC.mem ⟨lastsV0 _ _ _ _, lastsV0 _ _ _ _, lastsV0 _ _ _ _, lastsV0 _ _ _ _, lastsV0 _ _ _ _, lastsV0 _ _ _ _, (fun _ _ _ h b => h.next b), lastsV0 _ _ _ _, lastsV0 _ _ _ _, lastsV0 _ _ _ _, lastsV0 _ _ _ _, lastsV0 _ _ _ _, (fun _ _ _ h b => h.next b), (fun _ _ _ h b => h.next b), trivial⟩
    clear HA0
    refine ⟨?_, ?_, ?_, ?_, ?_, ?_, ?_, ?_, ?_, ?_, ?_, ?_, ?_, ?_, trivial⟩
    · refine stepB rfl rfl (by decide) (by rw [hz]; decide) rfl rfl (by kernel_rfl) St SG fun d a W hF hG hH hn hcl hw => ?_
      have q4 := (hF.same 4 (by decide)).trans e4
      refine ⟨wordsV, W, ?_, Below.refl _ _, ?_⟩
      · exact exec_load rfl (by rw [q4]; exact BoxW.load (BoxA.next y4 hG))
      · rfl
    · refine stepB rfl rfl (by decide) (by rw [hz]; decide) rfl rfl (by kernel_rfl) St SG fun d a W hF hG hH hn hcl hw => ?_
      have q1 := (hF.same 1 (by decide)).trans e1
      refine ⟨.slice A n c, W, ?_, Below.refl _ _, ?_⟩
      · clear hF hG hH hn hcl hw
        generalize a.eval = ρ at *
        go_simp
      · rfl
    · refine stepB rfl rfl (by decide) (by rw [hz]; decide) rfl rfl (by kernel_rfl) St SG fun d a W hF hG hH hn hcl hw => ?_
      have q10 := (hF.same 10 (by decide)).trans e10
      refine ⟨.int .i64 (H : Int), W, ?_, Below.refl _ _, ?_⟩
      · clear hF hG hH hn hcl hw
        generalize a.eval = ρ at *
        go_simp
      · rfl
    · refine stepB rfl rfl (by decide) (by rw [hz]; decide) rfl rfl (by kernel_rfl) St SG fun d a W hF hG hH hn hcl hw => ?_
      have q27 : a.eval (.tmp 27) = .slice A n c := hH.at_ (i := 1) rfl (hw 1 rfl) id
      have q28 : a.eval (.tmp 28) = .int .i64 (H : Int) := hH.at_ (i := 2) rfl (hw 2 rfl) id
      refine ⟨.slice A H c, W, ?_, Below.refl _ _, ?_⟩
      · exact exec_sliceS_to rfl q27 q28 kc
      · rfl
    · refine stepB rfl rfl (by decide) (by rw [hz]; decide) rfl rfl (by kernel_rfl) St SG fun d a W hF hG hH hn hcl hw => ?_
      have q2 := (hF.same 2 (by decide)).trans e2
      refine ⟨.int .i64 (m : Int), W, ?_, Below.refl _ _, ?_⟩
      · clear hF hG hH hn hcl hw
        generalize a.eval = ρ at *
        go_simp
      · rfl
    · refine stepB rfl rfl (by decide) (by rw [hz]; decide) rfl rfl (by kernel_rfl) St SG fun d a W hF hG hH hn hcl hw => ?_
      have q3 := (hF.same 3 (by decide)).trans e3
      refine ⟨.bool whole, W, ?_, Below.refl _ _, ?_⟩
      · clear hF hG hH hn hcl hw
        generalize a.eval = ρ at *
        go_simp
      · rfl
    · refine stepC rfl rfl (by decide) (by rw [hz]; decide) rfl rfl (by kernel_rfl) St SG fun d a W hF hG hH hn hcl hw => ?_
      have q26 : a.eval (.tmp 26) = wordsV := hH.at_ (i := 0) rfl (hw 0 rfl) id
      have q29 : a.eval (.tmp 29) = .slice A H c := hH.at_ (i := 3) rfl (hw 3 rfl) id
      have q30 : a.eval (.tmp 30) = .int .i64 (m : Int) := hH.at_ (i := 4) rfl (hw 4 rfl) id
      have q31 : a.eval (.tmp 31) = .bool whole := hH.at_ (i := 5) rfl (hw 5 rfl) id
      have qf : a.eval (.func 52) = .func (.func 52) #[] #[] := rfl
      refine ⟨52, #[wordsV, .slice A H c, .int .i64 (m : Int), .bool whole], ?_, ?_⟩
      · clear hF hG hH hn hcl hw
        generalize a.eval = ρ at *
        go_simp
      · refine (P1.out W (hS0.next hG)).mono ?_; rintro e W' ⟨v, rfl, hO, b⟩; exact ⟨v, rfl, b, hO.mono (by have := hG.size; omega)⟩
    · refine stepB rfl rfl (by decide) (by rw [hz]; decide) rfl rfl (by kernel_rfl) St SG fun d a W hF hG hH hn hcl hw => ?_
      have q4 := (hF.same 4 (by decide)).trans e4
      refine ⟨wordsV, W, ?_, Below.refl _ _, ?_⟩
      · exact exec_load rfl (by rw [q4]; exact BoxW.load (BoxA.next y4 hG))
      · rfl
    · refine stepB rfl rfl (by decide) (by rw [hz]; decide) rfl rfl (by kernel_rfl) St SG fun d a W hF hG hH hn hcl hw => ?_
      have q1 := (hF.same 1 (by decide)).trans e1
      refine ⟨.slice A n c, W, ?_, Below.refl _ _, ?_⟩
      · clear hF hG hH hn hcl hw
        generalize a.eval = ρ at *
        go_simp
      · rfl
    · refine stepB rfl rfl (by decide) (by rw [hz]; decide) rfl rfl (by kernel_rfl) St SG fun d a W hF hG hH hn hcl hw => ?_
      have q10 := (hF.same 10 (by decide)).trans e10
      refine ⟨.int .i64 (H : Int), W, ?_, Below.refl _ _, ?_⟩
      · clear hF hG hH hn hcl hw
        generalize a.eval = ρ at *
        go_simp
      · rfl
    · refine stepB rfl rfl (by decide) (by rw [hz]; decide) rfl rfl (by kernel_rfl) St SG fun d a W hF hG hH hn hcl hw => ?_
      have q34 : a.eval (.tmp 34) = .slice A n c := hH.at_ (i := 8) rfl (hw 8 rfl) id
      have q35 : a.eval (.tmp 35) = .int .i64 (H : Int) := hH.at_ (i := 9) rfl (hw 9 rfl) id
      refine ⟨.slice A2 (n - H) (c - H), W, ?_, Below.refl _ _, ?_⟩
      · exact HA2 _ _ W _ _ rfl q34 q35
      · rfl
    · refine stepC rfl rfl (by decide) (by rw [hz]; decide) rfl rfl (by kernel_rfl) St SG fun d a W hF hG hH hn hcl hw => ?_
      have q33 : a.eval (.tmp 33) = wordsV := hH.at_ (i := 7) rfl (hw 7 rfl) id
      have q36 : a.eval (.tmp 36) = .slice A2 (n - H) (c - H) := hH.at_ (i := 10) rfl (hw 10 rfl) id
      have qf : a.eval (.func 33) = .func (.func 33) #[] #[] := rfl
      refine ⟨33, #[wordsV, .slice A2 (n - H) (c - H)], ?_, ?_⟩
      · clear hF hG hH hn hcl hw
        generalize a.eval = ρ at *
        go_simp
      · refine (P2.out W (hS0.next hG)).mono ?_; rintro e W' ⟨rfl, b⟩; exact ⟨_, rfl, b, rfl⟩
    · refine stepB rfl rfl (by decide) (by rw [hz]; decide) rfl rfl (by kernel_rfl) St SG fun d a W hF hG hH hn hcl hw => ?_
      have q37 : a.eval (.tmp 37) = hashV x := hH.at_ (i := 11) rfl (hw 11 rfl) id
      refine ⟨.slice (some ⟨W.heap.size, 0, none⟩) 1 1, W.alloc (.cells (cellsB x).toArray 30), ?_, Below.new1 W _, ?_⟩
      · exact exec_buildH (.tmp 37) rfl x q37 HL.out
      · exact OwnHs.one W _ HL.out hG.size
    · refine stepA rfl rfl (by decide) (by rw [hz]; decide) rfl rfl (by kernel_rfl) w0.heap.size (AllC.mem ⟨.inr (.inr fun _ _ _ h _ => h), .inr (.inr fun _ _ _ h _ => h), .inr (.inr fun _ _ _ h _ => h), .inr (.inr fun _ _ _ h _ => h), .inr (.inr fun _ _ _ h _ => h), .inr (.inr fun _ _ _ h _ => h), .inr (.inl rfl), .inr (.inr fun _ _ _ h _ => h), .inr (.inr fun _ _ _ h _ => h), .inr (.inr fun _ _ _ h _ => h), .inr (.inr fun _ _ _ h _ => h), .inr (.inr fun _ _ _ h _ => h), .inr (.inl rfl), .inl rfl, trivial⟩) (fun _ _ _ _ h _ b => h.trans b) fun d a W hF hG hH hn hcl hw => ?_
      have q32 : OwnHs W w0.heap.size (a.eval (.tmp 32)) L1 := hH.at_ (i := 6) rfl (hw 6 rfl) hn
      have q38 : OwnHs W w0.heap.size (a.eval (.tmp 38)) [x] := hH.at_ (i := 12) rfl (hw 12 rfl) hn
      exact exec_append_hs2 (.tmp 32) (.tmp 38) rfl w0.heap.size w0.heap.size W _ _ L1 [x] rfl rfl q32 q38 q1 q2 hG.size
  · intro d a W ⟨hF, hB, hH⟩ hall
    have k39 : OwnHs W w0.heap.size (a.eval (.tmp 39)) (L1 ++ [x]) := hH.at_ (i := 13) rfl (hall 13 (by decide)) id
    clear hH hall
    rw [hF.shape (by rw [hz]; decide)]
    clear hF
    simp only [List.foldl]
    generalize a.eval (.tmp 26) = z26 at *
    generalize a.eval (.tmp 27) = z27 at *
    generalize a.eval (.tmp 28) = z28 at *
    generalize a.eval (.tmp 29) = z29 at *
    generalize a.eval (.tmp 30) = z30 at *
    generalize a.eval (.tmp 31) = z31 at *
    generalize a.eval (.tmp 32) = z32 at *
    generalize a.eval (.tmp 33) = z33 at *
    generalize a.eval (.tmp 34) = z34 at *
    generalize a.eval (.tmp 35) = z35 at *
    generalize a.eval (.tmp 36) = z36 at *
    generalize a.eval (.tmp 37) = z37 at *
    generalize a.eval (.tmp 38) = z38 at *
    generalize a.eval (.tmp 39) = z39 at *
    rw [HA0.out]
    simp only [Act.put, List.setIfInBounds_toArray, List.set_cons_zero, List.set_cons_succ]
    clear hz HA0 SG e1 e2 e3 e4 e10
    clear a a0
    refine wp_yields (v := z39) (by rfl) ?_
    dsimp only [Act.put]
    go_wp2_with (fail)
    go_ret
    exact ⟨_, rfl, k39.mono B0.size, B0.trans (hB.mono B0.size)⟩
set_option maxRecDepth 100000 in
set_option maxHeartbeats 4000000 in
theorem rext_right (q : Nat) (ih : RExtOk q) (l : List Bs) (m : Nat) (whole : Bool) (A : Option Addr) (n c : Nat) (w : World) (hq : n ≤ q + 1) (hn : l.length = n) (h1 : 1 ≤ m) (hm : m ≤ n) (h5 : n ≤ 5000) (hc : n ≤ c) (hin : ∀ s ∈ l, s.length ≤ 90000) (hS : Strs w A l)  (e : m ≠ n) (hl : ¬ m ≤ half n) : Calls Tryd.prog 52 #[wordsV, .slice A n c, .int .i64 m, .bool whole] w fun e w' => ∃ v, e = .returned v ∧ OwnHs w' w.heap.size v (extendM sha (l.map (leafM sha)) m whole) ∧ Below w.heap.size w w' := by
  have h2 : 2 ≤ n := by omega
  have hr := half_range h2
  have hv := extendM_right sha (l := (l.map (leafM sha))) (m := m) (whole := whole) (by rw [List.length_map, hn]; exact h2) (by rw [List.length_map, hn]; exact hl) (by rw [List.length_map, hn]; exact e)
  rw [List.length_map, hn] at hv
  rw [← List.map_take, ← List.map_drop] at hv
  rw [hv]
  have v1l := extendM_length n ((l.drop (half n)).map (leafM sha)) (m - half n) false (by simp; omega)
  rw [List.length_map, List.length_drop] at v1l
  have p1 := fun W (h : Strs W A l) => ih (l.drop (half n)) (m - half n) false (cutS A c (half n)) (n - half n) (c - half n) W (by omega) (by rw [List.length_drop, hn]) (by omega) (by omega) (by omega) (by omega) (fun s hs => hin s (List.mem_of_mem_drop hs)) (h.from_ _ c (by omega))
  have p2 := fun W (h : Strs W A l) => rtree_any (l.take (half n)) A (half n) c W (by rw [List.length_take]; omega) (by omega) (by omega) (fun s hs => hin s (List.mem_of_mem_take hs)) (h.take _)
  have l2 : (treeM sha (l.take (half n))).length = 32 := treeM_length sha sha_length _
  have ht2 : topM sha ((l.take (half n)).map (leafM sha)) = treeM sha (l.take (half n)) := rfl
  rw [ht2]
  have hf := fun W => rhalf_any n W h2 (by omega)
  have HA2 : ∀ (ev : Operand → Value) (o : Oper) (W : World) (x y : Operand), o.op = .slice 57 x (some y) none none → ev x = .slice A n c → ev y = .int .i64 ((half n : Nat) : Int) → (execOp ev o).run Tryd.prog W = .ok (.value (.slice (cutS A c (half n)) (n - half n) (c - half n))) W := fun _ _ _ _ _ ho hx hy => exec_sliceS_from ho hx hy (by omega)
  generalize cutS A c (half n) = A2 at *
  generalize half n = H at *
  generalize extendM sha ((l.drop (H)).map (leafM sha)) (m - H) false = L1 at *
  generalize treeM sha (l.take (H)) = x at *
  obtain ⟨w0, hW0⟩ : ∃ w0, (w.alloc (.cells (ints .u32 wordsL) 27)) = w0 := ⟨_, rfl⟩
  have B0 : Below w.heap.size w w0 := hW0 ▸ Below.new1 _ _
  have y4 : BoxW w0 w.heap.size := hW0 ▸ BoxW.new w
  have hS0 := hS.next B0
  have HO := Lib.hid hW0
  have P1 := Lib.hid p1
  have P2 := Lib.hid p2
  have HF := Lib.hid hf
  have HL := Lib.hid l2
  have kc : H ≤ c := by omega
  have q1 : L1.length ≤ 100000 := by omega
  have q2 : [x].length ≤ 100000 := by simp
  have ne : ((m : Int) == n) = false := by simp; omega
  have ml : ¬ (m : Int) ≤ H := by omega
  have m1 : IntKind.i64.wrap ((m : Int) - (H : Int)) = (m - H : Nat) := by rw [IntWalk.i64_in _ (by omega)]; omega
  have M1 := Lib.hid m1
  clear hW0 hS p1 p2 hf ih hv v1l l2 hn hin ht2
  clear m1
  go_enter Tryd.func52, Tryd.ntmps52
  go_upto_region 9 with (go_at_call 78; refine (HF.out _).mono ?_; rintro e w' ⟨rfl, rfl⟩)
  change Code.wp _ _ _ _ (w.alloc (.cells (ints .u32 wordsL) 27))
  rw [HO.out]
  clear HO
  refine wp_name fun a0 ha0 => ?_
  have e1 : a0.eval (.tmp 1) = .slice A n c := by rw [ha0]; rfl
  have e2 : a0.eval (.tmp 2) = .int .i64 (m : Int) := by rw [ha0]; rfl
  have e4 : a0.eval (.tmp 4) = .pointer (some ⟨w.heap.size, 0, none⟩) := by rw [ha0]; rfl
  have e10 : a0.eval (.tmp 10) = .int .i64 (H : Int) := by rw [ha0]; rfl
  have hz : a0.tmps.size = 55 := by rw [ha0]; rfl
  have HA0 := Lib.hid ha0
  clear ha0
  have SG : ∀ (d d' : Nat → Prop) (W W' : World), (fun (_ : Nat → Prop) (W : World) => Below w0.heap.size w0 W) d W → (∀ j, d j → d' j) → Below W.heap.size W W' → (fun (_ : Nat → Prop) (W : World) => Below w0.heap.size w0 W) d' W' := fun _ _ _ _ h _ b => Below.next h b
  refine wp_region_lastly 15 _ (Inv [40, 41, 42, 43, 44, 45, 46, 47, 48, 49, 50, 51, 52, 53, 54] a0 (fun (_ : Nat → Prop) (W : World) => Below w0.heap.size w0 W) [(⟨some 0, 40, none, fun v _ => v = wordsV⟩ : Cl), ⟨some 1, 41, none, fun v _ => v = .slice A n c⟩, ⟨some 2, 42, none, fun v _ => v = .int .i64 (H : Int)⟩, ⟨some 3, 43, none, fun v _ => v = .slice A2 (n - H) (c - H)⟩, ⟨some 4, 44, none, fun v _ => v = .int .i64 (m : Int)⟩, ⟨some 5, 45, none, fun v _ => v = .int .i64 (H : Int)⟩, ⟨some 6, 46, none, fun v _ => v = .int .i64 ((m - H : Nat) : Int)⟩, ⟨some 7, 47, some 14, fun v W => OwnHs W w0.heap.size v L1⟩, ⟨some 8, 48, none, fun v _ => v = wordsV⟩, ⟨some 9, 49, none, fun v _ => v = .slice A n c⟩, ⟨some 10, 50, none, fun v _ => v = .int .i64 (H : Int)⟩, ⟨some 11, 51, none, fun v _ => v = .slice A H c⟩, ⟨some 12, 52, none, fun v _ => v = hashV x⟩, ⟨some 13, 53, some 14, fun v W => OwnHs W w0.heap.size v [x]⟩, ⟨some 14, 54, none, fun v W => OwnHs W w0.heap.size v (L1 ++ [x])⟩]) (by kernel_rfl) (by kernel_rfl) rfl rfl (by kernel_rfl) rfl (Inv.start (Below.refl _ _).drew ⟨nofun, nofun, nofun, nofun, nofun, nofun, nofun, nofun, nofun, nofun, nofun, nofun, nofun, nofun, nofun, trivial⟩) ?_ ?_
  · have St : ∀ xc ∈ [(⟨some 0, 40, none, fun v _ => v = wordsV⟩ : Cl), ⟨some 1, 41, none, fun v _ => v = .slice A n c⟩, ⟨some 2, 42, none, fun v _ => v = .int .i64 (H : Int)⟩, ⟨some 3, 43, none, fun v _ => v = .slice A2 (n - H) (c - H)⟩, ⟨some 4, 44, none, fun v _ => v = .int .i64 (m : Int)⟩, ⟨some 5, 45, none, fun v _ => v = .int .i64 (H : Int)⟩, ⟨some 6, 46, none, fun v _ => v = .int .i64 ((m - H : Nat) : Int)⟩, ⟨some 7, 47, some 14, fun v W => OwnHs W w0.heap.size v L1⟩, ⟨some 8, 48, none, fun v _ => v = wordsV⟩, ⟨some 9, 49, none, fun v _ => v = .slice A n c⟩, ⟨some 10, 50, none, fun v _ => v = .int .i64 (H : Int)⟩, ⟨some 11, 51, none, fun v _ => v = .slice A H c⟩, ⟨some 12, 52, none, fun v _ => v = hashV x⟩, ⟨some 13, 53, some 14, fun v W => OwnHs W w0.heap.size v [x]⟩, ⟨some 14, 54, none, fun v W => OwnHs W w0.heap.size v (L1 ++ [x])⟩], Lasts xc := AllC.mem ⟨lastsV0 _ _ _ _, lastsV0 _ _ _ _, lastsV0 _ _ _ _, lastsV0 _ _ _ _, lastsV0 _ _ _ _, lastsV0 _ _ _ _, lastsV0 _ _ _ _, (fun _ _ _ h b => h.next b), lastsV0 _ _ _ _, lastsV0 _ _ _ _, lastsV0 _ _ _ _, lastsV0 _ _ _ _, lastsV0 _ _ _ _, (fun _ _ _ h b => h.next b), (fun _ _ _ h b => h.next b), trivial⟩
    clear HA0
    refine ⟨?_, ?_, ?_, ?_, ?_, ?_, ?_, ?_, ?_, ?_, ?_, ?_, ?_, ?_, ?_, trivial⟩
    · refine stepB rfl rfl (by decide) (by rw [hz]; decide) rfl rfl (by kernel_rfl) St SG fun d a W hF hG hH hn hcl hw => ?_
      have q4 := (hF.same 4 (by decide)).trans e4
      refine ⟨wordsV, W, ?_, Below.refl _ _, ?_⟩
      · exact exec_load rfl (by rw [q4]; exact BoxW.load (BoxA.next y4 hG))
      · rfl
    · refine stepB rfl rfl (by decide) (by rw [hz]; decide) rfl rfl (by kernel_rfl) St SG fun d a W hF hG hH hn hcl hw => ?_
      have q1 := (hF.same 1 (by decide)).trans e1
      refine ⟨.slice A n c, W, ?_, Below.refl _ _, ?_⟩
      · clear hF hG hH hn hcl hw
        generalize a.eval = ρ at *
        go_simp
      · rfl
    · refine stepB rfl rfl (by decide) (by rw [hz]; decide) rfl rfl (by kernel_rfl) St SG fun d a W hF hG hH hn hcl hw => ?_
      have q10 := (hF.same 10 (by decide)).trans e10
      refine ⟨.int .i64 (H : Int), W, ?_, Below.refl _ _, ?_⟩
      · clear hF hG hH hn hcl hw
        generalize a.eval = ρ at *
        go_simp
      · rfl
    · refine stepB rfl rfl (by decide) (by rw [hz]; decide) rfl rfl (by kernel_rfl) St SG fun d a W hF hG hH hn hcl hw => ?_
      have q41 : a.eval (.tmp 41) = .slice A n c := hH.at_ (i := 1) rfl (hw 1 rfl) id
      have q42 : a.eval (.tmp 42) = .int .i64 (H : Int) := hH.at_ (i := 2) rfl (hw 2 rfl) id
      refine ⟨.slice A2 (n - H) (c - H), W, ?_, Below.refl _ _, ?_⟩
      · exact HA2 _ _ W _ _ rfl q41 q42
      · rfl
    · refine stepB rfl rfl (by decide) (by rw [hz]; decide) rfl rfl (by kernel_rfl) St SG fun d a W hF hG hH hn hcl hw => ?_
      have q2 := (hF.same 2 (by decide)).trans e2
      refine ⟨.int .i64 (m : Int), W, ?_, Below.refl _ _, ?_⟩
      · clear hF hG hH hn hcl hw
        generalize a.eval = ρ at *
        go_simp
      · rfl
    · refine stepB rfl rfl (by decide) (by rw [hz]; decide) rfl rfl (by kernel_rfl) St SG fun d a W hF hG hH hn hcl hw => ?_
      have q10 := (hF.same 10 (by decide)).trans e10
      refine ⟨.int .i64 (H : Int), W, ?_, Below.refl _ _, ?_⟩
      · clear hF hG hH hn hcl hw
        generalize a.eval = ρ at *
        go_simp
      · rfl
    · refine stepB rfl rfl (by decide) (by rw [hz]; decide) rfl rfl (by kernel_rfl) St SG fun d a W hF hG hH hn hcl hw => ?_
      have q44 : a.eval (.tmp 44) = .int .i64 (m : Int) := hH.at_ (i := 4) rfl (hw 4 rfl) id
      have q45 : a.eval (.tmp 45) = .int .i64 (H : Int) := hH.at_ (i := 5) rfl (hw 5 rfl) id
      have c := M1.out
      refine ⟨.int .i64 ((m - H : Nat) : Int), W, ?_, Below.refl _ _, ?_⟩
      · clear hF hG hH hn hcl hw
        generalize a.eval = ρ at *
        go_simp
      · rfl
    · refine stepC rfl rfl (by decide) (by rw [hz]; decide) rfl rfl (by kernel_rfl) St SG fun d a W hF hG hH hn hcl hw => ?_
      have q40 : a.eval (.tmp 40) = wordsV := hH.at_ (i := 0) rfl (hw 0 rfl) id
      have q43 : a.eval (.tmp 43) = .slice A2 (n - H) (c - H) := hH.at_ (i := 3) rfl (hw 3 rfl) id
      have q46 : a.eval (.tmp 46) = .int .i64 ((m - H : Nat) : Int) := hH.at_ (i := 6) rfl (hw 6 rfl) id
      have qf : a.eval (.func 52) = .func (.func 52) #[] #[] := rfl
      have qk0 : a.eval (.const (.bool false)) = .bool false := rfl
      refine ⟨52, #[wordsV, .slice A2 (n - H) (c - H), .int .i64 ((m - H : Nat) : Int), .bool false], ?_, ?_⟩
      · clear hF hG hH hn hcl hw
        generalize a.eval = ρ at *
        go_simp
      · refine (P1.out W (hS0.next hG)).mono ?_; rintro e W' ⟨v, rfl, hO, b⟩; exact ⟨v, rfl, b, hO.mono (by have := hG.size; omega)⟩
    · refine stepB rfl rfl (by decide) (by rw [hz]; decide) rfl rfl (by kernel_rfl) St SG fun d a W hF hG hH hn hcl hw => ?_
      have q4 := (hF.same 4 (by decide)).trans e4
      refine ⟨wordsV, W, ?_, Below.refl _ _, ?_⟩
      · exact exec_load rfl (by rw [q4]; exact BoxW.load (BoxA.next y4 hG))
      · rfl
    · refine stepB rfl rfl (by decide) (by rw [hz]; decide) rfl rfl (by kernel_rfl) St SG fun d a W hF hG hH hn hcl hw => ?_
      have q1 := (hF.same 1 (by decide)).trans e1
      refine ⟨.slice A n c, W, ?_, Below.refl _ _, ?_⟩
      · clear hF hG hH hn hcl hw
        generalize a.eval = ρ at *
        go_simp
      · rfl
    · refine stepB rfl rfl (by decide) (by rw [hz]; decide) rfl rfl (by kernel_rfl) St SG fun d a W hF hG hH hn hcl hw => ?_
      have q10 := (hF.same 10 (by decide)).trans e10
      refine ⟨.int .i64 (H : Int), W, ?_, Below.refl _ _, ?_⟩
      · clear hF hG hH hn hcl hw
        generalize a.eval = ρ at *
        go_simp
      · rfl
    · refine stepB rfl rfl (by decide) (by rw [hz]; decide) rfl rfl (by kernel_rfl) St SG fun d a W hF hG hH hn hcl hw => ?_
      have q49 : a.eval (.tmp 49) = .slice A n c := hH.at_ (i := 9) rfl (hw 9 rfl) id
      have q50 : a.eval (.tmp 50) = .int .i64 (H : Int) := hH.at_ (i := 10) rfl (hw 10 rfl) id
      refine ⟨.slice A H c, W, ?_, Below.refl _ _, ?_⟩
      · exact exec_sliceS_to rfl q49 q50 kc
      · rfl
    · refine stepC rfl rfl (by decide) (by rw [hz]; decide) rfl rfl (by kernel_rfl) St SG fun d a W hF hG hH hn hcl hw => ?_
      have q48 : a.eval (.tmp 48) = wordsV := hH.at_ (i := 8) rfl (hw 8 rfl) id
      have q51 : a.eval (.tmp 51) = .slice A H c := hH.at_ (i := 11) rfl (hw 11 rfl) id
      have qf : a.eval (.func 33) = .func (.func 33) #[] #[] := rfl
      refine ⟨33, #[wordsV, .slice A H c], ?_, ?_⟩
      · clear hF hG hH hn hcl hw
        generalize a.eval = ρ at *
        go_simp
      · refine (P2.out W (hS0.next hG)).mono ?_; rintro e W' ⟨rfl, b⟩; exact ⟨_, rfl, b, rfl⟩
    · refine stepB rfl rfl (by decide) (by rw [hz]; decide) rfl rfl (by kernel_rfl) St SG fun d a W hF hG hH hn hcl hw => ?_
      have q52 : a.eval (.tmp 52) = hashV x := hH.at_ (i := 12) rfl (hw 12 rfl) id
      refine ⟨.slice (some ⟨W.heap.size, 0, none⟩) 1 1, W.alloc (.cells (cellsB x).toArray 30), ?_, Below.new1 W _, ?_⟩
      · exact exec_buildH (.tmp 52) rfl x q52 HL.out
      · exact OwnHs.one W _ HL.out hG.size
    · refine stepA rfl rfl (by decide) (by rw [hz]; decide) rfl rfl (by kernel_rfl) w0.heap.size (AllC.mem ⟨.inr (.inr fun _ _ _ h _ => h), .inr (.inr fun _ _ _ h _ => h), .inr (.inr fun _ _ _ h _ => h), .inr (.inr fun _ _ _ h _ => h), .inr (.inr fun _ _ _ h _ => h), .inr (.inr fun _ _ _ h _ => h), .inr (.inr fun _ _ _ h _ => h), .inr (.inl rfl), .inr (.inr fun _ _ _ h _ => h), .inr (.inr fun _ _ _ h _ => h), .inr (.inr fun _ _ _ h _ => h), .inr (.inr fun _ _ _ h _ => h), .inr (.inr fun _ _ _ h _ => h), .inr (.inl rfl), .inl rfl, trivial⟩) (fun _ _ _ _ h _ b => h.trans b) fun d a W hF hG hH hn hcl hw => ?_
      have q47 : OwnHs W w0.heap.size (a.eval (.tmp 47)) L1 := hH.at_ (i := 7) rfl (hw 7 rfl) hn
      have q53 : OwnHs W w0.heap.size (a.eval (.tmp 53)) [x] := hH.at_ (i := 13) rfl (hw 13 rfl) hn
      exact exec_append_hs2 (.tmp 47) (.tmp 53) rfl w0.heap.size w0.heap.size W _ _ L1 [x] rfl rfl q47 q53 q1 q2 hG.size
  · intro d a W ⟨hF, hB, hH⟩ hall
    have k54 : OwnHs W w0.heap.size (a.eval (.tmp 54)) (L1 ++ [x]) := hH.at_ (i := 14) rfl (hall 14 (by decide)) id
    clear hH hall
    rw [hF.shape (by rw [hz]; decide)]
    clear hF
    simp only [List.foldl]
    generalize a.eval (.tmp 40) = z40 at *
    generalize a.eval (.tmp 41) = z41 at *
    generalize a.eval (.tmp 42) = z42 at *
    generalize a.eval (.tmp 43) = z43 at *
    generalize a.eval (.tmp 44) = z44 at *
    generalize a.eval (.tmp 45) = z45 at *
    generalize a.eval (.tmp 46) = z46 at *
    generalize a.eval (.tmp 47) = z47 at *
    generalize a.eval (.tmp 48) = z48 at *
    generalize a.eval (.tmp 49) = z49 at *
    generalize a.eval (.tmp 50) = z50 at *
    generalize a.eval (.tmp 51) = z51 at *
    generalize a.eval (.tmp 52) = z52 at *
    generalize a.eval (.tmp 53) = z53 at *
    generalize a.eval (.tmp 54) = z54 at *
    rw [HA0.out]
    simp only [Act.put, List.setIfInBounds_toArray, List.set_cons_zero, List.set_cons_succ]
    clear hz HA0 SG e1 e2 e4 e10
    clear a a0
    refine wp_yields (v := z54) (by rfl) ?_
    dsimp only [Act.put]
    go_wp2_with (fail)
    go_ret
    exact ⟨_, rfl, k54.mono B0.size, B0.trans (hB.mono B0.size)⟩
theorem rext_le (q : Nat) : RExtOk q := by
  induction q with
  | zero => intro l m whole A n c w hq hn h1 hm; omega
  | succ q ih =>
    intro l m whole A n c w hq hn h1 hm h5 hc hin hS
    by_cases e : m = n
    · cases whole
      · exact rext_top l m A n c w hn h1 hm h5 hc hin hS e
      · exact rext_whole l m A n c w hn h1 hm h5 hc hin hS e
    · by_cases hl : m ≤ half n
      · exact rext_left q ih l m whole A n c w hq hn h1 hm h5 hc hin hS e hl
      · exact rext_right q ih l m whole A n c w hq hn h1 hm h5 hc hin hS e hl
theorem rext_any (l : List Bs) (m : Nat) (whole : Bool) (A : Option Addr) (n c : Nat) (w : World) (hn : l.length = n) (h1 : 1 ≤ m) (hm : m ≤ n) (h5 : n ≤ 5000) (hc : n ≤ c) (hin : ∀ s ∈ l, s.length ≤ 90000) (hS : Strs w A l)  : Calls Tryd.prog 52 #[wordsV, .slice A n c, .int .i64 m, .bool whole] w fun e w' => ∃ v, e = .returned v ∧ OwnHs w' w.heap.size v (extendM sha (l.map (leafM sha)) m whole) ∧ Below w.heap.size w w' := rext_le n l m whole A n c w (Nat.le_refl _) hn h1 hm h5 hc hin hS
end Go.Proofs.YtcocengpekndjaaDoor
