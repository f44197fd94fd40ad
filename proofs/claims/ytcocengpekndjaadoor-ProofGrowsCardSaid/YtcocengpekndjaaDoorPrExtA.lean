/- The walk over extend. -/
import Derived.Test.YtcocengpekndjaaDoorPrOuter
import Derived.Test.YtcocengpekndjaaDoorPrProve
namespace Go.Proofs.YtcocengpekndjaaDoor
open Go.RowKit
theorem extendM_length (d : Nat) : ∀ (l : List Bs) (m : Nat) (whole : Bool), l.length ≤ d → (extendM sha l m whole).length ≤ l.length + 1 := by
  induction d with
  | zero =>
    intro l m whole h
    rw [extendM, dif_pos (.inr (by omega))]
    split <;> simp
  | succ d ih =>
    intro l m whole h
    by_cases e : m = l.length ∨ l.length < 2
    · rw [extendM, dif_pos e]
      split <;> simp
    · have hr := half_range (n := l.length) (by omega)
      by_cases c : m ≤ half l.length
      · rw [extendM_left sha (by omega) c, List.length_append]
        have := ih (l.take (half l.length)) m whole (by rw [List.length_take]; omega)
        rw [List.length_take] at this
        simp only [List.length_cons, List.length_nil]
        omega
      · rw [extendM_right sha (by omega) c (by omega), List.length_append]
        have := ih (l.drop (half l.length)) (m - half l.length) false (by rw [List.length_drop]; omega)
        rw [List.length_drop] at this
        simp only [List.length_cons, List.length_nil]
        omega
set_option maxRecDepth 100000 in
set_option maxHeartbeats 4000000 in
theorem ext_whole (l : List Bs) (m : Nat) (A : Option Addr) (n c : Nat) (w : World) (hn : l.length = n) (_h1 : 1 ≤ m) (hm : m ≤ n) (h5 : n ≤ 5000) (hc : n ≤ c) (_hS : Hs w A l) (_hk : Kon w) (e : m = n) : Calls Tryd.prog 84 #[.slice A n c, .int .i64 m, .bool true] w fun e w' => ∃ v, e = .returned v ∧ OwnHs w' w.heap.size v (extendM sha l m true) ∧ Below w.heap.size w w' := by
  subst e
  rw [extendM_all sha (by rw [hn]), if_pos rfl]
  clear _hS _hk
  go_enter Tryd.func84, Tryd.ntmps84
  go_wp2_with (fail)
  go_ret
  exact ⟨_, rfl, OwnHs.nil _ _, Below.refl _ _⟩
set_option maxRecDepth 100000 in
set_option maxHeartbeats 4000000 in
theorem ext_top (l : List Bs) (m : Nat) (A : Option Addr) (n c : Nat) (w : World) (hn : l.length = n) (h1 : 1 ≤ m) (hm : m ≤ n) (h5 : n ≤ 5000) (hc : n ≤ c) (hS : Hs w A l) (hk : Kon w) (e : m = n) : Calls Tryd.prog 84 #[.slice A n c, .int .i64 m, .bool false] w fun e w' => ∃ v, e = .returned v ∧ OwnHs w' w.heap.size v (extendM sha l m false) ∧ Below w.heap.size w w' := by
  subst e
  rw [extendM_all sha (by rw [hn]), if_neg (by simp)]
  have HP := Lib.hid (top_any l A m c w hn.symm (by omega) hc hS hk)
  have hl : (topM sha l).length = 32 := topM_length sha sha_length hS.1
  generalize topM sha l = x at *
  have HL := Lib.hid hl
  clear hS hk hl hn
  go_enter Tryd.func84, Tryd.ntmps84
  go_wp2_with (first
    | (go_at_call 69; refine HP.out.mono ?_; rintro e w1 ⟨rfl, b1⟩)
    | (refine wpList_buildHash rfl (.tmp 16) rfl x rfl HL.out ?_))
  go_ret
  exact ⟨_, rfl, OwnHs.one _ _ HL.out b1.size, Below.on b1 (Below.new1 _ _)⟩
/-- What it does with lists of at most q. -/
def ExtOk (q : Nat) : Prop := ∀ (l : List Bs) (m : Nat) (whole : Bool) (A : Option Addr) (n c : Nat) (w : World), n ≤ q → l.length = n → 1 ≤ m → m ≤ n → n ≤ 5000 → n ≤ c → Hs w A l → Kon w → Calls Tryd.prog 84 #[.slice A n c, .int .i64 m, .bool whole] w fun e w' => ∃ v, e = .returned v ∧ OwnHs w' w.heap.size v (extendM sha l m whole) ∧ Below w.heap.size w w'
set_option maxRecDepth 100000 in
set_option maxHeartbeats 4000000 in
theorem ext_left (q : Nat) (ih : ExtOk q) (l : List Bs) (m : Nat) (whole : Bool) (A : Option Addr) (n c : Nat) (w : World) (hq : n ≤ q + 1) (hn : l.length = n) (h1 : 1 ≤ m) (hm : m ≤ n) (h5 : n ≤ 5000) (hc : n ≤ c) (hS : Hs w A l) (hk : Kon w) (e : m ≠ n) (hl : m ≤ half n) : Calls Tryd.prog 84 #[.slice A n c, .int .i64 m, .bool whole] w fun e w' => ∃ v, e = .returned v ∧ OwnHs w' w.heap.size v (extendM sha l m whole) ∧ Below w.heap.size w w' := by
  have h2 : 2 ≤ n := by omega
  have hr := half_range h2
  have hv := extendM_left sha (l := l) (m := m) (whole := whole) (by rw [hn]; exact h2) (by rw [hn]; exact hl)
  rw [hn] at hv
  rw [hv]
  have v1l := extendM_length n (l.take (half n)) m whole (by simp; omega)
  rw [List.length_take] at v1l
  have p1 := fun W (h : Hs W A l) (kon : Kon W) => ih (l.take (half n)) m whole A (half n) c W (by omega) (by rw [List.length_take]; omega) (by omega) (by omega) (by omega) (by omega) (h.to_ _) kon
  have p2 := fun W (h : Hs W A l) (kon : Kon W) => top_any (l.drop (half n)) (cutA A c (half n)) (n - half n) (c - half n) W (by rw [List.length_drop, hn]) (by omega) (by omega) (h.from_ (by omega) _ (by omega)) kon
  have l2 : (topM sha (l.drop (half n))).length = 32 := topM_length sha sha_length (hS.1.drop _)
  have hf := fun W => half_any n W h2 (by omega)
  have HA2 : ∀ (ev : Operand → Value) (o : Oper) (W : World) (x y : Operand), o.op = .slice 35 x (some y) none none → ev x = .slice A n c → ev y = .int .i64 ((half n : Nat) : Int) → (execOp ev o).run Tryd.prog W = .ok (.value (.slice (cutA A c (half n)) (n - half n) (c - half n))) W := fun _ _ _ _ _ ho hx hy => exec_sliceH ho hx hy (by omega)
  generalize cutA A c (half n) = A2 at *
  generalize half n = H at *
  generalize extendM sha (l.take (H)) m whole = L1 at *
  generalize topM sha (l.drop (H)) = x at *
  have P1 := Lib.hid p1
  have P2 := Lib.hid p2
  have HF := Lib.hid hf
  have HL := Lib.hid l2
  have kc : H ≤ c := by omega
  have q1 : L1.length ≤ 100000 := by omega
  have q2 : [x].length ≤ 100000 := by simp
  have ne : ((m : Int) == n) = false := by simp; omega
  have ml : (m : Int) ≤ H := by omega
  clear p1 p2 hf ih hv v1l l2 hn
  go_enter Tryd.func84, Tryd.ntmps84
  go_upto_region 8 with (go_at_call 93; refine (HF.out _).mono ?_; rintro e w' ⟨rfl, rfl⟩)
  refine wp_name fun a0 ha0 => ?_
  have e0 : a0.eval (.tmp 0) = .slice A n c := by rw [ha0]; rfl
  have e1 : a0.eval (.tmp 1) = .int .i64 (m : Int) := by rw [ha0]; rfl
  have e2 : a0.eval (.tmp 2) = .bool whole := by rw [ha0]; rfl
  have e8 : a0.eval (.tmp 8) = .int .i64 (H : Int) := by rw [ha0]; rfl
  have hz : a0.tmps.size = 48 := by rw [ha0]; rfl
  have HA0 := Lib.hid ha0
  clear ha0
  have SG : ∀ (d d' : Nat → Prop) (W W' : World), (fun (_ : Nat → Prop) (W : World) => Below w.heap.size w W) d W → (∀ j, d j → d' j) → Below W.heap.size W W' → (fun (_ : Nat → Prop) (W : World) => Below w.heap.size w W) d' W' := fun _ _ _ _ h _ b => Below.next h b
  refine wp_region_lastly 12 _ (Inv [23, 24, 25, 26, 27, 28, 29, 30, 31, 32, 33, 34] a0 (fun (_ : Nat → Prop) (W : World) => Below w.heap.size w W) [(⟨some 0, 23, none, fun v _ => v = .slice A n c⟩ : Cl), ⟨some 1, 24, none, fun v _ => v = .int .i64 (H : Int)⟩, ⟨some 2, 25, none, fun v _ => v = .slice A H c⟩, ⟨some 3, 26, none, fun v _ => v = .int .i64 (m : Int)⟩, ⟨some 4, 27, none, fun v _ => v = .bool whole⟩, ⟨some 5, 28, some 11, fun v W => OwnHs W w.heap.size v L1⟩, ⟨some 6, 29, none, fun v _ => v = .slice A n c⟩, ⟨some 7, 30, none, fun v _ => v = .int .i64 (H : Int)⟩, ⟨some 8, 31, none, fun v _ => v = .slice A2 (n - H) (c - H)⟩, ⟨some 9, 32, none, fun v _ => v = hashV x⟩, ⟨some 10, 33, some 11, fun v W => OwnHs W w.heap.size v [x]⟩, ⟨some 11, 34, none, fun v W => OwnHs W w.heap.size v (L1 ++ [x])⟩]) (by kernel_rfl) (by kernel_rfl) rfl rfl (by kernel_rfl) rfl (Inv.start (Below.refl _ _).drew ⟨nofun, nofun, nofun, nofun, nofun, nofun, nofun, nofun, nofun, nofun, nofun, nofun, trivial⟩) ?_ ?_
  · have St : ∀ xc ∈ [(⟨some 0, 23, none, fun v _ => v = .slice A n c⟩ : Cl), ⟨some 1, 24, none, fun v _ => v = .int .i64 (H : Int)⟩, ⟨some 2, 25, none, fun v _ => v = .slice A H c⟩, ⟨some 3, 26, none, fun v _ => v = .int .i64 (m : Int)⟩, ⟨some 4, 27, none, fun v _ => v = .bool whole⟩, ⟨some 5, 28, some 11, fun v W => OwnHs W w.heap.size v L1⟩, ⟨some 6, 29, none, fun v _ => v = .slice A n c⟩, ⟨some 7, 30, none, fun v _ => v = .int .i64 (H : Int)⟩, ⟨some 8, 31, none, fun v _ => v = .slice A2 (n - H) (c - H)⟩, ⟨some 9, 32, none, fun v _ => v = hashV x⟩, ⟨some 10, 33, some 11, fun v W => OwnHs W w.heap.size v [x]⟩, ⟨some 11, 34, none, fun v W => OwnHs W w.heap.size v (L1 ++ [x])⟩], Lasts xc := AllC.mem ⟨lastsV0 _ _ _ _, lastsV0 _ _ _ _, lastsV0 _ _ _ _, lastsV0 _ _ _ _, lastsV0 _ _ _ _, (fun _ _ _ h b => h.next b), lastsV0 _ _ _ _, lastsV0 _ _ _ _, lastsV0 _ _ _ _, lastsV0 _ _ _ _, (fun _ _ _ h b => h.next b), (fun _ _ _ h b => h.next b), trivial⟩
    clear HA0
    refine ⟨?_, ?_, ?_, ?_, ?_, ?_, ?_, ?_, ?_, ?_, ?_, ?_, trivial⟩
    · refine stepB rfl rfl (by decide) (by rw [hz]; decide) rfl rfl (by kernel_rfl) St SG fun d a W hF hG hH hn hcl hw => ?_
      have q0 := (hF.same 0 (by decide)).trans e0
      refine ⟨.slice A n c, W, ?_, Below.refl _ _, ?_⟩
      · clear hF hG hH hn hcl hw
        generalize a.eval = ρ at *
        go_simp
      · rfl
    · refine stepB rfl rfl (by decide) (by rw [hz]; decide) rfl rfl (by kernel_rfl) St SG fun d a W hF hG hH hn hcl hw => ?_
      have q8 := (hF.same 8 (by decide)).trans e8
      refine ⟨.int .i64 (H : Int), W, ?_, Below.refl _ _, ?_⟩
      · clear hF hG hH hn hcl hw
        generalize a.eval = ρ at *
        go_simp
      · rfl
    · refine stepB rfl rfl (by decide) (by rw [hz]; decide) rfl rfl (by kernel_rfl) St SG fun d a W hF hG hH hn hcl hw => ?_
      have q23 : a.eval (.tmp 23) = .slice A n c := hH.at_ (i := 0) rfl (hw 0 rfl) id
      have q24 : a.eval (.tmp 24) = .int .i64 (H : Int) := hH.at_ (i := 1) rfl (hw 1 rfl) id
      refine ⟨.slice A H c, W, ?_, Below.refl _ _, ?_⟩
      · exact exec_sliceH_to rfl q23 q24 kc
      · rfl
    · refine stepB rfl rfl (by decide) (by rw [hz]; decide) rfl rfl (by kernel_rfl) St SG fun d a W hF hG hH hn hcl hw => ?_
      have q1 := (hF.same 1 (by decide)).trans e1
      refine ⟨.int .i64 (m : Int), W, ?_, Below.refl _ _, ?_⟩
      · clear hF hG hH hn hcl hw
        generalize a.eval = ρ at *
        go_simp
      · rfl
    · refine stepB rfl rfl (by decide) (by rw [hz]; decide) rfl rfl (by kernel_rfl) St SG fun d a W hF hG hH hn hcl hw => ?_
      have q2 := (hF.same 2 (by decide)).trans e2
      refine ⟨.bool whole, W, ?_, Below.refl _ _, ?_⟩
      · clear hF hG hH hn hcl hw
        generalize a.eval = ρ at *
        go_simp
      · rfl
    · refine stepC rfl rfl (by decide) (by rw [hz]; decide) rfl rfl (by kernel_rfl) St SG fun d a W hF hG hH hn hcl hw => ?_
      have q25 : a.eval (.tmp 25) = .slice A H c := hH.at_ (i := 2) rfl (hw 2 rfl) id
      have q26 : a.eval (.tmp 26) = .int .i64 (m : Int) := hH.at_ (i := 3) rfl (hw 3 rfl) id
      have q27 : a.eval (.tmp 27) = .bool whole := hH.at_ (i := 4) rfl (hw 4 rfl) id
      have qf : a.eval (.func 84) = .func (.func 84) #[] #[] := rfl
      refine ⟨84, #[.slice A H c, .int .i64 (m : Int), .bool whole], ?_, ?_⟩
      · clear hF hG hH hn hcl hw
        generalize a.eval = ρ at *
        go_simp
      · refine (P1.out W (hS.next hG) (hk.next hG)).mono ?_; rintro e W' ⟨v, rfl, hO, b⟩; exact ⟨v, rfl, b, hO.mono (by have := hG.size; omega)⟩
    · refine stepB rfl rfl (by decide) (by rw [hz]; decide) rfl rfl (by kernel_rfl) St SG fun d a W hF hG hH hn hcl hw => ?_
      have q0 := (hF.same 0 (by decide)).trans e0
      refine ⟨.slice A n c, W, ?_, Below.refl _ _, ?_⟩
      · clear hF hG hH hn hcl hw
        generalize a.eval = ρ at *
        go_simp
      · rfl
    · refine stepB rfl rfl (by decide) (by rw [hz]; decide) rfl rfl (by kernel_rfl) St SG fun d a W hF hG hH hn hcl hw => ?_
      have q8 := (hF.same 8 (by decide)).trans e8
      refine ⟨.int .i64 (H : Int), W, ?_, Below.refl _ _, ?_⟩
      · clear hF hG hH hn hcl hw
        generalize a.eval = ρ at *
        go_simp
      · rfl
    · refine stepB rfl rfl (by decide) (by rw [hz]; decide) rfl rfl (by kernel_rfl) St SG fun d a W hF hG hH hn hcl hw => ?_
      have q29 : a.eval (.tmp 29) = .slice A n c := hH.at_ (i := 6) rfl (hw 6 rfl) id
      have q30 : a.eval (.tmp 30) = .int .i64 (H : Int) := hH.at_ (i := 7) rfl (hw 7 rfl) id
      refine ⟨.slice A2 (n - H) (c - H), W, ?_, Below.refl _ _, ?_⟩
      · exact HA2 _ _ W _ _ rfl q29 q30
      · rfl
    · refine stepC rfl rfl (by decide) (by rw [hz]; decide) rfl rfl (by kernel_rfl) St SG fun d a W hF hG hH hn hcl hw => ?_
      have q31 : a.eval (.tmp 31) = .slice A2 (n - H) (c - H) := hH.at_ (i := 8) rfl (hw 8 rfl) id
      have qf : a.eval (.func 69) = .func (.func 69) #[] #[] := rfl
      refine ⟨69, #[.slice A2 (n - H) (c - H)], ?_, ?_⟩
      · clear hF hG hH hn hcl hw
        generalize a.eval = ρ at *
        go_simp
      · refine (P2.out W (hS.next hG) (hk.next hG)).mono ?_; rintro e W' ⟨rfl, b⟩; exact ⟨_, rfl, b, rfl⟩
    · refine stepB rfl rfl (by decide) (by rw [hz]; decide) rfl rfl (by kernel_rfl) St SG fun d a W hF hG hH hn hcl hw => ?_
      have q32 : a.eval (.tmp 32) = hashV x := hH.at_ (i := 9) rfl (hw 9 rfl) id
      refine ⟨.slice (some ⟨W.heap.size, 0, none⟩) 1 1, W.alloc (.cells (cellsB x).toArray 30), ?_, Below.new1 W _, ?_⟩
      · exact exec_buildH (.tmp 32) rfl x q32 HL.out
      · exact OwnHs.one W _ HL.out hG.size
    · refine stepA rfl rfl (by decide) (by rw [hz]; decide) rfl rfl (by kernel_rfl) w.heap.size (AllC.mem ⟨.inr (.inr fun _ _ _ h _ => h), .inr (.inr fun _ _ _ h _ => h), .inr (.inr fun _ _ _ h _ => h), .inr (.inr fun _ _ _ h _ => h), .inr (.inr fun _ _ _ h _ => h), .inr (.inl rfl), .inr (.inr fun _ _ _ h _ => h), .inr (.inr fun _ _ _ h _ => h), .inr (.inr fun _ _ _ h _ => h), .inr (.inr fun _ _ _ h _ => h), .inr (.inl rfl), .inl rfl, trivial⟩) (fun _ _ _ _ h _ b => h.trans b) fun d a W hF hG hH hn hcl hw => ?_
      have q28 : OwnHs W w.heap.size (a.eval (.tmp 28)) L1 := hH.at_ (i := 5) rfl (hw 5 rfl) hn
      have q33 : OwnHs W w.heap.size (a.eval (.tmp 33)) [x] := hH.at_ (i := 10) rfl (hw 10 rfl) hn
      exact exec_append_hs2 (.tmp 28) (.tmp 33) rfl w.heap.size w.heap.size W _ _ L1 [x] rfl rfl q28 q33 q1 q2 hG.size
  · intro d a W ⟨hF, hB, hH⟩ hall
    have k34 : OwnHs W w.heap.size (a.eval (.tmp 34)) (L1 ++ [x]) := hH.at_ (i := 11) rfl (hall 11 (by decide)) id
    clear hH hall
    rw [hF.shape (by rw [hz]; decide)]
    clear hF
    simp only [List.foldl]
    generalize a.eval (.tmp 23) = z23 at *
    generalize a.eval (.tmp 24) = z24 at *
    generalize a.eval (.tmp 25) = z25 at *
    generalize a.eval (.tmp 26) = z26 at *
    generalize a.eval (.tmp 27) = z27 at *
    generalize a.eval (.tmp 28) = z28 at *
    generalize a.eval (.tmp 29) = z29 at *
    generalize a.eval (.tmp 30) = z30 at *
    generalize a.eval (.tmp 31) = z31 at *
    generalize a.eval (.tmp 32) = z32 at *
    generalize a.eval (.tmp 33) = z33 at *
    generalize a.eval (.tmp 34) = z34 at *
    rw [HA0.out]
    simp only [Act.put, List.setIfInBounds_toArray, List.set_cons_zero, List.set_cons_succ]
    clear hz HA0 SG e0 e1 e2 e8
    clear a a0
    refine wp_yields (v := z34) (by rfl) ?_
    dsimp only [Act.put]
    go_wp2_with (fail)
    go_ret
    exact ⟨_, rfl, k34, hB⟩
set_option maxRecDepth 100000 in
set_option maxHeartbeats 4000000 in
theorem ext_right (q : Nat) (ih : ExtOk q) (l : List Bs) (m : Nat) (whole : Bool) (A : Option Addr) (n c : Nat) (w : World) (hq : n ≤ q + 1) (hn : l.length = n) (h1 : 1 ≤ m) (hm : m ≤ n) (h5 : n ≤ 5000) (hc : n ≤ c) (hS : Hs w A l) (hk : Kon w) (e : m ≠ n) (hl : ¬ m ≤ half n) : Calls Tryd.prog 84 #[.slice A n c, .int .i64 m, .bool whole] w fun e w' => ∃ v, e = .returned v ∧ OwnHs w' w.heap.size v (extendM sha l m whole) ∧ Below w.heap.size w w' := by
  have h2 : 2 ≤ n := by omega
  have hr := half_range h2
  have hv := extendM_right sha (l := l) (m := m) (whole := whole) (by rw [hn]; exact h2) (by rw [hn]; exact hl) (by rw [hn]; exact e)
  rw [hn] at hv
  rw [hv]
  have v1l := extendM_length n (l.drop (half n)) (m - half n) false (by simp; omega)
  rw [List.length_drop] at v1l
  have p1 := fun W (h : Hs W A l) (kon : Kon W) => ih (l.drop (half n)) (m - half n) false (cutA A c (half n)) (n - half n) (c - half n) W (by omega) (by rw [List.length_drop, hn]) (by omega) (by omega) (by omega) (by omega) (h.from_ (by omega) _ (by omega)) kon
  have p2 := fun W (h : Hs W A l) (kon : Kon W) => top_any (l.take (half n)) A (half n) c W (by rw [List.length_take]; omega) (by omega) (by omega) (h.to_ _) kon
  have l2 : (topM sha (l.take (half n))).length = 32 := topM_length sha sha_length (hS.1.take _)
  have hf := fun W => half_any n W h2 (by omega)
  have HA2 : ∀ (ev : Operand → Value) (o : Oper) (W : World) (x y : Operand), o.op = .slice 35 x (some y) none none → ev x = .slice A n c → ev y = .int .i64 ((half n : Nat) : Int) → (execOp ev o).run Tryd.prog W = .ok (.value (.slice (cutA A c (half n)) (n - half n) (c - half n))) W := fun _ _ _ _ _ ho hx hy => exec_sliceH ho hx hy (by omega)
  generalize cutA A c (half n) = A2 at *
  generalize half n = H at *
  generalize extendM sha (l.drop (H)) (m - H) false = L1 at *
  generalize topM sha (l.take (H)) = x at *
  have P1 := Lib.hid p1
  have P2 := Lib.hid p2
  have HF := Lib.hid hf
  have HL := Lib.hid l2
  have kc : H ≤ c := by omega
  have q1 : L1.length ≤ 100000 := by omega
  have q2 : [x].length ≤ 100000 := by simp
  have ne : ((m : Int) == n) = false := by simp; omega
  have ml : ¬ (m : Int) ≤ H := by omega
  have m1 : IntKind.i64.wrap ((m : Int) - (H : Int)) = (m - H : Nat) := by rw [IntWalk.i64_in _ (by omega)]; omega
  have M1 := Lib.hid m1
  clear p1 p2 hf ih hv v1l l2 hn
  clear m1
  go_enter Tryd.func84, Tryd.ntmps84
  go_upto_region 9 with (go_at_call 93; refine (HF.out _).mono ?_; rintro e w' ⟨rfl, rfl⟩)
  refine wp_name fun a0 ha0 => ?_
  have e0 : a0.eval (.tmp 0) = .slice A n c := by rw [ha0]; rfl
  have e1 : a0.eval (.tmp 1) = .int .i64 (m : Int) := by rw [ha0]; rfl
  have e8 : a0.eval (.tmp 8) = .int .i64 (H : Int) := by rw [ha0]; rfl
  have hz : a0.tmps.size = 48 := by rw [ha0]; rfl
  have HA0 := Lib.hid ha0
  clear ha0
  have SG : ∀ (d d' : Nat → Prop) (W W' : World), (fun (_ : Nat → Prop) (W : World) => Below w.heap.size w W) d W → (∀ j, d j → d' j) → Below W.heap.size W W' → (fun (_ : Nat → Prop) (W : World) => Below w.heap.size w W) d' W' := fun _ _ _ _ h _ b => Below.next h b
  refine wp_region_lastly 13 _ (Inv [35, 36, 37, 38, 39, 40, 41, 42, 43, 44, 45, 46, 47] a0 (fun (_ : Nat → Prop) (W : World) => Below w.heap.size w W) [(⟨some 0, 35, none, fun v _ => v = .slice A n c⟩ : Cl), ⟨some 1, 36, none, fun v _ => v = .int .i64 (H : Int)⟩, ⟨some 2, 37, none, fun v _ => v = .slice A2 (n - H) (c - H)⟩, ⟨some 3, 38, none, fun v _ => v = .int .i64 (m : Int)⟩, ⟨some 4, 39, none, fun v _ => v = .int .i64 (H : Int)⟩, ⟨some 5, 40, none, fun v _ => v = .int .i64 ((m - H : Nat) : Int)⟩, ⟨some 6, 41, some 12, fun v W => OwnHs W w.heap.size v L1⟩, ⟨some 7, 42, none, fun v _ => v = .slice A n c⟩, ⟨some 8, 43, none, fun v _ => v = .int .i64 (H : Int)⟩, ⟨some 9, 44, none, fun v _ => v = .slice A H c⟩, ⟨some 10, 45, none, fun v _ => v = hashV x⟩, ⟨some 11, 46, some 12, fun v W => OwnHs W w.heap.size v [x]⟩, ⟨some 12, 47, none, fun v W => OwnHs W w.heap.size v (L1 ++ [x])⟩]) (by kernel_rfl) (by kernel_rfl) rfl rfl (by kernel_rfl) rfl (Inv.start (Below.refl _ _).drew ⟨nofun, nofun, nofun, nofun, nofun, nofun, nofun, nofun, nofun, nofun, nofun, nofun, nofun, trivial⟩) ?_ ?_
  · have St : ∀ xc ∈ [(⟨some 0, 35, none, fun v _ => v = .slice A n c⟩ : Cl), ⟨some 1, 36, none, fun v _ => v = .int .i64 (H : Int)⟩, ⟨some 2, 37, none, fun v _ => v = .slice A2 (n - H) (c - H)⟩, ⟨some 3, 38, none, fun v _ => v = .int .i64 (m : Int)⟩, ⟨some 4, 39, none, fun v _ => v = .int .i64 (H : Int)⟩, ⟨some 5, 40, none, fun v _ => v = .int .i64 ((m - H : Nat) : Int)⟩, ⟨some 6, 41, some 12, fun v W => OwnHs W w.heap.size v L1⟩, ⟨some 7, 42, none, fun v _ => v = .slice A n c⟩, ⟨some 8, 43, none, fun v _ => v = .int .i64 (H : Int)⟩, ⟨some 9, 44, none, fun v _ => v = .slice A H c⟩, ⟨some 10, 45, none, fun v _ => v = hashV x⟩, ⟨some 11, 46, some 12, fun v W => OwnHs W w.heap.size v [x]⟩, ⟨some 12, 47, none, fun v W => OwnHs W w.heap.size v (L1 ++ [x])⟩], Lasts xc := AllC.mem ⟨lastsV0 _ _ _ _, lastsV0 _ _ _ _, lastsV0 _ _ _ _, lastsV0 _ _ _ _, lastsV0 _ _ _ _, lastsV0 _ _ _ _, (fun _ _ _ h b => h.next b), lastsV0 _ _ _ _, lastsV0 _ _ _ _, lastsV0 _ _ _ _, lastsV0 _ _ _ _, (fun _ _ _ h b => h.next b), (fun _ _ _ h b => h.next b), trivial⟩
    clear HA0
    refine ⟨?_, ?_, ?_, ?_, ?_, ?_, ?_, ?_, ?_, ?_, ?_, ?_, ?_, trivial⟩
    · refine stepB rfl rfl (by decide) (by rw [hz]; decide) rfl rfl (by kernel_rfl) St SG fun d a W hF hG hH hn hcl hw => ?_
      have q0 := (hF.same 0 (by decide)).trans e0
      refine ⟨.slice A n c, W, ?_, Below.refl _ _, ?_⟩
      · clear hF hG hH hn hcl hw
        generalize a.eval = ρ at *
        go_simp
      · rfl
    · refine stepB rfl rfl (by decide) (by rw [hz]; decide) rfl rfl (by kernel_rfl) St SG fun d a W hF hG hH hn hcl hw => ?_
      have q8 := (hF.same 8 (by decide)).trans e8
      refine ⟨.int .i64 (H : Int), W, ?_, Below.refl _ _, ?_⟩
      · clear hF hG hH hn hcl hw
        generalize a.eval = ρ at *
        go_simp
      · rfl
    · refine stepB rfl rfl (by decide) (by rw [hz]; decide) rfl rfl (by kernel_rfl) St SG fun d a W hF hG hH hn hcl hw => ?_
      have q35 : a.eval (.tmp 35) = .slice A n c := hH.at_ (i := 0) rfl (hw 0 rfl) id
      have q36 : a.eval (.tmp 36) = .int .i64 (H : Int) := hH.at_ (i := 1) rfl (hw 1 rfl) id
      refine ⟨.slice A2 (n - H) (c - H), W, ?_, Below.refl _ _, ?_⟩
      · exact HA2 _ _ W _ _ rfl q35 q36
      · rfl
    · refine stepB rfl rfl (by decide) (by rw [hz]; decide) rfl rfl (by kernel_rfl) St SG fun d a W hF hG hH hn hcl hw => ?_
      have q1 := (hF.same 1 (by decide)).trans e1
      refine ⟨.int .i64 (m : Int), W, ?_, Below.refl _ _, ?_⟩
      · clear hF hG hH hn hcl hw
        generalize a.eval = ρ at *
        go_simp
      · rfl
    · refine stepB rfl rfl (by decide) (by rw [hz]; decide) rfl rfl (by kernel_rfl) St SG fun d a W hF hG hH hn hcl hw => ?_
      have q8 := (hF.same 8 (by decide)).trans e8
      refine ⟨.int .i64 (H : Int), W, ?_, Below.refl _ _, ?_⟩
      · clear hF hG hH hn hcl hw
        generalize a.eval = ρ at *
        go_simp
      · rfl
    · refine stepB rfl rfl (by decide) (by rw [hz]; decide) rfl rfl (by kernel_rfl) St SG fun d a W hF hG hH hn hcl hw => ?_
      have q38 : a.eval (.tmp 38) = .int .i64 (m : Int) := hH.at_ (i := 3) rfl (hw 3 rfl) id
      have q39 : a.eval (.tmp 39) = .int .i64 (H : Int) := hH.at_ (i := 4) rfl (hw 4 rfl) id
      have c := M1.out
      refine ⟨.int .i64 ((m - H : Nat) : Int), W, ?_, Below.refl _ _, ?_⟩
      · clear hF hG hH hn hcl hw
        generalize a.eval = ρ at *
        go_simp
      · rfl
    · refine stepC rfl rfl (by decide) (by rw [hz]; decide) rfl rfl (by kernel_rfl) St SG fun d a W hF hG hH hn hcl hw => ?_
      have q37 : a.eval (.tmp 37) = .slice A2 (n - H) (c - H) := hH.at_ (i := 2) rfl (hw 2 rfl) id
      have q40 : a.eval (.tmp 40) = .int .i64 ((m - H : Nat) : Int) := hH.at_ (i := 5) rfl (hw 5 rfl) id
      have qf : a.eval (.func 84) = .func (.func 84) #[] #[] := rfl
      have qk0 : a.eval (.const (.bool false)) = .bool false := rfl
      refine ⟨84, #[.slice A2 (n - H) (c - H), .int .i64 ((m - H : Nat) : Int), .bool false], ?_, ?_⟩
      · clear hF hG hH hn hcl hw
        generalize a.eval = ρ at *
        go_simp
      · refine (P1.out W (hS.next hG) (hk.next hG)).mono ?_; rintro e W' ⟨v, rfl, hO, b⟩; exact ⟨v, rfl, b, hO.mono (by have := hG.size; omega)⟩
    · refine stepB rfl rfl (by decide) (by rw [hz]; decide) rfl rfl (by kernel_rfl) St SG fun d a W hF hG hH hn hcl hw => ?_
      have q0 := (hF.same 0 (by decide)).trans e0
      refine ⟨.slice A n c, W, ?_, Below.refl _ _, ?_⟩
      · clear hF hG hH hn hcl hw
        generalize a.eval = ρ at *
        go_simp
      · rfl
    · refine stepB rfl rfl (by decide) (by rw [hz]; decide) rfl rfl (by kernel_rfl) St SG fun d a W hF hG hH hn hcl hw => ?_
      have q8 := (hF.same 8 (by decide)).trans e8
      refine ⟨.int .i64 (H : Int), W, ?_, Below.refl _ _, ?_⟩
      · clear hF hG hH hn hcl hw
        generalize a.eval = ρ at *
        go_simp
      · rfl
    · refine stepB rfl rfl (by decide) (by rw [hz]; decide) rfl rfl (by kernel_rfl) St SG fun d a W hF hG hH hn hcl hw => ?_
      have q42 : a.eval (.tmp 42) = .slice A n c := hH.at_ (i := 7) rfl (hw 7 rfl) id
      have q43 : a.eval (.tmp 43) = .int .i64 (H : Int) := hH.at_ (i := 8) rfl (hw 8 rfl) id
      refine ⟨.slice A H c, W, ?_, Below.refl _ _, ?_⟩
      · exact exec_sliceH_to rfl q42 q43 kc
      · rfl
    · refine stepC rfl rfl (by decide) (by rw [hz]; decide) rfl rfl (by kernel_rfl) St SG fun d a W hF hG hH hn hcl hw => ?_
      have q44 : a.eval (.tmp 44) = .slice A H c := hH.at_ (i := 9) rfl (hw 9 rfl) id
      have qf : a.eval (.func 69) = .func (.func 69) #[] #[] := rfl
      refine ⟨69, #[.slice A H c], ?_, ?_⟩
      · clear hF hG hH hn hcl hw
        generalize a.eval = ρ at *
        go_simp
      · refine (P2.out W (hS.next hG) (hk.next hG)).mono ?_; rintro e W' ⟨rfl, b⟩; exact ⟨_, rfl, b, rfl⟩
    · refine stepB rfl rfl (by decide) (by rw [hz]; decide) rfl rfl (by kernel_rfl) St SG fun d a W hF hG hH hn hcl hw => ?_
      have q45 : a.eval (.tmp 45) = hashV x := hH.at_ (i := 10) rfl (hw 10 rfl) id
      refine ⟨.slice (some ⟨W.heap.size, 0, none⟩) 1 1, W.alloc (.cells (cellsB x).toArray 30), ?_, Below.new1 W _, ?_⟩
      · exact exec_buildH (.tmp 45) rfl x q45 HL.out
      · exact OwnHs.one W _ HL.out hG.size
    · refine stepA rfl rfl (by decide) (by rw [hz]; decide) rfl rfl (by kernel_rfl) w.heap.size (AllC.mem ⟨.inr (.inr fun _ _ _ h _ => h), .inr (.inr fun _ _ _ h _ => h), .inr (.inr fun _ _ _ h _ => h), .inr (.inr fun _ _ _ h _ => h), .inr (.inr fun _ _ _ h _ => h), .inr (.inr fun _ _ _ h _ => h), .inr (.inl rfl), .inr (.inr fun _ _ _ h _ => h), .inr (.inr fun _ _ _ h _ => h), .inr (.inr fun _ _ _ h _ => h), .inr (.inr fun _ _ _ h _ => h), .inr (.inl rfl), .inl rfl, trivial⟩) (fun _ _ _ _ h _ b => h.trans b) fun d a W hF hG hH hn hcl hw => ?_
      have q41 : OwnHs W w.heap.size (a.eval (.tmp 41)) L1 := hH.at_ (i := 6) rfl (hw 6 rfl) hn
      have q46 : OwnHs W w.heap.size (a.eval (.tmp 46)) [x] := hH.at_ (i := 11) rfl (hw 11 rfl) hn
      exact exec_append_hs2 (.tmp 41) (.tmp 46) rfl w.heap.size w.heap.size W _ _ L1 [x] rfl rfl q41 q46 q1 q2 hG.size
  · intro d a W ⟨hF, hB, hH⟩ hall
    have k47 : OwnHs W w.heap.size (a.eval (.tmp 47)) (L1 ++ [x]) := hH.at_ (i := 12) rfl (hall 12 (by decide)) id
    clear hH hall
    rw [hF.shape (by rw [hz]; decide)]
    clear hF
    simp only [List.foldl]
    generalize a.eval (.tmp 35) = z35 at *
    generalize a.eval (.tmp 36) = z36 at *
    generalize a.eval (.tmp 37) = z37 at *
    generalize a.eval (.tmp 38) = z38 at *
    generalize a.eval (.tmp 39) = z39 at *
    generalize a.eval (.tmp 40) = z40 at *
    generalize a.eval (.tmp 41) = z41 at *
    generalize a.eval (.tmp 42) = z42 at *
    generalize a.eval (.tmp 43) = z43 at *
    generalize a.eval (.tmp 44) = z44 at *
    generalize a.eval (.tmp 45) = z45 at *
    generalize a.eval (.tmp 46) = z46 at *
    generalize a.eval (.tmp 47) = z47 at *
    rw [HA0.out]
    simp only [Act.put, List.setIfInBounds_toArray, List.set_cons_zero, List.set_cons_succ]
    clear hz HA0 SG e0 e1 e8
    clear a a0
    refine wp_yields (v := z47) (by rfl) ?_
    dsimp only [Act.put]
    go_wp2_with (fail)
    go_ret
    exact ⟨_, rfl, k47, hB⟩
theorem ext_le (q : Nat) : ExtOk q := by
  induction q with
  | zero => intro l m whole A n c w hq hn h1 hm; omega
  | succ q ih =>
    intro l m whole A n c w hq hn h1 hm h5 hc hS hk
    by_cases e : m = n
    · cases whole
      · exact ext_top l m A n c w hn h1 hm h5 hc hS hk e
      · exact ext_whole l m A n c w hn h1 hm h5 hc hS hk e
    · by_cases hl : m ≤ half n
      · exact ext_left q ih l m whole A n c w hq hn h1 hm h5 hc hS hk e hl
      · exact ext_right q ih l m whole A n c w hq hn h1 hm h5 hc hS hk e hl
theorem ext_any (l : List Bs) (m : Nat) (whole : Bool) (A : Option Addr) (n c : Nat) (w : World) (hn : l.length = n) (h1 : 1 ≤ m) (hm : m ≤ n) (h5 : n ≤ 5000) (hc : n ≤ c) (hS : Hs w A l) (hk : Kon w) : Calls Tryd.prog 84 #[.slice A n c, .int .i64 m, .bool whole] w fun e w' => ∃ v, e = .returned v ∧ OwnHs w' w.heap.size v (extendM sha l m whole) ∧ Below w.heap.size w w' := ext_le n l m whole A n c w (Nat.le_refl _) hn h1 hm h5 hc hS hk
end Go.Proofs.YtcocengpekndjaaDoor
