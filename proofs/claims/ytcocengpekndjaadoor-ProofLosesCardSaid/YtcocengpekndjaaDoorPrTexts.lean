/- The walk over the reference's TreeTexts. -/
import Derived.Test.YtcocengpekndjaaDoorPrTree
import Derived.Test.YtcocengpekndjaaDoorPrJoint
namespace Go.Proofs.YtcocengpekndjaaDoor
open Go.RowKit
theorem treeT_len (m : Nat) : ∀ (l : List Bs), l.length ≤ m → (treeT sha l).length ≤ max 1 (2 * l.length - 1) := by
  induction m with
  | zero =>
    intro l h
    obtain rfl : l = [] := List.length_eq_zero_iff.1 (by omega)
    rw [treeT_nil]; simp
  | succ m ih =>
    intro l h
    by_cases h2 : 2 ≤ l.length
    · have hr := half_range h2
      rw [treeT_two sha h2]
      have a := ih (l.take (half l.length)) (by rw [List.length_take]; omega)
      have b := ih (l.drop (half l.length)) (by rw [List.length_drop]; omega)
      rw [List.length_take] at a
      rw [List.length_drop] at b
      simp only [List.length_append, List.length_cons, List.length_nil]
      omega
    · match l, h2 with
      | [], _ => rw [treeT_nil]; simp
      | [s], _ => rw [treeT_one]; simp
      | x :: y :: l, h2 => simp at h2
set_option maxRecDepth 100000 in
set_option maxHeartbeats 4000000 in
theorem tt_nil (A : Option Addr) (c : Nat) (w : World) : Calls Tryd.prog 50 #[wordsV, .slice A 0 c] w fun e w' => ∃ v, e = .returned v ∧ OwnStrs w' w.heap.size v (treeT sha []) ∧ Below w.heap.size w w' := by
  have hS : Strs w A [] := .inl rfl
  rw [treeT_nil]
  obtain ⟨w0, hW0⟩ : ∃ w0, (w.alloc (.cells (ints .u32 wordsL) 27)) = w0 := ⟨_, rfl⟩
  have B0 : Below w.heap.size w w0 := hW0 ▸ Below.new1 _ _
  have y2 : BoxW w0 w.heap.size := hW0 ▸ BoxW.new w
  have hS0 := hS.next B0
  have HO := Lib.hid hW0
  clear hW0 hS hS0 y2
  go_enter Tryd.func50, Tryd.ntmps50
  go_upto_region 1 with (fail)
  change Code.wp _ _ _ _ (w.alloc (.cells (ints .u32 wordsL) 27))
  rw [HO.out]
  clear HO
  go_wp2_with (fail)
  go_ret
  exact ⟨_, rfl, OwnStrs.one w0 _ [] B0.size, Below.on B0 (Below.new1 _ _)⟩
set_option maxRecDepth 100000 in
set_option maxHeartbeats 4000000 in
theorem tt_one (s : Bs) (A : Option Addr) (c : Nat) (w : World) (hsl : s.length ≤ 90000) (hS : Strs w A [s]) : Calls Tryd.prog 50 #[wordsV, .slice A 1 c] w fun e w' => ∃ v, e = .returned v ∧ OwnStrs w' w.heap.size v (treeT sha [s]) ∧ Below w.heap.size w w' := by
  rw [treeT_one]
  obtain ⟨ad, rfl⟩ : ∃ a, A = some a := by
    rcases hS with h | ⟨a, e, _⟩
    · cases h
    · exact ⟨a, e⟩
  have a0' : ∀ W, (Op.stringOp .add ⟨#[0]⟩ ⟨s.toArray⟩).run Tryd.prog W = .ok (.string ⟨(0 :: s).toArray⟩) W := fun W => s_add (P := Tryd.prog) [0] s W (by simp; omega)
  obtain ⟨w0, hW0⟩ : ∃ w0, (w.alloc (.cells (ints .u32 wordsL) 27)) = w0 := ⟨_, rfl⟩
  have B0 : Below w.heap.size w w0 := hW0 ▸ Below.new1 _ _
  have y2 : BoxW w0 w.heap.size := hW0 ▸ BoxW.new w
  have hS0 := hS.next B0
  have HO := Lib.hid hW0
  have g0 : w0.cell? (ad.add 0) = some (.string ⟨s.toArray⟩) := hS0.cell (i := 0) (by simp)
  have g1 : w0.cell? ad = some (.string ⟨s.toArray⟩) := by rw [Addr.add, if_pos rfl] at g0; exact g0
  clear hW0 hS hS0 y2
  go_enter Tryd.func50, Tryd.ntmps50
  go_upto_region 1 with (fail)
  change Code.wp _ _ _ _ (w.alloc (.cells (ints .u32 wordsL) 27))
  rw [HO.out]
  clear HO
  go_wp2_with (fail)
  go_ret
  exact ⟨_, rfl, OwnStrs.one w0 _ (0 :: s) B0.size, Below.on B0 (Below.new1 _ _)⟩
/-- What TreeTexts does with lists of at most q strings. -/
def TtOk (q : Nat) : Prop := ∀ (l : List Bs) (A : Option Addr) (n c : Nat) (w : World), n ≤ q → l.length = n → n ≤ 5000 → n ≤ c → (∀ s ∈ l, s.length ≤ 90000) → Strs w A l → Calls Tryd.prog 50 #[wordsV, .slice A n c] w fun e w' => ∃ v, e = .returned v ∧ OwnStrs w' w.heap.size v (treeT sha l) ∧ Below w.heap.size w w'
set_option maxRecDepth 100000 in
set_option maxHeartbeats 4000000 in
theorem tt_two (q : Nat) (ih : TtOk q) (l : List Bs) (A : Option Addr) (n c : Nat) (w : World) (hq : n ≤ q + 1) (hn : l.length = n) (h2 : 2 ≤ n) (h5 : n ≤ 5000) (hc : n ≤ c) (hin : ∀ s ∈ l, s.length ≤ 90000) (hS : Strs w A l) : Calls Tryd.prog 50 #[wordsV, .slice A n c] w fun e w' => ∃ v, e = .returned v ∧ OwnStrs w' w.heap.size v (treeT sha l) ∧ Below w.heap.size w w' := by
  have hr := half_range h2
  have ht := treeT_two sha (l := l) (by omega)
  rw [hn] at ht
  rw [ht]
  have l1 : (treeM sha (l.take (half n))).length = 32 := treeM_length sha sha_length _
  have l2 : (treeM sha (l.drop (half n))).length = 32 := treeM_length sha sha_length _
  have t1 := treeT_len n (l.take (half n)) (by rw [List.length_take]; omega)
  have t2 := treeT_len n (l.drop (half n)) (by rw [List.length_drop]; omega)
  rw [List.length_take] at t1
  rw [List.length_drop] at t2
  have c1 : (l.take (half n)).length = half n := by rw [List.length_take]; omega
  have c2 : (l.drop (half n)).length = n - half n := by rw [List.length_drop, hn]
  have i1 : ∀ s ∈ l.take (half n), s.length ≤ 90000 := fun s hs => hin s (List.mem_of_mem_take hs)
  have i2 : ∀ s ∈ l.drop (half n), s.length ≤ 90000 := fun s hs => hin s (List.mem_of_mem_drop hs)
  have p1 := fun W (h : Strs W A l) => rtree_any (l.take (half n)) A (half n) c W c1 (by omega) (by omega) i1 (h.take _)
  have p2 := fun W (h : Strs W A l) => rtree_any (l.drop (half n)) (cutS A c (half n)) (n - half n) (c - half n) W c2 (by omega) (by omega) i2 (h.from_ _ c (by omega))
  have p3 := fun W (h : Strs W A l) => ih (l.take (half n)) A (half n) c W (by omega) c1 (by omega) (by omega) i1 (h.take _)
  have p4 := fun W (h : Strs W A l) => ih (l.drop (half n)) (cutS A c (half n)) (n - half n) (c - half n) W (by omega) c2 (by omega) (by omega) i2 (h.from_ _ c (by omega))
  have hf := fun W => rhalf_any n W h2 (by omega)
  have HA2 : ∀ (ev : Operand → Value) (o : Oper) (W : World) (x y : Operand), o.op = .slice 57 x (some y) none none → ev x = .slice A n c → ev y = .int .i64 ((half n : Nat) : Int) → (execOp ev o).run Tryd.prog W = .ok (.value (.slice (cutS A c (half n)) (n - half n) (c - half n))) W := fun _ _ _ _ _ ho hx hy => exec_sliceS_from ho hx hy (by omega)
  generalize cutS A c (half n) = A2 at *
  generalize half n = H at *
  generalize treeM sha (l.take H) = x1 at *
  generalize treeM sha (l.drop H) = x2 at *
  generalize treeT sha (l.take H) = T1 at *
  generalize treeT sha (l.drop H) = T2 at *
  have b1 := fun W => s_add (P := Tryd.prog) [1] x1 W (by simp; omega)
  have b2 := fun W => s_add (P := Tryd.prog) (1 :: x1) x2 W (by simp; omega)
  have eb : ([1] : Bs) ++ x1 = 1 :: x1 := rfl
  simp only [eb, List.cons_append] at b1 b2
  obtain ⟨w0, hW0⟩ : ∃ w0, (w.alloc (.cells (ints .u32 wordsL) 27)) = w0 := ⟨_, rfl⟩
  have B0 : Below w.heap.size w w0 := hW0 ▸ Below.new1 _ _
  have y2 : BoxW w0 w.heap.size := hW0 ▸ BoxW.new w
  have hS0 := hS.next B0
  have HO := Lib.hid hW0
  have ne0 : ((n : Int) == 0) = false := by simp; omega
  have ne1 : ((n : Int) == 1) = false := by simp; omega
  have P1 := Lib.hid p1
  have P2 := Lib.hid p2
  have P3 := Lib.hid p3
  have P4 := Lib.hid p4
  have HF := Lib.hid hf
  have L1 := Lib.hid l1
  have L2 := Lib.hid l2
  have HB1 := Lib.hid b1
  have HB2 := Lib.hid b2
  have kc : H ≤ c := by omega
  have q1 : T1.length ≤ 100000 := by omega
  have q2 : T2.length ≤ 100000 := by omega
  have q3 : (T1 ++ T2).length ≤ 100000 := by rw [List.length_append]; omega
  clear hW0 hS p1 p2 p3 p4 hf ih ht l1 l2 hin hn t1 t2 c1 c2 i1 i2 b1 b2 eb
  go_enter Tryd.func50, Tryd.ntmps50
  go_upto_region 7 with (go_at_call 78; refine (HF.out _).mono ?_; rintro e w' ⟨rfl, rfl⟩)
  change Code.wp _ _ _ _ (w.alloc (.cells (ints .u32 wordsL) 27))
  rw [HO.out]
  clear HO
  refine wp_name fun a0 ha0 => ?_
  have e1 : a0.eval (.tmp 1) = .slice A n c := by rw [ha0]; rfl
  have e2 : a0.eval (.tmp 2) = .pointer (some ⟨w.heap.size, 0, none⟩) := by rw [ha0]; rfl
  have e5 : a0.eval (.tmp 5) = .int .i64 (H : Int) := by rw [ha0]; rfl
  have hz : a0.tmps.size = 54 := by rw [ha0]; rfl
  have HA0 := Lib.hid ha0
  clear ha0
  have SG : ∀ (d d' : Nat → Prop) (W W' : World), (fun (_ : Nat → Prop) (W : World) => Below w0.heap.size w0 W) d W → (∀ j, d j → d' j) → Below W.heap.size W W' → (fun (_ : Nat → Prop) (W : World) => Below w0.heap.size w0 W) d' W' := fun _ _ _ _ h _ b => Below.next h b
  refine wp_region_steps (InvJ [24, 25, 26, 27, 28, 29, 30, 31, 32, 33, 6, 7] a0 (fun (_ : Nat → Prop) (W : World) => Below w0.heap.size w0 W) [(⟨some 0, 24, none, fun v _ => v = wordsV⟩ : Cl), ⟨some 1, 25, none, fun v _ => v = .slice A n c⟩, ⟨some 2, 26, none, fun v _ => v = .int .i64 (H : Int)⟩, ⟨some 3, 27, none, fun v _ => v = .slice A H c⟩, ⟨some 4, 28, none, fun v _ => v = hashV x1⟩, ⟨some 5, 29, none, fun v _ => v = wordsV⟩, ⟨some 6, 30, none, fun v _ => v = .slice A n c⟩, ⟨some 7, 31, none, fun v _ => v = .int .i64 (H : Int)⟩, ⟨some 8, 32, none, fun v _ => v = .slice A2 (n - H) (c - H)⟩, ⟨some 9, 33, none, fun v _ => v = hashV x2⟩, ⟨some 10, 6, some 12, fun v W => ∃ g, v = .pointer (some ⟨g, 0, none⟩) ∧ w0.heap.size ≤ g ∧ ∃ m, BoxA W g 30 .u8 m ∧ m.length = 32⟩, ⟨some 11, 7, some 13, fun v W => ∃ g, v = .pointer (some ⟨g, 0, none⟩) ∧ w0.heap.size ≤ g ∧ ∃ m, BoxA W g 30 .u8 m ∧ m.length = 32⟩, ⟨some 12, 6, none, fun v W => ∃ g, v = .pointer (some ⟨g, 0, none⟩) ∧ w0.heap.size ≤ g ∧ BoxH W g x1⟩, ⟨some 13, 7, none, fun v W => ∃ g, v = .pointer (some ⟨g, 0, none⟩) ∧ w0.heap.size ≤ g ∧ BoxH W g x2⟩] 6 7 10 11) (by kernel_rfl) (by kernel_rfl) ⟨(Inv.start (Below.refl _ _).drew ⟨nofun, nofun, nofun, nofun, nofun, nofun, nofun, nofun, nofun, nofun, nofun, nofun, nofun, nofun, trivial⟩), fun h => h.elim⟩ ?_ ?_
  · have St : ∀ xc ∈ [(⟨some 0, 24, none, fun v _ => v = wordsV⟩ : Cl), ⟨some 1, 25, none, fun v _ => v = .slice A n c⟩, ⟨some 2, 26, none, fun v _ => v = .int .i64 (H : Int)⟩, ⟨some 3, 27, none, fun v _ => v = .slice A H c⟩, ⟨some 4, 28, none, fun v _ => v = hashV x1⟩, ⟨some 5, 29, none, fun v _ => v = wordsV⟩, ⟨some 6, 30, none, fun v _ => v = .slice A n c⟩, ⟨some 7, 31, none, fun v _ => v = .int .i64 (H : Int)⟩, ⟨some 8, 32, none, fun v _ => v = .slice A2 (n - H) (c - H)⟩, ⟨some 9, 33, none, fun v _ => v = hashV x2⟩, ⟨some 10, 6, some 12, fun v W => ∃ g, v = .pointer (some ⟨g, 0, none⟩) ∧ w0.heap.size ≤ g ∧ ∃ m, BoxA W g 30 .u8 m ∧ m.length = 32⟩, ⟨some 11, 7, some 13, fun v W => ∃ g, v = .pointer (some ⟨g, 0, none⟩) ∧ w0.heap.size ≤ g ∧ ∃ m, BoxA W g 30 .u8 m ∧ m.length = 32⟩, ⟨some 12, 6, none, fun v W => ∃ g, v = .pointer (some ⟨g, 0, none⟩) ∧ w0.heap.size ≤ g ∧ BoxH W g x1⟩, ⟨some 13, 7, none, fun v W => ∃ g, v = .pointer (some ⟨g, 0, none⟩) ∧ w0.heap.size ≤ g ∧ BoxH W g x2⟩], Lasts xc := AllC.mem ⟨lastsV0 _ _ _ _, lastsV0 _ _ _ _, lastsV0 _ _ _ _, lastsV0 _ _ _ _, lastsV0 _ _ _ _, lastsV0 _ _ _ _, lastsV0 _ _ _ _, lastsV0 _ _ _ _, lastsV0 _ _ _ _, lastsV0 _ _ _ _, (fun _ _ _ h b => by obtain ⟨g, e, h1, m, h2, h3⟩ := h; exact ⟨g, e, h1, m, h2.next b, h3⟩), (fun _ _ _ h b => by obtain ⟨g, e, h1, m, h2, h3⟩ := h; exact ⟨g, e, h1, m, h2.next b, h3⟩), (fun _ _ _ h b => by obtain ⟨g, e, h1, h2⟩ := h; exact ⟨g, e, h1, BoxA.next h2 b⟩), (fun _ _ _ h b => by obtain ⟨g, e, h1, h2⟩ := h; exact ⟨g, e, h1, BoxA.next h2 b⟩), trivial⟩
    clear HA0
    refine ⟨?_, ?_, ?_, ?_, ?_, ?_, ?_, ?_, ?_, ?_, ?_, ?_, ?_, ?_, trivial⟩
    · refine stepJ (by decide) (by decide) (by decide) (by decide) ?_
      refine stepB rfl rfl (by decide) (by rw [hz]; decide) rfl rfl (by kernel_rfl) St SG fun d a W hF hG hH hn hcl hw => ?_
      have q2 := (hF.same 2 (by decide)).trans e2
      refine ⟨wordsV, W, ?_, Below.refl _ _, ?_⟩
      · exact exec_load rfl (by rw [q2]; exact BoxW.load (BoxA.next y2 hG))
      · rfl
    · refine stepJ (by decide) (by decide) (by decide) (by decide) ?_
      refine stepB rfl rfl (by decide) (by rw [hz]; decide) rfl rfl (by kernel_rfl) St SG fun d a W hF hG hH hn hcl hw => ?_
      have q1 := (hF.same 1 (by decide)).trans e1
      refine ⟨.slice A n c, W, ?_, Below.refl _ _, ?_⟩
      · clear hF hG hH hn hcl hw
        generalize a.eval = ρ at *
        go_simp
      · rfl
    · refine stepJ (by decide) (by decide) (by decide) (by decide) ?_
      refine stepB rfl rfl (by decide) (by rw [hz]; decide) rfl rfl (by kernel_rfl) St SG fun d a W hF hG hH hn hcl hw => ?_
      have q5 := (hF.same 5 (by decide)).trans e5
      refine ⟨.int .i64 (H : Int), W, ?_, Below.refl _ _, ?_⟩
      · clear hF hG hH hn hcl hw
        generalize a.eval = ρ at *
        go_simp
      · rfl
    · refine stepJ (by decide) (by decide) (by decide) (by decide) ?_
      refine stepB rfl rfl (by decide) (by rw [hz]; decide) rfl rfl (by kernel_rfl) St SG fun d a W hF hG hH hn hcl hw => ?_
      have q25 : a.eval (.tmp 25) = .slice A n c := hH.at_ (i := 1) rfl (hw 1 rfl) id
      have q26 : a.eval (.tmp 26) = .int .i64 (H : Int) := hH.at_ (i := 2) rfl (hw 2 rfl) id
      refine ⟨.slice A H c, W, ?_, Below.refl _ _, ?_⟩
      · exact exec_sliceS_to rfl q25 q26 kc
      · rfl
    · refine stepJ (by decide) (by decide) (by decide) (by decide) ?_
      refine stepC rfl rfl (by decide) (by rw [hz]; decide) rfl rfl (by kernel_rfl) St SG fun d a W hF hG hH hn hcl hw => ?_
      have q24 : a.eval (.tmp 24) = wordsV := hH.at_ (i := 0) rfl (hw 0 rfl) id
      have q27 : a.eval (.tmp 27) = .slice A H c := hH.at_ (i := 3) rfl (hw 3 rfl) id
      have qf : a.eval (.func 33) = .func (.func 33) #[] #[] := rfl
      refine ⟨33, #[wordsV, .slice A H c], ?_, ?_⟩
      · clear hF hG hH hn hcl hw
        generalize a.eval = ρ at *
        go_simp
      · refine (P1.out W (hS0.next hG)).mono ?_; rintro e W' ⟨rfl, b⟩; exact ⟨_, rfl, b, rfl⟩
    · refine stepJ (by decide) (by decide) (by decide) (by decide) ?_
      refine stepB rfl rfl (by decide) (by rw [hz]; decide) rfl rfl (by kernel_rfl) St SG fun d a W hF hG hH hn hcl hw => ?_
      have q2 := (hF.same 2 (by decide)).trans e2
      refine ⟨wordsV, W, ?_, Below.refl _ _, ?_⟩
      · exact exec_load rfl (by rw [q2]; exact BoxW.load (BoxA.next y2 hG))
      · rfl
    · refine stepJ (by decide) (by decide) (by decide) (by decide) ?_
      refine stepB rfl rfl (by decide) (by rw [hz]; decide) rfl rfl (by kernel_rfl) St SG fun d a W hF hG hH hn hcl hw => ?_
      have q1 := (hF.same 1 (by decide)).trans e1
      refine ⟨.slice A n c, W, ?_, Below.refl _ _, ?_⟩
      · clear hF hG hH hn hcl hw
        generalize a.eval = ρ at *
        go_simp
      · rfl
    · refine stepJ (by decide) (by decide) (by decide) (by decide) ?_
      refine stepB rfl rfl (by decide) (by rw [hz]; decide) rfl rfl (by kernel_rfl) St SG fun d a W hF hG hH hn hcl hw => ?_
      have q5 := (hF.same 5 (by decide)).trans e5
      refine ⟨.int .i64 (H : Int), W, ?_, Below.refl _ _, ?_⟩
      · clear hF hG hH hn hcl hw
        generalize a.eval = ρ at *
        go_simp
      · rfl
    · refine stepJ (by decide) (by decide) (by decide) (by decide) ?_
      refine stepB rfl rfl (by decide) (by rw [hz]; decide) rfl rfl (by kernel_rfl) St SG fun d a W hF hG hH hn hcl hw => ?_
      have q30 : a.eval (.tmp 30) = .slice A n c := hH.at_ (i := 6) rfl (hw 6 rfl) id
      have q31 : a.eval (.tmp 31) = .int .i64 (H : Int) := hH.at_ (i := 7) rfl (hw 7 rfl) id
      refine ⟨.slice A2 (n - H) (c - H), W, ?_, Below.refl _ _, ?_⟩
      · exact HA2 _ _ W _ _ rfl q30 q31
      · rfl
    · refine stepJ (by decide) (by decide) (by decide) (by decide) ?_
      refine stepC rfl rfl (by decide) (by rw [hz]; decide) rfl rfl (by kernel_rfl) St SG fun d a W hF hG hH hn hcl hw => ?_
      have q29 : a.eval (.tmp 29) = wordsV := hH.at_ (i := 5) rfl (hw 5 rfl) id
      have q32 : a.eval (.tmp 32) = .slice A2 (n - H) (c - H) := hH.at_ (i := 8) rfl (hw 8 rfl) id
      have qf : a.eval (.func 33) = .func (.func 33) #[] #[] := rfl
      refine ⟨33, #[wordsV, .slice A2 (n - H) (c - H)], ?_, ?_⟩
      · clear hF hG hH hn hcl hw
        generalize a.eval = ρ at *
        go_simp
      · refine (P2.out W (hS0.next hG)).mono ?_; rintro e W' ⟨rfl, b⟩; exact ⟨_, rfl, b, rfl⟩
    · refine stepBJ (u := 7) (m := 11) rfl rfl (by decide) (by rw [hz]; decide) rfl rfl (by kernel_rfl) St SG (by decide) (by decide) fun d a W hF hG hH hn hcl hw => ?_
      refine ⟨.pointer (some ⟨W.heap.size, 0, none⟩), W.alloc (.cells (ints .u8 (List.replicate 32 0)) 30), ?_, Below.new1 W _, ?_, fun hm e => ?_⟩
      · (clear hF hG hH hn hcl hw; generalize a.eval = ρ at *; go_simp; rfl)
      · exact ⟨_, rfl, hG.size, _, BoxA.new W _ _ _ _ rfl, by simp⟩
      · by_cases hst : d 13
        · have q : ∃ g, a.eval (.tmp 7) = .pointer (some ⟨g, 0, none⟩) ∧ w0.heap.size ≤ g ∧ BoxH W g x2 := hH.at_ (i := 13) rfl hst id
          obtain ⟨g, e2, _, hb⟩ := q
          rw [e2] at e
          simp only [Value.pointer.injEq, Option.some.injEq, Addr.mk.injEq, and_true] at e
          exact absurd (BoxA.lt hb) (by rw [← e]; exact Nat.lt_irrefl _)
        · have q : ∃ g, a.eval (.tmp 7) = .pointer (some ⟨g, 0, none⟩) ∧ w0.heap.size ≤ g ∧ ∃ m, BoxA W g 30 .u8 m ∧ m.length = 32 := hH.at_ (i := 11) rfl hm (fun h => hst h)
          obtain ⟨g, e2, _, m, hb, _⟩ := q
          rw [e2] at e
          simp only [Value.pointer.injEq, Option.some.injEq, Addr.mk.injEq, and_true] at e
          exact absurd (BoxA.lt hb) (by rw [← e]; exact Nat.lt_irrefl _)
    · refine stepFlip ?_
      refine stepBJ (u := 6) (m := 10) rfl rfl (by decide) (by rw [hz]; decide) rfl rfl (by kernel_rfl) St SG (by decide) (by decide) fun d a W hF hG hH hn hcl hw => ?_
      refine ⟨.pointer (some ⟨W.heap.size, 0, none⟩), W.alloc (.cells (ints .u8 (List.replicate 32 0)) 30), ?_, Below.new1 W _, ?_, fun hm e => ?_⟩
      · (clear hF hG hH hn hcl hw; generalize a.eval = ρ at *; go_simp; rfl)
      · exact ⟨_, rfl, hG.size, _, BoxA.new W _ _ _ _ rfl, by simp⟩
      · by_cases hst : d 12
        · have q : ∃ g, a.eval (.tmp 6) = .pointer (some ⟨g, 0, none⟩) ∧ w0.heap.size ≤ g ∧ BoxH W g x1 := hH.at_ (i := 12) rfl hst id
          obtain ⟨g, e2, _, hb⟩ := q
          rw [e2] at e
          simp only [Value.pointer.injEq, Option.some.injEq, Addr.mk.injEq, and_true] at e
          exact absurd (BoxA.lt hb) (by rw [← e]; exact Nat.lt_irrefl _)
        · have q : ∃ g, a.eval (.tmp 6) = .pointer (some ⟨g, 0, none⟩) ∧ w0.heap.size ≤ g ∧ ∃ m, BoxA W g 30 .u8 m ∧ m.length = 32 := hH.at_ (i := 10) rfl hm (fun h => hst h)
          obtain ⟨g, e2, _, m, hb, _⟩ := q
          rw [e2] at e
          simp only [Value.pointer.injEq, Option.some.injEq, Addr.mk.injEq, and_true] at e
          exact absurd (BoxA.lt hb) (by rw [← e]; exact Nat.lt_irrefl _)
    · refine stepNJ (i := 10) (m := 11) 6 7 (.tmp 28) rfl rfl rfl rfl rfl x1 L1.out (w0.heap.size) (by decide) (by decide) rfl (fun g W hg h => ⟨g, rfl, hg, h⟩) (AllC.mem ⟨.inr (.inr (.inl fun _ _ _ _ h => h)), .inr (.inr (.inl fun _ _ _ _ h => h)), .inr (.inr (.inl fun _ _ _ _ h => h)), .inr (.inr (.inl fun _ _ _ _ h => h)), .inr (.inr (.inl fun _ _ _ _ h => h)), .inr (.inr (.inl fun _ _ _ _ h => h)), .inr (.inr (.inl fun _ _ _ _ h => h)), .inr (.inr (.inl fun _ _ _ _ h => h)), .inr (.inr (.inl fun _ _ _ _ h => h)), .inr (.inr (.inl fun _ _ _ _ h => h)), .inr (.inl rfl), .inr (.inr (.inr ⟨rfl, fun _ _ h => h, fun x W g cs hx h => by obtain ⟨g2, e, h1, m, h2, h3⟩ := h; exact ⟨g2, e, h1, m, BoxA.farRow h2 (fun q => hx (by rw [e, q])) _, h3⟩⟩)), .inl rfl, .inr (.inr (.inr ⟨rfl, fun d hcl h => hcl 13 _ 11 rfl rfl h, fun x W g cs hx h => by obtain ⟨g2, e, h1, h2⟩ := h; exact ⟨g2, e, h1, BoxA.farRow h2 (fun q => hx (by rw [e, q])) _⟩⟩)), trivial⟩) (fun d d' W g hg h _ => below_setRow h hg _) fun d a W hF hG hH hn hcl hw => ?_
      have qy : a.eval (.tmp 28) = hashV x1 := hH.at_ (i := 4) rfl (hw 4 rfl) id
      exact ⟨qy, hH.at_ (i := 10) rfl (hw 10 rfl) hn⟩
    · refine stepFlip ?_
      refine stepNJ (i := 11) (m := 10) 7 6 (.tmp 33) rfl rfl rfl rfl rfl x2 L2.out (w0.heap.size) (by decide) (by decide) rfl (fun g W hg h => ⟨g, rfl, hg, h⟩) (AllC.mem ⟨.inr (.inr (.inl fun _ _ _ _ h => h)), .inr (.inr (.inl fun _ _ _ _ h => h)), .inr (.inr (.inl fun _ _ _ _ h => h)), .inr (.inr (.inl fun _ _ _ _ h => h)), .inr (.inr (.inl fun _ _ _ _ h => h)), .inr (.inr (.inl fun _ _ _ _ h => h)), .inr (.inr (.inl fun _ _ _ _ h => h)), .inr (.inr (.inl fun _ _ _ _ h => h)), .inr (.inr (.inl fun _ _ _ _ h => h)), .inr (.inr (.inl fun _ _ _ _ h => h)), .inr (.inr (.inr ⟨rfl, fun _ _ h => h, fun x W g cs hx h => by obtain ⟨g2, e, h1, m, h2, h3⟩ := h; exact ⟨g2, e, h1, m, BoxA.farRow h2 (fun q => hx (by rw [e, q])) _, h3⟩⟩)), .inr (.inl rfl), .inr (.inr (.inr ⟨rfl, fun d hcl h => hcl 12 _ 10 rfl rfl h, fun x W g cs hx h => by obtain ⟨g2, e, h1, h2⟩ := h; exact ⟨g2, e, h1, BoxA.farRow h2 (fun q => hx (by rw [e, q])) _⟩⟩)), .inl rfl, trivial⟩) (fun d d' W g hg h _ => below_setRow h hg _) fun d a W hF hG hH hn hcl hw => ?_
      have qy : a.eval (.tmp 33) = hashV x2 := hH.at_ (i := 9) rfl (hw 9 rfl) id
      exact ⟨qy, hH.at_ (i := 11) rfl (hw 11 rfl) hn⟩
  · intro d a W ⟨⟨hF, hB, hH⟩, hJ⟩ hall
    have s12 : ∃ g, a.eval (.tmp 6) = .pointer (some ⟨g, 0, none⟩) ∧ w0.heap.size ≤ g ∧ BoxH W g x1 := hH.at_ (i := 12) rfl (hall 12 (by decide)) id
    have s13 : ∃ g, a.eval (.tmp 7) = .pointer (some ⟨g, 0, none⟩) ∧ w0.heap.size ≤ g ∧ BoxH W g x2 := hH.at_ (i := 13) rfl (hall 13 (by decide)) id
    clear hH hall hJ
    rw [hF.shape (by rw [hz]; decide)]
    clear hF
    simp only [List.foldl]
    generalize a.eval (.tmp 24) = z24 at *
    generalize a.eval (.tmp 25) = z25 at *
    generalize a.eval (.tmp 26) = z26 at *
    generalize a.eval (.tmp 27) = z27 at *
    generalize a.eval (.tmp 28) = z28 at *
    generalize a.eval (.tmp 29) = z29 at *
    generalize a.eval (.tmp 30) = z30 at *
    generalize a.eval (.tmp 31) = z31 at *
    generalize a.eval (.tmp 32) = z32 at *
    generalize a.eval (.tmp 33) = z33 at *
    generalize a.eval (.tmp 6) = z6 at *
    generalize a.eval (.tmp 7) = z7 at *
    rw [HA0.out]
    simp only [Act.put, List.setIfInBounds_toArray, List.set_cons_zero, List.set_cons_succ]
    clear hz HA0 SG e1 e2 e5
    clear a a0
    obtain ⟨g6, rfl, hg6, y6⟩ := s12
    obtain ⟨g7, rfl, hg7, y7⟩ := s13
    have BB := Below.on B0 hB
    have z2 : BoxW W w.heap.size := BoxA.next y2 hB
    have hS1 := hS0.next hB
    clear hS0 y2 hB P1 P2 B0
    generalize W = w1 at *
    go_upto_region 8 with (fail)
    refine wp_name fun a0 ha0 => ?_
    have e1 : a0.eval (.tmp 1) = .slice A n c := by rw [ha0]; rfl
    have e2 : a0.eval (.tmp 2) = .pointer (some ⟨w.heap.size, 0, none⟩) := by rw [ha0]; rfl
    have e5 : a0.eval (.tmp 5) = .int .i64 (H : Int) := by rw [ha0]; rfl
    have e6 : a0.eval (.tmp 6) = .pointer (some ⟨g6, 0, none⟩) := by rw [ha0]; rfl
    have e7 : a0.eval (.tmp 7) = .pointer (some ⟨g7, 0, none⟩) := by rw [ha0]; rfl
    have hz : a0.tmps.size = 54 := by rw [ha0]; rfl
    have HA0 := Lib.hid ha0
    clear ha0
    have SG : ∀ (d d' : Nat → Prop) (W W' : World), (fun (_ : Nat → Prop) (W : World) => Below w1.heap.size w1 W) d W → (∀ j, d j → d' j) → Below W.heap.size W W' → (fun (_ : Nat → Prop) (W : World) => Below w1.heap.size w1 W) d' W' := fun _ _ _ _ h _ b => Below.next h b
    refine wp_region_lastly2 10 _ _ (Inv [34, 35, 36, 37, 38, 39, 40, 41, 42, 43] a0 (fun (_ : Nat → Prop) (W : World) => Below w1.heap.size w1 W) [(⟨some 0, 34, none, fun v _ => v = wordsV⟩ : Cl), ⟨some 1, 35, none, fun v _ => v = .slice A n c⟩, ⟨some 2, 36, none, fun v _ => v = .int .i64 (H : Int)⟩, ⟨some 3, 37, none, fun v _ => v = .slice A H c⟩, ⟨some 4, 38, none, fun v W => OwnStrs W w1.heap.size v T1⟩, ⟨some 5, 39, none, fun v _ => v = wordsV⟩, ⟨some 6, 40, none, fun v _ => v = .slice A n c⟩, ⟨some 7, 41, none, fun v _ => v = .int .i64 (H : Int)⟩, ⟨some 8, 42, none, fun v _ => v = .slice A2 (n - H) (c - H)⟩, ⟨some 9, 43, none, fun v W => OwnStrs W w1.heap.size v T2⟩]) (by kernel_rfl) (by kernel_rfl) rfl rfl rfl (fun d hcl hw j hj => ?_) (by kernel_rfl) rfl rfl (Inv.start (Below.refl _ _).drew ⟨nofun, nofun, nofun, nofun, nofun, nofun, nofun, nofun, nofun, nofun, trivial⟩) ?_ ?_
    · have r4 := hw 4 rfl
      have r9 := hw 9 rfl
      have r5 := hcl 9 _ 5 rfl rfl r9
      have r8 := hcl 9 _ 8 rfl rfl r9
      have r6 := hcl 8 _ 6 rfl rfl r8
      have r7 := hcl 8 _ 7 rfl rfl r8
      have r0 := hcl 4 _ 0 rfl rfl r4
      have r3 := hcl 4 _ 3 rfl rfl r4
      have r1 := hcl 3 _ 1 rfl rfl r3
      have r2 := hcl 3 _ 2 rfl rfl r3
      match j, hj with
      | 0, _ => exact r0
      | 1, _ => exact r1
      | 2, _ => exact r2
      | 3, _ => exact r3
      | 4, _ => exact r4
      | 5, _ => exact r5
      | 6, _ => exact r6
      | 7, _ => exact r7
      | 8, _ => exact r8
      | 9, _ => exact r9
      | j + 10, h => exact absurd h (by omega)
    · have St : ∀ xc ∈ [(⟨some 0, 34, none, fun v _ => v = wordsV⟩ : Cl), ⟨some 1, 35, none, fun v _ => v = .slice A n c⟩, ⟨some 2, 36, none, fun v _ => v = .int .i64 (H : Int)⟩, ⟨some 3, 37, none, fun v _ => v = .slice A H c⟩, ⟨some 4, 38, none, fun v W => OwnStrs W w1.heap.size v T1⟩, ⟨some 5, 39, none, fun v _ => v = wordsV⟩, ⟨some 6, 40, none, fun v _ => v = .slice A n c⟩, ⟨some 7, 41, none, fun v _ => v = .int .i64 (H : Int)⟩, ⟨some 8, 42, none, fun v _ => v = .slice A2 (n - H) (c - H)⟩, ⟨some 9, 43, none, fun v W => OwnStrs W w1.heap.size v T2⟩], Lasts xc := AllC.mem ⟨lastsV0 _ _ _ _, lastsV0 _ _ _ _, lastsV0 _ _ _ _, lastsV0 _ _ _ _, (fun _ _ _ h b => h.next b), lastsV0 _ _ _ _, lastsV0 _ _ _ _, lastsV0 _ _ _ _, lastsV0 _ _ _ _, (fun _ _ _ h b => h.next b), trivial⟩
      clear HA0
      refine ⟨?_, ?_, ?_, ?_, ?_, ?_, ?_, ?_, ?_, ?_, trivial⟩
      · refine stepB rfl rfl (by decide) (by rw [hz]; decide) rfl rfl (by kernel_rfl) St SG fun d a W hF hG hH hn hcl hw => ?_
        have q2 := (hF.same 2 (by decide)).trans e2
        refine ⟨wordsV, W, ?_, Below.refl _ _, ?_⟩
        · exact exec_load rfl (by rw [q2]; exact BoxW.load (BoxA.next z2 hG))
        · rfl
      · refine stepB rfl rfl (by decide) (by rw [hz]; decide) rfl rfl (by kernel_rfl) St SG fun d a W hF hG hH hn hcl hw => ?_
        have q1 := (hF.same 1 (by decide)).trans e1
        refine ⟨.slice A n c, W, ?_, Below.refl _ _, ?_⟩
        · clear hF hG hH hn hcl hw
          generalize a.eval = ρ at *
          go_simp
        · rfl
      · refine stepB rfl rfl (by decide) (by rw [hz]; decide) rfl rfl (by kernel_rfl) St SG fun d a W hF hG hH hn hcl hw => ?_
        have q5 := (hF.same 5 (by decide)).trans e5
        refine ⟨.int .i64 (H : Int), W, ?_, Below.refl _ _, ?_⟩
        · clear hF hG hH hn hcl hw
          generalize a.eval = ρ at *
          go_simp
        · rfl
      · refine stepB rfl rfl (by decide) (by rw [hz]; decide) rfl rfl (by kernel_rfl) St SG fun d a W hF hG hH hn hcl hw => ?_
        have q35 : a.eval (.tmp 35) = .slice A n c := hH.at_ (i := 1) rfl (hw 1 rfl) id
        have q36 : a.eval (.tmp 36) = .int .i64 (H : Int) := hH.at_ (i := 2) rfl (hw 2 rfl) id
        refine ⟨.slice A H c, W, ?_, Below.refl _ _, ?_⟩
        · exact exec_sliceS_to rfl q35 q36 kc
        · rfl
      · refine stepC rfl rfl (by decide) (by rw [hz]; decide) rfl rfl (by kernel_rfl) St SG fun d a W hF hG hH hn hcl hw => ?_
        have q34 : a.eval (.tmp 34) = wordsV := hH.at_ (i := 0) rfl (hw 0 rfl) id
        have q37 : a.eval (.tmp 37) = .slice A H c := hH.at_ (i := 3) rfl (hw 3 rfl) id
        have qf : a.eval (.func 50) = .func (.func 50) #[] #[] := rfl
        refine ⟨50, #[wordsV, .slice A H c], ?_, ?_⟩
        · clear hF hG hH hn hcl hw
          generalize a.eval = ρ at *
          go_simp
        · refine (P3.out W (hS1.next hG)).mono ?_; rintro e W' ⟨v, rfl, hO, b⟩; exact ⟨v, rfl, b, hO.mono (by have := hG.size; omega)⟩
      · refine stepB rfl rfl (by decide) (by rw [hz]; decide) rfl rfl (by kernel_rfl) St SG fun d a W hF hG hH hn hcl hw => ?_
        have q2 := (hF.same 2 (by decide)).trans e2
        refine ⟨wordsV, W, ?_, Below.refl _ _, ?_⟩
        · exact exec_load rfl (by rw [q2]; exact BoxW.load (BoxA.next z2 hG))
        · rfl
      · refine stepB rfl rfl (by decide) (by rw [hz]; decide) rfl rfl (by kernel_rfl) St SG fun d a W hF hG hH hn hcl hw => ?_
        have q1 := (hF.same 1 (by decide)).trans e1
        refine ⟨.slice A n c, W, ?_, Below.refl _ _, ?_⟩
        · clear hF hG hH hn hcl hw
          generalize a.eval = ρ at *
          go_simp
        · rfl
      · refine stepB rfl rfl (by decide) (by rw [hz]; decide) rfl rfl (by kernel_rfl) St SG fun d a W hF hG hH hn hcl hw => ?_
        have q5 := (hF.same 5 (by decide)).trans e5
        refine ⟨.int .i64 (H : Int), W, ?_, Below.refl _ _, ?_⟩
        · clear hF hG hH hn hcl hw
          generalize a.eval = ρ at *
          go_simp
        · rfl
      · refine stepB rfl rfl (by decide) (by rw [hz]; decide) rfl rfl (by kernel_rfl) St SG fun d a W hF hG hH hn hcl hw => ?_
        have q40 : a.eval (.tmp 40) = .slice A n c := hH.at_ (i := 6) rfl (hw 6 rfl) id
        have q41 : a.eval (.tmp 41) = .int .i64 (H : Int) := hH.at_ (i := 7) rfl (hw 7 rfl) id
        refine ⟨.slice A2 (n - H) (c - H), W, ?_, Below.refl _ _, ?_⟩
        · exact HA2 _ _ W _ _ rfl q40 q41
        · rfl
      · refine stepC rfl rfl (by decide) (by rw [hz]; decide) rfl rfl (by kernel_rfl) St SG fun d a W hF hG hH hn hcl hw => ?_
        have q39 : a.eval (.tmp 39) = wordsV := hH.at_ (i := 5) rfl (hw 5 rfl) id
        have q42 : a.eval (.tmp 42) = .slice A2 (n - H) (c - H) := hH.at_ (i := 8) rfl (hw 8 rfl) id
        have qf : a.eval (.func 50) = .func (.func 50) #[] #[] := rfl
        refine ⟨50, #[wordsV, .slice A2 (n - H) (c - H)], ?_, ?_⟩
        · clear hF hG hH hn hcl hw
          generalize a.eval = ρ at *
          go_simp
        · refine (P4.out W (hS1.next hG)).mono ?_; rintro e W' ⟨v, rfl, hO, b⟩; exact ⟨v, rfl, b, hO.mono (by have := hG.size; omega)⟩
    · intro d a W ⟨hF, hB, hH⟩ hall
      have k38 : OwnStrs W w1.heap.size (a.eval (.tmp 38)) T1 := hH.at_ (i := 4) rfl (hall 4 (by decide)) id
      have k43 : OwnStrs W w1.heap.size (a.eval (.tmp 43)) T2 := hH.at_ (i := 9) rfl (hall 9 (by decide)) id
      clear hH hall
      rw [hF.shape (by rw [hz]; decide)]
      clear hF
      simp only [List.foldl]
      generalize a.eval (.tmp 34) = z34 at *
      generalize a.eval (.tmp 35) = z35 at *
      generalize a.eval (.tmp 36) = z36 at *
      generalize a.eval (.tmp 37) = z37 at *
      generalize a.eval (.tmp 38) = z38 at *
      generalize a.eval (.tmp 39) = z39 at *
      generalize a.eval (.tmp 40) = z40 at *
      generalize a.eval (.tmp 41) = z41 at *
      generalize a.eval (.tmp 42) = z42 at *
      generalize a.eval (.tmp 43) = z43 at *
      rw [HA0.out]
      simp only [Act.put, List.setIfInBounds_toArray, List.set_cons_zero, List.set_cons_succ]
      clear hz HA0 SG e1 e2 e5 e6 e7
      clear a a0
      refine wp_append_strs (.tmp 38) (.tmp 43) rfl w1.heap.size w1.heap.size _ _ T1 T2 rfl rfl k38 k43 q1 q2 hB.size (fun z8 w3 hO b3 => ?_)
      refine wp_yields (v := z8) (by rfl) ?_
      dsimp only [Act.put]
      have B3 := hB.trans b3
      have BB3 := Below.on BB B3
      have y6' := BoxA.next y6 B3
      have y7' := BoxA.next y7 B3
      have bs := BB.size
      clear k38 k43 hB b3 z2 hS1 P3 P4 y6 y7
      go_upto_region 9 with (fail)
      refine wp_name fun a0 ha0 => ?_
      have e6 : a0.eval (.tmp 6) = .pointer (some ⟨g6, 0, none⟩) := by rw [ha0]; rfl
      have e7 : a0.eval (.tmp 7) = .pointer (some ⟨g7, 0, none⟩) := by rw [ha0]; rfl
      have e8 : a0.eval (.tmp 8) = z8 := by rw [ha0]; rfl
      have hz : a0.tmps.size = 54 := by rw [ha0]; rfl
      have HA0 := Lib.hid ha0
      clear ha0
      have SG : ∀ (d d' : Nat → Prop) (W W' : World), (fun (_ : Nat → Prop) (W : World) => Below w3.heap.size w3 W) d W → (∀ j, d j → d' j) → Below W.heap.size W W' → (fun (_ : Nat → Prop) (W : World) => Below w3.heap.size w3 W) d' W' := fun _ _ _ _ h _ b => Below.next h b
      refine wp_region_lastly2 8 _ _ (Inv [45, 46, 47, 48, 49, 50, 51, 52] a0 (fun (_ : Nat → Prop) (W : World) => Below w3.heap.size w3 W) [(⟨some 0, 45, none, fun v _ => v = z8⟩ : Cl), ⟨some 1, 46, none, fun v _ => v = .slice (some ⟨g6, 0, none⟩) 32 32⟩, ⟨some 2, 47, none, fun v _ => v = .string ⟨x1.toArray⟩⟩, ⟨some 3, 48, none, fun v _ => v = .string ⟨(1 :: x1).toArray⟩⟩, ⟨some 4, 49, none, fun v _ => v = .slice (some ⟨g7, 0, none⟩) 32 32⟩, ⟨some 5, 50, none, fun v _ => v = .string ⟨x2.toArray⟩⟩, ⟨some 6, 51, none, fun v _ => v = .string ⟨(1 :: (x1 ++ x2)).toArray⟩⟩, ⟨some 7, 52, none, fun v W => OwnStrs W w3.heap.size v [1 :: (x1 ++ x2)]⟩]) (by kernel_rfl) (by kernel_rfl) rfl rfl rfl (fun d hcl hw j hj => ?_) (by kernel_rfl) rfl rfl (Inv.start (Below.refl _ _).drew ⟨nofun, nofun, nofun, nofun, nofun, nofun, nofun, nofun, trivial⟩) ?_ ?_
      · have r0 := hw 0 rfl
        have r7 := hw 7 rfl
        have r6 := hcl 7 _ 6 rfl rfl r7
        have r3 := hcl 6 _ 3 rfl rfl r6
        have r5 := hcl 6 _ 5 rfl rfl r6
        have r4 := hcl 5 _ 4 rfl rfl r5
        have r2 := hcl 3 _ 2 rfl rfl r3
        have r1 := hcl 2 _ 1 rfl rfl r2
        match j, hj with
        | 0, _ => exact r0
        | 1, _ => exact r1
        | 2, _ => exact r2
        | 3, _ => exact r3
        | 4, _ => exact r4
        | 5, _ => exact r5
        | 6, _ => exact r6
        | 7, _ => exact r7
        | j + 8, h => exact absurd h (by omega)
      · have St : ∀ xc ∈ [(⟨some 0, 45, none, fun v _ => v = z8⟩ : Cl), ⟨some 1, 46, none, fun v _ => v = .slice (some ⟨g6, 0, none⟩) 32 32⟩, ⟨some 2, 47, none, fun v _ => v = .string ⟨x1.toArray⟩⟩, ⟨some 3, 48, none, fun v _ => v = .string ⟨(1 :: x1).toArray⟩⟩, ⟨some 4, 49, none, fun v _ => v = .slice (some ⟨g7, 0, none⟩) 32 32⟩, ⟨some 5, 50, none, fun v _ => v = .string ⟨x2.toArray⟩⟩, ⟨some 6, 51, none, fun v _ => v = .string ⟨(1 :: (x1 ++ x2)).toArray⟩⟩, ⟨some 7, 52, none, fun v W => OwnStrs W w3.heap.size v [1 :: (x1 ++ x2)]⟩], Lasts xc := AllC.mem ⟨lastsV0 _ _ _ _, lastsV0 _ _ _ _, lastsV0 _ _ _ _, lastsV0 _ _ _ _, lastsV0 _ _ _ _, lastsV0 _ _ _ _, lastsV0 _ _ _ _, (fun _ _ _ h b => h.next b), trivial⟩
        clear HA0
        refine ⟨?_, ?_, ?_, ?_, ?_, ?_, ?_, ?_, trivial⟩
        · refine stepB rfl rfl (by decide) (by rw [hz]; decide) rfl rfl (by kernel_rfl) St SG fun d a W hF hG hH hn hcl hw => ?_
          have q8 := (hF.same 8 (by decide)).trans e8
          refine ⟨z8, W, ?_, Below.refl _ _, ?_⟩
          · clear hF hG hH hn hcl hw
            generalize a.eval = ρ at *
            go_simp
          · rfl
        · refine stepB rfl rfl (by decide) (by rw [hz]; decide) rfl rfl (by kernel_rfl) St SG fun d a W hF hG hH hn hcl hw => ?_
          have q6 := (hF.same 6 (by decide)).trans e6
          refine ⟨.slice (some ⟨g6, 0, none⟩) 32 32, W, ?_, Below.refl _ _, ?_⟩
          · clear hF hG hH hn hcl hw
            generalize a.eval = ρ at *
            go_simp
          · rfl
        · refine stepB rfl rfl (by decide) (by rw [hz]; decide) rfl rfl (by kernel_rfl) St SG fun d a W hF hG hH hn hcl hw => ?_
          have q46 : a.eval (.tmp 46) = .slice (some ⟨g6, 0, none⟩) 32 32 := hH.at_ (i := 1) rfl (hw 1 rfl) id
          have r := BoxH.text (BoxA.next y6' hG) L1.out 32
          refine ⟨.string ⟨x1.toArray⟩, W, ?_, Below.refl _ _, ?_⟩
          · clear hF hG hH hn hcl hw
            generalize a.eval = ρ at *
            go_simp
          · rfl
        · refine stepB rfl rfl (by decide) (by rw [hz]; decide) rfl rfl (by kernel_rfl) St SG fun d a W hF hG hH hn hcl hw => ?_
          have q47 : a.eval (.tmp 47) = .string ⟨x1.toArray⟩ := hH.at_ (i := 2) rfl (hw 2 rfl) id
          have r := HB1.out W
          have qs : a.eval (.const (.string ⟨#[1]⟩)) = .string ⟨#[1]⟩ := rfl
          refine ⟨.string ⟨(1 :: x1).toArray⟩, W, ?_, Below.refl _ _, ?_⟩
          · clear hF hG hH hn hcl hw
            generalize a.eval = ρ at *
            go_simp
          · rfl
        · refine stepB rfl rfl (by decide) (by rw [hz]; decide) rfl rfl (by kernel_rfl) St SG fun d a W hF hG hH hn hcl hw => ?_
          have q7 := (hF.same 7 (by decide)).trans e7
          refine ⟨.slice (some ⟨g7, 0, none⟩) 32 32, W, ?_, Below.refl _ _, ?_⟩
          · clear hF hG hH hn hcl hw
            generalize a.eval = ρ at *
            go_simp
          · rfl
        · refine stepB rfl rfl (by decide) (by rw [hz]; decide) rfl rfl (by kernel_rfl) St SG fun d a W hF hG hH hn hcl hw => ?_
          have q49 : a.eval (.tmp 49) = .slice (some ⟨g7, 0, none⟩) 32 32 := hH.at_ (i := 4) rfl (hw 4 rfl) id
          have r := BoxH.text (BoxA.next y7' hG) L2.out 32
          refine ⟨.string ⟨x2.toArray⟩, W, ?_, Below.refl _ _, ?_⟩
          · clear hF hG hH hn hcl hw
            generalize a.eval = ρ at *
            go_simp
          · rfl
        · refine stepB rfl rfl (by decide) (by rw [hz]; decide) rfl rfl (by kernel_rfl) St SG fun d a W hF hG hH hn hcl hw => ?_
          have q48 : a.eval (.tmp 48) = .string ⟨(1 :: x1).toArray⟩ := hH.at_ (i := 3) rfl (hw 3 rfl) id
          have q50 : a.eval (.tmp 50) = .string ⟨x2.toArray⟩ := hH.at_ (i := 5) rfl (hw 5 rfl) id
          have r := HB2.out W
          refine ⟨.string ⟨(1 :: (x1 ++ x2)).toArray⟩, W, ?_, Below.refl _ _, ?_⟩
          · clear hF hG hH hn hcl hw
            generalize a.eval = ρ at *
            go_simp
          · rfl
        · refine stepB rfl rfl (by decide) (by rw [hz]; decide) rfl rfl (by kernel_rfl) St SG fun d a W hF hG hH hn hcl hw => ?_
          have q51 : a.eval (.tmp 51) = .string ⟨(1 :: (x1 ++ x2)).toArray⟩ := hH.at_ (i := 6) rfl (hw 6 rfl) id
          refine ⟨.slice (some ⟨W.heap.size, 0, none⟩) 1 1, W.alloc (.cells #[.string ⟨(1 :: (x1 ++ x2)).toArray⟩] 9), ?_, Below.new1 W _, ?_⟩
          · clear hF hG hH hn hcl hw
            generalize a.eval = ρ at *
            go_simp
          · exact OwnStrs.one W _ _ hG.size
      · intro d a W ⟨hF, hB, hH⟩ hall
        have k45 : a.eval (.tmp 45) = z8 := hH.at_ (i := 0) rfl (hall 0 (by decide)) id
        have k52 : OwnStrs W w3.heap.size (a.eval (.tmp 52)) [1 :: (x1 ++ x2)] := hH.at_ (i := 7) rfl (hall 7 (by decide)) id
        clear hH hall
        rw [hF.shape (by rw [hz]; decide)]
        clear hF
        simp only [List.foldl]
        generalize a.eval (.tmp 45) = z45 at *
        generalize a.eval (.tmp 46) = z46 at *
        generalize a.eval (.tmp 47) = z47 at *
        generalize a.eval (.tmp 48) = z48 at *
        generalize a.eval (.tmp 49) = z49 at *
        generalize a.eval (.tmp 50) = z50 at *
        generalize a.eval (.tmp 51) = z51 at *
        generalize a.eval (.tmp 52) = z52 at *
        subst k45
        rw [HA0.out]
        simp only [Act.put, List.setIfInBounds_toArray, List.set_cons_zero, List.set_cons_succ]
        clear hz HA0 SG e6 e7 e8
        clear a a0
        refine wp_append_strs (.tmp 45) (.tmp 52) rfl w1.heap.size w3.heap.size _ _ (T1 ++ T2) [1 :: (x1 ++ x2)] rfl rfl (hO.next hB) k52 q3 (by simp) (by have := hB.size; have := B3.size; omega) (fun z4 w5 hO5 b5 => ?_)
        refine wp_yields (v := z4) (by rfl) ?_
        dsimp only [Act.put]
        go_wp2_with (fail)
        go_ret
        rw [List.append_assoc] at hO5
        exact ⟨z4, rfl, hO5.mono bs, (Below.on BB3 hB).trans (b5.mono bs)⟩
theorem tt_le (q : Nat) : TtOk q := by
  induction q with
  | zero =>
    intro l A n c w hq hn h5 hc hin hS
    obtain rfl : n = 0 := by omega
    obtain rfl : l = [] := List.length_eq_zero_iff.1 hn
    exact tt_nil A c w
  | succ q ih =>
    intro l A n c w hq hn h5 hc hin hS
    by_cases h2 : 2 ≤ n
    · exact tt_two q ih l A n c w hq hn h2 h5 hc hin hS
    · match l, hn with
      | [], hn => subst hn; exact tt_nil A c w
      | [s], hn => subst hn; exact tt_one s A c w (hin s (by simp)) hS
      | x :: y :: l, hn => simp at hn; omega
theorem rtexts_any (l : List Bs) (A : Option Addr) (n c : Nat) (w : World) (hn : l.length = n) (h5 : n ≤ 5000) (hc : n ≤ c) (hin : ∀ s ∈ l, s.length ≤ 90000) (hS : Strs w A l) : Calls Tryd.prog 50 #[wordsV, .slice A n c] w fun e w' => ∃ v, e = .returned v ∧ OwnStrs w' w.heap.size v (treeT sha l) ∧ Below w.heap.size w w' := tt_le n l A n c w (Nat.le_refl _) hn h5 hc hin hS
end Go.Proofs.YtcocengpekndjaaDoor
