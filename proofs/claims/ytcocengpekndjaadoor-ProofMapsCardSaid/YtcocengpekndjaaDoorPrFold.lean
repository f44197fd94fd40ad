/- The walk over Fold of the reference. -/
import Derived.Test.YtcocengpekndjaaDoorPrFoldA
import Derived.Test.YtcocengpekndjaaDoorPrPair
namespace Go.Proofs.YtcocengpekndjaaDoor
open Go.RowKit
set_option maxRecDepth 100000 in
set_option maxHeartbeats 4000000 in
theorem fo_two (q : Nat) (ih : FoldOk q) (n : Nat) (i : Int) (inside path : List Bs) (K A : Option Addr) (kn kc pn pc : Nat) (w : World) (hq : n ≤ q + 1) (h1 : 2 ≤ n) (h2 : n ≤ 5000) (i0 : -10000 ≤ i + n) (i1 : i ≤ 5000) (hkn : inside.length = kn) (hkc : kn ≤ kc) (hk3 : kn ≤ 5000) (hpn : path.length = pn) (hpc : pn ≤ pc) (hp5 : pn ≤ 5000) (hin : ∀ s ∈ inside, s.length ≤ 90000) (hS : Strs w K inside) (hs : Hs w A path) (c : ¬ (i + kn ≤ 0 ∨ (n : Int) ≤ i ∨ kn = 0)) :
    Calls Tryd.prog 42 #[wordsV, .int .i64 n, .int .i64 i, .slice K kn kc, .slice A pn pc] w fun e w' => e = .returned (foldV (foldR n i inside path)) ∧ Below w.heap.size w w' := by
  have cc : ¬ (i + inside.length ≤ 0 ∨ (n : Int) ≤ i ∨ inside = [] ∨ n = 0) := by
    rintro (h | h | h | h)
    · exact c (.inl (by omega))
    · exact c (.inr (.inl h))
    · exact c (.inr (.inr (by rw [← hkn, h]; rfl)))
    · omega
  have c1 : ¬ (i + (kn : Int) ≤ 0) := fun h => c (.inl h)
  have c2 : ¬ (n : Int) ≤ i := fun h => c (.inr (.inl h))
  have c3 : ¬ kn = 0 := fun h => c (.inr (.inr h))
  have cm : ¬ min (i + (kn : Int)) (n : Int) ≤ max i 0 := by omega
  have cw : IntKind.i64.wrap (i + (kn : Int)) = i + kn := IntWalk.i64_in _ (by omega)
  have hr := half_range h1
  have n1 : ((n : Int) == 1) = false := by simp; omega
  obtain ⟨R1, e1⟩ : ∃ R, foldR (half n) i inside path = R := ⟨_, rfl⟩
  obtain ⟨R2, e2⟩ : ∃ R, foldR (n - half n) (i - (half n : Nat)) inside (path.drop R1.2.1) = R := ⟨_, rfl⟩
  rw [foldR_two cc (by omega) e1 e2]
  have hf := fun W => rhalf_any n W h1 (by omega)
  have r1 := foldR_32 (half n) (half n) i inside path (Nat.le_refl _) hs.1
  have p1 := fun W (hS : Strs W K inside) (hs : Hs W A path) => ih (half n) i inside path K A kn kc pn pc W (by omega) (by omega) (by omega) (by omega) i1 hkn hkc hk3 hpn hpc hp5 hin hS hs
  rw [e1] at r1 p1
  obtain ⟨x1, u1, ok1⟩ := R1
  simp only at r1 p1 e2 ⊢
  obtain ⟨l1, ul1⟩ := r1
  have r2 := foldR_32 (n - half n) (n - half n) (i - (half n : Nat)) inside (path.drop u1) (Nat.le_refl _) (hs.1.drop _)
  have p2 := fun W (hS : Strs W K inside) (hs : Hs W (cutA A pc u1) (path.drop u1)) => ih (n - half n) (i - (half n : Nat)) inside (path.drop u1) K (cutA A pc u1) kn kc (pn - u1) (pc - u1) W (by omega) (by omega) (by omega) (by omega) (by omega) hkn hkc hk3 (by rw [List.length_drop, hpn]) (by omega) (by omega) hin hS hs
  rw [e2] at r2 p2
  obtain ⟨x2, u2, ok2⟩ := R2
  simp only at r2 p2 ⊢
  obtain ⟨l2, ul2⟩ := r2
  rw [List.length_drop] at ul2
  have hj := fun W => rpair_any x1 x2 W l1 l2
  have hjl : (joinM sha x1 x2).length = 32 := sha_length _
  generalize joinM sha x1 x2 = x at *
  have hcut : ∀ W, Hs W A path → Hs W (cutA A pc u1) (path.drop u1) := fun W h => h.from_ (by omega) u1 (by omega)
  have HA2 : ∀ W (ev : Operand → Value) (o : Oper) (r : Operand × Operand), o.op = .slice 35 r.1 (some r.2) none none → ev r.1 = .slice A pn pc → ev r.2 = .int .i64 (u1 : Int) → (execOp ev o).run Tryd.prog W = .ok (.value (.slice (cutA A pc u1) (pn - u1) (pc - u1))) W := fun W ev o r ho hx hy => exec_sliceH ho hx hy (by omega)
  generalize cutA A pc u1 = A2 at *
  generalize half n = H at *
  obtain ⟨n2, hn2⟩ : ∃ n2, n - H = n2 := ⟨_, rfl⟩
  rw [hn2] at p2
  have m1 : IntKind.i64.wrap ((n : Int) - H) = n2 := by rw [IntWalk.i64_in _ (by omega)]; omega
  have m2 : IntKind.i64.wrap (i - (H : Int)) = i - H := IntWalk.i64_in _ (by omega)
  have m3 : IntKind.i64.wrap ((u1 : Int) + u2) = ((u1 + u2 : Nat) : Int) := by rw [IntWalk.i64_in _ (by omega)]; rfl
  have ku1 : u1 ≤ pn := by omega
  obtain ⟨w0, hW0⟩ : ∃ w0, World.alloc (w.alloc (.cells (ints .u32 wordsL) 27)) (.cells (ints .u8 (List.replicate 32 0)) 30) = w0 := ⟨_, rfl⟩
  have B0 : Below w.heap.size w w0 := hW0 ▸ Below.on (Below.new1 _ _) (Below.new1 _ _)
  have y5 : BoxW w0 w.heap.size := hW0 ▸ (BoxW.new w).next (Below.new1 _ _)
  have x10 : BoxA w0 (w.heap.size + 1) 30 .u8 (List.replicate 32 0) := by
    have := BoxA.new (w.alloc (.cells (ints .u32 wordsL) 27)) 30 .u8 (List.replicate 32 0) _ rfl
    rw [World.size_alloc] at this; exact hW0 ▸ this
  have z0 : w.heap.size + 1 < w0.heap.size := x10.lt
  have hS0 := hS.next B0
  have hs0 := hs.next B0
  have HF := Lib.hid hf
  have P1 := Lib.hid p1
  have P2 := Lib.hid p2
  have HJ := Lib.hid hj
  have HC := Lib.hid hcut
  have HO := Lib.hid hW0
  have M1 := Lib.hid m1
  have M2 := Lib.hid m2
  have M3 := Lib.hid m3
  clear hW0 hS hs hin hkn c cc hpn e1 e2 hf p1 p2 hj hcut ih hn2 m1 m2 m3
  go_enter Tryd.func42, Tryd.ntmps42
  go_upto_region 9 with (go_at_call 78; refine (HF.out _).mono ?_; rintro e w' ⟨rfl, rfl⟩)
  all_goals
    change Code.wp _ _ _ _ (World.alloc (w.alloc (.cells (ints .u32 wordsL) 27)) (.cells (ints .u8 (List.replicate 32 0)) 30))
    rw [HO.out]
    clear HO HF
    go_upto_region 10 with (first
      | (refine wpList_load_at rfl 27 (.tmp 5) rfl wordsV (BoxW.load y5) ?_)
      | (go_at_call 42; refine (P1.out _ hS0 hs0).mono ?_; rintro e w1 ⟨rfl, b1⟩)
      | (refine wpList_storeH rfl (.tmp 15) (.tmp 57) rfl w1.heap.size x1 rfl rfl (BoxA.new w1 _ _ (List.replicate 32 0) _ rfl) rfl l1 ?_))
    obtain ⟨w2, hW2⟩ : ∃ w2, World.setRow (World.alloc w1 (.cells (ints .u8 (List.replicate 32 0)) 30)) w1.heap.size (ints .u8 (nums x1)) = w2 := ⟨_, rfl⟩
    have Bq0 : Below w1.heap.size w1 w2 := hW2 ▸ below_setRow (Below.new1 w1 _) (Nat.le_refl _) _
    have y15 : BoxH w2 w1.heap.size x1 := hW2 ▸ (BoxA.new w1 30 .u8 (List.replicate 32 0) _ rfl).setRow (l' := nums x1)
    change Code.wp _ _ _ _ (World.setRow (World.alloc w1 (.cells (ints .u8 (List.replicate 32 0)) 30)) w1.heap.size (ints .u8 (nums x1)))
    rw [hW2]
    clear hW2
    have Bq := Below.on b1 Bq0
    have y5' : BoxW w2 w.heap.size := BoxA.next y5 Bq
    have x10' := x10.next Bq
    have hS2 := hS0.next Bq
    have hs2 := hs0.next Bq
    have B2 := Below.on B0 Bq
    have zz := b1.size
    have z15 : w1.heap.size < w2.heap.size := BoxA.lt y15
    clear y5 x10 hS0 hs0 Bq Bq0 b1 B0 P1
    cases ok1
    · go_wp2_with (refine wpList_storeH rfl (.tmp 10) (.tmp 62) rfl (w.heap.size + 1) zeroH rfl (by rfl) x10' (by simp) zeroH_length ?_)
      all_goals exact bodyPost_ret (v := .tuple #[hashV zeroH, .int .i64 0, .bool false]) (results_h3 rfl _ _ (w.heap.size + 1) zeroH (.int .i64 0) (.bool false) rfl rfl rfl x10'.setRow zeroH_length) rfl ⟨rfl, below_setRow B2 (by omega) _⟩
    · go_upto_region 12 with (fail)
      refine wp_name fun a0 ha0 => ?_
      have e1 : a0.eval (.tmp 1) = .int .i64 (n : Int) := by rw [ha0]; rfl
      have e2 : a0.eval (.tmp 2) = .int .i64 i := by rw [ha0]; rfl
      have e3 : a0.eval (.tmp 3) = .slice K kn kc := by rw [ha0]; rfl
      have e4 : a0.eval (.tmp 4) = .slice A pn pc := by rw [ha0]; rfl
      have e5 : a0.eval (.tmp 5) = .pointer (some ⟨w.heap.size, 0, none⟩) := by rw [ha0]; rfl
      have e14 : a0.eval (.tmp 14) = .int .i64 (H : Int) := by rw [ha0]; rfl
      have e16 : a0.eval (.tmp 16) = .int .i64 (u1 : Int) := by rw [ha0]; rfl
      have hz : a0.tmps.size = 87 := by rw [ha0]; rfl
      have HA0 := Lib.hid ha0
      clear ha0
      have SG : ∀ (d d' : Nat → Prop) (W W' : World), (fun (_ : Nat → Prop) (W : World) => Below w2.heap.size w2 W) d W → (∀ j, d j → d' j) → Below W.heap.size W W' → (fun (_ : Nat → Prop) (W : World) => Below w2.heap.size w2 W) d' W' := fun _ _ _ _ h _ b => Below.next h b
      refine wp_region_steps (Inv [64, 65, 66, 67, 68, 69, 70, 71, 72, 73, 74, 75, 63, 76, 77, 78, 18, 19, 20] a0 (fun (_ : Nat → Prop) (W : World) => Below w2.heap.size w2 W) [(⟨some 0, 64, none, fun v _ => v = wordsV⟩ : Cl), ⟨some 1, 65, none, fun v _ => v = .int .i64 (n : Int)⟩, ⟨some 2, 66, none, fun v _ => v = .int .i64 (H : Int)⟩, ⟨some 3, 67, none, fun v _ => v = .int .i64 (n2 : Int)⟩, ⟨some 4, 68, none, fun v _ => v = .int .i64 i⟩, ⟨some 5, 69, none, fun v _ => v = .int .i64 (H : Int)⟩, ⟨some 6, 70, none, fun v _ => v = .int .i64 (i - (H : Int))⟩, ⟨some 7, 71, none, fun v _ => v = .slice K kn kc⟩, ⟨some 8, 72, none, fun v _ => v = .slice A pn pc⟩, ⟨some 9, 73, none, fun v _ => v = .int .i64 (u1 : Int)⟩, ⟨some 10, 74, none, fun v _ => v = .slice A2 (pn - u1) (pc - u1)⟩, ⟨some 11, 75, none, fun v _ => v = foldV (x2, u2, ok2)⟩, ⟨some 12, 63, none, fun v _ => v = foldV (x2, u2, ok2)⟩, ⟨some 13, 76, none, fun v _ => v = hashV x2⟩, ⟨some 14, 77, none, fun v _ => v = .int .i64 (u2 : Int)⟩, ⟨some 15, 78, none, fun v _ => v = .bool ok2⟩, ⟨some 16, 18, some 17, fun v W => ∃ g, v = .pointer (some ⟨g, 0, none⟩) ∧ w2.heap.size ≤ g ∧ ∃ m, BoxA W g 30 .u8 m ∧ m.length = 32⟩, ⟨some 17, 18, none, fun v W => ∃ g, v = .pointer (some ⟨g, 0, none⟩) ∧ w2.heap.size ≤ g ∧ BoxH W g x2⟩, ⟨some 18, 19, none, fun v _ => v = .int .i64 (u2 : Int)⟩, ⟨some 19, 20, none, fun v _ => v = .bool ok2⟩]) (by kernel_rfl) (by kernel_rfl) (Inv.start (Below.refl _ _).drew ⟨nofun, nofun, nofun, nofun, nofun, nofun, nofun, nofun, nofun, nofun, nofun, nofun, nofun, nofun, nofun, nofun, nofun, nofun, nofun, nofun, trivial⟩) ?_ ?_
      · have St : ∀ xc ∈ [(⟨some 0, 64, none, fun v _ => v = wordsV⟩ : Cl), ⟨some 1, 65, none, fun v _ => v = .int .i64 (n : Int)⟩, ⟨some 2, 66, none, fun v _ => v = .int .i64 (H : Int)⟩, ⟨some 3, 67, none, fun v _ => v = .int .i64 (n2 : Int)⟩, ⟨some 4, 68, none, fun v _ => v = .int .i64 i⟩, ⟨some 5, 69, none, fun v _ => v = .int .i64 (H : Int)⟩, ⟨some 6, 70, none, fun v _ => v = .int .i64 (i - (H : Int))⟩, ⟨some 7, 71, none, fun v _ => v = .slice K kn kc⟩, ⟨some 8, 72, none, fun v _ => v = .slice A pn pc⟩, ⟨some 9, 73, none, fun v _ => v = .int .i64 (u1 : Int)⟩, ⟨some 10, 74, none, fun v _ => v = .slice A2 (pn - u1) (pc - u1)⟩, ⟨some 11, 75, none, fun v _ => v = foldV (x2, u2, ok2)⟩, ⟨some 12, 63, none, fun v _ => v = foldV (x2, u2, ok2)⟩, ⟨some 13, 76, none, fun v _ => v = hashV x2⟩, ⟨some 14, 77, none, fun v _ => v = .int .i64 (u2 : Int)⟩, ⟨some 15, 78, none, fun v _ => v = .bool ok2⟩, ⟨some 16, 18, some 17, fun v W => ∃ g, v = .pointer (some ⟨g, 0, none⟩) ∧ w2.heap.size ≤ g ∧ ∃ m, BoxA W g 30 .u8 m ∧ m.length = 32⟩, ⟨some 17, 18, none, fun v W => ∃ g, v = .pointer (some ⟨g, 0, none⟩) ∧ w2.heap.size ≤ g ∧ BoxH W g x2⟩, ⟨some 18, 19, none, fun v _ => v = .int .i64 (u2 : Int)⟩, ⟨some 19, 20, none, fun v _ => v = .bool ok2⟩], Lasts xc := AllC.mem ⟨lastsV0 _ _ _ _, lastsV0 _ _ _ _, lastsV0 _ _ _ _, lastsV0 _ _ _ _, lastsV0 _ _ _ _, lastsV0 _ _ _ _, lastsV0 _ _ _ _, lastsV0 _ _ _ _, lastsV0 _ _ _ _, lastsV0 _ _ _ _, lastsV0 _ _ _ _, lastsV0 _ _ _ _, lastsV0 _ _ _ _, lastsV0 _ _ _ _, lastsV0 _ _ _ _, lastsV0 _ _ _ _, (fun _ _ _ h b => by obtain ⟨g, e, h1, m, h2, h3⟩ := h; exact ⟨g, e, h1, m, h2.next b, h3⟩), (fun _ _ _ h b => by obtain ⟨g, e, h1, h2⟩ := h; exact ⟨g, e, h1, BoxA.next h2 b⟩), lastsV0 _ _ _ _, lastsV0 _ _ _ _, trivial⟩
        clear HA0
        refine ⟨?_, ?_, ?_, ?_, ?_, ?_, ?_, ?_, ?_, ?_, ?_, ?_, ?_, ?_, ?_, ?_, ?_, ?_, ?_, ?_, trivial⟩
        · refine stepB rfl rfl (by decide) (by rw [hz]; decide) rfl rfl (by kernel_rfl) St SG fun d a W hF hG hH hn hcl hw => ?_
          have q5 := (hF.same 5 (by decide)).trans e5
          refine ⟨wordsV, W, ?_, Below.refl _ _, ?_⟩
          · exact exec_load rfl (by rw [q5]; exact BoxW.load (BoxA.next y5' hG))
          · rfl
        · refine stepB rfl rfl (by decide) (by rw [hz]; decide) rfl rfl (by kernel_rfl) St SG fun d a W hF hG hH hn hcl hw => ?_
          have q1 := (hF.same 1 (by decide)).trans e1
          refine ⟨.int .i64 (n : Int), W, ?_, Below.refl _ _, ?_⟩
          · clear hF hG hH hn hcl hw
            generalize a.eval = ρ at *
            go_simp
          · rfl
        · refine stepB rfl rfl (by decide) (by rw [hz]; decide) rfl rfl (by kernel_rfl) St SG fun d a W hF hG hH hn hcl hw => ?_
          have q14 := (hF.same 14 (by decide)).trans e14
          refine ⟨.int .i64 (H : Int), W, ?_, Below.refl _ _, ?_⟩
          · clear hF hG hH hn hcl hw
            generalize a.eval = ρ at *
            go_simp
          · rfl
        · refine stepB rfl rfl (by decide) (by rw [hz]; decide) rfl rfl (by kernel_rfl) St SG fun d a W hF hG hH hn hcl hw => ?_
          have q65 : a.eval (.tmp 65) = .int .i64 (n : Int) := hH.at_ (i := 1) rfl (hw 1 rfl) id
          have q66 : a.eval (.tmp 66) = .int .i64 (H : Int) := hH.at_ (i := 2) rfl (hw 2 rfl) id
          have c := M1.out
          refine ⟨.int .i64 (n2 : Int), W, ?_, Below.refl _ _, ?_⟩
          · clear hF hG hH hn hcl hw
            generalize a.eval = ρ at *
            go_simp
          · rfl
        · refine stepB rfl rfl (by decide) (by rw [hz]; decide) rfl rfl (by kernel_rfl) St SG fun d a W hF hG hH hn hcl hw => ?_
          have q2 := (hF.same 2 (by decide)).trans e2
          refine ⟨.int .i64 i, W, ?_, Below.refl _ _, ?_⟩
          · clear hF hG hH hn hcl hw
            generalize a.eval = ρ at *
            go_simp
          · rfl
        · refine stepB rfl rfl (by decide) (by rw [hz]; decide) rfl rfl (by kernel_rfl) St SG fun d a W hF hG hH hn hcl hw => ?_
          have q14 := (hF.same 14 (by decide)).trans e14
          refine ⟨.int .i64 (H : Int), W, ?_, Below.refl _ _, ?_⟩
          · clear hF hG hH hn hcl hw
            generalize a.eval = ρ at *
            go_simp
          · rfl
        · refine stepB rfl rfl (by decide) (by rw [hz]; decide) rfl rfl (by kernel_rfl) St SG fun d a W hF hG hH hn hcl hw => ?_
          have q68 : a.eval (.tmp 68) = .int .i64 i := hH.at_ (i := 4) rfl (hw 4 rfl) id
          have q69 : a.eval (.tmp 69) = .int .i64 (H : Int) := hH.at_ (i := 5) rfl (hw 5 rfl) id
          have c := M2.out
          refine ⟨.int .i64 (i - (H : Int)), W, ?_, Below.refl _ _, ?_⟩
          · clear hF hG hH hn hcl hw
            generalize a.eval = ρ at *
            go_simp
          · rfl
        · refine stepB rfl rfl (by decide) (by rw [hz]; decide) rfl rfl (by kernel_rfl) St SG fun d a W hF hG hH hn hcl hw => ?_
          have q3 := (hF.same 3 (by decide)).trans e3
          refine ⟨.slice K kn kc, W, ?_, Below.refl _ _, ?_⟩
          · clear hF hG hH hn hcl hw
            generalize a.eval = ρ at *
            go_simp
          · rfl
        · refine stepB rfl rfl (by decide) (by rw [hz]; decide) rfl rfl (by kernel_rfl) St SG fun d a W hF hG hH hn hcl hw => ?_
          have q4 := (hF.same 4 (by decide)).trans e4
          refine ⟨.slice A pn pc, W, ?_, Below.refl _ _, ?_⟩
          · clear hF hG hH hn hcl hw
            generalize a.eval = ρ at *
            go_simp
          · rfl
        · refine stepB rfl rfl (by decide) (by rw [hz]; decide) rfl rfl (by kernel_rfl) St SG fun d a W hF hG hH hn hcl hw => ?_
          have q16 := (hF.same 16 (by decide)).trans e16
          refine ⟨.int .i64 (u1 : Int), W, ?_, Below.refl _ _, ?_⟩
          · clear hF hG hH hn hcl hw
            generalize a.eval = ρ at *
            go_simp
          · rfl
        · refine stepB rfl rfl (by decide) (by rw [hz]; decide) rfl rfl (by kernel_rfl) St SG fun d a W hF hG hH hn hcl hw => ?_
          have q72 : a.eval (.tmp 72) = .slice A pn pc := hH.at_ (i := 8) rfl (hw 8 rfl) id
          have q73 : a.eval (.tmp 73) = .int .i64 (u1 : Int) := hH.at_ (i := 9) rfl (hw 9 rfl) id
          refine ⟨.slice A2 (pn - u1) (pc - u1), W, ?_, Below.refl _ _, ?_⟩
          · exact HA2 W _ _ (.tmp 72, .tmp 73) rfl q72 q73
          · rfl
        · refine stepC rfl rfl (by decide) (by rw [hz]; decide) rfl rfl (by kernel_rfl) St SG fun d a W hF hG hH hn hcl hw => ?_
          have q64 : a.eval (.tmp 64) = wordsV := hH.at_ (i := 0) rfl (hw 0 rfl) id
          have q67 : a.eval (.tmp 67) = .int .i64 (n2 : Int) := hH.at_ (i := 3) rfl (hw 3 rfl) id
          have q70 : a.eval (.tmp 70) = .int .i64 (i - (H : Int)) := hH.at_ (i := 6) rfl (hw 6 rfl) id
          have q71 : a.eval (.tmp 71) = .slice K kn kc := hH.at_ (i := 7) rfl (hw 7 rfl) id
          have q74 : a.eval (.tmp 74) = .slice A2 (pn - u1) (pc - u1) := hH.at_ (i := 10) rfl (hw 10 rfl) id
          have qf : a.eval (.func 42) = .func (.func 42) #[] #[] := rfl
          refine ⟨42, #[wordsV, .int .i64 (n2 : Int), .int .i64 (i - (H : Int)), .slice K kn kc, .slice A2 (pn - u1) (pc - u1)], ?_, ?_⟩
          · clear hF hG hH hn hcl hw
            generalize a.eval = ρ at *
            go_simp
          · refine (P2.out W (hS2.next hG) (HC.out _ (hs2.next hG))).mono ?_; rintro e W' ⟨rfl, b⟩; exact ⟨_, rfl, b, rfl⟩
        · refine stepB rfl rfl (by decide) (by rw [hz]; decide) rfl rfl (by kernel_rfl) St SG fun d a W hF hG hH hn hcl hw => ?_
          have q75 : a.eval (.tmp 75) = foldV (x2, u2, ok2) := hH.at_ (i := 11) rfl (hw 11 rfl) id
          refine ⟨foldV (x2, u2, ok2), W, ?_, Below.refl _ _, ?_⟩
          · clear hF hG hH hn hcl hw
            generalize a.eval = ρ at *
            go_simp
          · rfl
        · refine stepB rfl rfl (by decide) (by rw [hz]; decide) rfl rfl (by kernel_rfl) St SG fun d a W hF hG hH hn hcl hw => ?_
          have q63 : a.eval (.tmp 63) = foldV (x2, u2, ok2) := hH.at_ (i := 12) rfl (hw 12 rfl) id
          refine ⟨hashV x2, W, ?_, Below.refl _ _, ?_⟩
          · clear hF hG hH hn hcl hw
            generalize a.eval = ρ at *
            go_simp
          · rfl
        · refine stepB rfl rfl (by decide) (by rw [hz]; decide) rfl rfl (by kernel_rfl) St SG fun d a W hF hG hH hn hcl hw => ?_
          have q63 : a.eval (.tmp 63) = foldV (x2, u2, ok2) := hH.at_ (i := 12) rfl (hw 12 rfl) id
          refine ⟨.int .i64 (u2 : Int), W, ?_, Below.refl _ _, ?_⟩
          · clear hF hG hH hn hcl hw
            generalize a.eval = ρ at *
            go_simp
          · rfl
        · refine stepB rfl rfl (by decide) (by rw [hz]; decide) rfl rfl (by kernel_rfl) St SG fun d a W hF hG hH hn hcl hw => ?_
          have q63 : a.eval (.tmp 63) = foldV (x2, u2, ok2) := hH.at_ (i := 12) rfl (hw 12 rfl) id
          refine ⟨.bool ok2, W, ?_, Below.refl _ _, ?_⟩
          · clear hF hG hH hn hcl hw
            generalize a.eval = ρ at *
            go_simp
          · rfl
        · refine stepB rfl rfl (by decide) (by rw [hz]; decide) rfl rfl (by kernel_rfl) St SG fun d a W hF hG hH hn hcl hw => ?_
          refine ⟨.pointer (some ⟨W.heap.size, 0, none⟩), W.alloc (.cells (ints .u8 (List.replicate 32 0)) 30), ?_, Below.new1 W _, ?_⟩
          · (clear hF hG hH hn hcl hw; generalize a.eval = ρ at *; go_simp; rfl)
          · exact ⟨_, rfl, hG.size, _, BoxA.new W _ _ _ _ rfl, by simp⟩
        · refine stepN 18 (.tmp 76) rfl rfl rfl rfl rfl x2 l2 (w2.heap.size) (fun g W hg h => ⟨g, rfl, hg, h⟩) (AllC.mem ⟨.inr (.inr fun _ _ _ _ h => h), .inr (.inr fun _ _ _ _ h => h), .inr (.inr fun _ _ _ _ h => h), .inr (.inr fun _ _ _ _ h => h), .inr (.inr fun _ _ _ _ h => h), .inr (.inr fun _ _ _ _ h => h), .inr (.inr fun _ _ _ _ h => h), .inr (.inr fun _ _ _ _ h => h), .inr (.inr fun _ _ _ _ h => h), .inr (.inr fun _ _ _ _ h => h), .inr (.inr fun _ _ _ _ h => h), .inr (.inr fun _ _ _ _ h => h), .inr (.inr fun _ _ _ _ h => h), .inr (.inr fun _ _ _ _ h => h), .inr (.inr fun _ _ _ _ h => h), .inr (.inr fun _ _ _ _ h => h), .inr (.inl rfl), .inl rfl, .inr (.inr fun _ _ _ _ h => h), .inr (.inr fun _ _ _ _ h => h), trivial⟩) (fun d d' W g hg h _ => below_setRow h hg _) fun d a W hF hG hH hn hcl hw => ?_
          have qy : a.eval (.tmp 76) = hashV x2 := hH.at_ (i := 13) rfl (hw 13 rfl) id
          exact ⟨qy, hH.at_ (i := 16) rfl (hw 16 rfl) hn⟩
        · refine stepB rfl rfl (by decide) (by rw [hz]; decide) rfl rfl (by kernel_rfl) St SG fun d a W hF hG hH hn hcl hw => ?_
          have q77 : a.eval (.tmp 77) = .int .i64 (u2 : Int) := hH.at_ (i := 14) rfl (hw 14 rfl) id
          refine ⟨.int .i64 (u2 : Int), W, ?_, Below.refl _ _, ?_⟩
          · clear hF hG hH hn hcl hw
            generalize a.eval = ρ at *
            go_simp
          · rfl
        · refine stepB rfl rfl (by decide) (by rw [hz]; decide) rfl rfl (by kernel_rfl) St SG fun d a W hF hG hH hn hcl hw => ?_
          have q78 : a.eval (.tmp 78) = .bool ok2 := hH.at_ (i := 15) rfl (hw 15 rfl) id
          refine ⟨.bool ok2, W, ?_, Below.refl _ _, ?_⟩
          · clear hF hG hH hn hcl hw
            generalize a.eval = ρ at *
            go_simp
          · rfl
      · intro d a W ⟨hF, hB, hH⟩ hall
        have k19 : a.eval (.tmp 19) = .int .i64 (u2 : Int) := hH.at_ (i := 18) rfl (hall 18 (by decide)) id
        have k20 : a.eval (.tmp 20) = .bool ok2 := hH.at_ (i := 19) rfl (hall 19 (by decide)) id
        have s17 : ∃ g, a.eval (.tmp 18) = .pointer (some ⟨g, 0, none⟩) ∧ w2.heap.size ≤ g ∧ BoxH W g x2 := hH.at_ (i := 17) rfl (hall 17 (by decide)) id
        clear hH hall
        rw [hF.shape (by rw [hz]; decide)]
        clear hF
        simp only [List.foldl]
        generalize a.eval (.tmp 64) = z64 at *
        generalize a.eval (.tmp 65) = z65 at *
        generalize a.eval (.tmp 66) = z66 at *
        generalize a.eval (.tmp 67) = z67 at *
        generalize a.eval (.tmp 68) = z68 at *
        generalize a.eval (.tmp 69) = z69 at *
        generalize a.eval (.tmp 70) = z70 at *
        generalize a.eval (.tmp 71) = z71 at *
        generalize a.eval (.tmp 72) = z72 at *
        generalize a.eval (.tmp 73) = z73 at *
        generalize a.eval (.tmp 74) = z74 at *
        generalize a.eval (.tmp 75) = z75 at *
        generalize a.eval (.tmp 63) = z63 at *
        generalize a.eval (.tmp 76) = z76 at *
        generalize a.eval (.tmp 77) = z77 at *
        generalize a.eval (.tmp 78) = z78 at *
        generalize a.eval (.tmp 18) = z18 at *
        generalize a.eval (.tmp 19) = z19 at *
        generalize a.eval (.tmp 20) = z20 at *
        subst k19
        subst k20
        rw [HA0.out]
        simp only [Act.put, List.setIfInBounds_toArray, List.set_cons_zero, List.set_cons_succ]
        clear hz HA0 SG e1 e2 e3 e4 e5 e14 e16
        clear a a0
        obtain ⟨g, rfl, hg, y18⟩ := s17
        have z5 : BoxW W w.heap.size := BoxA.next y5' hB
        have z15' : BoxH W w1.heap.size x1 := BoxA.next y15 hB
        have z10 := x10'.next hB
        have B3 := Below.on B2 hB
        have hw10 : w.heap.size + 1 < W.heap.size := z10.lt
        have m3 := M3.out
        clear y5' y15 x10' B2
        go_wp2_with (first
          | (refine wpList_load_at rfl 27 (.tmp 5) rfl wordsV (BoxW.load z5) ?_)
          | (refine wpList_loadH rfl (.tmp 15) rfl w1.heap.size x1 rfl z15' l1 ?_)
          | (refine wpList_loadH rfl (.tmp 18) rfl g x2 rfl y18 l2 ?_)
          | (go_at_call 79; refine (HJ.out _).mono ?_; rintro e w5 ⟨rfl, b5⟩)
          | (refine wpList_storeH rfl (.tmp 10) (.tmp 82) rfl (w.heap.size + 1) x rfl rfl (z10.next b5) (by simp) hjl ?_))
        all_goals exact bodyPost_ret (v := .tuple #[hashV x, .int .i64 ((u1 + u2 : Nat) : Int), .bool ok2]) (results_h3 rfl _ _ (w.heap.size + 1) x (.int .i64 ((u1 + u2 : Nat) : Int)) (.bool ok2) rfl rfl rfl ((z10.next b5).setRow) hjl) rfl ⟨rfl, below_setRow (Below.on B3 b5) (by omega) _⟩
theorem fo_le (q : Nat) : FoldOk q := by
  induction q with
  | zero => intro n i inside path K A kn kc pn pc w h h1; omega
  | succ q ih =>
    intro n i inside path K A kn kc pn pc w hq h1 h2 i0 i1 hkn hkc hk3 hpn hpc hp5 hin hS hs
    by_cases c : i + kn ≤ 0 ∨ (n : Int) ≤ i ∨ kn = 0
    · exact fo_out n i inside path K A kn kc pn pc w h1 h2 (by omega) i1 hkn hkc hk3 hpn hpc hp5 hin hS hs c
    · by_cases e : n = 1
      · subst e
        exact fo_one i inside path K A kn kc pn pc w (by omega) i1 hkn hkc hk3 hpn hpc hp5 hin hS hs c
      · exact fo_two q ih n i inside path K A kn kc pn pc w hq (by omega) h2 i0 i1 hkn hkc hk3 hpn hpc hp5 hin hS hs c
theorem rfold_any (n : Nat) (i : Int) (inside path : List Bs) (K A : Option Addr) (kn kc pn pc : Nat) (w : World) (h1 : 1 ≤ n) (h2 : n ≤ 5000) (i0 : -10000 ≤ i + n) (i1 : i ≤ 5000) (hkn : inside.length = kn) (hkc : kn ≤ kc) (hk3 : kn ≤ 5000) (hpn : path.length = pn) (hpc : pn ≤ pc) (hp5 : pn ≤ 5000) (hin : ∀ s ∈ inside, s.length ≤ 90000) (hS : Strs w K inside) (hs : Hs w A path) :
    Calls Tryd.prog 42 #[wordsV, .int .i64 n, .int .i64 i, .slice K kn kc, .slice A pn pc] w fun e w' => e = .returned (foldV (foldR n i inside path)) ∧ Below w.heap.size w w' := fo_le n n i inside path K A kn kc pn pc w (Nat.le_refl _) h1 h2 i0 i1 hkn hkc hk3 hpn hpc hp5 hin hS hs
end Go.Proofs.YtcocengpekndjaaDoor
