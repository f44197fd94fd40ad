/- The walk over Same. -/
import Derived.Test.YtcocengpekndjaaDoorPrStrs
import Derived.Test.YtcocengpekndjaaDoorPrAcc
namespace Go.Proofs.YtcocengpekndjaaDoor
open Go.RowKit
set_option maxRecDepth 100000 in
set_option maxHeartbeats 4000000 in
theorem same_yes (l : List Bs) (A B : Option Addr) (n c c' : Nat) (w : World) (hn : l.length = n) (h1 : n ≤ 100000) (hA : Hs w A l) (hB : Hs w B l) :
    Calls Tryd.prog 34 #[.slice A n c, .slice B n c'] w fun e w' => e = .returned (.bool true) ∧ Below w.heap.size w w' := by
  have HN := Lib.hid hn
  have nn : ((n : Int) != n) = false := by simp
  clear hn
  go_enter Tryd.func34, Tryd.ntmps34
  go_wp2_with (fail)
  go_loopw [5] (fun i W => ∃ k : Nat, k ≤ n ∧ i = .int .i64 k ∧ Below w.heap.size w W) (fun i _ => n - (intOf i).toNat)
  case atStart => exact ⟨0, Nat.zero_le _, rfl, Below.refl _ _⟩
  case round =>
    obtain ⟨k, hkn, rfl, hBw⟩ := hrel
    by_cases hlt : k < n
    · have hkL : k < l.length := by have := HN.out; omega
      obtain ⟨ad, rfl⟩ : ∃ a, A = some a := by
        obtain ⟨_, h | ⟨a, e, _⟩⟩ := hA
        · rw [h] at hkL; simp at hkL
        · exact ⟨a, e⟩
      obtain ⟨bd, rfl⟩ : ∃ a, B = some a := by
        obtain ⟨_, h | ⟨a, e, _⟩⟩ := hB
        · rw [h] at hkL; simp at hkL
        · exact ⟨a, e⟩
      have hx : l[k].length = 32 := hA.1 _ (List.getElem_mem hkL)
      have ld1 : ∀ W, Below wr.heap.size wr W → (Instr.loadAt 30 (.pointer (some (ad.add (k * 32))))).run Tryd.prog W = .ok (hashV l[k]) W := fun W h => ((hA.next hBw).next h).load hkL _ 32 5 (by kernel_rfl) szHash
      have ld2 : ∀ W, Below wr.heap.size wr W → (Instr.loadAt 30 (.pointer (some (bd.add (k * 32))))).run Tryd.prog W = .ok (hashV l[k]) W := fun W h => ((hB.next hBw).next h).load hkL _ 32 5 (by kernel_rfl) szHash
      have hq : ∀ W, (Op.equalIn 10000 30 (hashV l[k]) (hashV l[k])).run Tryd.prog W = .ok true W := fun W => eq_hash hx hx true (by simp) W
      generalize l[k] = x at *
      have k0 : (0 : Int) ≤ (k : Int) := by omega
      have k1 : (k : Int) < (n : Int) := by omega
      have kn : k < n := hlt
      have LD1 := Lib.hid ld1
      have LD2 := Lib.hid ld2
      have HQ := Lib.hid hq
      clear ld1 ld2 hq
      go_upto_region 6 with (fail)
      refine wp_name fun a0 ha0 => ?_
      have e0 : a0.eval (.tmp 0) = .slice (some ad) n c := by rw [ha0]; rfl
      have e1 : a0.eval (.tmp 1) = .slice (some bd) n c' := by rw [ha0]; rfl
      have e5 : a0.eval (.tmp 5) = .int .i64 (k : Int) := by rw [ha0]; rfl
      have hz : a0.tmps.size = 26 := by rw [ha0]; rfl
      have HA0 := Lib.hid ha0
      clear ha0
      have SG : ∀ (d d' : Nat → Prop) (W W' : World), (fun (_ : Nat → Prop) (W : World) => Below wr.heap.size wr W) d W → (∀ j, d j → d' j) → Below W.heap.size W W' → (fun (_ : Nat → Prop) (W : World) => Below wr.heap.size wr W) d' W' := fun _ _ _ _ h _ b => Below.next h b
      refine wp_region_steps (Inv [17, 18, 19, 20, 21, 22, 23, 24, 25] a0 (fun (_ : Nat → Prop) (W : World) => Below wr.heap.size wr W) [(⟨some 0, 17, none, fun v _ => v = .slice (some ad) n c⟩ : Cl), ⟨some 1, 18, none, fun v _ => v = .int .i64 (k : Int)⟩, ⟨some 2, 19, none, fun v _ => v = .pointer (some (ad.add (k * 32)))⟩, ⟨some 3, 20, none, fun v _ => v = hashV x⟩, ⟨some 4, 21, none, fun v _ => v = .slice (some bd) n c'⟩, ⟨some 5, 22, none, fun v _ => v = .int .i64 (k : Int)⟩, ⟨some 6, 23, none, fun v _ => v = .pointer (some (bd.add (k * 32)))⟩, ⟨some 7, 24, none, fun v _ => v = hashV x⟩, ⟨some 8, 25, none, fun v _ => v = .bool false⟩]) (by kernel_rfl) (by kernel_rfl) (Inv.start (Below.refl _ _).drew ⟨nofun, nofun, nofun, nofun, nofun, nofun, nofun, nofun, nofun, trivial⟩) ?_ ?_
      · have St : ∀ xc ∈ [(⟨some 0, 17, none, fun v _ => v = .slice (some ad) n c⟩ : Cl), ⟨some 1, 18, none, fun v _ => v = .int .i64 (k : Int)⟩, ⟨some 2, 19, none, fun v _ => v = .pointer (some (ad.add (k * 32)))⟩, ⟨some 3, 20, none, fun v _ => v = hashV x⟩, ⟨some 4, 21, none, fun v _ => v = .slice (some bd) n c'⟩, ⟨some 5, 22, none, fun v _ => v = .int .i64 (k : Int)⟩, ⟨some 6, 23, none, fun v _ => v = .pointer (some (bd.add (k * 32)))⟩, ⟨some 7, 24, none, fun v _ => v = hashV x⟩, ⟨some 8, 25, none, fun v _ => v = .bool false⟩], Lasts xc := AllC.mem ⟨lastsV0 _ _ _ _, lastsV0 _ _ _ _, lastsV0 _ _ _ _, lastsV0 _ _ _ _, lastsV0 _ _ _ _, lastsV0 _ _ _ _, lastsV0 _ _ _ _, lastsV0 _ _ _ _, lastsV0 _ _ _ _, trivial⟩
        clear HA0
        refine ⟨?_, ?_, ?_, ?_, ?_, ?_, ?_, ?_, ?_, trivial⟩
        · refine stepB rfl rfl (by decide) (by rw [hz]; decide) rfl rfl (by kernel_rfl) St SG fun d a W hF hG hH hn hcl hw => ?_
          have q0 := (hF.same 0 (by decide)).trans e0
          refine ⟨.slice (some ad) n c, W, ?_, Below.refl _ _, ?_⟩
          · clear hF hG hH hn hcl hw
            generalize a.eval = ρ at *
            go_simp
          · rfl
        · refine stepB rfl rfl (by decide) (by rw [hz]; decide) rfl rfl (by kernel_rfl) St SG fun d a W hF hG hH hn hcl hw => ?_
          have q5 := (hF.same 5 (by decide)).trans e5
          refine ⟨.int .i64 (k : Int), W, ?_, Below.refl _ _, ?_⟩
          · clear hF hG hH hn hcl hw
            generalize a.eval = ρ at *
            go_simp
          · rfl
        · refine stepB rfl rfl (by decide) (by rw [hz]; decide) rfl rfl (by kernel_rfl) St SG fun d a W hF hG hH hn hcl hw => ?_
          have q17 : a.eval (.tmp 17) = .slice (some ad) n c := hH.at_ (i := 0) rfl (hw 0 rfl) id
          have q18 : a.eval (.tmp 18) = .int .i64 (k : Int) := hH.at_ (i := 1) rfl (hw 1 rfl) id
          refine ⟨.pointer (some (ad.add (k * 32))), W, ?_, Below.refl _ _, ?_⟩
          · exact exec_indexH (i := k) rfl q17 q18 kn
          · rfl
        · refine stepB rfl rfl (by decide) (by rw [hz]; decide) rfl rfl (by kernel_rfl) St SG fun d a W hF hG hH hn hcl hw => ?_
          have q19 : a.eval (.tmp 19) = .pointer (some (ad.add (k * 32))) := hH.at_ (i := 2) rfl (hw 2 rfl) id
          refine ⟨hashV x, W, ?_, Below.refl _ _, ?_⟩
          · exact exec_load rfl (by rw [q19]; exact LD1.out W hG)
          · rfl
        · refine stepB rfl rfl (by decide) (by rw [hz]; decide) rfl rfl (by kernel_rfl) St SG fun d a W hF hG hH hn hcl hw => ?_
          have q1 := (hF.same 1 (by decide)).trans e1
          refine ⟨.slice (some bd) n c', W, ?_, Below.refl _ _, ?_⟩
          · clear hF hG hH hn hcl hw
            generalize a.eval = ρ at *
            go_simp
          · rfl
        · refine stepB rfl rfl (by decide) (by rw [hz]; decide) rfl rfl (by kernel_rfl) St SG fun d a W hF hG hH hn hcl hw => ?_
          have q5 := (hF.same 5 (by decide)).trans e5
          refine ⟨.int .i64 (k : Int), W, ?_, Below.refl _ _, ?_⟩
          · clear hF hG hH hn hcl hw
            generalize a.eval = ρ at *
            go_simp
          · rfl
        · refine stepB rfl rfl (by decide) (by rw [hz]; decide) rfl rfl (by kernel_rfl) St SG fun d a W hF hG hH hn hcl hw => ?_
          have q21 : a.eval (.tmp 21) = .slice (some bd) n c' := hH.at_ (i := 4) rfl (hw 4 rfl) id
          have q22 : a.eval (.tmp 22) = .int .i64 (k : Int) := hH.at_ (i := 5) rfl (hw 5 rfl) id
          refine ⟨.pointer (some (bd.add (k * 32))), W, ?_, Below.refl _ _, ?_⟩
          · exact exec_indexH (i := k) rfl q21 q22 kn
          · rfl
        · refine stepB rfl rfl (by decide) (by rw [hz]; decide) rfl rfl (by kernel_rfl) St SG fun d a W hF hG hH hn hcl hw => ?_
          have q23 : a.eval (.tmp 23) = .pointer (some (bd.add (k * 32))) := hH.at_ (i := 6) rfl (hw 6 rfl) id
          refine ⟨hashV x, W, ?_, Below.refl _ _, ?_⟩
          · exact exec_load rfl (by rw [q23]; exact LD2.out W hG)
          · rfl
        · refine stepB rfl rfl (by decide) (by rw [hz]; decide) rfl rfl (by kernel_rfl) St SG fun d a W hF hG hH hn hcl hw => ?_
          have q20 : a.eval (.tmp 20) = hashV x := hH.at_ (i := 3) rfl (hw 3 rfl) id
          have q24 : a.eval (.tmp 24) = hashV x := hH.at_ (i := 7) rfl (hw 7 rfl) id
          have r := HQ.out W
          refine ⟨.bool false, W, ?_, Below.refl _ _, ?_⟩
          · clear hF hG hH hn hcl hw
            generalize a.eval = ρ at *
            go_simp
          · rfl
      · intro d a W ⟨hF, hB_, hH⟩ hall
        have k25 : a.eval (.tmp 25) = .bool false := hH.at_ (i := 8) rfl (hall 8 (by decide)) id
        clear hH hall
        rw [hF.shape (by rw [hz]; decide)]
        clear hF
        simp only [List.foldl]
        generalize a.eval (.tmp 17) = z17 at *
        generalize a.eval (.tmp 18) = z18 at *
        generalize a.eval (.tmp 19) = z19 at *
        generalize a.eval (.tmp 20) = z20 at *
        generalize a.eval (.tmp 21) = z21 at *
        generalize a.eval (.tmp 22) = z22 at *
        generalize a.eval (.tmp 23) = z23 at *
        generalize a.eval (.tmp 24) = z24 at *
        generalize a.eval (.tmp 25) = z25 at *
        subst k25
        rw [HA0.out]
        simp only [Act.put, List.setIfInBounds_toArray, List.set_cons_zero, List.set_cons_succ]
        clear hz HA0 SG e0 e1 e5
        clear a a0
        go_wp2_with (fail)
        exact ⟨⟨k + 1, by omega, by go_num, Below.on hBw hB_⟩, by simp [intOf]; omega⟩
    · obtain rfl : k = n := by omega
      go_wp2_with (fail)
      go_ret
      exact ⟨rfl, hBw⟩
end Go.Proofs.YtcocengpekndjaaDoor
