/- The walk over ProofSums. -/
import Derived.Test.YtcocengpekndjaaDoorPrAwake
import Derived.Test.YtcocengpekndjaaDoorPrRSum
namespace Go.Proofs.YtcocengpekndjaaDoor
open Go.RowKit
theorem BoxW.range_ {W : World} {b : Nat} (H : BoxW W b) : W.rangeAt b 0 (wordsL.map (Value.int .u32)) := fun j v hv => by
  have hj : j < wordsL.length := by have := (List.getElem?_eq_some_iff.1 hv).1; rwa [List.length_map] at this
  rw [Nat.zero_add, BoxA.cell H hj]
  rw [List.getElem?_map, List.getElem?_eq_getElem hj] at hv
  exact hv
theorem uWords : Tryd.prog.underlying 27 = some (.struct (Tryd.prog.fieldsOf 27)) := by kernel_rfl
theorem sWords : (Tryd.prog.info? 27).map (·.size) = some (wordsL.map (Value.int .u32)).length := by rw [List.length_map, wordsL_length]; exact szWords
/-- The constants in a new variable. -/
noncomputable abbrev withW (w : World) : World := (w.alloc (.cells Tryd.zeroCells27 27)).setRow w.heap.size (ints .u32 wordsL)
theorem withW_box (w : World) : BoxW (withW w) w.heap.size := setRow_heap _ _ _ _ _ _ (heap_alloc_new w _)
theorem withW_below (w : World) : Below w.heap.size w (withW w) := below_setRow (Below.new1 w _) (Nat.le_refl _) _
theorem wpList_newW {ops : Array Oper} {rest : List Oper} {o : Oper} {a : Act} {w : World} {Q : Exit → Act → World → Prop} (hgd : o.guard = none) (x y : Operand) (ho : o.op = .store 27 x y) (hx : a.eval x = .pointer (some ⟨w.heap.size, 0, none⟩)) (hy : a.eval y = wordsV)
    (K : wpList Tryd.prog ops Q rest (a.put o.dst undef) (withW w)) : wpList Tryd.prog ops Q (o :: rest) a (w.alloc (.cells Tryd.zeroCells27 27)) :=
  wpList_store_row hgd 27 x y ho w.heap.size (ints .u32 wordsL) hx hy 27 _ (heap_alloc_new w _) (by rw [ints_size, wordsL_length]; exact szWords) (by kernel_rfl) (ints_one _ _) K
set_option maxRecDepth 100000 in
set_option maxHeartbeats 2000000 in
theorem proofSums_any (s : Bs) (w : World) (hk : Kon w) : Calls Tryd.prog 3 #[.string ⟨s.toArray⟩] w fun e w' => e = .returned (.bool true) ∧ Below w.heap.size w w' := by
  have HK := Lib.hid hk
  have hsz := bs_size s
  by_cases c1 : 600 < s.length
  · have c2 : (600 : Int) < s.length := by omega
    have HA := Lib.hid (awake_any w hk)
    clear hk
    go_enter Tryd.func3, Tryd.ntmps3
    go_wp2_with (go_at_call 17; refine HA.out.mono ?_; rintro e w7 ⟨rfl, b7⟩)
    go_ret
    exact ⟨rfl, b7⟩
  · have c2 : ¬ (600 : Int) < s.length := by omega
    have HS := Lib.hid (fun (W : World) (hk : Kon W) => sum_any s W (by omega) hk)
    have HR := Lib.hid (fun (W : World) => rsum_any s W (by omega))
    have hl : (sha s).length = 32 := sha_length _
    have he := fun W => eq_hash hl hl true (by simp) W
    obtain ⟨x, hx⟩ : ∃ x, sha s = x := ⟨_, rfl⟩
    rw [hx] at HS HR hl he
    clear hk hx c1
    go_enter Tryd.func3, Tryd.ntmps3
    go_upto_region 4 with (first
      | (go_at_call 18; refine (constants_any _).mono ?_; rintro e w1 ⟨rfl, b1⟩)
      | (refine wpList_newW rfl (.tmp 3) (.tmp 8) rfl rfl rfl ?_))
    have x3 := withW_box w1
    have b2 := withW_below w1
    obtain ⟨w2, hW⟩ : ∃ w2, withW w1 = w2 := ⟨_, rfl⟩
    change Code.wp _ _ _ _ (withW w1)
    rw [hW] at x3 b2 ⊢
    have B2 := Below.on b1 b2
    generalize w1.heap.size = g1 at *
    clear hW b1 b2
    refine wp_name fun a0 ha0 => ?_
    have e0 : a0.eval (.tmp 0) = .string ⟨s.toArray⟩ := by rw [ha0]; rfl
    have e3 : a0.eval (.tmp 3) = .pointer (some ⟨g1, 0, none⟩) := by rw [ha0]; rfl
    have hz : a0.tmps.size = 18 := by rw [ha0]; rfl
    have HA0 := Lib.hid ha0
    clear ha0
    have SG : ∀ (d d' : Nat → Prop) (W W' : World), (fun (_ : Nat → Prop) (W : World) => Below w2.heap.size w2 W) d W → (∀ j, d j → d' j) → Below W.heap.size W W' → (fun (_ : Nat → Prop) (W : World) => Below w2.heap.size w2 W) d' W' := fun _ _ _ _ h _ b => Below.next h b
    refine wp_region_guards (Inv [9, 10, 11, 12, 13, 14, 15, 16, 17, 2] a0 (fun (_ : Nat → Prop) (W : World) => Below w2.heap.size w2 W) [(⟨some 0, 9, none, fun v _ => v = .string ⟨s.toArray⟩⟩ : Cl), ⟨some 1, 10, none, fun v _ => v = hashV x⟩, ⟨some 2, 11, none, fun v _ => v = wordsV⟩, ⟨some 3, 12, none, fun v _ => v = .string ⟨s.toArray⟩⟩, ⟨some 4, 13, none, fun v _ => v = hashV x⟩, ⟨some 5, 14, none, fun v _ => v = .bool true⟩, ⟨some 6, 15, none, fun v _ => v = .bool true⟩, ⟨some 7, 16, none, fun v _ => v = .bool true⟩, ⟨some 8, 17, none, fun v _ => v = .bool true⟩, ⟨some 9, 2, none, fun v _ => v = .bool true⟩]) (by kernel_rfl) (by kernel_rfl) (Inv.start (Below.refl _ _).drew ⟨nofun, nofun, nofun, nofun, nofun, nofun, nofun, nofun, nofun, nofun, trivial⟩) ?_ ?_
    · have St : ∀ xc ∈ [(⟨some 0, 9, none, fun v _ => v = .string ⟨s.toArray⟩⟩ : Cl), ⟨some 1, 10, none, fun v _ => v = hashV x⟩, ⟨some 2, 11, none, fun v _ => v = wordsV⟩, ⟨some 3, 12, none, fun v _ => v = .string ⟨s.toArray⟩⟩, ⟨some 4, 13, none, fun v _ => v = hashV x⟩, ⟨some 5, 14, none, fun v _ => v = .bool true⟩, ⟨some 6, 15, none, fun v _ => v = .bool true⟩, ⟨some 7, 16, none, fun v _ => v = .bool true⟩, ⟨some 8, 17, none, fun v _ => v = .bool true⟩, ⟨some 9, 2, none, fun v _ => v = .bool true⟩], Lasts xc := AllC.mem ⟨lastsV0 _ _ _ _, lastsV0 _ _ _ _, lastsV0 _ _ _ _, lastsV0 _ _ _ _, lastsV0 _ _ _ _, lastsV0 _ _ _ _, lastsV0 _ _ _ _, lastsV0 _ _ _ _, lastsV0 _ _ _ _, lastsV0 _ _ _ _, trivial⟩
      clear HA0
      refine ⟨?_, ?_, ?_, ?_, ?_, ?_, ?_, ?_, ?_, ?_, trivial⟩
      · refine StepG.of ?_
        refine stepB rfl rfl (by decide) (by rw [hz]; decide) rfl rfl (by kernel_rfl) St SG fun d a W hF hG hH hn hcl hw => ?_
        have q0 := (hF.same 0 (by decide)).trans e0
        refine ⟨.string ⟨s.toArray⟩, W, ?_, Below.refl _ _, ?_⟩
        · clear hF hG hH hn hcl hw
          generalize a.eval = ρ at *
          go_simp
        · rfl
      · refine StepG.of ?_
        refine stepC rfl rfl (by decide) (by rw [hz]; decide) rfl rfl (by kernel_rfl) St SG fun d a W hF hG hH hn hcl hw => ?_
        have q9 : a.eval (.tmp 9) = .string ⟨s.toArray⟩ := hH.at_ (i := 0) rfl (hw 0 rfl) id
        have qf : a.eval (.func 19) = .func (.func 19) #[] #[] := rfl
        refine ⟨19, #[.string ⟨s.toArray⟩], ?_, ?_⟩
        · clear hF hG hH hn hcl hw
          generalize a.eval = ρ at *
          go_simp
        · refine (HS.out W (HK.out.next (Below.on B2 hG))).mono ?_; rintro e W' ⟨rfl, b⟩; exact ⟨_, rfl, b, rfl⟩
      · refine StepG.of ?_
        refine stepB rfl rfl (by decide) (by rw [hz]; decide) rfl rfl (by kernel_rfl) St SG fun d a W hF hG hH hn hcl hw => ?_
        have q3 := (hF.same 3 (by decide)).trans e3
        refine ⟨wordsV, W, ?_, Below.refl _ _, ?_⟩
        · exact exec_load rfl (by rw [q3]; exact BoxW.load (BoxA.next x3 hG))
        · rfl
      · refine StepG.of ?_
        refine stepB rfl rfl (by decide) (by rw [hz]; decide) rfl rfl (by kernel_rfl) St SG fun d a W hF hG hH hn hcl hw => ?_
        have q0 := (hF.same 0 (by decide)).trans e0
        refine ⟨.string ⟨s.toArray⟩, W, ?_, Below.refl _ _, ?_⟩
        · clear hF hG hH hn hcl hw
          generalize a.eval = ρ at *
          go_simp
        · rfl
      · refine StepG.of ?_
        refine stepC rfl rfl (by decide) (by rw [hz]; decide) rfl rfl (by kernel_rfl) St SG fun d a W hF hG hH hn hcl hw => ?_
        have q11 : a.eval (.tmp 11) = wordsV := hH.at_ (i := 2) rfl (hw 2 rfl) id
        have q12 : a.eval (.tmp 12) = .string ⟨s.toArray⟩ := hH.at_ (i := 3) rfl (hw 3 rfl) id
        have qf : a.eval (.func 20) = .func (.func 20) #[] #[] := rfl
        refine ⟨20, #[wordsV, .string ⟨s.toArray⟩], ?_, ?_⟩
        · clear hF hG hH hn hcl hw
          generalize a.eval = ρ at *
          go_simp
        · refine (HR.out W).mono ?_; rintro e W' ⟨rfl, b⟩; exact ⟨_, rfl, b, rfl⟩
      · refine StepG.of ?_
        refine stepB rfl rfl (by decide) (by rw [hz]; decide) rfl rfl (by kernel_rfl) St SG fun d a W hF hG hH hn hcl hw => ?_
        have q10 : a.eval (.tmp 10) = hashV x := hH.at_ (i := 1) rfl (hw 1 rfl) id
        have q13 : a.eval (.tmp 13) = hashV x := hH.at_ (i := 4) rfl (hw 4 rfl) id
        have r := he W
        refine ⟨.bool true, W, ?_, Below.refl _ _, ?_⟩
        · clear hF hG hH hn hcl hw
          generalize a.eval = ρ at *
          go_simp
        · rfl
      · refine StepG.of ?_
        refine stepB rfl rfl (by decide) (by rw [hz]; decide) rfl rfl (by kernel_rfl) St SG fun d a W hF hG hH hn hcl hw => ?_
        have q14 : a.eval (.tmp 14) = .bool true := hH.at_ (i := 5) rfl (hw 5 rfl) id
        refine ⟨.bool true, W, ?_, Below.refl _ _, ?_⟩
        · clear hF hG hH hn hcl hw
          generalize a.eval = ρ at *
          go_simp
        · rfl
      · refine StepG.on rfl (fun d a W hI hw => yielded_of rfl (hI.2.2.at_ (i := 6) rfl (hw 6 rfl) id)) ?_
        refine stepC rfl rfl (by decide) (by rw [hz]; decide) rfl rfl (by kernel_rfl) St SG fun d a W hF hG hH hn hcl hw => ?_
        have qf : a.eval (.func 17) = .func (.func 17) #[] #[] := rfl
        refine ⟨17, #[], ?_, ?_⟩
        · clear hF hG hH hn hcl hw
          generalize a.eval = ρ at *
          go_simp
        · refine (awake_any W (HK.out.next (Below.on B2 hG))).mono ?_; rintro e W' ⟨rfl, b⟩; exact ⟨_, rfl, b, rfl⟩
      · refine StepG.of ?_
        refine stepB rfl rfl (by decide) (by rw [hz]; decide) rfl rfl (by kernel_rfl) St SG fun d a W hF hG hH hn hcl hw => ?_
        have q15 : a.eval (.tmp 15) = .bool true := hH.at_ (i := 6) rfl (hw 6 rfl) id
        have q16 : a.eval (.tmp 16) = .bool true := hH.at_ (i := 7) rfl (hw 7 rfl) id
        have qk1 : a.eval (.const (.bool false)) = .bool false := rfl
        refine ⟨.bool true, W, ?_, Below.refl _ _, ?_⟩
        · clear hF hG hH hn hcl hw
          generalize a.eval = ρ at *
          go_simp
        · rfl
      · refine StepG.of ?_
        refine stepB rfl rfl (by decide) (by rw [hz]; decide) rfl rfl (by kernel_rfl) St SG fun d a W hF hG hH hn hcl hw => ?_
        have q17 : a.eval (.tmp 17) = .bool true := hH.at_ (i := 8) rfl (hw 8 rfl) id
        refine ⟨.bool true, W, ?_, Below.refl _ _, ?_⟩
        · clear hF hG hH hn hcl hw
          generalize a.eval = ρ at *
          go_simp
        · rfl
    · intro d a W ⟨hF, hB, hH⟩ hall
      have k2 : a.eval (.tmp 2) = .bool true := hH.at_ (i := 9) rfl (hall 9 (by decide)) id
      clear hH hall
      rw [hF.shape (by rw [hz]; decide)]
      clear hF
      simp only [List.foldl]
      generalize a.eval (.tmp 9) = z9 at *
      generalize a.eval (.tmp 10) = z10 at *
      generalize a.eval (.tmp 11) = z11 at *
      generalize a.eval (.tmp 12) = z12 at *
      generalize a.eval (.tmp 13) = z13 at *
      generalize a.eval (.tmp 14) = z14 at *
      generalize a.eval (.tmp 15) = z15 at *
      generalize a.eval (.tmp 16) = z16 at *
      generalize a.eval (.tmp 17) = z17 at *
      generalize a.eval (.tmp 2) = z2 at *
      subst k2
      rw [HA0.out]
      simp only [Act.put, List.setIfInBounds_toArray, List.set_cons_zero, List.set_cons_succ]
      clear hz HA0 SG e0 e3
      clear a a0
      go_wp2_with (fail)
      go_ret
      exact ⟨rfl, Below.on B2 hB⟩
end Go.Proofs.YtcocengpekndjaaDoor
