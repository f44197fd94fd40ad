/- The walk over the reference's Clash. -/
import Derived.Test.YtcocengpekndjaaDoorPrJoint
namespace Go.Proofs.YtcocengpekndjaaDoor
open Go.RowKit
/-- No two different ones among the first i have the same hash. -/
def NoClash (T : List Bs) (i : Nat) : Prop := ∀ a b (ha : a < T.length) (hb : b < T.length), b < a → a < i → sha T[b] = sha T[a] → T[b] = T[a]
noncomputable def clashB (T : List Bs) : Bool := @decide (ClashL sha T) (Classical.propDecidable _)
theorem clashB_yes {T : List Bs} (h : ClashL sha T) : clashB T = true := @decide_eq_true _ (Classical.propDecidable _) h
theorem clashB_iff {T : List Bs} : clashB T = true ↔ ClashL sha T := @decide_eq_true_iff _ (Classical.propDecidable _)
theorem clashB_no {T : List Bs} (h : NoClash T T.length) : clashB T = false := by
  refine @decide_eq_false _ (Classical.propDecidable _) ?_
  rintro ⟨x, hx, y, hy, e, hne⟩
  obtain ⟨i, hi, rfl⟩ := List.getElem_of_mem hx
  obtain ⟨j, hj, rfl⟩ := List.getElem_of_mem hy
  rcases Nat.lt_trichotomy i j with h1 | h1 | h1
  · exact hne (h j i hj hi h1 hj e)
  · subst h1; exact hne rfl
  · exact hne (h i j hi hj h1 hi e.symm).symm
set_option maxRecDepth 100000 in
set_option maxHeartbeats 4000000 in
theorem rclash_any (T : List Bs) (A : Option Addr) (n c : Nat) (w : World) (hn : T.length = n) (h5 : n ≤ 50000) (hin : ∀ s ∈ T, s.length ≤ 99999) (hS : Strs w A T) :
    Calls Tryd.prog 46 #[wordsV, .slice A n c] w fun e w' => e = .returned (.bool (clashB T)) ∧ Below w.heap.size w w' := by
  obtain ⟨B, hB⟩ : ∃ B, clashB T = B := ⟨_, rfl⟩
  rw [hB]
  have HBV := Lib.hid hB
  have HN := Lib.hid hn
  have HIN := Lib.hid hin
  obtain ⟨w0, hW0⟩ : ∃ w0, (w.alloc (.cells (ints .u32 wordsL) 27)) = w0 := ⟨_, rfl⟩
  have B0 : Below w.heap.size w w0 := hW0 ▸ Below.new1 _ _
  have y2 : BoxW w0 w.heap.size := hW0 ▸ BoxW.new w
  have hS0 := hS.next B0
  have HO := Lib.hid hW0
  clear hW0 hS hin hn hB
  go_enter Tryd.func46, Tryd.ntmps46
  go_upto_region 1 with (fail)
  change Code.wp _ _ _ _ (w.alloc (.cells (ints .u32 wordsL) 27))
  rw [HO.out]
  clear HO
  go_wp2_with (fail)
  have bs0 := B0.size
  go_loopw [5, 6, 7, 8] (fun v i _ _ W => ∃ k : Nat, k ≤ n ∧ i = .int .i64 k ∧ NoClash T k ∧ OwnHs W w0.heap.size v ((T.take k).map sha) ∧ Below w0.heap.size w0 W) (fun _ i _ _ _ => n - (intOf i).toNat)
  case atStart => exact ⟨0, Nat.zero_le _, rfl, fun _ _ _ _ _ h => absurd h (Nat.not_lt_zero _), OwnHs.nil _ _, Below.refl _ _⟩
  case round =>
    obtain ⟨i, hin, rfl, hNC, hO, hBw⟩ := hrel
    have z2 : BoxW wr w.heap.size := BoxA.next y2 hBw
    have hSr := hS0.next hBw
    have BB := Below.on B0 hBw
    have hBo := hBw
    clear hBw
    by_cases hlt : i < n
    · have hiT : i < T.length := by have := HN.out; omega
      obtain ⟨ad, rfl⟩ : ∃ a, A = some a := by
        rcases hSr with e | ⟨a, e, _⟩
        · rw [e] at hiT; cases hiT
        · exact ⟨a, e⟩
      have g0 : wr.cell? (ad.add i) = some (.string ⟨T[i].toArray⟩) := hSr.cell hiT
      have hx := HIN.out _ (List.getElem_mem hiT)
      have ht : (T.take (i + 1)).map sha = (T.take i).map sha ++ [sha T[i]] := by rw [List.take_succ_eq_append_getElem hiT, List.map_append]; rfl
      have hl : ((T.take i).map sha).length = i := by rw [List.length_map, List.length_take]; omega
      obtain ⟨A1, c1, hv⟩ := hO.sliced
      rw [hl] at hv
      subst hv
      have HK := Lib.hid (fun k (hk : k < i) (hkT : k < T.length) (b : Bool) (h : (T[k] == T[i]) = b) => h)
      have hrs := fun W => rsum_any T[i] W (by omega)
      have hx32 : (sha T[i]).length = 32 := sha_length _
      have HT := Lib.hid ht
      have HL := Lib.hid hl
      have HO := Lib.hid hO
      have HRS := Lib.hid hrs
      have HX := Lib.hid hx32
      have k0 : (0 : Int) ≤ (i : Int) := by omega
      have k1 : (i : Int) < (n : Int) := by omega
      obtain ⟨X, hX⟩ : ∃ X, T[i] = X := ⟨_, rfl⟩
      have HNC0 := Lib.hid hNC
      rw [hX] at g0
      have HXX := Lib.hid hX
      have hne0 : i < n := hlt
      clear hx ht hl hrs hx32 hX hO hNC
      go_upto_region 5 with (fail)
      refine wp_name fun a0 ha0 => ?_
      have e1 : a0.eval (.tmp 1) = .slice (some ad) n c := by rw [ha0]; rfl
      have e2 : a0.eval (.tmp 2) = .pointer (some ⟨w.heap.size, 0, none⟩) := by rw [ha0]; rfl
      have e6 : a0.eval (.tmp 6) = .int .i64 (i : Int) := by rw [ha0]; rfl
      have hz : a0.tmps.size = 47 := by rw [ha0]; rfl
      have HA0 := Lib.hid ha0
      clear ha0
      have SG : ∀ (d d' : Nat → Prop) (W W' : World), (fun (_ : Nat → Prop) (W : World) => Below wr.heap.size wr W) d W → (∀ j, d j → d' j) → Below W.heap.size W W' → (fun (_ : Nat → Prop) (W : World) => Below wr.heap.size wr W) d' W' := fun _ _ _ _ h _ b => Below.next h b
      refine wp_region_steps (Inv [15, 16, 17, 18, 19, 20, 7] a0 (fun (_ : Nat → Prop) (W : World) => Below wr.heap.size wr W) [(⟨some 0, 15, none, fun v _ => v = wordsV⟩ : Cl), ⟨some 1, 16, none, fun v _ => v = .slice (some ad) n c⟩, ⟨some 2, 17, none, fun v _ => v = .int .i64 (i : Int)⟩, ⟨some 3, 18, none, fun v _ => v = .pointer (some (ad.add i))⟩, ⟨some 4, 19, none, fun v _ => v = .string ⟨X.toArray⟩⟩, ⟨some 5, 20, none, fun v _ => v = hashV (sha X)⟩, ⟨some 6, 7, some 7, fun v W => ∃ g, v = .pointer (some ⟨g, 0, none⟩) ∧ wr.heap.size ≤ g ∧ ∃ m, BoxA W g 30 .u8 m ∧ m.length = 32⟩, ⟨some 7, 7, none, fun v W => ∃ g, v = .pointer (some ⟨g, 0, none⟩) ∧ wr.heap.size ≤ g ∧ BoxH W g (sha X)⟩]) (by kernel_rfl) (by kernel_rfl) (Inv.start (Below.refl _ _).drew ⟨nofun, nofun, nofun, nofun, nofun, nofun, nofun, nofun, trivial⟩) ?_ ?_
      · have St : ∀ xc ∈ [(⟨some 0, 15, none, fun v _ => v = wordsV⟩ : Cl), ⟨some 1, 16, none, fun v _ => v = .slice (some ad) n c⟩, ⟨some 2, 17, none, fun v _ => v = .int .i64 (i : Int)⟩, ⟨some 3, 18, none, fun v _ => v = .pointer (some (ad.add i))⟩, ⟨some 4, 19, none, fun v _ => v = .string ⟨X.toArray⟩⟩, ⟨some 5, 20, none, fun v _ => v = hashV (sha X)⟩, ⟨some 6, 7, some 7, fun v W => ∃ g, v = .pointer (some ⟨g, 0, none⟩) ∧ wr.heap.size ≤ g ∧ ∃ m, BoxA W g 30 .u8 m ∧ m.length = 32⟩, ⟨some 7, 7, none, fun v W => ∃ g, v = .pointer (some ⟨g, 0, none⟩) ∧ wr.heap.size ≤ g ∧ BoxH W g (sha X)⟩], Lasts xc := AllC.mem ⟨lastsV0 _ _ _ _, lastsV0 _ _ _ _, lastsV0 _ _ _ _, lastsV0 _ _ _ _, lastsV0 _ _ _ _, lastsV0 _ _ _ _, (fun _ _ _ h b => by obtain ⟨g, e, h1, m, h2, h3⟩ := h; exact ⟨g, e, h1, m, h2.next b, h3⟩), (fun _ _ _ h b => by obtain ⟨g, e, h1, h2⟩ := h; exact ⟨g, e, h1, BoxA.next h2 b⟩), trivial⟩
        clear HA0
        refine ⟨?_, ?_, ?_, ?_, ?_, ?_, ?_, ?_, trivial⟩
        · refine stepB rfl rfl (by decide) (by rw [hz]; decide) rfl rfl (by kernel_rfl) St SG fun d a W hF hG hH hn hcl hw => ?_
          have q2 := (hF.same 2 (by decide)).trans e2
          refine ⟨wordsV, W, ?_, Below.refl _ _, ?_⟩
          · exact exec_load rfl (by rw [q2]; exact BoxW.load (BoxA.next z2 hG))
          · rfl
        · refine stepB rfl rfl (by decide) (by rw [hz]; decide) rfl rfl (by kernel_rfl) St SG fun d a W hF hG hH hn hcl hw => ?_
          have q1 := (hF.same 1 (by decide)).trans e1
          refine ⟨.slice (some ad) n c, W, ?_, Below.refl _ _, ?_⟩
          · clear hF hG hH hn hcl hw
            generalize a.eval = ρ at *
            go_simp
          · rfl
        · refine stepB rfl rfl (by decide) (by rw [hz]; decide) rfl rfl (by kernel_rfl) St SG fun d a W hF hG hH hn hcl hw => ?_
          have q6 := (hF.same 6 (by decide)).trans e6
          refine ⟨.int .i64 (i : Int), W, ?_, Below.refl _ _, ?_⟩
          · clear hF hG hH hn hcl hw
            generalize a.eval = ρ at *
            go_simp
          · rfl
        · refine stepB rfl rfl (by decide) (by rw [hz]; decide) rfl rfl (by kernel_rfl) St SG fun d a W hF hG hH hn hcl hw => ?_
          have q16 : a.eval (.tmp 16) = .slice (some ad) n c := hH.at_ (i := 1) rfl (hw 1 rfl) id
          have q17 : a.eval (.tmp 17) = .int .i64 (i : Int) := hH.at_ (i := 2) rfl (hw 2 rfl) id
          refine ⟨.pointer (some (ad.add i)), W, ?_, Below.refl _ _, ?_⟩
          · exact exec_indexS rfl q16 q17 hne0
          · rfl
        · refine stepB rfl rfl (by decide) (by rw [hz]; decide) rfl rfl (by kernel_rfl) St SG fun d a W hF hG hH hn hcl hw => ?_
          have q18 : a.eval (.tmp 18) = .pointer (some (ad.add i)) := hH.at_ (i := 3) rfl (hw 3 rfl) id
          have qc_ := cell_kept hG g0
          refine ⟨.string ⟨X.toArray⟩, W, ?_, Below.refl _ _, ?_⟩
          · clear hF hG hH hn hcl hw
            generalize a.eval = ρ at *
            go_simp
          · rfl
        · refine stepC rfl rfl (by decide) (by rw [hz]; decide) rfl rfl (by kernel_rfl) St SG fun d a W hF hG hH hn hcl hw => ?_
          have q15 : a.eval (.tmp 15) = wordsV := hH.at_ (i := 0) rfl (hw 0 rfl) id
          have q19 : a.eval (.tmp 19) = .string ⟨X.toArray⟩ := hH.at_ (i := 4) rfl (hw 4 rfl) id
          have qf : a.eval (.func 20) = .func (.func 20) #[] #[] := rfl
          refine ⟨20, #[wordsV, .string ⟨X.toArray⟩], ?_, ?_⟩
          · clear hF hG hH hn hcl hw
            generalize a.eval = ρ at *
            go_simp
          · refine ((HXX.out ▸ HRS.out W)).mono ?_; rintro e W' ⟨rfl, b⟩; exact ⟨_, rfl, b, rfl⟩
        · refine stepB rfl rfl (by decide) (by rw [hz]; decide) rfl rfl (by kernel_rfl) St SG fun d a W hF hG hH hn hcl hw => ?_
          refine ⟨.pointer (some ⟨W.heap.size, 0, none⟩), W.alloc (.cells (ints .u8 (List.replicate 32 0)) 30), ?_, Below.new1 W _, ?_⟩
          · (clear hF hG hH hn hcl hw; generalize a.eval = ρ at *; go_simp; rfl)
          · exact ⟨_, rfl, hG.size, _, BoxA.new W _ _ _ _ rfl, by simp⟩
        · refine stepN 7 (.tmp 20) rfl rfl rfl rfl rfl (sha X) (sha_length X) (wr.heap.size) (fun g W hg h => ⟨g, rfl, hg, h⟩) (AllC.mem ⟨.inr (.inr fun _ _ _ _ h => h), .inr (.inr fun _ _ _ _ h => h), .inr (.inr fun _ _ _ _ h => h), .inr (.inr fun _ _ _ _ h => h), .inr (.inr fun _ _ _ _ h => h), .inr (.inr fun _ _ _ _ h => h), .inr (.inl rfl), .inl rfl, trivial⟩) (fun d d' W g hg h _ => below_setRow h hg _) fun d a W hF hG hH hn hcl hw => ?_
          have qy : a.eval (.tmp 20) = hashV (sha X) := hH.at_ (i := 5) rfl (hw 5 rfl) id
          exact ⟨qy, hH.at_ (i := 6) rfl (hw 6 rfl) hn⟩
      · intro d a W ⟨hF, hB, hH⟩ hall
        have s7 : ∃ g, a.eval (.tmp 7) = .pointer (some ⟨g, 0, none⟩) ∧ wr.heap.size ≤ g ∧ BoxH W g (sha X) := hH.at_ (i := 7) rfl (hall 7 (by decide)) id
        clear hH hall
        rw [hF.shape (by rw [hz]; decide)]
        clear hF
        simp only [List.foldl]
        generalize a.eval (.tmp 15) = z15 at *
        generalize a.eval (.tmp 16) = z16 at *
        generalize a.eval (.tmp 17) = z17 at *
        generalize a.eval (.tmp 18) = z18 at *
        generalize a.eval (.tmp 19) = z19 at *
        generalize a.eval (.tmp 20) = z20 at *
        generalize a.eval (.tmp 7) = z7 at *
        rw [HA0.out]
        simp only [Act.put, List.setIfInBounds_toArray, List.set_cons_zero, List.set_cons_succ]
        clear hz HA0 SG e1 e2 e6
        clear a a0
        obtain ⟨g7, rfl, hg7, y7⟩ := s7
        have hO1 := HO.out.next hB
        have hS1 := hSr.next hB
        have BB1 := Below.on BB hB
        have hBo1 := Below.on hBo hB
        have z21 := hB
        have bw := BB.size
        clear hSr BB z2 g0 HO HRS
        generalize W = w1 at *
        go_wp2_with (fail)
        go_loopw [8] (fun v W => ∃ k : Nat, k ≤ i ∧ v = .int .i64 k ∧ (∀ b (hb : b < T.length), b < k → sha T[b] = sha X → T[b] = X) ∧ Below w1.heap.size w1 W) (fun v _ => i - (intOf v).toNat)
        case atStart => exact ⟨0, Nat.zero_le _, rfl, fun _ _ h => absurd h (Nat.not_lt_zero _), Below.refl _ _⟩
        case round =>
          obtain ⟨k, hki, rfl, hPK, hW1⟩ := hrel
          have hO2 := hO1.next hW1
          have hS2 := hS1.next hW1
          have y72 : BoxH wr g7 (sha X) := BoxA.next y7 hW1
          have BB2 := Below.on BB1 hW1
          have hBo2 := Below.on hBo1 hW1
          by_cases hlk : k < i
          · have hkT : k < T.length := by omega
            obtain ⟨A9, c9, e9, _, hs9⟩ := hO2.toHs
            simp only [Value.slice.injEq] at e9
            obtain ⟨rfl, e10, rfl⟩ := e9
            clear e10
            have hkl : k < ((T.take i).map sha).length := by rw [HL.out]; exact hlk
            obtain ⟨sd, rfl⟩ : ∃ a, A1 = some a := by
              obtain ⟨_, h | ⟨a, e, _⟩⟩ := hs9
              · rw [h] at hkl; simp at hkl
              · exact ⟨a, e⟩
            have ek : ((T.take i).map sha)[k] = sha T[k] := by simp
            have hld : ∀ W, Below wr.heap.size wr W → (Instr.loadAt 30 (.pointer (some (sd.add (k * 32))))).run Tryd.prog W = .ok (hashV (sha T[k])) W := fun W h => ek ▸ (hs9.next h).load hkl _ 32 5 (by kernel_rfl) szHash
            have gk : wr.cell? (ad.add k) = some (.string ⟨T[k].toArray⟩) := hS2.cell hkT
            have gi : wr.cell? (ad.add i) = some (.string ⟨X.toArray⟩) := by rw [← HXX.out]; exact hS2.cell hiT
            have hyes : Hid (sha T[k] = sha X → T[k] ≠ X → B = true) := Lib.hid fun e1 e2 => by rw [← HBV.out]; exact clashB_yes ⟨_, List.getElem_mem hkT, X, by rw [← HXX.out]; exact List.getElem_mem hiT, e1, e2⟩
            have hnx : Hid ((sha T[k] = sha X → T[k] = X) → ∀ b (hb : b < T.length), b < k + 1 → sha T[b] = sha X → T[b] = X) := Lib.hid fun h b hb hbk e => by
              by_cases hq : b = k
              · subst hq; exact h e
              · exact hPK b hb (by omega) e
            have ly : (sha T[k]).length = 32 := sha_length _
            generalize T[k] = Y at *
            have m0 : (0 : Int) ≤ (k : Int) := by omega
            have m1 : (k : Int) < (i : Int) := by omega
            have kn : k < n := by omega
            have LD := Lib.hid hld
            have lx : (sha X).length = 32 := sha_length X
            have HPK := Lib.hid hPK
            clear hld hs9 ek hkl hPK
            by_cases e1 : sha Y = sha X
            · have HQ := Lib.hid (fun W => eq_hash ly lx true (by rw [e1]; simp) W)
              by_cases e2 : Y = X
              · have H2 := Lib.hid e2
                have HE := Lib.hid (fun _ : sha Y = sha X => e2)
                clear e1 e2 ly lx
                go_upto_region 9 with (fail)
                refine wp_name fun a0 ha0 => ?_
                have e1 : a0.eval (.tmp 1) = .slice (some ad) n c := by rw [ha0]; rfl
                have e5 : a0.eval (.tmp 5) = .slice (some sd) i c1 := by rw [ha0]; rfl
                have e6 : a0.eval (.tmp 6) = .int .i64 (i : Int) := by rw [ha0]; rfl
                have e7 : a0.eval (.tmp 7) = .pointer (some ⟨g7, 0, none⟩) := by rw [ha0]; rfl
                have e8 : a0.eval (.tmp 8) = .int .i64 (k : Int) := by rw [ha0]; rfl
                have hz : a0.tmps.size = 47 := by rw [ha0]; rfl
                have HA0 := Lib.hid ha0
                clear ha0
                have SG : ∀ (d d' : Nat → Prop) (W W' : World), (fun (_ : Nat → Prop) (W : World) => Below wr.heap.size wr W) d W → (∀ j, d j → d' j) → Below W.heap.size W W' → (fun (_ : Nat → Prop) (W : World) => Below wr.heap.size wr W) d' W' := fun _ _ _ _ h _ b => Below.next h b
                refine wp_region_guards (Inv [26, 27, 28, 29, 30, 31, 32, 33, 34, 35, 36, 37, 38, 39, 40, 41, 42] a0 (fun (_ : Nat → Prop) (W : World) => Below wr.heap.size wr W) [(⟨some 0, 26, none, fun v _ => v = .slice (some sd) i c1⟩ : Cl), ⟨some 1, 27, none, fun v _ => v = .int .i64 (k : Int)⟩, ⟨some 2, 28, none, fun v _ => v = .pointer (some (sd.add (k * 32)))⟩, ⟨some 3, 29, none, fun v _ => v = hashV (sha Y)⟩, ⟨some 4, 30, none, fun v _ => v = hashV (sha X)⟩, ⟨some 5, 31, none, fun v _ => v = .bool true⟩, ⟨some 6, 32, none, fun v _ => v = .bool true⟩, ⟨some 7, 33, none, fun v _ => v = .slice (some ad) n c⟩, ⟨some 8, 34, none, fun v _ => v = .int .i64 (k : Int)⟩, ⟨some 9, 35, none, fun v _ => v = .pointer (some (ad.add k))⟩, ⟨some 10, 36, none, fun v _ => v = .string ⟨Y.toArray⟩⟩, ⟨some 11, 37, none, fun v _ => v = .slice (some ad) n c⟩, ⟨some 12, 38, none, fun v _ => v = .int .i64 (i : Int)⟩, ⟨some 13, 39, none, fun v _ => v = .pointer (some (ad.add i))⟩, ⟨some 14, 40, none, fun v _ => v = .string ⟨X.toArray⟩⟩, ⟨some 15, 41, none, fun v _ => v = .bool false⟩, ⟨some 16, 42, none, fun v _ => v = .bool false⟩]) (by kernel_rfl) (by kernel_rfl) (Inv.start (Below.refl _ _).drew ⟨nofun, nofun, nofun, nofun, nofun, nofun, nofun, nofun, nofun, nofun, nofun, nofun, nofun, nofun, nofun, nofun, nofun, trivial⟩) ?_ ?_
                · have St : ∀ xc ∈ [(⟨some 0, 26, none, fun v _ => v = .slice (some sd) i c1⟩ : Cl), ⟨some 1, 27, none, fun v _ => v = .int .i64 (k : Int)⟩, ⟨some 2, 28, none, fun v _ => v = .pointer (some (sd.add (k * 32)))⟩, ⟨some 3, 29, none, fun v _ => v = hashV (sha Y)⟩, ⟨some 4, 30, none, fun v _ => v = hashV (sha X)⟩, ⟨some 5, 31, none, fun v _ => v = .bool true⟩, ⟨some 6, 32, none, fun v _ => v = .bool true⟩, ⟨some 7, 33, none, fun v _ => v = .slice (some ad) n c⟩, ⟨some 8, 34, none, fun v _ => v = .int .i64 (k : Int)⟩, ⟨some 9, 35, none, fun v _ => v = .pointer (some (ad.add k))⟩, ⟨some 10, 36, none, fun v _ => v = .string ⟨Y.toArray⟩⟩, ⟨some 11, 37, none, fun v _ => v = .slice (some ad) n c⟩, ⟨some 12, 38, none, fun v _ => v = .int .i64 (i : Int)⟩, ⟨some 13, 39, none, fun v _ => v = .pointer (some (ad.add i))⟩, ⟨some 14, 40, none, fun v _ => v = .string ⟨X.toArray⟩⟩, ⟨some 15, 41, none, fun v _ => v = .bool false⟩, ⟨some 16, 42, none, fun v _ => v = .bool false⟩], Lasts xc := AllC.mem ⟨lastsV0 _ _ _ _, lastsV0 _ _ _ _, lastsV0 _ _ _ _, lastsV0 _ _ _ _, lastsV0 _ _ _ _, lastsV0 _ _ _ _, lastsV0 _ _ _ _, lastsV0 _ _ _ _, lastsV0 _ _ _ _, lastsV0 _ _ _ _, lastsV0 _ _ _ _, lastsV0 _ _ _ _, lastsV0 _ _ _ _, lastsV0 _ _ _ _, lastsV0 _ _ _ _, lastsV0 _ _ _ _, lastsV0 _ _ _ _, trivial⟩
                  clear HA0
                  refine ⟨?_, ?_, ?_, ?_, ?_, ?_, ?_, ?_, ?_, ?_, ?_, ?_, ?_, ?_, ?_, ?_, ?_, trivial⟩
                  · refine StepG.of ?_
                    refine stepB rfl rfl (by decide) (by rw [hz]; decide) rfl rfl (by kernel_rfl) St SG fun d a W hF hG hH hn hcl hw => ?_
                    have q5 := (hF.same 5 (by decide)).trans e5
                    refine ⟨.slice (some sd) i c1, W, ?_, Below.refl _ _, ?_⟩
                    · clear hF hG hH hn hcl hw
                      generalize a.eval = ρ at *
                      go_simp
                    · rfl
                  · refine StepG.of ?_
                    refine stepB rfl rfl (by decide) (by rw [hz]; decide) rfl rfl (by kernel_rfl) St SG fun d a W hF hG hH hn hcl hw => ?_
                    have q8 := (hF.same 8 (by decide)).trans e8
                    refine ⟨.int .i64 (k : Int), W, ?_, Below.refl _ _, ?_⟩
                    · clear hF hG hH hn hcl hw
                      generalize a.eval = ρ at *
                      go_simp
                    · rfl
                  · refine StepG.of ?_
                    refine stepB rfl rfl (by decide) (by rw [hz]; decide) rfl rfl (by kernel_rfl) St SG fun d a W hF hG hH hn hcl hw => ?_
                    have q26 : a.eval (.tmp 26) = .slice (some sd) i c1 := hH.at_ (i := 0) rfl (hw 0 rfl) id
                    have q27 : a.eval (.tmp 27) = .int .i64 (k : Int) := hH.at_ (i := 1) rfl (hw 1 rfl) id
                    refine ⟨.pointer (some (sd.add (k * 32))), W, ?_, Below.refl _ _, ?_⟩
                    · exact exec_indexH (i := k) rfl q26 q27 hlk
                    · rfl
                  · refine StepG.of ?_
                    refine stepB rfl rfl (by decide) (by rw [hz]; decide) rfl rfl (by kernel_rfl) St SG fun d a W hF hG hH hn hcl hw => ?_
                    have q28 : a.eval (.tmp 28) = .pointer (some (sd.add (k * 32))) := hH.at_ (i := 2) rfl (hw 2 rfl) id
                    refine ⟨hashV (sha Y), W, ?_, Below.refl _ _, ?_⟩
                    · exact exec_load rfl (by rw [q28]; exact LD.out W hG)
                    · rfl
                  · refine StepG.of ?_
                    refine stepB rfl rfl (by decide) (by rw [hz]; decide) rfl rfl (by kernel_rfl) St SG fun d a W hF hG hH hn hcl hw => ?_
                    have q7 := (hF.same 7 (by decide)).trans e7
                    refine ⟨hashV (sha X), W, ?_, Below.refl _ _, ?_⟩
                    · exact exec_load rfl (by rw [q7]; exact BoxH.load_ (BoxA.next y72 hG) (sha_length X))
                    · rfl
                  · refine StepG.of ?_
                    refine stepB rfl rfl (by decide) (by rw [hz]; decide) rfl rfl (by kernel_rfl) St SG fun d a W hF hG hH hn hcl hw => ?_
                    have q29 : a.eval (.tmp 29) = hashV (sha Y) := hH.at_ (i := 3) rfl (hw 3 rfl) id
                    have q30 : a.eval (.tmp 30) = hashV (sha X) := hH.at_ (i := 4) rfl (hw 4 rfl) id
                    have r := HQ.out W
                    refine ⟨.bool true, W, ?_, Below.refl _ _, ?_⟩
                    · clear hF hG hH hn hcl hw
                      generalize a.eval = ρ at *
                      go_simp
                    · rfl
                  · refine StepG.of ?_
                    refine stepB rfl rfl (by decide) (by rw [hz]; decide) rfl rfl (by kernel_rfl) St SG fun d a W hF hG hH hn hcl hw => ?_
                    have q31 : a.eval (.tmp 31) = .bool true := hH.at_ (i := 5) rfl (hw 5 rfl) id
                    refine ⟨.bool true, W, ?_, Below.refl _ _, ?_⟩
                    · clear hF hG hH hn hcl hw
                      generalize a.eval = ρ at *
                      go_simp
                    · rfl
                  · refine StepG.on rfl (fun d a W hI hw => yielded_of rfl (hI.2.2.at_ (i := 6) rfl (hw 6 rfl) id)) ?_
                    refine stepB rfl rfl (by decide) (by rw [hz]; decide) rfl rfl (by kernel_rfl) St SG fun d a W hF hG hH hn hcl hw => ?_
                    have q1 := (hF.same 1 (by decide)).trans e1
                    refine ⟨.slice (some ad) n c, W, ?_, Below.refl _ _, ?_⟩
                    · clear hF hG hH hn hcl hw
                      generalize a.eval = ρ at *
                      go_simp
                    · rfl
                  · refine StepG.on rfl (fun d a W hI hw => yielded_of rfl (hI.2.2.at_ (i := 6) rfl (hw 6 rfl) id)) ?_
                    refine stepB rfl rfl (by decide) (by rw [hz]; decide) rfl rfl (by kernel_rfl) St SG fun d a W hF hG hH hn hcl hw => ?_
                    have q8 := (hF.same 8 (by decide)).trans e8
                    refine ⟨.int .i64 (k : Int), W, ?_, Below.refl _ _, ?_⟩
                    · clear hF hG hH hn hcl hw
                      generalize a.eval = ρ at *
                      go_simp
                    · rfl
                  · refine StepG.on rfl (fun d a W hI hw => yielded_of rfl (hI.2.2.at_ (i := 6) rfl (hw 6 rfl) id)) ?_
                    refine stepB rfl rfl (by decide) (by rw [hz]; decide) rfl rfl (by kernel_rfl) St SG fun d a W hF hG hH hn hcl hw => ?_
                    have q33 : a.eval (.tmp 33) = .slice (some ad) n c := hH.at_ (i := 7) rfl (hw 7 rfl) id
                    have q34 : a.eval (.tmp 34) = .int .i64 (k : Int) := hH.at_ (i := 8) rfl (hw 8 rfl) id
                    refine ⟨.pointer (some (ad.add k)), W, ?_, Below.refl _ _, ?_⟩
                    · exact exec_indexS rfl q33 q34 kn
                    · rfl
                  · refine StepG.on rfl (fun d a W hI hw => yielded_of rfl (hI.2.2.at_ (i := 6) rfl (hw 6 rfl) id)) ?_
                    refine stepB rfl rfl (by decide) (by rw [hz]; decide) rfl rfl (by kernel_rfl) St SG fun d a W hF hG hH hn hcl hw => ?_
                    have q35 : a.eval (.tmp 35) = .pointer (some (ad.add k)) := hH.at_ (i := 9) rfl (hw 9 rfl) id
                    have qc_ := cell_kept hG gk
                    refine ⟨.string ⟨Y.toArray⟩, W, ?_, Below.refl _ _, ?_⟩
                    · clear hF hG hH hn hcl hw
                      generalize a.eval = ρ at *
                      go_simp
                    · rfl
                  · refine StepG.on rfl (fun d a W hI hw => yielded_of rfl (hI.2.2.at_ (i := 6) rfl (hw 6 rfl) id)) ?_
                    refine stepB rfl rfl (by decide) (by rw [hz]; decide) rfl rfl (by kernel_rfl) St SG fun d a W hF hG hH hn hcl hw => ?_
                    have q1 := (hF.same 1 (by decide)).trans e1
                    refine ⟨.slice (some ad) n c, W, ?_, Below.refl _ _, ?_⟩
                    · clear hF hG hH hn hcl hw
                      generalize a.eval = ρ at *
                      go_simp
                    · rfl
                  · refine StepG.on rfl (fun d a W hI hw => yielded_of rfl (hI.2.2.at_ (i := 6) rfl (hw 6 rfl) id)) ?_
                    refine stepB rfl rfl (by decide) (by rw [hz]; decide) rfl rfl (by kernel_rfl) St SG fun d a W hF hG hH hn hcl hw => ?_
                    have q6 := (hF.same 6 (by decide)).trans e6
                    refine ⟨.int .i64 (i : Int), W, ?_, Below.refl _ _, ?_⟩
                    · clear hF hG hH hn hcl hw
                      generalize a.eval = ρ at *
                      go_simp
                    · rfl
                  · refine StepG.on rfl (fun d a W hI hw => yielded_of rfl (hI.2.2.at_ (i := 6) rfl (hw 6 rfl) id)) ?_
                    refine stepB rfl rfl (by decide) (by rw [hz]; decide) rfl rfl (by kernel_rfl) St SG fun d a W hF hG hH hn hcl hw => ?_
                    have q37 : a.eval (.tmp 37) = .slice (some ad) n c := hH.at_ (i := 11) rfl (hw 11 rfl) id
                    have q38 : a.eval (.tmp 38) = .int .i64 (i : Int) := hH.at_ (i := 12) rfl (hw 12 rfl) id
                    refine ⟨.pointer (some (ad.add i)), W, ?_, Below.refl _ _, ?_⟩
                    · exact exec_indexS rfl q37 q38 hne0
                    · rfl
                  · refine StepG.on rfl (fun d a W hI hw => yielded_of rfl (hI.2.2.at_ (i := 6) rfl (hw 6 rfl) id)) ?_
                    refine stepB rfl rfl (by decide) (by rw [hz]; decide) rfl rfl (by kernel_rfl) St SG fun d a W hF hG hH hn hcl hw => ?_
                    have q39 : a.eval (.tmp 39) = .pointer (some (ad.add i)) := hH.at_ (i := 13) rfl (hw 13 rfl) id
                    have qc_ := cell_kept hG gi
                    refine ⟨.string ⟨X.toArray⟩, W, ?_, Below.refl _ _, ?_⟩
                    · clear hF hG hH hn hcl hw
                      generalize a.eval = ρ at *
                      go_simp
                    · rfl
                  · refine StepG.on rfl (fun d a W hI hw => yielded_of rfl (hI.2.2.at_ (i := 6) rfl (hw 6 rfl) id)) ?_
                    refine stepB rfl rfl (by decide) (by rw [hz]; decide) rfl rfl (by kernel_rfl) St SG fun d a W hF hG hH hn hcl hw => ?_
                    have q36 : a.eval (.tmp 36) = .string ⟨Y.toArray⟩ := hH.at_ (i := 10) rfl (hw 10 rfl) id
                    have q40 : a.eval (.tmp 40) = .string ⟨X.toArray⟩ := hH.at_ (i := 14) rfl (hw 14 rfl) id
                    have e2_ := H2.out
                    refine ⟨.bool false, W, ?_, Below.refl _ _, ?_⟩
                    · clear hF hG hH hn hcl hw
                      generalize a.eval = ρ at *
                      go_simp
                    · rfl
                  · refine StepG.of ?_
                    refine stepB rfl rfl (by decide) (by rw [hz]; decide) rfl rfl (by kernel_rfl) St SG fun d a W hF hG hH hn hcl hw => ?_
                    have q32 : a.eval (.tmp 32) = .bool true := hH.at_ (i := 6) rfl (hw 6 rfl) id
                    have q41 : a.eval (.tmp 41) = .bool false := hH.at_ (i := 15) rfl (hw 15 rfl) id
                    have qk1 : a.eval (.const (.bool false)) = .bool false := rfl
                    refine ⟨.bool false, W, ?_, Below.refl _ _, ?_⟩
                    · clear hF hG hH hn hcl hw
                      generalize a.eval = ρ at *
                      go_simp
                    · rfl
                · intro d a W ⟨hF, hB, hH⟩ hall
                  have k42 : a.eval (.tmp 42) = .bool false := hH.at_ (i := 16) rfl (hall 16 (by decide)) id
                  clear hH hall
                  rw [hF.shape (by rw [hz]; decide)]
                  clear hF
                  simp only [List.foldl]
                  generalize a.eval (.tmp 26) = z26 at *
                  generalize a.eval (.tmp 27) = z27 at *
                  generalize a.eval (.tmp 28) = z28 at *
                  generalize a.eval (.tmp 29) = z29 at *
                  generalize a.eval (.tmp 30) = z30 at *
                  generalize a.eval (.tmp 31) = z31 at *
                  generalize a.eval (.tmp 32) = z32 at *
                  generalize a.eval (.tmp 33) = z33 at *
                  generalize a.eval (.tmp 34) = z34 at *
                  generalize a.eval (.tmp 35) = z35 at *
                  generalize a.eval (.tmp 36) = z36 at *
                  generalize a.eval (.tmp 37) = z37 at *
                  generalize a.eval (.tmp 38) = z38 at *
                  generalize a.eval (.tmp 39) = z39 at *
                  generalize a.eval (.tmp 40) = z40 at *
                  generalize a.eval (.tmp 41) = z41 at *
                  generalize a.eval (.tmp 42) = z42 at *
                  subst k42
                  rw [HA0.out]
                  simp only [Act.put, List.setIfInBounds_toArray, List.set_cons_zero, List.set_cons_succ]
                  clear hz HA0 SG e1 e5 e6 e7 e8
                  clear a a0
                  go_wp2_with (fail)
                  exact ⟨⟨k + 1, by omega, by go_num, hnx.out HE.out, Below.on hW1 hB⟩, by simp [intOf]; omega⟩
              · have H2 := Lib.hid e2
                obtain rfl : B = true := hyes.out e1 e2
                clear e1 e2 ly lx
                go_upto_region 9 with (fail)
                refine wp_name fun a0 ha0 => ?_
                have e1 : a0.eval (.tmp 1) = .slice (some ad) n c := by rw [ha0]; rfl
                have e5 : a0.eval (.tmp 5) = .slice (some sd) i c1 := by rw [ha0]; rfl
                have e6 : a0.eval (.tmp 6) = .int .i64 (i : Int) := by rw [ha0]; rfl
                have e7 : a0.eval (.tmp 7) = .pointer (some ⟨g7, 0, none⟩) := by rw [ha0]; rfl
                have e8 : a0.eval (.tmp 8) = .int .i64 (k : Int) := by rw [ha0]; rfl
                have hz : a0.tmps.size = 47 := by rw [ha0]; rfl
                have HA0 := Lib.hid ha0
                clear ha0
                have SG : ∀ (d d' : Nat → Prop) (W W' : World), (fun (_ : Nat → Prop) (W : World) => Below wr.heap.size wr W) d W → (∀ j, d j → d' j) → Below W.heap.size W W' → (fun (_ : Nat → Prop) (W : World) => Below wr.heap.size wr W) d' W' := fun _ _ _ _ h _ b => Below.next h b
                refine wp_region_guards (Inv [26, 27, 28, 29, 30, 31, 32, 33, 34, 35, 36, 37, 38, 39, 40, 41, 42] a0 (fun (_ : Nat → Prop) (W : World) => Below wr.heap.size wr W) [(⟨some 0, 26, none, fun v _ => v = .slice (some sd) i c1⟩ : Cl), ⟨some 1, 27, none, fun v _ => v = .int .i64 (k : Int)⟩, ⟨some 2, 28, none, fun v _ => v = .pointer (some (sd.add (k * 32)))⟩, ⟨some 3, 29, none, fun v _ => v = hashV (sha Y)⟩, ⟨some 4, 30, none, fun v _ => v = hashV (sha X)⟩, ⟨some 5, 31, none, fun v _ => v = .bool true⟩, ⟨some 6, 32, none, fun v _ => v = .bool true⟩, ⟨some 7, 33, none, fun v _ => v = .slice (some ad) n c⟩, ⟨some 8, 34, none, fun v _ => v = .int .i64 (k : Int)⟩, ⟨some 9, 35, none, fun v _ => v = .pointer (some (ad.add k))⟩, ⟨some 10, 36, none, fun v _ => v = .string ⟨Y.toArray⟩⟩, ⟨some 11, 37, none, fun v _ => v = .slice (some ad) n c⟩, ⟨some 12, 38, none, fun v _ => v = .int .i64 (i : Int)⟩, ⟨some 13, 39, none, fun v _ => v = .pointer (some (ad.add i))⟩, ⟨some 14, 40, none, fun v _ => v = .string ⟨X.toArray⟩⟩, ⟨some 15, 41, none, fun v _ => v = .bool true⟩, ⟨some 16, 42, none, fun v _ => v = .bool true⟩]) (by kernel_rfl) (by kernel_rfl) (Inv.start (Below.refl _ _).drew ⟨nofun, nofun, nofun, nofun, nofun, nofun, nofun, nofun, nofun, nofun, nofun, nofun, nofun, nofun, nofun, nofun, nofun, trivial⟩) ?_ ?_
                · have St : ∀ xc ∈ [(⟨some 0, 26, none, fun v _ => v = .slice (some sd) i c1⟩ : Cl), ⟨some 1, 27, none, fun v _ => v = .int .i64 (k : Int)⟩, ⟨some 2, 28, none, fun v _ => v = .pointer (some (sd.add (k * 32)))⟩, ⟨some 3, 29, none, fun v _ => v = hashV (sha Y)⟩, ⟨some 4, 30, none, fun v _ => v = hashV (sha X)⟩, ⟨some 5, 31, none, fun v _ => v = .bool true⟩, ⟨some 6, 32, none, fun v _ => v = .bool true⟩, ⟨some 7, 33, none, fun v _ => v = .slice (some ad) n c⟩, ⟨some 8, 34, none, fun v _ => v = .int .i64 (k : Int)⟩, ⟨some 9, 35, none, fun v _ => v = .pointer (some (ad.add k))⟩, ⟨some 10, 36, none, fun v _ => v = .string ⟨Y.toArray⟩⟩, ⟨some 11, 37, none, fun v _ => v = .slice (some ad) n c⟩, ⟨some 12, 38, none, fun v _ => v = .int .i64 (i : Int)⟩, ⟨some 13, 39, none, fun v _ => v = .pointer (some (ad.add i))⟩, ⟨some 14, 40, none, fun v _ => v = .string ⟨X.toArray⟩⟩, ⟨some 15, 41, none, fun v _ => v = .bool true⟩, ⟨some 16, 42, none, fun v _ => v = .bool true⟩], Lasts xc := AllC.mem ⟨lastsV0 _ _ _ _, lastsV0 _ _ _ _, lastsV0 _ _ _ _, lastsV0 _ _ _ _, lastsV0 _ _ _ _, lastsV0 _ _ _ _, lastsV0 _ _ _ _, lastsV0 _ _ _ _, lastsV0 _ _ _ _, lastsV0 _ _ _ _, lastsV0 _ _ _ _, lastsV0 _ _ _ _, lastsV0 _ _ _ _, lastsV0 _ _ _ _, lastsV0 _ _ _ _, lastsV0 _ _ _ _, lastsV0 _ _ _ _, trivial⟩
                  clear HA0
                  refine ⟨?_, ?_, ?_, ?_, ?_, ?_, ?_, ?_, ?_, ?_, ?_, ?_, ?_, ?_, ?_, ?_, ?_, trivial⟩
                  · refine StepG.of ?_
                    refine stepB rfl rfl (by decide) (by rw [hz]; decide) rfl rfl (by kernel_rfl) St SG fun d a W hF hG hH hn hcl hw => ?_
                    have q5 := (hF.same 5 (by decide)).trans e5
                    refine ⟨.slice (some sd) i c1, W, ?_, Below.refl _ _, ?_⟩
                    · clear hF hG hH hn hcl hw
                      generalize a.eval = ρ at *
                      go_simp
                    · rfl
                  · refine StepG.of ?_
                    refine stepB rfl rfl (by decide) (by rw [hz]; decide) rfl rfl (by kernel_rfl) St SG fun d a W hF hG hH hn hcl hw => ?_
                    have q8 := (hF.same 8 (by decide)).trans e8
                    refine ⟨.int .i64 (k : Int), W, ?_, Below.refl _ _, ?_⟩
                    · clear hF hG hH hn hcl hw
                      generalize a.eval = ρ at *
                      go_simp
                    · rfl
                  · refine StepG.of ?_
                    refine stepB rfl rfl (by decide) (by rw [hz]; decide) rfl rfl (by kernel_rfl) St SG fun d a W hF hG hH hn hcl hw => ?_
                    have q26 : a.eval (.tmp 26) = .slice (some sd) i c1 := hH.at_ (i := 0) rfl (hw 0 rfl) id
                    have q27 : a.eval (.tmp 27) = .int .i64 (k : Int) := hH.at_ (i := 1) rfl (hw 1 rfl) id
                    refine ⟨.pointer (some (sd.add (k * 32))), W, ?_, Below.refl _ _, ?_⟩
                    · exact exec_indexH (i := k) rfl q26 q27 hlk
                    · rfl
                  · refine StepG.of ?_
                    refine stepB rfl rfl (by decide) (by rw [hz]; decide) rfl rfl (by kernel_rfl) St SG fun d a W hF hG hH hn hcl hw => ?_
                    have q28 : a.eval (.tmp 28) = .pointer (some (sd.add (k * 32))) := hH.at_ (i := 2) rfl (hw 2 rfl) id
                    refine ⟨hashV (sha Y), W, ?_, Below.refl _ _, ?_⟩
                    · exact exec_load rfl (by rw [q28]; exact LD.out W hG)
                    · rfl
                  · refine StepG.of ?_
                    refine stepB rfl rfl (by decide) (by rw [hz]; decide) rfl rfl (by kernel_rfl) St SG fun d a W hF hG hH hn hcl hw => ?_
                    have q7 := (hF.same 7 (by decide)).trans e7
                    refine ⟨hashV (sha X), W, ?_, Below.refl _ _, ?_⟩
                    · exact exec_load rfl (by rw [q7]; exact BoxH.load_ (BoxA.next y72 hG) (sha_length X))
                    · rfl
                  · refine StepG.of ?_
                    refine stepB rfl rfl (by decide) (by rw [hz]; decide) rfl rfl (by kernel_rfl) St SG fun d a W hF hG hH hn hcl hw => ?_
                    have q29 : a.eval (.tmp 29) = hashV (sha Y) := hH.at_ (i := 3) rfl (hw 3 rfl) id
                    have q30 : a.eval (.tmp 30) = hashV (sha X) := hH.at_ (i := 4) rfl (hw 4 rfl) id
                    have r := HQ.out W
                    refine ⟨.bool true, W, ?_, Below.refl _ _, ?_⟩
                    · clear hF hG hH hn hcl hw
                      generalize a.eval = ρ at *
                      go_simp
                    · rfl
                  · refine StepG.of ?_
                    refine stepB rfl rfl (by decide) (by rw [hz]; decide) rfl rfl (by kernel_rfl) St SG fun d a W hF hG hH hn hcl hw => ?_
                    have q31 : a.eval (.tmp 31) = .bool true := hH.at_ (i := 5) rfl (hw 5 rfl) id
                    refine ⟨.bool true, W, ?_, Below.refl _ _, ?_⟩
                    · clear hF hG hH hn hcl hw
                      generalize a.eval = ρ at *
                      go_simp
                    · rfl
                  · refine StepG.on rfl (fun d a W hI hw => yielded_of rfl (hI.2.2.at_ (i := 6) rfl (hw 6 rfl) id)) ?_
                    refine stepB rfl rfl (by decide) (by rw [hz]; decide) rfl rfl (by kernel_rfl) St SG fun d a W hF hG hH hn hcl hw => ?_
                    have q1 := (hF.same 1 (by decide)).trans e1
                    refine ⟨.slice (some ad) n c, W, ?_, Below.refl _ _, ?_⟩
                    · clear hF hG hH hn hcl hw
                      generalize a.eval = ρ at *
                      go_simp
                    · rfl
                  · refine StepG.on rfl (fun d a W hI hw => yielded_of rfl (hI.2.2.at_ (i := 6) rfl (hw 6 rfl) id)) ?_
                    refine stepB rfl rfl (by decide) (by rw [hz]; decide) rfl rfl (by kernel_rfl) St SG fun d a W hF hG hH hn hcl hw => ?_
                    have q8 := (hF.same 8 (by decide)).trans e8
                    refine ⟨.int .i64 (k : Int), W, ?_, Below.refl _ _, ?_⟩
                    · clear hF hG hH hn hcl hw
                      generalize a.eval = ρ at *
                      go_simp
                    · rfl
                  · refine StepG.on rfl (fun d a W hI hw => yielded_of rfl (hI.2.2.at_ (i := 6) rfl (hw 6 rfl) id)) ?_
                    refine stepB rfl rfl (by decide) (by rw [hz]; decide) rfl rfl (by kernel_rfl) St SG fun d a W hF hG hH hn hcl hw => ?_
                    have q33 : a.eval (.tmp 33) = .slice (some ad) n c := hH.at_ (i := 7) rfl (hw 7 rfl) id
                    have q34 : a.eval (.tmp 34) = .int .i64 (k : Int) := hH.at_ (i := 8) rfl (hw 8 rfl) id
                    refine ⟨.pointer (some (ad.add k)), W, ?_, Below.refl _ _, ?_⟩
                    · exact exec_indexS rfl q33 q34 kn
                    · rfl
                  · refine StepG.on rfl (fun d a W hI hw => yielded_of rfl (hI.2.2.at_ (i := 6) rfl (hw 6 rfl) id)) ?_
                    refine stepB rfl rfl (by decide) (by rw [hz]; decide) rfl rfl (by kernel_rfl) St SG fun d a W hF hG hH hn hcl hw => ?_
                    have q35 : a.eval (.tmp 35) = .pointer (some (ad.add k)) := hH.at_ (i := 9) rfl (hw 9 rfl) id
                    have qc_ := cell_kept hG gk
                    refine ⟨.string ⟨Y.toArray⟩, W, ?_, Below.refl _ _, ?_⟩
                    · clear hF hG hH hn hcl hw
                      generalize a.eval = ρ at *
                      go_simp
                    · rfl
                  · refine StepG.on rfl (fun d a W hI hw => yielded_of rfl (hI.2.2.at_ (i := 6) rfl (hw 6 rfl) id)) ?_
                    refine stepB rfl rfl (by decide) (by rw [hz]; decide) rfl rfl (by kernel_rfl) St SG fun d a W hF hG hH hn hcl hw => ?_
                    have q1 := (hF.same 1 (by decide)).trans e1
                    refine ⟨.slice (some ad) n c, W, ?_, Below.refl _ _, ?_⟩
                    · clear hF hG hH hn hcl hw
                      generalize a.eval = ρ at *
                      go_simp
                    · rfl
                  · refine StepG.on rfl (fun d a W hI hw => yielded_of rfl (hI.2.2.at_ (i := 6) rfl (hw 6 rfl) id)) ?_
                    refine stepB rfl rfl (by decide) (by rw [hz]; decide) rfl rfl (by kernel_rfl) St SG fun d a W hF hG hH hn hcl hw => ?_
                    have q6 := (hF.same 6 (by decide)).trans e6
                    refine ⟨.int .i64 (i : Int), W, ?_, Below.refl _ _, ?_⟩
                    · clear hF hG hH hn hcl hw
                      generalize a.eval = ρ at *
                      go_simp
                    · rfl
                  · refine StepG.on rfl (fun d a W hI hw => yielded_of rfl (hI.2.2.at_ (i := 6) rfl (hw 6 rfl) id)) ?_
                    refine stepB rfl rfl (by decide) (by rw [hz]; decide) rfl rfl (by kernel_rfl) St SG fun d a W hF hG hH hn hcl hw => ?_
                    have q37 : a.eval (.tmp 37) = .slice (some ad) n c := hH.at_ (i := 11) rfl (hw 11 rfl) id
                    have q38 : a.eval (.tmp 38) = .int .i64 (i : Int) := hH.at_ (i := 12) rfl (hw 12 rfl) id
                    refine ⟨.pointer (some (ad.add i)), W, ?_, Below.refl _ _, ?_⟩
                    · exact exec_indexS rfl q37 q38 hne0
                    · rfl
                  · refine StepG.on rfl (fun d a W hI hw => yielded_of rfl (hI.2.2.at_ (i := 6) rfl (hw 6 rfl) id)) ?_
                    refine stepB rfl rfl (by decide) (by rw [hz]; decide) rfl rfl (by kernel_rfl) St SG fun d a W hF hG hH hn hcl hw => ?_
                    have q39 : a.eval (.tmp 39) = .pointer (some (ad.add i)) := hH.at_ (i := 13) rfl (hw 13 rfl) id
                    have qc_ := cell_kept hG gi
                    refine ⟨.string ⟨X.toArray⟩, W, ?_, Below.refl _ _, ?_⟩
                    · clear hF hG hH hn hcl hw
                      generalize a.eval = ρ at *
                      go_simp
                    · rfl
                  · refine StepG.on rfl (fun d a W hI hw => yielded_of rfl (hI.2.2.at_ (i := 6) rfl (hw 6 rfl) id)) ?_
                    refine stepB rfl rfl (by decide) (by rw [hz]; decide) rfl rfl (by kernel_rfl) St SG fun d a W hF hG hH hn hcl hw => ?_
                    have q36 : a.eval (.tmp 36) = .string ⟨Y.toArray⟩ := hH.at_ (i := 10) rfl (hw 10 rfl) id
                    have q40 : a.eval (.tmp 40) = .string ⟨X.toArray⟩ := hH.at_ (i := 14) rfl (hw 14 rfl) id
                    have e2_ := H2.out
                    refine ⟨.bool true, W, ?_, Below.refl _ _, ?_⟩
                    · clear hF hG hH hn hcl hw
                      generalize a.eval = ρ at *
                      go_simp
                    · rfl
                  · refine StepG.of ?_
                    refine stepB rfl rfl (by decide) (by rw [hz]; decide) rfl rfl (by kernel_rfl) St SG fun d a W hF hG hH hn hcl hw => ?_
                    have q32 : a.eval (.tmp 32) = .bool true := hH.at_ (i := 6) rfl (hw 6 rfl) id
                    have q41 : a.eval (.tmp 41) = .bool true := hH.at_ (i := 15) rfl (hw 15 rfl) id
                    have qk1 : a.eval (.const (.bool false)) = .bool false := rfl
                    refine ⟨.bool true, W, ?_, Below.refl _ _, ?_⟩
                    · clear hF hG hH hn hcl hw
                      generalize a.eval = ρ at *
                      go_simp
                    · rfl
                · intro d a W ⟨hF, hB, hH⟩ hall
                  have k42 : a.eval (.tmp 42) = .bool true := hH.at_ (i := 16) rfl (hall 16 (by decide)) id
                  clear hH hall
                  rw [hF.shape (by rw [hz]; decide)]
                  clear hF
                  simp only [List.foldl]
                  generalize a.eval (.tmp 26) = z26 at *
                  generalize a.eval (.tmp 27) = z27 at *
                  generalize a.eval (.tmp 28) = z28 at *
                  generalize a.eval (.tmp 29) = z29 at *
                  generalize a.eval (.tmp 30) = z30 at *
                  generalize a.eval (.tmp 31) = z31 at *
                  generalize a.eval (.tmp 32) = z32 at *
                  generalize a.eval (.tmp 33) = z33 at *
                  generalize a.eval (.tmp 34) = z34 at *
                  generalize a.eval (.tmp 35) = z35 at *
                  generalize a.eval (.tmp 36) = z36 at *
                  generalize a.eval (.tmp 37) = z37 at *
                  generalize a.eval (.tmp 38) = z38 at *
                  generalize a.eval (.tmp 39) = z39 at *
                  generalize a.eval (.tmp 40) = z40 at *
                  generalize a.eval (.tmp 41) = z41 at *
                  generalize a.eval (.tmp 42) = z42 at *
                  subst k42
                  rw [HA0.out]
                  simp only [Act.put, List.setIfInBounds_toArray, List.set_cons_zero, List.set_cons_succ]
                  clear hz HA0 SG e1 e5 e6 e7 e8
                  clear a a0
                  go_wp2_with (fail)
                  go_ret
                  exact ⟨rfl, Below.on BB2 hB⟩
            · have HQ := Lib.hid (fun W => eq_hash ly lx false (by simp [e1]) W)
              have HE := Lib.hid (fun e : sha Y = sha X => (absurd e e1 : Y = X))
              clear e1 ly lx
              go_upto_region 9 with (fail)
              refine wp_name fun a0 ha0 => ?_
              have e1 : a0.eval (.tmp 1) = .slice (some ad) n c := by rw [ha0]; rfl
              have e5 : a0.eval (.tmp 5) = .slice (some sd) i c1 := by rw [ha0]; rfl
              have e6 : a0.eval (.tmp 6) = .int .i64 (i : Int) := by rw [ha0]; rfl
              have e7 : a0.eval (.tmp 7) = .pointer (some ⟨g7, 0, none⟩) := by rw [ha0]; rfl
              have e8 : a0.eval (.tmp 8) = .int .i64 (k : Int) := by rw [ha0]; rfl
              have hz : a0.tmps.size = 47 := by rw [ha0]; rfl
              have HA0 := Lib.hid ha0
              clear ha0
              have SG : ∀ (d d' : Nat → Prop) (W W' : World), (fun (_ : Nat → Prop) (W : World) => Below wr.heap.size wr W) d W → (∀ j, d j → d' j) → Below W.heap.size W W' → (fun (_ : Nat → Prop) (W : World) => Below wr.heap.size wr W) d' W' := fun _ _ _ _ h _ b => Below.next h b
              refine wp_region_guards (Inv [26, 27, 28, 29, 30, 31, 32, 33, 34, 35, 36, 37, 38, 39, 40, 41, 42] a0 (fun (_ : Nat → Prop) (W : World) => Below wr.heap.size wr W) [(⟨some 0, 26, none, fun v _ => v = .slice (some sd) i c1⟩ : Cl), ⟨some 1, 27, none, fun v _ => v = .int .i64 (k : Int)⟩, ⟨some 2, 28, none, fun v _ => v = .pointer (some (sd.add (k * 32)))⟩, ⟨some 3, 29, none, fun v _ => v = hashV (sha Y)⟩, ⟨some 4, 30, none, fun v _ => v = hashV (sha X)⟩, ⟨some 5, 31, none, fun v _ => v = .bool false⟩, ⟨some 6, 32, none, fun v _ => v = .bool false⟩, ⟨some 7, 33, none, fun v _ => v = undef⟩, ⟨some 8, 34, none, fun v _ => v = undef⟩, ⟨some 9, 35, none, fun v _ => v = undef⟩, ⟨some 10, 36, none, fun v _ => v = undef⟩, ⟨some 11, 37, none, fun v _ => v = undef⟩, ⟨some 12, 38, none, fun v _ => v = undef⟩, ⟨some 13, 39, none, fun v _ => v = undef⟩, ⟨some 14, 40, none, fun v _ => v = undef⟩, ⟨some 15, 41, none, fun v _ => v = undef⟩, ⟨some 16, 42, none, fun v _ => v = .bool false⟩]) (by kernel_rfl) (by kernel_rfl) (Inv.start (Below.refl _ _).drew ⟨nofun, nofun, nofun, nofun, nofun, nofun, nofun, nofun, nofun, nofun, nofun, nofun, nofun, nofun, nofun, nofun, nofun, trivial⟩) ?_ ?_
              · have St : ∀ xc ∈ [(⟨some 0, 26, none, fun v _ => v = .slice (some sd) i c1⟩ : Cl), ⟨some 1, 27, none, fun v _ => v = .int .i64 (k : Int)⟩, ⟨some 2, 28, none, fun v _ => v = .pointer (some (sd.add (k * 32)))⟩, ⟨some 3, 29, none, fun v _ => v = hashV (sha Y)⟩, ⟨some 4, 30, none, fun v _ => v = hashV (sha X)⟩, ⟨some 5, 31, none, fun v _ => v = .bool false⟩, ⟨some 6, 32, none, fun v _ => v = .bool false⟩, ⟨some 7, 33, none, fun v _ => v = undef⟩, ⟨some 8, 34, none, fun v _ => v = undef⟩, ⟨some 9, 35, none, fun v _ => v = undef⟩, ⟨some 10, 36, none, fun v _ => v = undef⟩, ⟨some 11, 37, none, fun v _ => v = undef⟩, ⟨some 12, 38, none, fun v _ => v = undef⟩, ⟨some 13, 39, none, fun v _ => v = undef⟩, ⟨some 14, 40, none, fun v _ => v = undef⟩, ⟨some 15, 41, none, fun v _ => v = undef⟩, ⟨some 16, 42, none, fun v _ => v = .bool false⟩], Lasts xc := AllC.mem ⟨lastsV0 _ _ _ _, lastsV0 _ _ _ _, lastsV0 _ _ _ _, lastsV0 _ _ _ _, lastsV0 _ _ _ _, lastsV0 _ _ _ _, lastsV0 _ _ _ _, lastsV0 _ _ _ _, lastsV0 _ _ _ _, lastsV0 _ _ _ _, lastsV0 _ _ _ _, lastsV0 _ _ _ _, lastsV0 _ _ _ _, lastsV0 _ _ _ _, lastsV0 _ _ _ _, lastsV0 _ _ _ _, lastsV0 _ _ _ _, trivial⟩
                clear HA0
                refine ⟨?_, ?_, ?_, ?_, ?_, ?_, ?_, ?_, ?_, ?_, ?_, ?_, ?_, ?_, ?_, ?_, ?_, trivial⟩
                · refine StepG.of ?_
                  refine stepB rfl rfl (by decide) (by rw [hz]; decide) rfl rfl (by kernel_rfl) St SG fun d a W hF hG hH hn hcl hw => ?_
                  have q5 := (hF.same 5 (by decide)).trans e5
                  refine ⟨.slice (some sd) i c1, W, ?_, Below.refl _ _, ?_⟩
                  · clear hF hG hH hn hcl hw
                    generalize a.eval = ρ at *
                    go_simp
                  · rfl
                · refine StepG.of ?_
                  refine stepB rfl rfl (by decide) (by rw [hz]; decide) rfl rfl (by kernel_rfl) St SG fun d a W hF hG hH hn hcl hw => ?_
                  have q8 := (hF.same 8 (by decide)).trans e8
                  refine ⟨.int .i64 (k : Int), W, ?_, Below.refl _ _, ?_⟩
                  · clear hF hG hH hn hcl hw
                    generalize a.eval = ρ at *
                    go_simp
                  · rfl
                · refine StepG.of ?_
                  refine stepB rfl rfl (by decide) (by rw [hz]; decide) rfl rfl (by kernel_rfl) St SG fun d a W hF hG hH hn hcl hw => ?_
                  have q26 : a.eval (.tmp 26) = .slice (some sd) i c1 := hH.at_ (i := 0) rfl (hw 0 rfl) id
                  have q27 : a.eval (.tmp 27) = .int .i64 (k : Int) := hH.at_ (i := 1) rfl (hw 1 rfl) id
                  refine ⟨.pointer (some (sd.add (k * 32))), W, ?_, Below.refl _ _, ?_⟩
                  · exact exec_indexH (i := k) rfl q26 q27 hlk
                  · rfl
                · refine StepG.of ?_
                  refine stepB rfl rfl (by decide) (by rw [hz]; decide) rfl rfl (by kernel_rfl) St SG fun d a W hF hG hH hn hcl hw => ?_
                  have q28 : a.eval (.tmp 28) = .pointer (some (sd.add (k * 32))) := hH.at_ (i := 2) rfl (hw 2 rfl) id
                  refine ⟨hashV (sha Y), W, ?_, Below.refl _ _, ?_⟩
                  · exact exec_load rfl (by rw [q28]; exact LD.out W hG)
                  · rfl
                · refine StepG.of ?_
                  refine stepB rfl rfl (by decide) (by rw [hz]; decide) rfl rfl (by kernel_rfl) St SG fun d a W hF hG hH hn hcl hw => ?_
                  have q7 := (hF.same 7 (by decide)).trans e7
                  refine ⟨hashV (sha X), W, ?_, Below.refl _ _, ?_⟩
                  · exact exec_load rfl (by rw [q7]; exact BoxH.load_ (BoxA.next y72 hG) (sha_length X))
                  · rfl
                · refine StepG.of ?_
                  refine stepB rfl rfl (by decide) (by rw [hz]; decide) rfl rfl (by kernel_rfl) St SG fun d a W hF hG hH hn hcl hw => ?_
                  have q29 : a.eval (.tmp 29) = hashV (sha Y) := hH.at_ (i := 3) rfl (hw 3 rfl) id
                  have q30 : a.eval (.tmp 30) = hashV (sha X) := hH.at_ (i := 4) rfl (hw 4 rfl) id
                  have r := HQ.out W
                  refine ⟨.bool false, W, ?_, Below.refl _ _, ?_⟩
                  · clear hF hG hH hn hcl hw
                    generalize a.eval = ρ at *
                    go_simp
                  · rfl
                · refine StepG.of ?_
                  refine stepB rfl rfl (by decide) (by rw [hz]; decide) rfl rfl (by kernel_rfl) St SG fun d a W hF hG hH hn hcl hw => ?_
                  have q31 : a.eval (.tmp 31) = .bool false := hH.at_ (i := 5) rfl (hw 5 rfl) id
                  refine ⟨.bool false, W, ?_, Below.refl _ _, ?_⟩
                  · clear hF hG hH hn hcl hw
                    generalize a.eval = ρ at *
                    go_simp
                  · rfl
                · exact step_off rfl rfl (by decide) (by rw [hz]; decide) rfl rfl (by kernel_rfl) (fun _ => rfl) SG (fun d a W hI hw => yielded_of rfl (hI.2.2.at_ (i := 6) rfl (hw 6 rfl) id))
                · exact step_off rfl rfl (by decide) (by rw [hz]; decide) rfl rfl (by kernel_rfl) (fun _ => rfl) SG (fun d a W hI hw => yielded_of rfl (hI.2.2.at_ (i := 6) rfl (hw 6 rfl) id))
                · exact step_off rfl rfl (by decide) (by rw [hz]; decide) rfl rfl (by kernel_rfl) (fun _ => rfl) SG (fun d a W hI hw => yielded_of rfl (hI.2.2.at_ (i := 6) rfl (hw 6 rfl) id))
                · exact step_off rfl rfl (by decide) (by rw [hz]; decide) rfl rfl (by kernel_rfl) (fun _ => rfl) SG (fun d a W hI hw => yielded_of rfl (hI.2.2.at_ (i := 6) rfl (hw 6 rfl) id))
                · exact step_off rfl rfl (by decide) (by rw [hz]; decide) rfl rfl (by kernel_rfl) (fun _ => rfl) SG (fun d a W hI hw => yielded_of rfl (hI.2.2.at_ (i := 6) rfl (hw 6 rfl) id))
                · exact step_off rfl rfl (by decide) (by rw [hz]; decide) rfl rfl (by kernel_rfl) (fun _ => rfl) SG (fun d a W hI hw => yielded_of rfl (hI.2.2.at_ (i := 6) rfl (hw 6 rfl) id))
                · exact step_off rfl rfl (by decide) (by rw [hz]; decide) rfl rfl (by kernel_rfl) (fun _ => rfl) SG (fun d a W hI hw => yielded_of rfl (hI.2.2.at_ (i := 6) rfl (hw 6 rfl) id))
                · exact step_off rfl rfl (by decide) (by rw [hz]; decide) rfl rfl (by kernel_rfl) (fun _ => rfl) SG (fun d a W hI hw => yielded_of rfl (hI.2.2.at_ (i := 6) rfl (hw 6 rfl) id))
                · exact step_off rfl rfl (by decide) (by rw [hz]; decide) rfl rfl (by kernel_rfl) (fun _ => rfl) SG (fun d a W hI hw => yielded_of rfl (hI.2.2.at_ (i := 6) rfl (hw 6 rfl) id))
                · refine StepG.of ?_
                  refine stepB rfl rfl (by decide) (by rw [hz]; decide) rfl rfl (by kernel_rfl) St SG fun d a W hF hG hH hn hcl hw => ?_
                  have q32 : a.eval (.tmp 32) = .bool false := hH.at_ (i := 6) rfl (hw 6 rfl) id
                  have q41 : a.eval (.tmp 41) = undef := hH.at_ (i := 15) rfl (hw 15 rfl) id
                  have qk1 : a.eval (.const (.bool false)) = .bool false := rfl
                  refine ⟨.bool false, W, ?_, Below.refl _ _, ?_⟩
                  · clear hF hG hH hn hcl hw
                    generalize a.eval = ρ at *
                    go_simp
                  · rfl
              · intro d a W ⟨hF, hB, hH⟩ hall
                have k42 : a.eval (.tmp 42) = .bool false := hH.at_ (i := 16) rfl (hall 16 (by decide)) id
                clear hH hall
                rw [hF.shape (by rw [hz]; decide)]
                clear hF
                simp only [List.foldl]
                generalize a.eval (.tmp 26) = z26 at *
                generalize a.eval (.tmp 27) = z27 at *
                generalize a.eval (.tmp 28) = z28 at *
                generalize a.eval (.tmp 29) = z29 at *
                generalize a.eval (.tmp 30) = z30 at *
                generalize a.eval (.tmp 31) = z31 at *
                generalize a.eval (.tmp 32) = z32 at *
                generalize a.eval (.tmp 33) = z33 at *
                generalize a.eval (.tmp 34) = z34 at *
                generalize a.eval (.tmp 35) = z35 at *
                generalize a.eval (.tmp 36) = z36 at *
                generalize a.eval (.tmp 37) = z37 at *
                generalize a.eval (.tmp 38) = z38 at *
                generalize a.eval (.tmp 39) = z39 at *
                generalize a.eval (.tmp 40) = z40 at *
                generalize a.eval (.tmp 41) = z41 at *
                generalize a.eval (.tmp 42) = z42 at *
                subst k42
                rw [HA0.out]
                simp only [Act.put, List.setIfInBounds_toArray, List.set_cons_zero, List.set_cons_succ]
                clear hz HA0 SG e1 e5 e6 e7 e8
                clear a a0
                go_wp2_with (fail)
                exact ⟨⟨k + 1, by omega, by go_num, hnx.out HE.out, Below.on hW1 hB⟩, by simp [intOf]; omega⟩
          · obtain rfl : k = i := by omega
            have hNC' : NoClash T (k + 1) := fun a b ha hb hba hai e => by
              by_cases hq : a = k
              · subst hq
                have := hPK b hb (by omega) (by rw [← HXX.out]; exact e)
                rw [this, HXX.out]
              · exact HNC0.out a b ha hb hba (by omega) e
            have HNC := Lib.hid hNC'
            have hxl : (sha X).length = 32 := sha_length X
            have q32 : (cellsB (sha X)).length = 32 := by rw [cellsB_length]; exact hxl
            have hO3 := hO2
            clear hPK hNC'
            go_wp2_with (first
              | (refine wpList_loadH rfl (.tmp 7) rfl g7 (sha X) rfl y72 hxl ?_)
              | (refine wpList_buildHash rfl (.tmp 44) rfl (sha X) rfl hxl ?_)
              | (at_builtin; refine wpList_append_hs rfl (.tmp 43) (.tmp 45) rfl w0.heap.size w0.heap.size _ _ ((T.take k).map sha) [sha X] rfl rfl (hO3.next (Below.new1 wr _)) (OwnHs.one wr _ hxl hBo2.size) (by rw [HL.out]; omega) (by simp) (by have := hBo2.size; rw [World.size_alloc]; omega) ?_; intro v' W4 hO4 b4))
            have ht := HT.out
            rw [HXX.out] at ht
            rw [← ht] at hO4
            exact ⟨⟨k + 1, by omega, by go_num, HNC.out, hO4, (Below.on hBo2 (Below.new1 _ _)).trans b4⟩, by simp [intOf]; omega⟩
    · obtain rfl : i = n := by omega
      obtain rfl : B = false := by rw [← HBV.out]; exact clashB_no (by rw [HN.out]; exact hNC)
      go_wp2_with (fail)
      go_ret
      exact ⟨rfl, BB⟩
end Go.Proofs.YtcocengpekndjaaDoor
