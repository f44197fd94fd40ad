/- The journal layer: the walk over unit. -/
import Derived.Test.YtkljfampkkfgdaaJHead
namespace Go.Proofs.Ytkljfampkkfgdaa
open Go.RowKit
/-- The part of a string that one unit holds; a unit. -/
def chunkM (s : Bs) (i : Nat) : Bs := (s.drop (40 * i)).take 40
def unitM (e q : Int) (i : Nat) (s : Bs) : Bs := eightM e ++ eightM (q * 65536 + i) ++ eightM s.length ++ chunkM s i ++ List.replicate (40 - (chunkM s i).length) 0
theorem chunk_le (s : Bs) (i : Nat) : (chunkM s i).length ≤ 40 := by simp [chunkM]; omega
theorem unit_length (e q : Int) (i : Nat) (s : Bs) : (unitM e q i s).length = 64 := by
  have := chunk_le s i
  simp [unitM, eightM]; omega
theorem putP_at (n : Int) (p r : List Int) (k : Nat) : putP n p.length (p ++ List.replicate (8 + k) 0 ++ r) 8 = p ++ nums (eightM n) ++ (List.replicate k 0 ++ r) := by
  rw [putP_eq _ _ _ (by simp; omega)]
  rw [List.append_assoc p, List.take_left, List.drop_append, List.drop_of_length_le (by omega), List.nil_append, show p.length + 8 - p.length = 8 from by omega, List.drop_append]
  simp
theorem unit_row (e q : Int) (i : Nat) (s : Bs) : (putP s.length 16 (putP (q * 65536 + i) 8 (putP e 0 (List.replicate 64 (0 : Int)) 8) 8) 8).take 24 ++ nums (chunkM s i) ++ (putP s.length 16 (putP (q * 65536 + i) 8 (putP e 0 (List.replicate 64 (0 : Int)) 8) 8) 8).drop (24 + (chunkM s i).length) = nums (unitM e q i s) := by
  have hc := chunk_le s i
  have n8 : ∀ n, (nums (eightM n)).length = 8 := fun n => by simp [nums, eightM]
  have p1 := putP_at e [] [] 56
  simp only [List.length_nil, List.nil_append, List.append_nil, Nat.reduceAdd] at p1
  have p2 := putP_at (q * 65536 + i) (nums (eightM e)) [] 48
  rw [n8] at p2
  simp only [List.append_nil, Nat.reduceAdd] at p2
  have p3 := putP_at s.length (nums (eightM e) ++ nums (eightM (q * 65536 + i))) [] 40
  rw [List.length_append, n8, n8] at p3
  simp only [List.append_nil, Nat.reduceAdd] at p3
  rw [p1, p2, p3]
  have hl : (nums (eightM e) ++ nums (eightM (q * 65536 + i)) ++ nums (eightM s.length)).length = 24 := by simp only [List.length_append, n8]
  rw [List.take_append, List.take_of_length_le (by omega), hl, Nat.sub_self, List.take_zero, List.append_nil, List.drop_append, List.drop_of_length_le (by omega), hl, List.nil_append, show 24 + (chunkM s i).length - 24 = (chunkM s i).length from by omega, List.drop_replicate]
  unfold unitM
  generalize chunkM s i = c
  simp [nums]
theorem or_low (a : Nat) (i : Nat) (ha : a < 140737488355328) (hi : i < 65536) : bits .or .i64 ((a * 65536 : Nat) : Int) (i : Int) = ((a * 65536 + i : Nat) : Int) := by
  have h1 : (BitVec.ofInt 64 ((a * 65536 : Nat) : Int)).toNat = a * 65536 := by
    rw [BitVec.ofInt_natCast, BitVec.toNat_ofNat]; exact Nat.mod_eq_of_lt (by omega)
  have h2 : (BitVec.ofInt 64 (i : Int)).toNat = i := by
    rw [BitVec.ofInt_natCast, BitVec.toNat_ofNat]; exact Nat.mod_eq_of_lt (by omega)
  show IntKind.i64.wrap ((BitVec.ofInt 64 ((a * 65536 : Nat) : Int) ||| BitVec.ofInt 64 (i : Int)).toNat : Int) = _
  rw [BitVec.toNat_or, h1, h2, nat_join 16 (a * 65536) i (by omega) (by omega)]
  exact IntWalk.i64_in _ (by omega)
set_option maxRecDepth 100000 in
set_option maxHeartbeats 2000000 in
theorem unit_any (ep : Int) (q idx : Nat) (s : Bs) (Wi : World) (e0 : 0 ≤ ep) (e1 : ep < 9223372036854775808) (hq : q < 1000000) (hi : idx < 65536) (hs : s.length ≤ 1000000) (hlt : 40 * idx ≤ s.length) :
    Calls Try.prog 73 #[.int .i64 ep, .int .i64 (q : Int), .int .i64 (idx : Int), .string ⟨s.toArray⟩] Wi fun x w' => x = .returned (.string ⟨(unitM ep q idx s).toArray⟩) ∧ Below Wi.heap.size Wi w' := by
  have HROW := Lib.hid (unit_row ep q idx s)
  have hor : bits .or .i64 ((q : Int) * 65536) (idx : Int) = ((q * 65536 + idx : Nat) : Int) := by rw [← or_low q idx (by omega) hi]; congr 1
  have m0 : IntKind.i64.wrap ((q : Int) * 65536) = ((q * 65536 : Nat) : Int) := by rw [IntWalk.i64_in _ (by omega)]; omega
  have hqi : (q : Int) * 65536 + (idx : Int) = ((q * 65536 + idx : Nat) : Int) := by omega
  rw [hqi] at HROW
  have HOR := Lib.hid hor
  clear hor hqi
  go_enter Try.func73, Try.ntmps73
  go_upto_region 2 with (fail)
  generalize hW0 : World.alloc Wi _ = w1
  have b0 : Below Wi.heap.size Wi w1 := hW0 ▸ Below.new1 _ _
  have x5 : BoxA w1 Wi.heap.size 95 .u8 (List.replicate 64 0) := hW0 ▸ BoxA.new Wi _ _ _ _ rfl
  clear hW0
  have hgs := b0.size
  generalize hg : Wi.heap.size = g at *
  go_upto_region 3 with (go_at_call 83; refine (putnumber_any _ g 0 _ _ _ ep x5 (by simp) e0 e1 (by decide)).mono ?_; rintro x w2 ⟨rfl, x6, b2⟩)
  go_upto_region 4 with (go_at_call 83; rw [HOR.out]; refine (putnumber_any _ g 8 _ _ _ ((q * 65536 + idx : Nat) : Int) x6 (by simp [putP_length]) (by omega) (by omega) (by decide)).mono ?_; rintro x w3 ⟨rfl, x7, b3⟩)
  go_upto_region 5 with (go_at_call 83; refine (putnumber_any _ g 16 _ _ _ (s.length : Int) x7 (by simp [putP_length]) (by omega) (by omega) (by decide)).mono ?_; rintro x w4 ⟨rfl, x8, b4⟩)
  have s1 := b2.size
  have s2 := b3.size
  have s3 := b4.size
  have b5 : Below g Wi w4 := ((b0.trans (b2.below (n := g) (by omega) (fun i h => by omega))).trans (b3.below (n := g) (by omega) (fun i h => by omega))).trans (b4.below (n := g) (by omega) (fun i h => by omega))
  have hcl := chunk_le s idx
  have hlen : (putP (s.length : Int) 16 (putP ((q * 65536 + idx : Nat) : Int) 8 (putP ep 0 (List.replicate 64 (0 : Int)) 8) 8) 8).length = 64 := by simp [putP_length]
  have hcut := fun W => s_cut (P := Try.prog) 9 (by kernel_rfl) s W .i64 .i64 ((idx : Int) * 40) (min (s.length : Int) (((idx : Int) + 1) * 40)) (40 * idx) (min s.length (40 * (idx + 1))) (by omega) (by omega) (by omega) (by omega)
  have hce : ((s.drop (40 * idx)).take (min s.length (40 * (idx + 1)) - 40 * idx)) = chunkM s idx := by
    unfold chunkM
    by_cases hh : 40 * (idx + 1) ≤ s.length
    · rw [Nat.min_eq_right hh, show 40 * (idx + 1) - 40 * idx = 40 from by omega]
    · rw [Nat.min_eq_left (by omega), List.take_of_length_le (by simp), List.take_of_length_le (by simp; omega)]
  rw [hce] at hcut
  generalize chunkM s idx = ch at *
  generalize putP (s.length : Int) 16 (putP ((q * 65536 + idx : Nat) : Int) 8 (putP ep 0 (List.replicate 64 (0 : Int)) 8) 8) 8 = l at *
  have m1 : IntKind.i64.wrap ((idx : Int) * 40) = idx * 40 := IntWalk.i64_in _ (by omega)
  have m2 : IntKind.i64.wrap ((idx : Int) + 1) = idx + 1 := IntWalk.i64_in _ (by omega)
  have m3 : IntKind.i64.wrap (((idx : Int) + 1) * 40) = (idx + 1) * 40 := IntWalk.i64_in _ (by omega)
  clear x5 x6 x7 b0 b2 b3 b4 hce m0
  generalize w4 = w0 at *
  have HX8 := Lib.hid x8
  have HB5 := Lib.hid b5
  clear x8 b5
  refine wp_name fun a0 ha0 => ?_
  have e2 : a0.eval (.tmp 2) = .int .i64 (idx : Int) := by rw [ha0]; rfl
  have e3 : a0.eval (.tmp 3) = .string ⟨s.toArray⟩ := by rw [ha0]; rfl
  have e9 : a0.eval (.tmp 9) = .pointer (some ⟨g, 0, none⟩) := by rw [ha0]; rfl
  have hz : a0.tmps.size = 37 := by rw [ha0]; rfl
  have HA0 := Lib.hid ha0
  clear ha0
  have SG : ∀ (d d' : Nat → Prop) (W W' : World), (fun (_ : Nat → Prop) (W : World) => Below w0.heap.size w0 W) d W → (∀ j, d j → d' j) → Below W.heap.size W W' → (fun (_ : Nat → Prop) (W : World) => Below w0.heap.size w0 W) d' W' := fun _ _ _ _ h _ b => Below.next h b
  have St : ∀ xc ∈ [(⟨some 0, 23, none, fun v _ => v = .slice (some ⟨g, 24, none⟩) 40 40⟩ : Cl), ⟨some 1, 24, none, fun v _ => v = .string ⟨s.toArray⟩⟩, ⟨some 2, 25, none, fun v _ => v = .int .i64 (idx : Int)⟩, ⟨some 3, 26, none, fun v _ => v = .int .i64 ((idx : Int) * 40)⟩, ⟨some 4, 27, none, fun v _ => v = .string ⟨s.toArray⟩⟩, ⟨some 5, 28, none, fun v _ => v = .int .i64 (s.length : Int)⟩, ⟨some 6, 29, none, fun v _ => v = .int .i64 (idx : Int)⟩, ⟨some 7, 30, none, fun v _ => v = .int .i64 ((idx : Int) + 1)⟩, ⟨some 8, 31, none, fun v _ => v = .int .i64 (((idx : Int) + 1) * 40)⟩, ⟨some 9, 32, none, fun v _ => v = .int .i64 (min (s.length : Int) (((idx : Int) + 1) * 40))⟩, ⟨some 10, 33, none, fun v _ => v = .string ⟨ch.toArray⟩⟩], Lasts xc := AllC.mem ⟨lastsV0 _ _ _ _, lastsV0 _ _ _ _, lastsV0 _ _ _ _, lastsV0 _ _ _ _, lastsV0 _ _ _ _, lastsV0 _ _ _ _, lastsV0 _ _ _ _, lastsV0 _ _ _ _, lastsV0 _ _ _ _, lastsV0 _ _ _ _, lastsV0 _ _ _ _, trivial⟩
  refine wp_region_lastlyR 11 _ (Inv [23, 24, 25, 26, 27, 28, 29, 30, 31, 32, 33] a0 (fun (_ : Nat → Prop) (W : World) => Below w0.heap.size w0 W) (lst St)) (by kernel_rfl) (by kernel_rfl) rfl rfl (fun d hcl hw j hj => ?_) rfl (Inv.start (Below.refl _ _).drew ⟨nofun, nofun, nofun, nofun, nofun, nofun, nofun, nofun, nofun, nofun, nofun, trivial⟩) ?_ ?_
  · have r0 := hw 0 rfl
    have r10 := hw 10 rfl
    have r1 := hcl 10 _ 1 rfl rfl r10
    have r3 := hcl 10 _ 3 rfl rfl r10
    have r9 := hcl 10 _ 9 rfl rfl r10
    have r5 := hcl 9 _ 5 rfl rfl r9
    have r8 := hcl 9 _ 8 rfl rfl r9
    have r7 := hcl 8 _ 7 rfl rfl r8
    have r6 := hcl 7 _ 6 rfl rfl r7
    have r4 := hcl 5 _ 4 rfl rfl r5
    have r2 := hcl 3 _ 2 rfl rfl r3
    match j, hj with
    | 0, _ => exact r0
    | 1, _ => exact r1
    | 2, _ => exact r2
    | 3, _ => exact r3
    | 4, _ => exact r4
    | 5, _ => exact r5
    | 6, _ => exact r6
    | 7, _ => exact r7
    | 8, _ => exact r8
    | 9, _ => exact r9
    | 10, _ => exact r10
    | j + 11, h => exact absurd h (by omega)
  · clear HA0
    refine ⟨?_, ?_, ?_, ?_, ?_, ?_, ?_, ?_, ?_, ?_, ?_, trivial⟩
    · refine stepB rfl rfl (by decide) (by rw [hz]; decide) rfl rfl (by kernel_rfl) St SG fun d a W hF hG hH hn hcl hw => ?_
      have q9 := (hF.same 9 (by decide)).trans e9
      have qc24 : a.eval (.const (.int .i64 24)) = .int .i64 24 := rfl
      exact ⟨.slice (some ⟨g, 24, none⟩) 40 40, W, by clear hF hG hH hn hcl hw; generalize a.eval = ρ at *; go_simp, Below.refl _ _, rfl⟩
    · refine stepB rfl rfl (by decide) (by rw [hz]; decide) rfl rfl (by kernel_rfl) St SG fun d a W hF hG hH hn hcl hw => ?_
      have q3 := (hF.same 3 (by decide)).trans e3
      exact ⟨.string ⟨s.toArray⟩, W, by clear hF hG hH hn hcl hw; generalize a.eval = ρ at *; go_simp, Below.refl _ _, rfl⟩
    · refine stepB rfl rfl (by decide) (by rw [hz]; decide) rfl rfl (by kernel_rfl) St SG fun d a W hF hG hH hn hcl hw => ?_
      have q2 := (hF.same 2 (by decide)).trans e2
      exact ⟨.int .i64 (idx : Int), W, by clear hF hG hH hn hcl hw; generalize a.eval = ρ at *; go_simp, Below.refl _ _, rfl⟩
    · refine stepB rfl rfl (by decide) (by rw [hz]; decide) rfl rfl (by kernel_rfl) St SG fun d a W hF hG hH hn hcl hw => ?_
      have q25 : a.eval (.tmp 25) = .int .i64 (idx : Int) := hH.at_ (i := 2) rfl (hw 2 rfl) id
      have qc40 : a.eval (.const (.int .i64 40)) = .int .i64 40 := rfl
      have z1 := m1
      exact ⟨.int .i64 ((idx : Int) * 40), W, by clear hF hG hH hn hcl hw; generalize a.eval = ρ at *; go_simp, Below.refl _ _, rfl⟩
    · refine stepB rfl rfl (by decide) (by rw [hz]; decide) rfl rfl (by kernel_rfl) St SG fun d a W hF hG hH hn hcl hw => ?_
      have q3 := (hF.same 3 (by decide)).trans e3
      exact ⟨.string ⟨s.toArray⟩, W, by clear hF hG hH hn hcl hw; generalize a.eval = ρ at *; go_simp, Below.refl _ _, rfl⟩
    · refine stepB rfl rfl (by decide) (by rw [hz]; decide) rfl rfl (by kernel_rfl) St SG fun d a W hF hG hH hn hcl hw => ?_
      have q27 : a.eval (.tmp 27) = .string ⟨s.toArray⟩ := hH.at_ (i := 4) rfl (hw 4 rfl) id
      exact ⟨.int .i64 (s.length : Int), W, by clear hF hG hH hn hcl hw; generalize a.eval = ρ at *; go_simp, Below.refl _ _, rfl⟩
    · refine stepB rfl rfl (by decide) (by rw [hz]; decide) rfl rfl (by kernel_rfl) St SG fun d a W hF hG hH hn hcl hw => ?_
      have q2 := (hF.same 2 (by decide)).trans e2
      exact ⟨.int .i64 (idx : Int), W, by clear hF hG hH hn hcl hw; generalize a.eval = ρ at *; go_simp, Below.refl _ _, rfl⟩
    · refine stepB rfl rfl (by decide) (by rw [hz]; decide) rfl rfl (by kernel_rfl) St SG fun d a W hF hG hH hn hcl hw => ?_
      have q29 : a.eval (.tmp 29) = .int .i64 (idx : Int) := hH.at_ (i := 6) rfl (hw 6 rfl) id
      have qc1 : a.eval (.const (.int .i64 1)) = .int .i64 1 := rfl
      have z1 := m2
      exact ⟨.int .i64 ((idx : Int) + 1), W, by clear hF hG hH hn hcl hw; generalize a.eval = ρ at *; go_simp, Below.refl _ _, rfl⟩
    · refine stepB rfl rfl (by decide) (by rw [hz]; decide) rfl rfl (by kernel_rfl) St SG fun d a W hF hG hH hn hcl hw => ?_
      have q30 : a.eval (.tmp 30) = .int .i64 ((idx : Int) + 1) := hH.at_ (i := 7) rfl (hw 7 rfl) id
      have qc40 : a.eval (.const (.int .i64 40)) = .int .i64 40 := rfl
      have z1 := m3
      exact ⟨.int .i64 (((idx : Int) + 1) * 40), W, by clear hF hG hH hn hcl hw; generalize a.eval = ρ at *; go_simp, Below.refl _ _, rfl⟩
    · refine stepB rfl rfl (by decide) (by rw [hz]; decide) rfl rfl (by kernel_rfl) St SG fun d a W hF hG hH hn hcl hw => ?_
      have q28 : a.eval (.tmp 28) = .int .i64 (s.length : Int) := hH.at_ (i := 5) rfl (hw 5 rfl) id
      have q31 : a.eval (.tmp 31) = .int .i64 (((idx : Int) + 1) * 40) := hH.at_ (i := 8) rfl (hw 8 rfl) id
      refine ⟨.int .i64 (min (s.length : Int) (((idx : Int) + 1) * 40)), W, ?_, Below.refl _ _, ?_⟩
      · exact exec_min (.tmp 28) (.tmp 31) rfl q28 q31
      · rfl
    · refine stepB rfl rfl (by decide) (by rw [hz]; decide) rfl rfl (by kernel_rfl) St SG fun d a W hF hG hH hn hcl hw => ?_
      have q24 : a.eval (.tmp 24) = .string ⟨s.toArray⟩ := hH.at_ (i := 1) rfl (hw 1 rfl) id
      have q26 : a.eval (.tmp 26) = .int .i64 ((idx : Int) * 40) := hH.at_ (i := 3) rfl (hw 3 rfl) id
      have q32 : a.eval (.tmp 32) = .int .i64 (min (s.length : Int) (((idx : Int) + 1) * 40)) := hH.at_ (i := 9) rfl (hw 9 rfl) id
      have z1 := hcut W
      exact ⟨.string ⟨ch.toArray⟩, W, by clear hF hG hH hn hcl hw; generalize a.eval = ρ at *; go_simp, Below.refl _ _, rfl⟩
  · intro d a W ⟨hF, hB, hH⟩ hall
    have k23 : a.eval (.tmp 23) = .slice (some ⟨g, 24, none⟩) 40 40 := hH.at_ (i := 0) rfl (hall 0 (by decide)) id
    have k33 : a.eval (.tmp 33) = .string ⟨ch.toArray⟩ := hH.at_ (i := 10) rfl (hall 10 (by decide)) id
    clear hH hall
    rw [hF.shape (by rw [hz]; decide)]
    clear hF
    simp only [List.foldl]
    generalize a.eval (.tmp 23) = z23, a.eval (.tmp 24) = z24, a.eval (.tmp 25) = z25, a.eval (.tmp 26) = z26, a.eval (.tmp 27) = z27, a.eval (.tmp 28) = z28, a.eval (.tmp 29) = z29, a.eval (.tmp 30) = z30, a.eval (.tmp 31) = z31, a.eval (.tmp 32) = z32, a.eval (.tmp 33) = z33 at *
    subst k23
    subst k33
    rw [HA0.out]
    simp only [Act.put, List.setIfInBounds_toArray, List.set_cons_zero, List.set_cons_succ]
    clear hz HA0 St SG e2 e3 e9
    clear a a0
    refine wp_yields (exec_copyB (ev := _) (.tmp 23) (.tmp 33) rfl g 24 40 40 ch l rfl rfl (HX8.out.next hB) (by omega) (by omega)) ?_
    have x9 := BoxA.setRow (l' := l.take 24 ++ nums ch ++ l.drop (24 + ch.length)) (HX8.out.next hB)
    have b9 := below_setRow (show Below g Wi W from HB5.out.trans (hB.mono (by have := HB5.out.size; omega))) (Nat.le_refl _) (ints .u8 (l.take 24 ++ nums ch ++ l.drop (24 + ch.length)))
    rw [HROW.out] at x9 b9 ⊢
    have cv := BoxH.text x9 (unit_length ep q idx s) 64
    generalize World.setRow W g (ints .u8 (nums (unitM ep q idx s))) = w9 at *
    clear x9
    go_wp2_with (fail)
    go_ret
    exact ⟨rfl, b9⟩
end Go.Proofs.Ytkljfampkkfgdaa
