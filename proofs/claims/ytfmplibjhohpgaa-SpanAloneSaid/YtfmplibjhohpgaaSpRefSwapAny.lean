/- Swap of the reference: the good arguments, of a tag. Swap of the reference: the good arguments, of any tag. Swap of the reference, whatever its arguments: what Set and Swap compute. -/
import Derived.Test.YtfmplibjhohpgaaSpRefSwap
namespace Go.Proofs.Ytfmplibjhohpgaa
section
open Go.RowKit Go.Shelf
attribute [local go_sem ↓] run_max run_min
set_option maxRecDepth 100000 in
set_option maxHeartbeats 4000000 in
theorem rswap_good_false (w : World) (size : Int) (a : Addr) (n c : Nat) (lo hi from_ to : Int) (hn : (n : Int) ≤ 4096) (hz : 0 < n) (h0 : 0 ≤ lo) (h1 : lo ≤ hi) (h2 : hi ≤ size) (_hs : size ≤ 1099511627776) (hf : 0 ≤ from_ ∧ from_ < 16) (ht : 0 ≤ to ∧ to < 16)
    (V : List Rn) (hV : V.length = n) (hR : Runs w (some a) V) (hnc : n ≤ c) (hF : Hid (∀ x ∈ V, 0 ≤ x.lo ∧ x.lo < x.hi ∧ x.hi ≤ 1099511627776)) (hN : Hid (∀ k, 0 ≤ refN false lo hi from_ (V.take k) ∧ refN false lo hi from_ (V.take k) ≤ 1099511627776)) (N : List (Int × Int)) (hRN : Hid (refL false lo hi from_ to V = lay 0 N)) (tN : Hid (Tr.total N = size)) :
    Calls Try.prog 65 #[.agg #[.int .i64 size, .slice (some a) n c], .int .i64 lo, .int .i64 hi, .int .i64 from_, .int .i64 to, .bool false] w (RSwapPost w (if 4096 < (N.length : Int) then 5 else 0) (if 4096 < (N.length : Int) then [] else N) (fun k => k = if 4096 < (N.length : Int) then 0 else refN false lo hi from_ V)) := by
  obtain ⟨wa, hwa⟩ : ∃ wa, (w.alloc (.cells #[.int .i64 size, .slice (some a) n c] 31)).alloc (.cells #[.int .i64 0, .slice none 0 0] 31) = wa := ⟨_, rfl⟩
  have hBa : Below w.heap.size w wa := hwa ▸ Below.alloc2 w _ _
  have m6 : BoxM wa w.heap.size size (.slice (some a) n c) := hwa ▸ (BoxM.new w _ _).next (Below.alloc1 _ _)
  have m12 : BoxM wa (w.heap.size + 1) 0 (.slice none 0 0) := by
    have := BoxM.new (w.alloc (.cells #[.int .i64 size, .slice (some a) n c] 31)) 0 (.slice none 0 0)
    rw [World.size_alloc] at this; exact hwa ▸ this
  have HWA := Lib.hid hwa
  clear hwa
  have hus : ∀ W, Calls Try.prog 55 #[.agg #[.int .i64 size, .slice (some a) n c]] W fun e w' => e = .returned (.bool true) ∧ Below W.heap.size W w' := fun W => by
    have := usable_any size (some a) n c W (by omega)
    rw [show decide (0 < n) = true from by simp; omega] at this
    exact this
  have HUS := Lib.hid hus
  clear hus
  have hva : ∀ W, Calls Try.prog 71 #[.agg #[.int .i64 size, .slice (some a) n c], .int .i64 lo, .int .i64 hi] W fun e w' => e = .returned (.bool true) ∧ Below W.heap.size W w' := fun W => valid_yes size (some a) n c lo hi W h0 h1 h2
  have HVA := Lib.hid hva
  clear hva
  have HT := Lib.hid ht
  clear ht
  have HF := Lib.hid hf
  clear hf
  have hlen : ∀ k, k ≤ n → (refL false lo hi from_ to (V.take k)).length ≤ 3 * k := by
    intro k
    induction k with
    | zero => intro _; simp [refL]
    | succ k ih =>
      intro hk
      have := ih (by omega)
      have hkl : k < V.length := by omega
      rw [List.take_succ_eq_append_getElem hkl, refL_snoc]
      have := stepR_length false lo hi from_ to (refL false lo hi from_ to (V.take k)) V[k]
      omega
  have HLEN := Lib.hid hlen
  have HV := Lib.hid hV
  have HR := Lib.hid hR
  clear hlen hV hR
  go_enter Try.func65, Try.ntmps65
  go_upto_region 1 with (fail)
  rw [HWA.out]
  have c60 := m6.c0
  have c61 := m6.c1
  go_wp2_with (fail)
  go_at_call 55
  refine (HUS.out _).mono ?_
  rintro e w1 ⟨rfl, b1⟩
  have hB1 := Below.next hBa b1
  have n6 := m6.next b1
  have n12 := m12.next b1
  clear b1 m6 m12 hBa c60 c61
  have c60 := n6.c0
  have c61 := n6.c1
  have r0 := n12.c0
  have r1 := n12.c1
  have f0 := n12.frozen 0
  have f1 := n12.frozen 1
  go_wp2_with (fail)
  go_at_call 71
  refine (HVA.out _).mono ?_
  rintro e w2 ⟨rfl, b2⟩
  have hB2 := Below.next hB1 b2
  have o6 := n6.next b2
  have o12 := n12.next b2
  clear b2 n6 n12 hB1 c60 c61 r0 r1 f0 f1
  have c60 := o6.c0
  have c61 := o6.c1
  have r0 := o12.c0
  have r1 := o12.c1
  have f0 := o12.frozen 0
  have f1 := o12.frozen 1
  go_wp2_with (fail)
  go_at_call 54
  refine (rtag_yes from_ _ HF.out).mono ?_
  rintro e w' ⟨rfl, rfl⟩
  go_wp2_with (fail)
  go_at_call 54
  refine (rtag_yes to _ HT.out).mono ?_
  rintro e w' ⟨rfl, rfl⟩
  have z12 := o12.lt
  have z6 := o6.lt
  clear c60 c61 r0 r1 f0 f1
  go_wp2_with (fail)
  go_loopw [15, 16, 17] (fun v nn i wr => ∃ k : Nat, k ≤ n ∧ i = .int .i64 k ∧ nn = .int .i64 (refN false lo hi from_ (V.take k)) ∧ OwnRuns wr w2.heap.size v (refL false lo hi from_ to (V.take k)) ∧ Below w2.heap.size w2 wr) (fun _ _ i _ => n - (intOf i).toNat)
  case atStart => exact ⟨0, Nat.zero_le _, rfl, rfl, World.ownsRow_nil _ _ _ _, Below.refl _ _⟩
  case round =>
    obtain ⟨k, hk, rfl, rfl, hO, hB⟩ := hrel
    have p6 := BoxM.below' hB z6 o6
    have p12 := BoxM.below' hB z12 o12
    have c60 := p6.c0
    have c61 := p6.c1
    have hwr := hB.size
    have nb := hN.out k
    by_cases hlt : k < n
    · have k1 : (k : Int) < (n : Int) := by omega
      have hkl : k < V.length := by have := HV.out; omega
      obtain ⟨hab, hx⟩ := (((HR.out.below hB2).below hB)).at_ hkl
      have hfx := hF.out _ (List.getElem_mem hkl)
      have hS : refL false lo hi from_ to (V.take (k + 1)) = stepR false lo hi from_ to (refL false lo hi from_ to (V.take k)) V[k] := by rw [List.take_succ_eq_append_getElem hkl, refL_snoc]
      have hSN : refN false lo hi from_ (V.take (k + 1)) = refN false lo hi from_ (V.take k) + addN false lo hi from_ V[k] := by rw [List.take_succ_eq_append_getElem hkl, refN_snoc]
      have nb' := hN.out (k + 1)
      rw [hSN] at nb'
      have hlk := HLEN.out k hk
      generalize V[k] = X at *
      have cl := clamp (lo := lo) (hi := hi) (x := X) h1 (by omega)
      have wa1 : max X.lo (min lo X.hi) = loA lo X := rfl
      have wb1 : min X.hi (max hi X.lo) = hiB hi X := rfl
      have hstep : stepR false lo hi from_ to (refL false lo hi from_ to (V.take k)) X = joinRn (joinRn (joinRn (refL false lo hi from_ to (V.take k)) ⟨X.lo, loA lo X, X.tag⟩) ⟨loA lo X, hiB hi X, tagT false from_ to X⟩) ⟨max (loA lo X) (hiB hi X), X.hi, X.tag⟩ := rfl
      have hadd : addN false lo hi from_ X = if false = true ∨ X.tag = from_ then max 0 (hiB hi X - loA lo X) else 0 := rfl
      have htag : tagT false from_ to X = if false = true ∨ X.tag = from_ then to else X.tag := rfl
      rw [hstep] at hS
      generalize hAA : loA lo X = AA at *
      generalize hBB : hiB hi X = BB at *
      generalize refL false lo hi from_ to (V.take k) = S at *
      generalize refN false lo hi from_ (V.take k) = M at *
      generalize tagT false from_ to X = T at *
      generalize addN false lo hi from_ X = D at *
      have HS := Lib.hid hS
      have HSN := Lib.hid hSN
      have HADD := Lib.hid hadd
      have HTAG := Lib.hid htag
      have WA := Lib.hid wa1
      have WB := Lib.hid wb1
      obtain ⟨cl1, cl2, cl3, -⟩ := cl
      have HO := Lib.hid hO
      clear hS hSN hadd htag wa1 wb1 hAA hBB hstep hO
      obtain ⟨g0, g1, g2⟩ := hx
      go_upto_region 13 with (fail)
      generalize hwb : World.alloc wr _ = wb
      have bb : BoxRun wb wr.heap.size X.lo X.hi X.tag := hwb ▸ BoxRun.new wr _ _ _
      have gb : wr.grownBy wb none := hwb ▸ World.grownBy_alloc wr _ none
      clear hwb g0 g1 g2
      have g0 := bb.c0
      have g1 := bb.c1
      have g2 := bb.c2
      have bz := bb.lt
      have ne0 : some wr.heap.size ≠ u15.ownBlock := fun e => by have := (HO.out.row_ge _ e.symm).2; omega
      go_quiet (fail)
      generalize hwq : World.drewN _ _ = x0
      have bq0 : BoxRun x0 wr.heap.size X.lo X.hi X.tag := hwq ▸ bb.drewN_ _
      have gq : wr.grownBy x0 none := hwq ▸ gb.trans (grown_drewN _ _)
      have HO0 := Lib.hid (HO.out.kept_ gq)
      have Bq0 : Below w2.heap.size w2 x0 := hB.trans ⟨gq.os, gq.tape, gq.output, gq.size, fun k hk => gq.block k (by omega) (by simp)⟩
      have sz0 := gq.size
      clear hwq bb gb g0 g1 g2 bz gq HO hB
      simp only [WA.out, WB.out]
      have l1 := joinRn_length S ⟨X.lo, AA, X.tag⟩
      have l2 := joinRn_length (joinRn S ⟨X.lo, AA, X.tag⟩) ⟨AA, BB, T⟩
      have iD : IntKind.i64.wrap (BB - AA) = BB - AA := IntWalk.i64_in _ (by omega)
      have bz := bq0.lt
      have g0 := bq0.c0
      have g1 := bq0.c1
      have g2 := bq0.c2
      by_cases ht : X.tag = from_
      · subst ht
        have hDD : D = max 0 (BB - AA) := by rw [HADD.out, if_pos (.inr rfl)]
        have hTT : T = to := by rw [HTAG.out, if_pos (.inr rfl)]
        have iM : IntKind.i64.wrap (M + max 0 (BB - AA)) = M + max 0 (BB - AA) := IntWalk.i64_in _ (by rw [← hDD]; omega)
        have HDD := Lib.hid hDD
        rw [hTT] at l2 HS
        clear hDD hTT HTAG HADD nb'
        go_wp2_with (first | (refine wpList_max rfl _ _ _ rfl _ _ rfl rfl ?_))
        go_at_call 72
        refine (rjoin_any x0 w2.heap.size u15 (S) ⟨X.lo, AA, X.tag⟩ HO0.out (by omega) (by omega)).mono ?_
        rintro e x1 ⟨v1, rfl, hO1, hg1, hv1⟩
        obtain ⟨k1, bq1, ne1⟩ := join_keep (by omega) HO0.out hg1 hv1 bq0 ne0
        have Bq1 := Bq0.trans k1
        have HO1 := Lib.hid hO1
        have sz1 := hg1.size
        clear k1 hO1 hg1 hv1 bq0 ne0 HO0 Bq0 g0 g1 g2
        have g0 := bq1.c0
        have g1 := bq1.c1
        have g2 := bq1.c2
        go_wp2_with (first | (refine wpList_max rfl _ _ _ rfl _ _ rfl rfl ?_))
        go_at_call 72
        refine (rjoin_any x1 w2.heap.size v1 (joinRn S ⟨X.lo, AA, X.tag⟩) ⟨AA, BB, to⟩ HO1.out (by omega) (by omega)).mono ?_
        rintro e x2 ⟨v2, rfl, hO2, hg2, hv2⟩
        obtain ⟨k2, bq2, ne2⟩ := join_keep (by omega) HO1.out hg2 hv2 bq1 ne1
        have Bq2 := Bq1.trans k2
        have HO2 := Lib.hid hO2
        have sz2 := hg2.size
        clear k2 hO2 hg2 hv2 bq1 ne1 HO1 Bq1 g0 g1 g2
        have g0 := bq2.c0
        have g1 := bq2.c1
        have g2 := bq2.c2
        go_wp2_with (first | (refine wpList_max rfl _ _ _ rfl _ _ rfl rfl ?_))
        go_at_call 72
        refine (rjoin_any x2 w2.heap.size v2 (joinRn (joinRn S ⟨X.lo, AA, X.tag⟩) ⟨AA, BB, to⟩) ⟨max AA BB, X.hi, X.tag⟩ HO2.out (by omega) (by omega)).mono ?_
        rintro e x3 ⟨v3, rfl, hO3, hg3, hv3⟩
        obtain ⟨k3, bq3, ne3⟩ := join_keep (by omega) HO2.out hg3 hv3 bq2 ne2
        have Bq3 := Bq2.trans k3
        have HO3 := Lib.hid hO3
        have sz3 := hg3.size
        clear k3 hO3 hg3 hv3 bq2 ne2 HO2 Bq2 g0 g1 g2
        have g0 := bq3.c0
        have g1 := bq3.c1
        have g2 := bq3.c2
        go_wp2_with (fail)
        exact ⟨⟨k + 1, by omega, by go_num, by rw [HSN.out, HDD.out], by rw [HS.out]; exact HO3.out, Bq3⟩, by simp [intOf]; omega⟩
      · have hDD : D = 0 := by rw [HADD.out, if_neg (by simp [ht])]
        have hTT : T = X.tag := by rw [HTAG.out, if_neg (by simp [ht])]
        have hte : (X.tag == from_) = false := by simpa using ht
        have hM0 : M + 0 = M := by omega
        have HDD := Lib.hid hDD
        rw [hTT] at l2 HS
        clear hDD hTT HTAG HADD nb'
        go_wp2_with (first | (refine wpList_max rfl _ _ _ rfl _ _ rfl rfl ?_))
        go_at_call 72
        refine (rjoin_any x0 w2.heap.size u15 (S) ⟨X.lo, AA, X.tag⟩ HO0.out (by omega) (by omega)).mono ?_
        rintro e x1 ⟨v1, rfl, hO1, hg1, hv1⟩
        obtain ⟨k1, bq1, ne1⟩ := join_keep (by omega) HO0.out hg1 hv1 bq0 ne0
        have Bq1 := Bq0.trans k1
        have HO1 := Lib.hid hO1
        have sz1 := hg1.size
        clear k1 hO1 hg1 hv1 bq0 ne0 HO0 Bq0 g0 g1 g2
        have g0 := bq1.c0
        have g1 := bq1.c1
        have g2 := bq1.c2
        go_wp2_with (first | (refine wpList_max rfl _ _ _ rfl _ _ rfl rfl ?_))
        go_at_call 72
        refine (rjoin_any x1 w2.heap.size v1 (joinRn S ⟨X.lo, AA, X.tag⟩) ⟨AA, BB, X.tag⟩ HO1.out (by omega) (by omega)).mono ?_
        rintro e x2 ⟨v2, rfl, hO2, hg2, hv2⟩
        obtain ⟨k2, bq2, ne2⟩ := join_keep (by omega) HO1.out hg2 hv2 bq1 ne1
        have Bq2 := Bq1.trans k2
        have HO2 := Lib.hid hO2
        have sz2 := hg2.size
        clear k2 hO2 hg2 hv2 bq1 ne1 HO1 Bq1 g0 g1 g2
        have g0 := bq2.c0
        have g1 := bq2.c1
        have g2 := bq2.c2
        go_wp2_with (first | (refine wpList_max rfl _ _ _ rfl _ _ rfl rfl ?_))
        go_at_call 72
        refine (rjoin_any x2 w2.heap.size v2 (joinRn (joinRn S ⟨X.lo, AA, X.tag⟩) ⟨AA, BB, X.tag⟩) ⟨max AA BB, X.hi, X.tag⟩ HO2.out (by omega) (by omega)).mono ?_
        rintro e x3 ⟨v3, rfl, hO3, hg3, hv3⟩
        obtain ⟨k3, bq3, ne3⟩ := join_keep (by omega) HO2.out hg3 hv3 bq2 ne2
        have Bq3 := Bq2.trans k3
        have HO3 := Lib.hid hO3
        have sz3 := hg3.size
        clear k3 hO3 hg3 hv3 bq2 ne2 HO2 Bq2 g0 g1 g2
        have g0 := bq3.c0
        have g1 := bq3.c1
        have g2 := bq3.c2
        go_wp2_with (fail)
        exact ⟨⟨k + 1, by omega, by go_num, by rw [HSN.out, HDD.out, hM0], by rw [HS.out]; exact HO3.out, Bq3⟩, by simp [intOf]; omega⟩
    · obtain rfl : k = n := by omega
      have hO2 : OwnRuns wr w2.heap.size u15 (lay 0 N) := by
        have e : V.take k = V := List.take_of_length_le (by have := HV.out; omega)
        rw [e, hRN.out] at hO
        exact hO
      have e : V.take k = V := List.take_of_length_le (by have := HV.out; omega)
      rw [e] at nb
      rw [e]
      obtain ⟨A', c', rfl, hc', -⟩ := hO2.runs
      rw [lay_length] at hc'
      rw [lay_length]
      obtain ⟨M, hM⟩ : ∃ M, refN false lo hi from_ V = M := ⟨_, rfl⟩
      rw [hM] at nb
      rw [hM]
      have HM := Lib.hid hM
      have hO2 : OwnRuns wr w2.heap.size (.slice A' N.length c') (lay 0 N) := by rw [lay_length] at hO2; exact hO2
      have HO2 := Lib.hid hO2
      clear hO hO2 e hk hM
      by_cases h4 : 4096 < (N.length : Int)
      · go_wp2_with (fail)
        go_at_call 77
        refine (full_no size (some a) k c A' N.length c' _ (by omega)).mono ?_
        rintro e w4 ⟨rfl, b4⟩
        have q12 := p12.next b4
        have hB4 := (hB2.trans (hB.mono (by omega))).trans (b4.mono (by omega))
        clear b4
        go_upto_region 22 with (fail)
        generalize hw5 : World.alloc w4 _ = w5
        have d5 : Below w4.heap.size w4 w5 := hw5 ▸ Below.alloc1 w4 _
        have t12 := q12.next d5
        have hB5 := Below.next hB4 d5
        have r0 := t12.c0
        have r1 := t12.c1
        have f0 := t12.frozen 0
        have f1 := t12.frozen 1
        have t12l := t12.lt
        clear hw5 d5
        go_wp2_with (fail)
        exact bodyPost_ret (v := .tuple #[.agg #[.int .i64 0, .slice none 0 0], .int .i64 0, .int .i64 5]) (by simp [results, Try.results65, go_sem, (boxM_set t12 0 (.slice none 0 0)).c0, (boxM_set t12 0 (.slice none 0 0)).c1]) rfl (by first | exact ⟨none, 0, 0, rfl, rfl, World.ownsRow_nil _ _ _ _, Nat.le_refl _, (hB5.setCell (p := ⟨w.heap.size + 1, 0, none⟩) (show w.heap.size ≤ w.heap.size + 1 by omega) _).setCell (p := ⟨w.heap.size + 1, 1, none⟩) (show w.heap.size ≤ w.heap.size + 1 by omega) _⟩ | (rw [if_pos h4, if_pos h4, if_pos h4]; exact ⟨none, 0, 0, rfl, rfl, World.ownsRow_nil _ _ _ _, Nat.le_refl _, (hB5.setCell (p := ⟨w.heap.size + 1, 0, none⟩) (show w.heap.size ≤ w.heap.size + 1 by omega) _).setCell (p := ⟨w.heap.size + 1, 1, none⟩) (show w.heap.size ≤ w.heap.size + 1 by omega) _⟩))
      · go_wp2_with (fail)
        go_at_call 77
        refine (full_yes size (some a) k c A' N.length c' _ (by omega)).mono ?_
        rintro e w4 ⟨rfl, b4⟩
        have q12 := p12.next b4
        have hB4 := (hB2.trans (hB.mono (by omega))).trans (b4.mono (by omega))
        have O4 : OwnRuns w4 w2.heap.size (.slice A' N.length c') (lay 0 N) := OwnRuns.next HO2.out b4
        clear b4
        go_upto_region 22 with (fail)
        generalize hw5 : World.alloc w4 _ = w5
        have d5 : Below w4.heap.size w4 w5 := hw5 ▸ Below.alloc1 w4 _
        have x22 : BoxM w5 w4.heap.size size (.slice A' N.length c') := hw5 ▸ BoxM.new w4 _ _
        have t12 := q12.next d5
        have hB5 := Below.next hB4 d5
        have O5 := O4.next d5
        have r0 := t12.c0
        have r1 := t12.c1
        have f0 := t12.frozen 0
        have f1 := t12.frozen 1
        have t12l := t12.lt
        have y0 := x22.c0
        have y1 := x22.c1
        clear hw5 d5
        go_wp2_with (fail)
        exact bodyPost_ret (v := .tuple #[.agg #[.int .i64 size, .slice A' N.length c'], .int .i64 M, .int .i64 0]) (by simp [results, Try.results65, go_sem, (boxM_set t12 size (.slice A' N.length c')).c0, (boxM_set t12 size (.slice A' N.length c')).c1]) rfl (by first | exact ⟨A', c', M, by rw [tN.out], HM.out.symm, ((O5.set (p := ⟨w.heap.size + 1, 0, none⟩) z12 _).set (p := ⟨w.heap.size + 1, 1, none⟩) z12 _).mono (by have := hB2.size; omega), hc', (hB5.setCell (p := ⟨w.heap.size + 1, 0, none⟩) (show w.heap.size ≤ w.heap.size + 1 by omega) _).setCell (p := ⟨w.heap.size + 1, 1, none⟩) (show w.heap.size ≤ w.heap.size + 1 by omega) _⟩ | (rw [if_neg (by omega), if_neg (by omega), if_neg (by omega)]; exact ⟨A', c', M, by rw [tN.out], HM.out.symm, ((O5.set (p := ⟨w.heap.size + 1, 0, none⟩) z12 _).set (p := ⟨w.heap.size + 1, 1, none⟩) z12 _).mono (by have := hB2.size; omega), hc', (hB5.setCell (p := ⟨w.heap.size + 1, 0, none⟩) (show w.heap.size ≤ w.heap.size + 1 by omega) _).setCell (p := ⟨w.heap.size + 1, 1, none⟩) (show w.heap.size ≤ w.heap.size + 1 by omega) _⟩))
end
section
open Go.RowKit Go.Shelf
attribute [local go_sem ↓] run_max run_min
set_option maxRecDepth 100000 in
set_option maxHeartbeats 4000000 in
theorem rswap_good_true (w : World) (size : Int) (a : Addr) (n c : Nat) (lo hi from_ to : Int) (hn : (n : Int) ≤ 4096) (hz : 0 < n) (h0 : 0 ≤ lo) (h1 : lo ≤ hi) (h2 : hi ≤ size) (_hs : size ≤ 1099511627776) (ht : 0 ≤ to ∧ to < 16)
    (V : List Rn) (hV : V.length = n) (hR : Runs w (some a) V) (hnc : n ≤ c) (hF : Hid (∀ x ∈ V, 0 ≤ x.lo ∧ x.lo < x.hi ∧ x.hi ≤ 1099511627776)) (hN : Hid (∀ k, 0 ≤ refN true lo hi from_ (V.take k) ∧ refN true lo hi from_ (V.take k) ≤ 1099511627776)) (N : List (Int × Int)) (hRN : Hid (refL true lo hi from_ to V = lay 0 N)) (tN : Hid (Tr.total N = size)) :
    Calls Try.prog 65 #[.agg #[.int .i64 size, .slice (some a) n c], .int .i64 lo, .int .i64 hi, .int .i64 from_, .int .i64 to, .bool true] w (RSwapPost w (if 4096 < (N.length : Int) then 5 else 0) (if 4096 < (N.length : Int) then [] else N) (fun k => k = if 4096 < (N.length : Int) then 0 else refN true lo hi from_ V)) := by
  obtain ⟨wa, hwa⟩ : ∃ wa, (w.alloc (.cells #[.int .i64 size, .slice (some a) n c] 31)).alloc (.cells #[.int .i64 0, .slice none 0 0] 31) = wa := ⟨_, rfl⟩
  have hBa : Below w.heap.size w wa := hwa ▸ Below.alloc2 w _ _
  have m6 : BoxM wa w.heap.size size (.slice (some a) n c) := hwa ▸ (BoxM.new w _ _).next (Below.alloc1 _ _)
  have m12 : BoxM wa (w.heap.size + 1) 0 (.slice none 0 0) := by
    have := BoxM.new (w.alloc (.cells #[.int .i64 size, .slice (some a) n c] 31)) 0 (.slice none 0 0)
    rw [World.size_alloc] at this; exact hwa ▸ this
  have HWA := Lib.hid hwa
  clear hwa
  have hus : ∀ W, Calls Try.prog 55 #[.agg #[.int .i64 size, .slice (some a) n c]] W fun e w' => e = .returned (.bool true) ∧ Below W.heap.size W w' := fun W => by
    have := usable_any size (some a) n c W (by omega)
    rw [show decide (0 < n) = true from by simp; omega] at this
    exact this
  have HUS := Lib.hid hus
  clear hus
  have hva : ∀ W, Calls Try.prog 71 #[.agg #[.int .i64 size, .slice (some a) n c], .int .i64 lo, .int .i64 hi] W fun e w' => e = .returned (.bool true) ∧ Below W.heap.size W w' := fun W => valid_yes size (some a) n c lo hi W h0 h1 h2
  have HVA := Lib.hid hva
  clear hva
  have HT := Lib.hid ht
  clear ht
  have hlen : ∀ k, k ≤ n → (refL true lo hi from_ to (V.take k)).length ≤ 3 * k := by
    intro k
    induction k with
    | zero => intro _; simp [refL]
    | succ k ih =>
      intro hk
      have := ih (by omega)
      have hkl : k < V.length := by omega
      rw [List.take_succ_eq_append_getElem hkl, refL_snoc]
      have := stepR_length true lo hi from_ to (refL true lo hi from_ to (V.take k)) V[k]
      omega
  have HLEN := Lib.hid hlen
  have HV := Lib.hid hV
  have HR := Lib.hid hR
  clear hlen hV hR
  go_enter Try.func65, Try.ntmps65
  go_upto_region 1 with (fail)
  rw [HWA.out]
  have c60 := m6.c0
  have c61 := m6.c1
  go_wp2_with (fail)
  go_at_call 55
  refine (HUS.out _).mono ?_
  rintro e w1 ⟨rfl, b1⟩
  have hB1 := Below.next hBa b1
  have n6 := m6.next b1
  have n12 := m12.next b1
  clear b1 m6 m12 hBa c60 c61
  have c60 := n6.c0
  have c61 := n6.c1
  have r0 := n12.c0
  have r1 := n12.c1
  have f0 := n12.frozen 0
  have f1 := n12.frozen 1
  go_wp2_with (fail)
  go_at_call 71
  refine (HVA.out _).mono ?_
  rintro e w2 ⟨rfl, b2⟩
  have hB2 := Below.next hB1 b2
  have o6 := n6.next b2
  have o12 := n12.next b2
  clear b2 n6 n12 hB1 c60 c61 r0 r1 f0 f1
  have c60 := o6.c0
  have c61 := o6.c1
  have r0 := o12.c0
  have r1 := o12.c1
  have f0 := o12.frozen 0
  have f1 := o12.frozen 1
  go_wp2_with (fail)
  go_at_call 54
  refine (rtag_yes to _ HT.out).mono ?_
  rintro e w' ⟨rfl, rfl⟩
  have z12 := o12.lt
  have z6 := o6.lt
  clear c60 c61 r0 r1 f0 f1
  go_wp2_with (fail)
  go_loopw [15, 16, 17] (fun v nn i wr => ∃ k : Nat, k ≤ n ∧ i = .int .i64 k ∧ nn = .int .i64 (refN true lo hi from_ (V.take k)) ∧ OwnRuns wr w2.heap.size v (refL true lo hi from_ to (V.take k)) ∧ Below w2.heap.size w2 wr) (fun _ _ i _ => n - (intOf i).toNat)
  case atStart => exact ⟨0, Nat.zero_le _, rfl, rfl, World.ownsRow_nil _ _ _ _, Below.refl _ _⟩
  case round =>
    obtain ⟨k, hk, rfl, rfl, hO, hB⟩ := hrel
    have p6 := BoxM.below' hB z6 o6
    have p12 := BoxM.below' hB z12 o12
    have c60 := p6.c0
    have c61 := p6.c1
    have hwr := hB.size
    have nb := hN.out k
    by_cases hlt : k < n
    · have k1 : (k : Int) < (n : Int) := by omega
      have hkl : k < V.length := by have := HV.out; omega
      obtain ⟨hab, hx⟩ := (((HR.out.below hB2).below hB)).at_ hkl
      have hfx := hF.out _ (List.getElem_mem hkl)
      have hS : refL true lo hi from_ to (V.take (k + 1)) = stepR true lo hi from_ to (refL true lo hi from_ to (V.take k)) V[k] := by rw [List.take_succ_eq_append_getElem hkl, refL_snoc]
      have hSN : refN true lo hi from_ (V.take (k + 1)) = refN true lo hi from_ (V.take k) + addN true lo hi from_ V[k] := by rw [List.take_succ_eq_append_getElem hkl, refN_snoc]
      have nb' := hN.out (k + 1)
      rw [hSN] at nb'
      have hlk := HLEN.out k hk
      generalize V[k] = X at *
      have cl := clamp (lo := lo) (hi := hi) (x := X) h1 (by omega)
      have wa1 : max X.lo (min lo X.hi) = loA lo X := rfl
      have wb1 : min X.hi (max hi X.lo) = hiB hi X := rfl
      have hstep : stepR true lo hi from_ to (refL true lo hi from_ to (V.take k)) X = joinRn (joinRn (joinRn (refL true lo hi from_ to (V.take k)) ⟨X.lo, loA lo X, X.tag⟩) ⟨loA lo X, hiB hi X, tagT true from_ to X⟩) ⟨max (loA lo X) (hiB hi X), X.hi, X.tag⟩ := rfl
      have hadd : addN true lo hi from_ X = if true = true ∨ X.tag = from_ then max 0 (hiB hi X - loA lo X) else 0 := rfl
      have htag : tagT true from_ to X = if true = true ∨ X.tag = from_ then to else X.tag := rfl
      rw [hstep] at hS
      generalize hAA : loA lo X = AA at *
      generalize hBB : hiB hi X = BB at *
      generalize refL true lo hi from_ to (V.take k) = S at *
      generalize refN true lo hi from_ (V.take k) = M at *
      generalize tagT true from_ to X = T at *
      generalize addN true lo hi from_ X = D at *
      have HS := Lib.hid hS
      have HSN := Lib.hid hSN
      have HADD := Lib.hid hadd
      have HTAG := Lib.hid htag
      have WA := Lib.hid wa1
      have WB := Lib.hid wb1
      obtain ⟨cl1, cl2, cl3, -⟩ := cl
      have HO := Lib.hid hO
      clear hS hSN hadd htag wa1 wb1 hAA hBB hstep hO
      obtain ⟨g0, g1, g2⟩ := hx
      go_upto_region 13 with (fail)
      generalize hwb : World.alloc wr _ = wb
      have bb : BoxRun wb wr.heap.size X.lo X.hi X.tag := hwb ▸ BoxRun.new wr _ _ _
      have gb : wr.grownBy wb none := hwb ▸ World.grownBy_alloc wr _ none
      clear hwb g0 g1 g2
      have g0 := bb.c0
      have g1 := bb.c1
      have g2 := bb.c2
      have bz := bb.lt
      have ne0 : some wr.heap.size ≠ u15.ownBlock := fun e => by have := (HO.out.row_ge _ e.symm).2; omega
      go_quiet (fail)
      generalize hwq : World.drewN _ _ = x0
      have bq0 : BoxRun x0 wr.heap.size X.lo X.hi X.tag := hwq ▸ bb.drewN_ _
      have gq : wr.grownBy x0 none := hwq ▸ gb.trans (grown_drewN _ _)
      have HO0 := Lib.hid (HO.out.kept_ gq)
      have Bq0 : Below w2.heap.size w2 x0 := hB.trans ⟨gq.os, gq.tape, gq.output, gq.size, fun k hk => gq.block k (by omega) (by simp)⟩
      have sz0 := gq.size
      clear hwq bb gb g0 g1 g2 bz gq HO hB
      simp only [WA.out, WB.out]
      have l1 := joinRn_length S ⟨X.lo, AA, X.tag⟩
      have l2 := joinRn_length (joinRn S ⟨X.lo, AA, X.tag⟩) ⟨AA, BB, T⟩
      have iD : IntKind.i64.wrap (BB - AA) = BB - AA := IntWalk.i64_in _ (by omega)
      have bz := bq0.lt
      have g0 := bq0.c0
      have g1 := bq0.c1
      have g2 := bq0.c2
      have hDD : D = max 0 (BB - AA) := by rw [HADD.out, if_pos (.inl rfl)]
      have hTT : T = to := by rw [HTAG.out, if_pos (.inl rfl)]
      have iM : IntKind.i64.wrap (M + max 0 (BB - AA)) = M + max 0 (BB - AA) := IntWalk.i64_in _ (by rw [← hDD]; omega)
      have HDD := Lib.hid hDD
      rw [hTT] at l2 HS
      clear hDD hTT HTAG HADD nb'
      go_wp2_with (first | (refine wpList_max rfl _ _ _ rfl _ _ rfl rfl ?_))
      go_at_call 72
      refine (rjoin_any x0 w2.heap.size u15 (S) ⟨X.lo, AA, X.tag⟩ HO0.out (by omega) (by omega)).mono ?_
      rintro e x1 ⟨v1, rfl, hO1, hg1, hv1⟩
      obtain ⟨k1, bq1, ne1⟩ := join_keep (by omega) HO0.out hg1 hv1 bq0 ne0
      have Bq1 := Bq0.trans k1
      have HO1 := Lib.hid hO1
      have sz1 := hg1.size
      clear k1 hO1 hg1 hv1 bq0 ne0 HO0 Bq0 g0 g1 g2
      have g0 := bq1.c0
      have g1 := bq1.c1
      have g2 := bq1.c2
      go_wp2_with (first | (refine wpList_max rfl _ _ _ rfl _ _ rfl rfl ?_))
      go_at_call 72
      refine (rjoin_any x1 w2.heap.size v1 (joinRn S ⟨X.lo, AA, X.tag⟩) ⟨AA, BB, to⟩ HO1.out (by omega) (by omega)).mono ?_
      rintro e x2 ⟨v2, rfl, hO2, hg2, hv2⟩
      obtain ⟨k2, bq2, ne2⟩ := join_keep (by omega) HO1.out hg2 hv2 bq1 ne1
      have Bq2 := Bq1.trans k2
      have HO2 := Lib.hid hO2
      have sz2 := hg2.size
      clear k2 hO2 hg2 hv2 bq1 ne1 HO1 Bq1 g0 g1 g2
      have g0 := bq2.c0
      have g1 := bq2.c1
      have g2 := bq2.c2
      go_wp2_with (first | (refine wpList_max rfl _ _ _ rfl _ _ rfl rfl ?_))
      go_at_call 72
      refine (rjoin_any x2 w2.heap.size v2 (joinRn (joinRn S ⟨X.lo, AA, X.tag⟩) ⟨AA, BB, to⟩) ⟨max AA BB, X.hi, X.tag⟩ HO2.out (by omega) (by omega)).mono ?_
      rintro e x3 ⟨v3, rfl, hO3, hg3, hv3⟩
      obtain ⟨k3, bq3, ne3⟩ := join_keep (by omega) HO2.out hg3 hv3 bq2 ne2
      have Bq3 := Bq2.trans k3
      have HO3 := Lib.hid hO3
      have sz3 := hg3.size
      clear k3 hO3 hg3 hv3 bq2 ne2 HO2 Bq2 g0 g1 g2
      have g0 := bq3.c0
      have g1 := bq3.c1
      have g2 := bq3.c2
      go_wp2_with (fail)
      exact ⟨⟨k + 1, by omega, by go_num, by rw [HSN.out, HDD.out], by rw [HS.out]; exact HO3.out, Bq3⟩, by simp [intOf]; omega⟩
    · obtain rfl : k = n := by omega
      have hO2 : OwnRuns wr w2.heap.size u15 (lay 0 N) := by
        have e : V.take k = V := List.take_of_length_le (by have := HV.out; omega)
        rw [e, hRN.out] at hO
        exact hO
      have e : V.take k = V := List.take_of_length_le (by have := HV.out; omega)
      rw [e] at nb
      rw [e]
      obtain ⟨A', c', rfl, hc', -⟩ := hO2.runs
      rw [lay_length] at hc'
      rw [lay_length]
      obtain ⟨M, hM⟩ : ∃ M, refN true lo hi from_ V = M := ⟨_, rfl⟩
      rw [hM] at nb
      rw [hM]
      have HM := Lib.hid hM
      have hO2 : OwnRuns wr w2.heap.size (.slice A' N.length c') (lay 0 N) := by rw [lay_length] at hO2; exact hO2
      have HO2 := Lib.hid hO2
      clear hO hO2 e hk hM
      by_cases h4 : 4096 < (N.length : Int)
      · go_wp2_with (fail)
        go_at_call 77
        refine (full_no size (some a) k c A' N.length c' _ (by omega)).mono ?_
        rintro e w4 ⟨rfl, b4⟩
        have q12 := p12.next b4
        have hB4 := (hB2.trans (hB.mono (by omega))).trans (b4.mono (by omega))
        clear b4
        go_upto_region 22 with (fail)
        generalize hw5 : World.alloc w4 _ = w5
        have d5 : Below w4.heap.size w4 w5 := hw5 ▸ Below.alloc1 w4 _
        have t12 := q12.next d5
        have hB5 := Below.next hB4 d5
        have r0 := t12.c0
        have r1 := t12.c1
        have f0 := t12.frozen 0
        have f1 := t12.frozen 1
        have t12l := t12.lt
        clear hw5 d5
        go_wp2_with (fail)
        exact bodyPost_ret (v := .tuple #[.agg #[.int .i64 0, .slice none 0 0], .int .i64 0, .int .i64 5]) (by simp [results, Try.results65, go_sem, (boxM_set t12 0 (.slice none 0 0)).c0, (boxM_set t12 0 (.slice none 0 0)).c1]) rfl (by first | exact ⟨none, 0, 0, rfl, rfl, World.ownsRow_nil _ _ _ _, Nat.le_refl _, (hB5.setCell (p := ⟨w.heap.size + 1, 0, none⟩) (show w.heap.size ≤ w.heap.size + 1 by omega) _).setCell (p := ⟨w.heap.size + 1, 1, none⟩) (show w.heap.size ≤ w.heap.size + 1 by omega) _⟩ | (rw [if_pos h4, if_pos h4, if_pos h4]; exact ⟨none, 0, 0, rfl, rfl, World.ownsRow_nil _ _ _ _, Nat.le_refl _, (hB5.setCell (p := ⟨w.heap.size + 1, 0, none⟩) (show w.heap.size ≤ w.heap.size + 1 by omega) _).setCell (p := ⟨w.heap.size + 1, 1, none⟩) (show w.heap.size ≤ w.heap.size + 1 by omega) _⟩))
      · go_wp2_with (fail)
        go_at_call 77
        refine (full_yes size (some a) k c A' N.length c' _ (by omega)).mono ?_
        rintro e w4 ⟨rfl, b4⟩
        have q12 := p12.next b4
        have hB4 := (hB2.trans (hB.mono (by omega))).trans (b4.mono (by omega))
        have O4 : OwnRuns w4 w2.heap.size (.slice A' N.length c') (lay 0 N) := OwnRuns.next HO2.out b4
        clear b4
        go_upto_region 22 with (fail)
        generalize hw5 : World.alloc w4 _ = w5
        have d5 : Below w4.heap.size w4 w5 := hw5 ▸ Below.alloc1 w4 _
        have x22 : BoxM w5 w4.heap.size size (.slice A' N.length c') := hw5 ▸ BoxM.new w4 _ _
        have t12 := q12.next d5
        have hB5 := Below.next hB4 d5
        have O5 := O4.next d5
        have r0 := t12.c0
        have r1 := t12.c1
        have f0 := t12.frozen 0
        have f1 := t12.frozen 1
        have t12l := t12.lt
        have y0 := x22.c0
        have y1 := x22.c1
        clear hw5 d5
        go_wp2_with (fail)
        exact bodyPost_ret (v := .tuple #[.agg #[.int .i64 size, .slice A' N.length c'], .int .i64 M, .int .i64 0]) (by simp [results, Try.results65, go_sem, (boxM_set t12 size (.slice A' N.length c')).c0, (boxM_set t12 size (.slice A' N.length c')).c1]) rfl (by first | exact ⟨A', c', M, by rw [tN.out], HM.out.symm, ((O5.set (p := ⟨w.heap.size + 1, 0, none⟩) z12 _).set (p := ⟨w.heap.size + 1, 1, none⟩) z12 _).mono (by have := hB2.size; omega), hc', (hB5.setCell (p := ⟨w.heap.size + 1, 0, none⟩) (show w.heap.size ≤ w.heap.size + 1 by omega) _).setCell (p := ⟨w.heap.size + 1, 1, none⟩) (show w.heap.size ≤ w.heap.size + 1 by omega) _⟩ | (rw [if_neg (by omega), if_neg (by omega), if_neg (by omega)]; exact ⟨A', c', M, by rw [tN.out], HM.out.symm, ((O5.set (p := ⟨w.heap.size + 1, 0, none⟩) z12 _).set (p := ⟨w.heap.size + 1, 1, none⟩) z12 _).mono (by have := hB2.size; omega), hc', (hB5.setCell (p := ⟨w.heap.size + 1, 0, none⟩) (show w.heap.size ≤ w.heap.size + 1 by omega) _).setCell (p := ⟨w.heap.size + 1, 1, none⟩) (show w.heap.size ≤ w.heap.size + 1 by omega) _⟩))
end
section
open Go.RowKit Go.Shelf

theorem lay_fine {L : List (Int × Int)} (h : Tr.OkL L) : ∀ {k : Int}, 0 ≤ k → k + Tr.total L ≤ 1099511627776 → ∀ x ∈ lay k L, 0 ≤ x.lo ∧ x.lo < x.hi ∧ x.hi ≤ 1099511627776 := by
  induction L with
  | nil => intro k _ _ x hx; simp [lay] at hx
  | cons y L ih =>
    intro k h0 h1 x hx
    have h' := Tr.OkL.cons.1 h
    have := total_nonneg h'.2
    rw [Tr.total_cons] at h1
    simp only [lay, List.mem_cons] at hx
    rcases hx with rfl | hx
    · exact ⟨h0, by dsimp only; omega, by dsimp only; omega⟩
    · exact ih h'.2 (by omega) (by omega) x hx
theorem lay_take (L : List (Int × Int)) : ∀ (j : Int) (k : Nat), (lay j L).take k = lay j (L.take k) := by
  induction L with
  | nil => intro j k; simp [lay]
  | cons x L ih =>
    intro j k
    cases k with
    | zero => rfl
    | succ k => simp only [lay, List.take_succ_cons, ih]
theorem refN_fine (any : Bool) (lo hi from_ : Int) {L : List (Int × Int)} (h : Tr.OkL L) (h1 : Tr.total L ≤ 1099511627776) (k : Nat) : 0 ≤ refN any lo hi from_ ((lay 0 L).take k) ∧ refN any lo hi from_ ((lay 0 L).take k) ≤ 1099511627776 := by
  have e : L = L.take k ++ L.drop k := (List.take_append_drop k L).symm
  have h2 := h
  rw [e] at h2
  obtain ⟨o1, o2⟩ := Tr.OkL.append.1 h2
  have n2 := total_nonneg o2
  have t : Tr.total L = Tr.total (L.take k) + Tr.total (L.drop k) := by rw [← Tr.total_append, List.take_append_drop]
  have b := refN_bounds any lo hi from_ (L.take k) 0 o1
  rw [lay_take]
  omega
theorem rswap_any (w : World) (L : List (Int × Int)) (size : Int) (A : Option Addr) (n c : Nat) (lo hi from_ to : Int) (hL : L = [] ∨ Good L) (hR : Runs w A (lay 0 L)) (hn : L.length = n) (hnc : n ≤ c) (hsz : Tr.total L = size) :
    Calls Try.prog 65 #[.agg #[.int .i64 size, .slice A n c], .int .i64 lo, .int .i64 hi, .int .i64 from_, .int .i64 to, .bool false] w (RSwapPost w (swapR L lo hi from_ to).1 (swapR L lo hi from_ to).2.2 (fun k => k = (swapR L lo hi from_ to).2.1)) := by
  by_cases hl : L = []
  · have e : swapR L lo hi from_ to = (1, 0, []) := by unfold swapR; rw [if_pos hl]
    rw [e]
    subst hl
    obtain rfl : n = 0 := by rw [← hn]; rfl
    exact rswap_none_false w size A c lo hi from_ to _ rfl
  · have g := hL.resolve_left hl
    have hp : 0 < n := by rw [← hn]; exact List.length_pos_iff.2 hl
    have hm := g.2.2.2.2
    unfold swapR
    rw [if_neg hl]
    by_cases h1 : lo < 0 ∨ hi < lo ∨ Tr.total L < hi
    · rw [if_pos h1]
      exact rswap_range_false w size A n c lo hi from_ to (by omega) hp (by omega) _ rfl
    rw [if_neg h1]
    by_cases h2 : (from_ < 0 ∨ 16 ≤ from_) ∨ (to < 0 ∨ 16 ≤ to)
    · rw [if_pos h2]
      by_cases h3 : from_ < 0 ∨ 16 ≤ from_
      · exact rswap_from_false w size A n c lo hi from_ to (by omega) hp (by omega) (by omega) (by omega) h3 _ rfl
      · exact rswap_to_false w size A n c lo hi from_ to (by omega) hp (by omega) (by omega) (by omega) (by omega) (by omega) _ rfl
    rw [if_neg h2]
    obtain ⟨a, rfl⟩ : ∃ a, A = some a := by
      rcases hR with hh | ⟨a, hh, _⟩
      · exfalso
        have := congrArg List.length hh
        rw [lay_length] at this
        simp at this
        exact hl this
      · exact ⟨a, hh⟩
    have r := refL_swap (from_ := from_) g (by omega : 0 ≤ lo) (by omega : lo ≤ hi) (by omega) (by omega : 0 ≤ to) (by omega)
    have t := swapL_total (from_ := from_) g.2.1 (by omega : 0 ≤ lo) (by omega : lo ≤ hi) (by omega) (by omega : 0 ≤ to) (by omega)
    have := rswap_good_false w size a n c lo hi from_ to (by omega) hp (by omega) (by omega) (by omega) (by rw [← hsz]; exact g.2.2.2.1) (by omega) (by omega) (lay 0 L) (by rw [lay_length]; exact hn) hR hnc (lay_fine g.2.1 (Int.le_refl _) (by rw [Int.zero_add]; exact g.2.2.2.1)) (refN_fine false lo hi from_ g.2.1 g.2.2.2.1) (swapL L lo hi from_ to) r (t.trans hsz)
    rw [refN_clip lo hi from_ L 0 g.2.1] at this
    by_cases h4 : 4096 < ((swapL L lo hi from_ to).length : Int)
    · simp only [if_pos h4] at this ⊢; exact this
    · simp only [if_neg h4] at this ⊢; exact this
theorem rset_any (w : World) (L : List (Int × Int)) (size : Int) (A : Option Addr) (n c : Nat) (lo hi from_ to : Int) (hL : L = [] ∨ Good L) (hR : Runs w A (lay 0 L)) (hn : L.length = n) (hnc : n ≤ c) (hsz : Tr.total L = size) :
    Calls Try.prog 65 #[.agg #[.int .i64 size, .slice A n c], .int .i64 lo, .int .i64 hi, .int .i64 from_, .int .i64 to, .bool true] w (RSwapPost w (setR L lo hi to).1 (setR L lo hi to).2 (fun _ => True)) := by
  by_cases hl : L = []
  · have e : setR L lo hi to = (1, []) := by unfold setR; rw [if_pos hl]
    rw [e]
    subst hl
    obtain rfl : n = 0 := by rw [← hn]; rfl
    exact rswap_none_true w size A c lo hi from_ to _ trivial
  · have g := hL.resolve_left hl
    have hp : 0 < n := by rw [← hn]; exact List.length_pos_iff.2 hl
    have hm := g.2.2.2.2
    unfold setR
    rw [if_neg hl]
    by_cases h1 : lo < 0 ∨ hi < lo ∨ Tr.total L < hi
    · rw [if_pos h1]
      exact rswap_range_true w size A n c lo hi from_ to (by omega) hp (by omega) _ trivial
    rw [if_neg h1]
    by_cases h2 : to < 0 ∨ 16 ≤ to
    · rw [if_pos h2]
      exact rswap_to_true w size A n c lo hi from_ to (by omega) hp (by omega) (by omega) (by omega) h2 _ trivial
    rw [if_neg h2]
    obtain ⟨a, rfl⟩ : ∃ a, A = some a := by
      rcases hR with hh | ⟨a, hh, _⟩
      · exfalso
        have := congrArg List.length hh
        rw [lay_length] at this
        simp at this
        exact hl this
      · exact ⟨a, hh⟩
    have r := refL_set (from_ := from_) g (by omega : 0 ≤ lo) (by omega : lo ≤ hi) (by omega) (by omega : 0 ≤ to) (by omega)
    have t := setL_total (tag := to) g.2.1 (by omega : 0 ≤ lo) (by omega : lo ≤ hi) (by omega)
    have := (rswap_good_true w size a n c lo hi from_ to (by omega) hp (by omega) (by omega) (by omega) (by rw [← hsz]; exact g.2.2.2.1) (by omega) (lay 0 L) (by rw [lay_length]; exact hn) hR hnc (lay_fine g.2.1 (Int.le_refl _) (by rw [Int.zero_add]; exact g.2.2.2.1)) (refN_fine true lo hi from_ g.2.1 g.2.2.2.1) (setL L lo hi to) r (t.trans hsz)).mono fun e w' ⟨A', c', k, h1, _, h3⟩ => (⟨A', c', k, h1, trivial, h3⟩ : RSwapPost w _ _ (fun _ => True) e w')
    by_cases h4 : 4096 < ((setL L lo hi to).length : Int)
    · simp only [if_pos h4] at this ⊢; exact this
    · simp only [if_neg h4] at this ⊢; exact this
end
end Go.Proofs.Ytfmplibjhohpgaa
