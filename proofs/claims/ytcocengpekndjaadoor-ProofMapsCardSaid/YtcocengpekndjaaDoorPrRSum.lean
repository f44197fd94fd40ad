/- The walk over Sum of the reference. -/
import Derived.Test.YtcocengpekndjaaDoorPrBytes
import Derived.Test.YtcocengpekndjaaDoorPrBlock
import Derived.Test.YtcocengpekndjaaDoorPrHashes
namespace Go.Proofs.YtcocengpekndjaaDoor
open Go.RowKit
section
variable {P : Program} {ops : Array Oper} {w : World} {Q : Act → Prop} {a : Act} {o : Oper} {rest : List Oper}
/-- A load in a region whose operations change nothing. -/
theorem wpStill_load (hgd : o.guard = none) (ty : TypeId) (x : Operand) (ho : o.op = .load ty x) (v : Value) (hr : (Instr.loadAt ty (a.eval x)).run P w = .ok v w) (K : wpStill P ops w Q rest (a.put o.dst v)) : wpStill P ops w Q (o :: rest) a := by
  refine wpStill_step fun K' hK => ?_
  have hw : Region.wanted o (yielded ops a.tmps) = true := by unfold Region.wanted; rw [hgd]
  rw [if_pos hw]
  unfold Oper.still
  simp only [execOp, ho, Sem.run_bind, hr, Result.andThen_ok, Sem.run_pure, Oper.stillUpon_value]
  exact hK _ K
end
theorem BoxW.load {W : World} {b : Nat} (h : BoxW W b) : (Instr.loadAt 27 (.pointer (some ⟨b, 0, none⟩))).run Tryd.prog W = .ok wordsV W := by
  have hl : (loadCells ⟨b, 0, none⟩ wordsL.length).run Tryd.prog W = .ok (ints .u32 wordsL) W := by
    unfold loadCells
    exact BoxA.load h _ rfl
  have hs : (Tryd.prog.info? 27).map (·.size) = some 72 := szWords
  cases hq : Tryd.prog.info? 27 with
  | none => simp [hq] at hs
  | some i =>
    have hz : i.size = wordsL.length := by rw [wordsL_length]; simpa [hq] using hs
    have hagg : (isAgg 27).run Tryd.prog W = .ok true W := by
      unfold isAgg
      rw [Sem.run_bind, run_underlying (show Tryd.prog.underlying 27 = some (.struct (Tryd.prog.fieldsOf 27)) by kernel_rfl) W]
      simp
    simp only [Instr.loadAt, Instr.sureAddr, Sem.run_bind, Sem.run_pure, Result.andThen_ok]
    simp [loadVar, Sem.run_bind, hagg, sizeOf, typeInfo, hq, hz, hl]
/-- The first state lies at the head of the constants. -/
theorem BoxW.loadH {W : World} {b : Nat} (h : BoxW W b) : (Instr.loadAt 24 (.pointer (some ⟨b, 0, none⟩))).run Tryd.prog W = .ok (.agg (ints .u32 hM)) W := by
  refine run_loadAt_list W ⟨b, 0, none⟩ 24 (hM.map (Value.int .u32)) 8 23 (fun j v hj => ?_) (by kernel_rfl) (by rw [List.length_map]; exact (show (Tryd.prog.info? 24).map (·.size) = some 8 by kernel_rfl))
  rw [Addr.add_mid, Nat.zero_add]
  have hj' : j < 8 := by have := (List.getElem?_eq_some_iff.1 hj).1; simpa [hM] using this
  rw [BoxA.cellD h (i := j) (by rw [wordsL_length]; omega), words_h hj']
  rw [List.getElem?_map] at hj
  obtain ⟨y, hy, rfl⟩ := Option.map_eq_some_iff.1 hj
  rw [List.getD_eq_getElem?_getD, hy]; rfl
/-- What is hashed, up to j zeros. -/
def padP (s : Bs) (j : Nat) : Bs := s ++ (128 :: List.replicate j 0)
theorem padP_length (s : Bs) (j : Nat) : (padP s j).length = s.length + 1 + j := by simp [padP]; omega
theorem padP_succ (s : Bs) (j : Nat) : padP s (j + 1) = padP s j ++ [0] := by
  simp only [padP, List.replicate_succ', List.append_assoc, List.cons_append]
theorem padP_zero (s : Bs) : padP s 0 = s ++ [128] := rfl
theorem padM_P (s : Bs) : padM s = padP s ((119 - s.length % 64) % 64) ++ eightM (8 * s.length) := by
  unfold padM padP; rw [List.append_assoc, List.cons_append]
/-- A part of a slice of bytes read as a string. -/
theorem bytes_part {w : World} {base g n c : Nat} {b : Bs} (h : OwnBy w base (.slice (some ⟨g, 0, none⟩) n c) b) (i m k : Nat) (hi : i + m ≤ b.length) : (convert 67 9 (.slice (some ⟨g, i, none⟩) m k)).run Tryd.prog w = .ok (.string ⟨((b.drop i).take m).toArray⟩) w := by
  have hl : ((b.drop i).take m).length = m := by rw [List.length_take, List.length_drop]; omega
  have := run_convert_bytes_back (P := Tryd.prog) w 67 9 5 ⟨g, i, none⟩ k ((b.drop i).take m) (by kernel_rfl) (by kernel_rfl) (by kernel_rfl) (fun j hj => by
    rw [hl] at hj
    rw [Addr.add_mid, h.cells (j := i + j) (by omega), List.getElem_take, List.getElem_drop])
  rw [hl] at this
  exact this
theorem OwnBy.bound {w : World} {base g n c : Nat} {b : Bs} (h : OwnBy w base (.slice (some ⟨g, 0, none⟩) n c) b) : n = b.length ∧ n ≤ c ∧ c ≤ maxLen ∧ base ≤ g := by
  obtain ⟨g', cap, cur, fz, e, hg, hh, _, h1, h2, _⟩ := h
  cases e; exact ⟨rfl, h1, h2, hg⟩
theorem OwnBy.slice_ {w : World} {base : Nat} {v : Value} {b : Bs} (h : OwnBy w base v b) : ∃ g c, v = .slice (some ⟨g, 0, none⟩) b.length c := by
  obtain ⟨g', cap, cur, fz, e, _⟩ := h; exact ⟨g', cap, e⟩
theorem OwnBy.mono {w : World} {base base' : Nat} {v : Value} {b : Bs} (h : OwnBy w base v b) (hb : base' ≤ base) : OwnBy w base' v b := by
  obtain ⟨g, cap, cur, fz, e, hg, r⟩ := h; exact ⟨g, cap, cur, fz, e, Nat.le_trans hb hg, r⟩
theorem byte_new (W : World) (x : UInt8) : ∀ j u, (cellsB [x])[j]? = some u → (W.alloc (.cells #[.int .u8 (x.toNat : Int)] 5)).cell? ((⟨W.heap.size, 0, none⟩ : Addr).add j) = some u := fun j u hu => by
  rw [Addr.add_mid, Nat.zero_add, cell_of_row _ _ _ _ _ _ (heap_alloc_new W _)]
  match j, hu with
  | 0, hu => simpa [cellsB] using hu
  | j + 1, hu => simp [cellsB] at hu
theorem OwnBy.but {w w' : World} {base g n c k : Nat} {b : Bs} (h : OwnBy w base (.slice (some ⟨g, 0, none⟩) n c) b) (hg : g ≠ k) (hB : But k w w') : OwnBy w' base (.slice (some ⟨g, 0, none⟩) n c) b := by
  obtain ⟨g', cap, cur, fz, e, hg', hh, r⟩ := h
  cases e
  exact ⟨g, c, cur, fz, rfl, hg', (hB.2.2.2.2 g (Array.getElem?_eq_some_iff.1 hh).1 hg).trans hh, r⟩
theorem OwnBy.lt {w : World} {base g n c : Nat} {b : Bs} (h : OwnBy w base (.slice (some ⟨g, 0, none⟩) n c) b) : g < w.heap.size := by
  obtain ⟨g', cap, cur, fz, e, hg', hh, r⟩ := h
  cases e; exact (Array.getElem?_eq_some_iff.1 hh).1
theorem elemB : Tryd.prog.underlying 67 = some (.slice (Tryd.prog.elem 67)) := by kernel_rfl
theorem sizeB (W : World) : (sizeOf (Tryd.prog.elem 67)).run Tryd.prog W = .ok 1 W := by kernel_rfl
theorem bs_mid (g n c : Nat) (i j : Nat) (x y : Int) (hx : x = i) (hy : y = j) (h1 : i < j) (h2 : j ≤ c) (W : World) : (Instr.slice 67 (.slice (some ⟨g, 0, none⟩) n c) (some (.int .i64 x)) (some (.int .i64 y)) none).run Tryd.prog W = .ok (.slice (some ⟨g, i, none⟩) (j - i) (c - i)) W := by
  subst hx hy
  rw [run_slice_lh W _ (some ⟨g, 0, none⟩) n c elemB .i64 .i64 i j (by omega) (by omega) (by omega), sizeB]
  simp only [Result.andThen, sliced, Int.toNat_natCast, Nat.mul_one]
  rw [if_neg (by omega)]
  simp [Addr.add]
  intro h; exact h.symm
set_option maxRecDepth 100000 in
set_option maxHeartbeats 4000000 in
theorem rsum_any (s : Bs) (w : World) (hs : s.length ≤ 100000) : Calls Tryd.prog 20 #[wordsV, .string ⟨s.toArray⟩] w fun e w' => e = .returned (hashV (sha s)) ∧ Below w.heap.size w w' := by
  have hpad := padM_P s
  have hshl : sha s = bytesM (hashM hM (padM s)) := rfl
  obtain ⟨z, hz⟩ : ∃ z, z = (119 - s.length % 64) % 64 := ⟨_, rfl⟩
  rw [← hz] at hpad
  have sz : (Tryd.prog.info? 24).map (·.size) = some 8 := by kernel_rfl
  have HPAD := Lib.hid hpad
  have HZ := Lib.hid hz
  have HSH := Lib.hid hshl
  have HSZ := Lib.hid sz
  clear hpad hz hshl sz
  go_enter Tryd.func20, Tryd.ntmps20
  go_upto_region 1 with (fail)
  obtain ⟨w0, hW0⟩ : ∃ w0, World.alloc (World.alloc w (.cells (ints .u32 wordsL) 27)) (.cells (ints .u8 (List.replicate 32 0)) 30) = w0 := ⟨_, rfl⟩
  have B0 : Below w.heap.size w w0 := hW0 ▸ Below.on (Below.new1 _ _) (Below.new1 _ _)
  have x2 : BoxW w0 w.heap.size := hW0 ▸ (BoxW.new w).next (Below.new1 _ _)
  have x4 : BoxA w0 (w.heap.size + 1) 30 .u8 (List.replicate 32 0) := by
    have := BoxA.new (w.alloc (.cells (ints .u32 wordsL) 27)) 30 .u8 (List.replicate 32 0) _ rfl
    rw [World.size_alloc] at this; exact hW0 ▸ this
  change Code.wp _ _ _ _ (World.alloc (World.alloc w (.cells (ints .u32 wordsL) 27)) (.cells (ints .u8 (List.replicate 32 0)) 30))
  rw [hW0]
  clear hW0
  go_upto_region 2 with (refine wpList_bytes_of rfl (.tmp 11) rfl s rfl (by omega) ?_; intro v1 w1 hO1 b1)
  obtain ⟨g1, c1, rfl⟩ := hO1.slice_
  have hb1 := b1.size
  have hBw := Below.on (Below.refl w0.heap.size w0) b1
  have x2o := x2
  have x4o := x4
  clear hb1
  go_upto_region 3 with (at_builtin; refine wpList_append_by rfl (.tmp 13) (.tmp 14) rfl w0.heap.size _ s rfl (hO1.next (Below.new1 w1 _)) ⟨w1.heap.size, 0, none⟩ 1 1 [128] rfl rfl (byte_new w1 128) (by omega) (by have := b1.size; rw [World.size_alloc]; omega) ?_; intro v2 w2 hO2 b2)
  have hO2' : OwnBy w2 w0.heap.size v2 (padP s 0) := hO2
  have hB2 : Below w0.heap.size w0 w2 := (hBw.trans (Below.mono (Below.new1 w1 _) b1.size)).trans b2
  clear hO1 hO2 b2 b1 hBw x2o x4o
  go_loopw [5] (fun v W => ∃ j : Nat, j ≤ z ∧ OwnBy W w0.heap.size v (padP s j) ∧ Below w0.heap.size w0 W) (fun v _ => match v with | .slice _ n _ => 100200 - n | _ => 0)
  case atStart => exact ⟨0, Nat.zero_le _, hO2', hB2⟩
  case round =>
    clear hO2' hB2
    obtain ⟨j, hjz, hO, hB⟩ := hrel
    obtain ⟨g, c, rfl⟩ := hO.slice_
    have hT := padP_length s j
    have hz := HZ.out
    obtain ⟨n, hn⟩ : ∃ n, (padP s j).length = n := ⟨_, rfl⟩
    rw [hn] at hT hO ⊢
    by_cases hlt : j < z
    · have t56 : ((n : Int) % 64 == 56) = false := by simp; omega
      have n56 : ((n : Int) % 64 != 56) = true := by simp; omega
      have hs2 := padP_succ s j
      have hsz := hB.size
      have HS2 := Lib.hid hs2
      have HN := Lib.hid hn
      have HT := Lib.hid hT
      have n1 : n ≤ 100100 := by omega
      clear hs2 hn hT hz
      go_wp2_with (at_builtin; refine wpList_append_by rfl (.tmp 20) (.tmp 21) rfl w0.heap.size _ (padP s j) rfl (hO.next (Below.new1 wr _)) ⟨wr.heap.size, 0, none⟩ 1 1 [0] rfl rfl (byte_new wr 0) (by rw [HN.out]; omega) (by rw [World.size_alloc]; omega) ?_; intro v3 w3 hO3 b3)
      rw [← HS2.out] at hO3
      have hB3 := (hB.trans (Below.mono (Below.new1 wr _) hB.size)).trans b3
      obtain ⟨g3, c3, rfl⟩ := hO3.slice_
      refine ⟨⟨j + 1, by omega, hO3, hB3⟩, ?_⟩
      have := HT.out
      rw [padP_length]
      simp only
      omega
    · obtain rfl : j = z := by omega
      have t56 : ((n : Int) % 64 == 56) = true := by simp; omega
      have n56 : ((n : Int) % 64 != 56) = false := by simp; omega
      have HT := Lib.hid hT
      have HN := Lib.hid hn
      have n1 : n ≤ 100100 := by omega
      have hsz := hB.size
      have el : ∃ l : Nat, l = s.length := ⟨_, rfl⟩
      clear hT hz hlt hjz hn
      go_upto_region 6 with (first
        | (go_at_call 59; refine (eight_any _ _ (by omega) (by omega)).mono ?_; rintro e w3 ⟨rfl, b3⟩)
        | (refine wpList_bytes_of rfl (.tmp 27) rfl (eightM (8 * s.length)) rfl (by rw [eightM_length]; decide) ?_; intro v4 w4 hO4 b4; obtain ⟨g4, c4, rfl⟩ := hO4.slice_)
        | (at_builtin; refine wpList_append_by rfl (.tmp 23) (.tmp 28) rfl w0.heap.size _ (padP s j) rfl ((hO.next b3).next b4) ⟨g4, 0, none⟩ 8 c4 (eightM (8 * s.length)) rfl rfl (fun i u hu => by
            have hi : i < (eightM (8 * s.length)).length := by have := (List.getElem?_eq_some_iff.1 hu).1; rwa [cellsB_length] at this
            rw [Addr.add_mid, Nat.zero_add, hO4.cells hi, ← cellsB_get hi]; exact hu) (by rw [HN.out]; omega) (by have := b3.size; have := b4.size; omega) ?_; intro v5 w5 hO5 b5))
      rw [← HPAD.out] at hO5
      have hB5 := ((hB.trans (b3.mono hsz)).trans (b4.mono (by have := b3.size; omega))).trans b5
      have hpl := padM_length s
      have hpn : (padM s).length ≤ 100300 := by rw [HPAD.out, List.length_append, HN.out, eightM_length]; omega
      obtain ⟨V, hV⟩ : ∃ V, padM s = V := ⟨_, rfl⟩
      have hsh := HSH.out
      rw [hV] at hO5 hpl hpn hsh
      obtain ⟨g, c, rfl⟩ := hO5.slice_
      obtain ⟨N, hNv⟩ : ∃ N, V.length = N := ⟨_, rfl⟩
      obtain ⟨M, hM2⟩ := hpl
      rw [hNv] at hO5 hpn hM2 ⊢
      obtain ⟨-, hnc, -, hgb⟩ := hO5.bound
      have hgl := hO5.lt
      have HSH2 := Lib.hid hsh
      have HNV := Lib.hid hNv
      have HM2 := Lib.hid hM2
      have x2' := BoxA.next x2 hB5
      have x4' := x4.next hB5
      have hB5' := Below.on B0 hB5
      clear hO hO4 b3 b4 b5 hB hsz HSH HPAD HZ HT HN hV hsh hNv el n1 t56 n56 hB5 hM2
      go_upto_region 7 with (first
        | (refine wpList_load_at rfl 24 (.tmp 30) rfl (.agg (ints .u32 hM)) (BoxW.loadH x2') ?_)
        | (refine wpList_store_row rfl 24 (.tmp 6) (.tmp 31) rfl w5.heap.size (ints .u32 hM) rfl rfl 24 (ints .u32 (List.replicate 8 0)) (heap_alloc_new _ _) (by rw [ints_size]; exact HSZ.out) rfl (ints_one _ _) ?_))
      obtain ⟨w6, hW⟩ : ∃ w6, World.setRow (World.alloc w5 (.cells (ints .u32 (List.replicate 8 0)) 24)) w5.heap.size (ints .u32 hM) = w6 := ⟨_, rfl⟩
      have b6 : Below w5.heap.size w5 w6 := hW ▸ below_setRow (Below.new1 w5 _) (Nat.le_refl _) _
      have y6 : BoxA w6 w5.heap.size 24 .u32 hM := hW ▸ (BoxA.new w5 _ _ (List.replicate 8 0) _ rfl).setRow
      have y2 := BoxA.next x2' b6
      have y4 := x4'.next b6
      have yO := hO5.next b6
      have yB := Below.on hB5' b6
      change Code.wp _ _ _ _ (World.setRow (World.alloc w5 (.cells (ints .u32 (List.replicate 8 0)) 24)) w5.heap.size (ints .u32 hM))
      rw [hW]
      have s0 := B0.size
      have l0 := x4.lt
      have l5 := x4'.lt
      generalize hg6 : w5.heap.size = g6 at *
      have e26 : w.heap.size ≠ g6 := by omega
      have e46 : w.heap.size + 1 ≠ g6 := by omega
      have eg6 : g ≠ g6 := by omega
      have ew6 : w.heap.size ≤ g6 := by omega
      clear hW b6 x2' x4' hO5 hB5' x2 x4 B0
      go_wp2_with (fail)
      go_loopw [7] (fun i W => ∃ m : Nat, m ≤ M ∧ i = .int .i64 (64 * (m : Int)) ∧ BoxA W g6 24 .u32 (hashM hM (V.take (64 * m))) ∧ BoxW W w.heap.size ∧ BoxA W (w.heap.size + 1) 30 .u8 (List.replicate 32 0) ∧ OwnBy W w0.heap.size (.slice (some ⟨g, 0, none⟩) N c) V ∧ Below w.heap.size w W) (fun i _ => 64 * M - (intOf i).toNat)
      case atStart => exact ⟨0, by omega, rfl, by rw [Nat.mul_zero, List.take_zero, hashM_done (by simp)]; exact y6, y2, y4, yO, yB⟩
      case round =>
        clear y6 y2 y4 yO yB
        obtain ⟨m, hmM, rfl, y6, y2, y4, yO, yB⟩ := hrel
        have hst : St (hashM hM (V.take (64 * m))) := hashM_st _ _ (Nat.le_refl _) hM_st
        have hNv := HNV.out
        have hM2 := HM2.out
        by_cases hlt : m < M
        · have m1 : 64 * (m : Int) < N := by omega
          have m0 : 0 ≤ (m : Int) := by omega
          have stp := hashM_step hM V m (by omega)
          have hc : ((V.drop (64 * m)).take 64).length = 64 := by rw [List.length_take, List.length_drop]; omega
          have cut := fun W => bs_mid g N c (64 * m) (64 * m + 64) (64 * (m : Int)) (64 * (m : Int) + 64) (by omega) (by omega) (by omega) (by omega) W
          rw [show 64 * m + 64 - 64 * m = 64 from by omega] at cut
          have cv := fun W (h : OwnBy W w0.heap.size (.slice (some ⟨g, 0, none⟩) N c) V) => bytes_part h (64 * m) 64 (c - 64 * m) (by omega)
          have w1' : IntKind.i64.wrap (64 * (m : Int) + 64) = 64 * m + 64 := IntWalk.i64_in _ (by omega)
          have ldh := fun W (h : BoxA W g6 24 .u32 (hashM hM (V.take (64 * m)))) => BoxA.loadAt (P := Tryd.prog) h 24 8 23 (by kernel_rfl) (by rw [hst.1]; exact HSZ.out)
          generalize hashM hM (V.take (64 * m)) = X at *
          generalize (V.drop (64 * m)).take 64 = C at *
          have STP := Lib.hid stp
          have HC := Lib.hid hc
          have HST := Lib.hid hst
          have LDH := Lib.hid ldh
          have Dd : Below wr.heap.size wr wr.drew := Below.drawn wr 1 _
          have cv' := cv wr.drew (yO.next Dd)
          have CV := Lib.hid cv'
          clear stp hc hst hNv ldh cv cv' hM2
          go_upto_region 10 with (fail)
          refine wp_region_still_tail 8 (by kernel_rfl) (by kernel_rfl) ?_
          simp only [List.take_succ_cons, List.take_zero, List.drop_succ_cons, List.drop_zero]
          refine wpStill_load rfl 27 (.tmp 2) rfl wordsV (BoxW.load (BoxA.next y2 Dd)) ?_
          refine wpStill_load rfl 24 (.tmp 6) rfl (.agg (ints .u32 X)) (LDH.out _ (y6.next Dd)) ?_
          have cv' := CV.out
          repeat still_step
          refine wpStill_nil ?_
          replace y2 := BoxA.next y2 Dd
          replace y4 := y4.next Dd
          replace y6 := y6.next Dd
          replace yO := yO.next Dd
          replace yB := Below.on yB Dd
          clear cut w1' cv' Dd CV LDH
          change wpList _ _ _ _ _ wr.drew
          generalize wr.drew = wd at *
          go_wp2_with (first
            | (go_at_call 60; refine (rblock_any X C _ HST.out HC.out).mono ?_; rintro e w1 ⟨rfl, b1⟩)
            | (refine wpList_store_row rfl 24 (.tmp 6) (.tmp 46) rfl g6 (ints .u32 (compM X C)) rfl rfl 24 _ (y6.next b1) (by rw [ints_size, (compM_st HST.out C).1]; exact HSZ.out) (by rw [ints_size, ints_size, (compM_st HST.out C).1, HST.out.1]) (ints_one _ _) ?_))
          have z6 := (y6.next b1).setRow (l' := compM X C)
          have z2 := (BoxA.next y2 b1).farRow e26 (ints .u32 (compM X C))
          have z4 := (y4.next b1).farRow e46 (ints .u32 (compM X C))
          have zO := (yO.next b1).but eg6 (But.row _ g6 (ints .u32 (compM X C)))
          have zB := below_setRow (Below.on yB b1) ew6 (ints .u32 (compM X C))
          rw [← STP.out] at z6 z2 z4 zO zB ⊢
          refine ⟨?_, by simp [intOf]; omega⟩
          first
            | exact ⟨m + 1, by omega, by rw [show (64 * (m : Int) + 64) = 64 * ((m + 1 : Nat) : Int) from by omega], z6, z2, z4, zO, zB⟩
            | (repeat (first | exact ⟨⟨m + 1, by omega, by rw [show (64 * (m : Int) + 64) = 64 * ((m + 1 : Nat) : Int) from by omega], z6, z2, z4, zO, zB⟩, rfl⟩ | apply Exists.intro))
        · obtain rfl : m = M := by omega
          have m1 : ¬ (64 * (m : Int) < N) := by omega
          rw [List.take_of_length_le (by omega)] at y6 hst
          clear hNv hM2 hlt hmM yO
          obtain ⟨Y, hY⟩ : ∃ Y, hashM hM V = Y := ⟨_, rfl⟩
          have hsh := HSH2.out
          rw [hY] at y6 hst hsh
          have h32 := bytesI_32 hst.1
          rw [← hsh] at h32
          have HS32 := Lib.hid h32
          have HY := Lib.hid hst.1
          clear hst hsh hY h32 y2
          go_upto_region 12 with (fail)
          obtain ⟨w7, hW⟩ : ∃ w7, World.alloc wr (.cells (ints .u8 (List.replicate 32 0)) 30) = w7 := ⟨_, rfl⟩
          have v8 : BoxA w7 wr.heap.size 30 .u8 (List.replicate 32 0) := hW ▸ BoxA.new wr _ _ _ _ rfl
          have b7 : Below wr.heap.size wr w7 := hW ▸ Below.new1 wr _
          have v4 := y4.next b7
          have v6 := y6.next b7
          have vB := Below.on yB b7
          change Code.wp _ _ _ _ (World.alloc wr (.cells (ints .u8 (List.replicate 32 0)) 30))
          rw [hW]
          have l6 := y6.lt
          have l4 := y4.lt
          generalize hbo : wr.heap.size = bo at *
          have e48 : w.heap.size + 1 ≠ bo := by omega
          have e68 : g6 ≠ bo := by omega
          have ew8 : w.heap.size ≤ bo := by omega
          clear hW b7 y4 y6 yB
          go_wp2_with (fail)
          go_loopw [9, 10] (fun i _ W => ∃ m : Nat, m ≤ 8 ∧ i = .int .i64 m ∧ BoxA W bo 30 .u8 (bytesI Y (4 * m)) ∧ BoxA W (w.heap.size + 1) 30 .u8 (List.replicate 32 0) ∧ BoxA W g6 24 .u32 Y ∧ Below w.heap.size w W) (fun i _ _ => 8 - (intOf i).toNat)
          case atStart => exact ⟨0, by omega, rfl, v8, v4, v6, vB⟩
          case round =>
            clear v8 v4 v6 vB
            obtain ⟨m, hm8, rfl, v8, v4, v6, vB⟩ := hrel
            by_cases hlt : m < 8
            · have m1' : (m : Int) < 8 := by omega
              have m0' : 0 ≤ (m : Int) := by omega
              obtain ⟨y, hy⟩ : ∃ y, Y.getD m 0 = y := ⟨_, rfl⟩
              have HYM := Lib.hid hy
              clear hy
              go_wp2_with (fail)
              go_loopw [10] (fun i W => ∃ j : Nat, j ≤ 4 ∧ i = .int .i64 j ∧ BoxA W bo 30 .u8 (bytesI Y (4 * m + j)) ∧ BoxA W (w.heap.size + 1) 30 .u8 (List.replicate 32 0) ∧ BoxA W g6 24 .u32 Y ∧ Below w.heap.size w W) (fun i _ => 4 - (intOf i).toNat)
              case atStart => exact ⟨0, by omega, rfl, v8, v4, v6, vB⟩
              case round =>
                clear v8 v4 v6 vB
                obtain ⟨j, hj4, rfl, v8, v4, v6, vB⟩ := hrel
                by_cases hjlt : j < 4
                · have j1 : (j : Int) < 4 := by omega
                  have j0 : 0 ≤ (j : Int) := by omega
                  have n1 : 4 * (m : Int) + j < 32 := by omega
                  have ff := v8.frozen (4 * m + j)
                  have cc := v8.cell (i := 4 * m + j) (by rw [bytesI_length]; omega)
                  have cy := v6.cellD (i := m) (by rw [HY.out]; exact hlt)
                  rw [HYM.out] at cy
                  have key := v8.set (4 * m + j) (y / 2 ^ (24 - 8 * j) % 256)
                  have ek : (bytesI Y (4 * m + j)).set (4 * m + j) (y / 2 ^ (24 - 8 * j) % 256) = bytesI Y (4 * m + (j + 1)) := by
                    rw [← Nat.add_assoc, bytesI, show (4 * m + j) / 4 = m from by omega, show (4 * m + j) % 4 = j from by omega, HYM.out]
                  rw [ek] at key
                  have KEY := Lib.hid key
                  clear ek key
                  go_wp2_with (fail)
                  refine ⟨?_, by simp [intOf]; omega⟩
                  first
                    | exact ⟨j + 1, by omega, by go_num, KEY.out, v4.far e48 _ _ _, v6.far e68 _ _ _, vB.setCell (p := ⟨bo, 4 * m + j, none⟩) ew8 _⟩
                    | (repeat (first | exact ⟨⟨j + 1, by omega, by go_num, KEY.out, v4.far e48 _ _ _, v6.far e68 _ _ _, vB.setCell (p := ⟨bo, 4 * m + j, none⟩) ew8 _⟩, rfl⟩ | apply Exists.intro))
                · obtain rfl : j = 4 := by omega
                  go_wp2_with (fail)
                  exact ⟨⟨m + 1, by omega, by go_num, by rw [show 4 * (m + 1) = 4 * m + 4 from by omega]; exact v8, v4, v6, vB⟩, by simp [intOf]; omega⟩
            · obtain rfl : m = 8 := by omega
              have hl := bytesI_length Y (4 * 8)
              have hZ : ints .u8 (bytesI Y (4 * 8)) = (cellsB (sha s)).toArray := by
                rw [show 4 * 8 = 32 from rfl, HS32.out]; simp [ints, cellsB, Function.comp_def]
              obtain ⟨Z, hZ2⟩ : ∃ Z, bytesI Y (4 * 8) = Z := ⟨_, rfl⟩
              rw [hZ2] at v8 hl hZ
              have szZ : (Tryd.prog.info? 30).map (·.size) = some (ints .u8 Z).size := by rw [ints_size, hl]; kernel_rfl
              have sxZ : (ints .u8 (List.replicate 32 0)).size = (ints .u8 Z).size := by rw [ints_size, ints_size, hl]; rfl
              have HZ2 := Lib.hid hZ
              have nb : bo ≠ w.heap.size + 1 := Ne.symm e48
              clear hZ hZ2 hl v6
              go_wp2_with (first
                | (refine wpList_load_row rfl 30 (.tmp 8) rfl bo rfl 30 (ints .u8 Z) (0, 0) (.array 32 5) v8 (by kernel_rfl) rfl szZ ?_)
                | (refine wpList_store_row rfl 30 (.tmp 4) (.tmp 69) rfl (w.heap.size + 1) (ints .u8 Z) rfl rfl 30 _ v4 szZ sxZ (ints_one _ _) ?_))
              exact bodyPost_ret (v := .agg (ints .u8 Z)) (results_cell_row (p := 4) (ty := 30) rfl _ _ (w.heap.size + 1) 30 (ints .u8 Z) (0, 0) (.array 32 5) rfl v4.setRow (by kernel_rfl) rfl szZ) rfl ⟨by rw [HZ2.out], below_setRow vB (by omega) _⟩
end Go.Proofs.YtcocengpekndjaaDoor
