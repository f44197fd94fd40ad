/- The walk over Sum. The walks over leaf, join, half. The walk over top. -/
import Derived.Test.YtcocengpekndjaaDoorPrComp
import Derived.Test.YtcocengpekndjaaDoorPrTreeL
import Derived.Deep.RegionHeld3
namespace Go.Proofs.YtcocengpekndjaaDoor
section
open Go.RowKit
theorem hashM_one (x : List Int) (s : Bs) (h : s.length = 64) : hashM x s = compM x s := by
  rw [hashM_more (by omega), List.take_of_length_le (by omega), hashM_done (by rw [List.length_drop]; omega)]
/-- The state after one more chunk. -/
theorem hashM_step (x : List Int) (s : Bs) (k : Nat) (h : 64 * (k + 1) ≤ s.length) : hashM x (s.take (64 * (k + 1))) = compM (hashM x (s.take (64 * k))) ((s.drop (64 * k)).take 64) := by
  rw [show 64 * (k + 1) = 64 * k + 64 from by omega, List.take_add, hashM_append k _ _ _ (by rw [List.length_take]; omega), hashM_one _ _ (by rw [List.length_take, List.length_drop]; omega)]
/-- What is behind the whole chunks, with what is added. -/
def tailM (s : Bs) (j : Nat) : Bs := s.drop (s.length / 64 * 64) ++ (128 :: List.replicate j 0)
theorem tailM_length (s : Bs) (j : Nat) : (tailM s j).length = s.length % 64 + 1 + j := by
  simp only [tailM, List.length_append, List.length_drop, List.length_cons, List.length_replicate]; omega
theorem tailM_succ (s : Bs) (j : Nat) : tailM s (j + 1) = tailM s j ++ [0] := by
  simp only [tailM, List.replicate_succ', List.append_assoc, List.cons_append]
theorem padM_split (s : Bs) : padM s = s.take (64 * (s.length / 64)) ++ (tailM s ((119 - s.length % 64) % 64) ++ eightM (8 * s.length)) := by
  unfold padM tailM
  rw [← List.append_assoc, ← List.append_assoc, show 64 * (s.length / 64) = s.length / 64 * 64 from by omega, List.take_append_drop, List.append_assoc, List.cons_append]
/-- The first m bytes of words, in a row of 32. -/
def bytesI (L : List Int) : Nat → List Int
  | 0 => List.replicate 32 0
  | m + 1 => (bytesI L m).set m (L.getD (m / 4) 0 / 2 ^ (24 - 8 * (m % 4)) % 256)
theorem bytesI_length (L : List Int) (m : Nat) : (bytesI L m).length = 32 := by
  induction m with
  | zero => rfl
  | succ m ih => rw [bytesI, List.length_set, ih]
theorem bytesI_32 {L : List Int} (h : L.length = 8) : bytesI L 32 = (bytesM L).map fun b => (b.toNat : Int) := by
  match L, h with
  | [a, b, c, d, e, f, g, h'], _ =>
    simp only [bytesM, List.flatMap_cons, List.flatMap_nil, List.map_cons, List.map_nil, byte_of, List.append_nil, List.cons_append, List.nil_append]
    simp [bytesI, List.replicate]
theorem index8 {L : List Int} (h : L.length = 8) (k : Nat) (hk : k < 8) (W : World) : (Instr.index 24 (.agg (ints .u32 L)) (.int .i64 k)).run Tryd.prog W = .ok (.int .u32 (L.getD k 0)) W := by
  match L, h with
  | [a, b, c, d, e, f, g, h'], _ =>
    match k, hk with
    | 0, _ => show _ = Result.ok (Value.int .u32 a) W; kernel_rfl
    | 1, _ => show _ = Result.ok (Value.int .u32 b) W; kernel_rfl
    | 2, _ => show _ = Result.ok (Value.int .u32 c) W; kernel_rfl
    | 3, _ => show _ = Result.ok (Value.int .u32 d) W; kernel_rfl
    | 4, _ => show _ = Result.ok (Value.int .u32 e) W; kernel_rfl
    | 5, _ => show _ = Result.ok (Value.int .u32 f) W; kernel_rfl
    | 6, _ => show _ = Result.ok (Value.int .u32 g) W; kernel_rfl
    | 7, _ => show _ = Result.ok (Value.int .u32 h') W; kernel_rfl
theorem BoxA.loadAt {P : Program} {W : World} {b : Nat} {t : TypeId} {k : IntKind} {l : List Int} (h : BoxA W b t k l) (ty : TypeId) (n : Nat) (e : TypeId) (hu : P.underlying ty = some (.array n e)) (hi : (P.info? ty).map (·.size) = some l.length) :
    (Instr.loadAt ty (.pointer (some ⟨b, 0, none⟩))).run P W = .ok (.agg (ints k l)) W := by
  refine run_loadAt_list W ⟨b, 0, none⟩ ty (l.map (Value.int k)) n e (fun j v hj => ?_) hu (by simpa using hi)
  rw [Addr.add_mid, Nat.zero_add]
  have hj' : j < l.length := by have := (List.getElem?_eq_some_iff.1 hj).1; simpa using this
  rw [h.cell hj']
  rw [List.getElem?_map, List.getElem?_eq_getElem hj'] at hj
  exact hj
/-- Strings as values. -/
theorem s_add {P : Program} (a b : Bs) (W : World) (h : a.length + b.length ≤ 1000000) : (Op.stringOp .add ⟨a.toArray⟩ ⟨b.toArray⟩).run P W = .ok (.string ⟨(a ++ b).toArray⟩) W := by
  rw [run_string_add_sum _ _ _ (by rw [bs_size, bs_size]; omega)]
  congr 2
theorem s_cut {P : Program} (t : TypeId) (ht : P.underlying t = some .string) (s : Bs) (W : World) (k k' : IntKind) (i j : Int) (i' j' : Nat) (hi : i = i') (hj : j = j') (h : i' ≤ j') (h2 : j' ≤ s.length) :
    (Instr.slice t (.string ⟨s.toArray⟩) (some (.int k i)) (some (.int k' j)) none).run P W = .ok (.string ⟨((s.drop i').take (j' - i')).toArray⟩) W := by
  subst hi hj
  rw [run_slice_string_if W t _ k k' _ _ ht, if_pos ⟨by omega, by rw [bs_size]; omega⟩, if_pos ⟨by omega, by omega⟩, ByteArray.extract_mk]
  simp
theorem s_from {P : Program} (t : TypeId) (ht : P.underlying t = some .string) (s : Bs) (W : World) (k : IntKind) (i : Int) (i' : Nat) (hi : i = i') (h : i' ≤ s.length) :
    (Instr.slice t (.string ⟨s.toArray⟩) (some (.int k i)) none none).run P W = .ok (.string ⟨(s.drop i').toArray⟩) W := by
  subst hi
  rw [run_slice_string_from_if W t _ k _ ht, if_pos ⟨by omega, by rw [bs_size]; omega⟩, ByteArray.extract_mk, bs_size]
  rw [List.take_of_length_le (by rw [List.length_drop]; omega)]; simp
set_option maxRecDepth 100000 in
set_option maxHeartbeats 2000000 in
theorem sum_any (s : Bs) (w : World) (hs : s.length ≤ 100000) (hk : Kon w) : Calls Tryd.prog 19 #[.string ⟨s.toArray⟩] w fun e w' => e = .returned (hashV (sha s)) ∧ Below w.heap.size w w' := by
  obtain ⟨N, hN⟩ : ∃ N, N = s.length / 64 := ⟨_, rfl⟩
  have e4 : ((s.length : Nat) : Int) / 64 * 64 = 64 * (N : Int) := by omega
  have sz : (Tryd.prog.info? 24).map (·.size) = some 8 := by kernel_rfl
  have hN1 : 64 * N ≤ s.length := by omega
  have HN := Lib.hid hN
  have HE := Lib.hid e4
  have HSZ := Lib.hid sz
  clear hN e4 sz
  go_enter Tryd.func19, Tryd.ntmps19
  go_wp2_with (fail)
  rw [HE.out]
  generalize hW0 : (World.alloc (w.alloc _) _) = w0
  have B0 : Below w.heap.size w w0 := hW0 ▸ Below.on (Below.new1 _ _) (Below.new1 _ _)
  have x2 : BoxA w0 w.heap.size 30 .u8 (List.replicate 32 0) := hW0 ▸ (BoxA.new w _ _ _ _ rfl).next (Below.new1 _ _)
  have x3 : BoxA w0 (w.heap.size + 1) 24 .u32 hM := by
    have := BoxA.new (w.alloc (.cells (ints .u8 (List.replicate 32 0)) 30)) 24 .u32 hM _ rfl
    rw [World.size_alloc] at this; exact hW0 ▸ this
  clear hW0
  go_loopw [5] (fun i W => ∃ k : Nat, k ≤ N ∧ i = .int .i64 (64 * (k : Int)) ∧ BoxA W (w.heap.size + 1) 24 .u32 (hashM hM (s.take (64 * k))) ∧ BoxA W w.heap.size 30 .u8 (List.replicate 32 0) ∧ Below w.heap.size w W) (fun i _ => 64 * N - (intOf i).toNat)
  case atStart => exact ⟨0, by omega, rfl, by rw [List.take_zero, hashM_done (by simp)]; exact x3, x2, B0⟩
  case round =>
    clear x2 x3 B0
    obtain ⟨k, hkN, rfl, v3, v2, Bv⟩ := hrel
    have hst : St (hashM hM (s.take (64 * k))) := hashM_st _ _ (Nat.le_refl _) hM_st
    by_cases hlt : k < N
    · have k1 : (k : Int) < N := by omega
      have k0 : 0 ≤ (k : Int) := by omega
      have stp := hashM_step hM s k (by omega)
      have hc : ((s.drop (64 * k)).take 64).length = 64 := by rw [List.length_take, List.length_drop]; omega
      have cut := fun W => s_cut (P := Tryd.prog) 9 (by kernel_rfl) s W .i64 .i64 (64 * (k : Int)) (64 * (k : Int) + 64) (64 * k) (64 * k + 64) (by omega) (by omega) (by omega) (by omega)
      have e64 : 64 * k + 64 - 64 * k = 64 := by omega
      rw [e64] at cut
      generalize hashM hM (s.take (64 * k)) = X at *
      generalize (s.drop (64 * k)).take 64 = C at *
      have STP := Lib.hid stp
      have HC := Lib.hid hc
      have m0 : IntKind.i64.wrap (64 * (k : Int) + 64) = 64 * k + 64 := IntWalk.i64_in _ (by omega)
      obtain ⟨xa, xb, xc, xd, xe, xf, xg, xh, rfl, _⟩ := list8 hst
      have HST := Lib.hid hst
      have c0 := v3.cell (i := 0) (by simp)
      have c1 := v3.cell (i := 1) (by simp)
      have c2 := v3.cell (i := 2) (by simp)
      have c3 := v3.cell (i := 3) (by simp)
      have c4 := v3.cell (i := 4) (by simp)
      have c5 := v3.cell (i := 5) (by simp)
      have c6 := v3.cell (i := 6) (by simp)
      have c7 := v3.cell (i := 7) (by simp)
      simp only [List.getElem_cons_zero, List.getElem_cons_succ] at c0 c1 c2 c3 c4 c5 c6 c7
      clear stp hc hst e64
      go_upto_region 6 with (fail)
      go_still_tail 6, (by kernel_rfl)
      clear c0 c1 c2 c3 c4 c5 c6 c7 cut m0
      have Dd : Below wr.heap.size wr wr.drew := Below.drawn wr 1 _
      replace v3 := v3.next Dd
      replace v2 := v2.next Dd
      replace Bv := Below.on Bv Dd
      have hk' := hk.next Bv
      change wpList _ _ _ _ _ wr.drew
      generalize wr.drew = wd at *
      clear Dd
      go_wp2_with (first
        | (go_at_call 57; refine (compress_any _ C _ HST.out HC.out hk').mono ?_; rintro e w1 ⟨rfl, b1⟩)
        | (refine wpList_store_row rfl 24 (.tmp 3) (.tmp 28) rfl (w.heap.size + 1) (ints .u32 (compM _ C)) rfl rfl 24 _ (v3.next b1) (by rw [ints_size, (compM_st HST.out C).1]; exact HSZ.out) (by rw [ints_size, ints_size, (compM_st HST.out C).1]; rfl) (ints_one _ _) ?_))
      have y3 := (v3.next b1).setRow (l' := compM [xa, xb, xc, xd, xe, xf, xg, xh] C)
      have y2 := (v2.next b1).farRow (b' := w.heap.size + 1) (by omega) (ints .u32 (compM [xa, xb, xc, xd, xe, xf, xg, xh] C))
      have yB := below_setRow (Below.on Bv b1) (show w.heap.size ≤ w.heap.size + 1 by omega) (ints .u32 (compM [xa, xb, xc, xd, xe, xf, xg, xh] C))
      rw [← STP.out] at y3 y2 yB ⊢
      exact ⟨⟨k + 1, by omega, by rw [show (64 * (k : Int) + 64) = 64 * ((k + 1 : Nat) : Int) from by omega], y3, y2, yB⟩, by simp [intOf]; omega⟩
    · obtain rfl : k = N := by omega
      clear hkN hlt
      obtain ⟨z, hz⟩ : ∃ z, z = (119 - s.length % 64) % 64 := ⟨_, rfl⟩
      obtain ⟨X0, hX0⟩ : ∃ X0, hashM hM (s.take (64 * k)) = X0 := ⟨_, rfl⟩
      rw [hX0] at v3 hst
      have hpad : hashM hM (padM s) = hashM X0 (tailM s z ++ eightM (8 * s.length)) := by
        rw [padM_split, ← HN.out, ← hz, hashM_append k _ _ _ (by rw [List.length_take]; omega), hX0]
      have fr := fun W => s_from (P := Tryd.prog) 9 (by kernel_rfl) s W .i64 (64 * (k : Int)) (64 * k) (by omega) (by omega)
      have a0 := fun W => s_add (P := Tryd.prog) (s.drop (64 * k)) [128] W (by rw [List.length_drop]; simp; omega)
      rw [show s.drop (64 * k) ++ [128] = tailM s 0 from by rw [tailM, ← HN.out, Nat.mul_comm k 64]; rfl] at a0
      have HX0 := Lib.hid hX0
      have HPAD := Lib.hid hpad
      have HZ := Lib.hid hz
      have HST := Lib.hid hst
      clear hX0 hpad hz hst
      go_wp2_with (fail)
      clear fr a0
      go_loopw [6] (fun i W => ∃ j : Nat, j ≤ z ∧ i = .string ⟨(tailM s j).toArray⟩ ∧ BoxA W (w.heap.size + 1) 24 .u32 X0 ∧ BoxA W w.heap.size 30 .u8 (List.replicate 32 0) ∧ Below w.heap.size w W) (fun i _ => 200 - (match i with | .string b => b.size | _ => 0))
      case atStart => exact ⟨0, Nat.zero_le _, rfl, v3, v2, Bv⟩
      case round =>
        clear v3 v2 Bv
        obtain ⟨j, hjz, rfl, v3, v2, Bv⟩ := hrel
        have hT := tailM_length s j
        have hz := HZ.out
        by_cases hlt : j < z
        · have a1 := fun W => s_add (P := Tryd.prog) (tailM s j) [0] W (by rw [hT]; simp; omega)
          rw [← tailM_succ] at a1
          have hT1 := tailM_length s (j + 1)
          have t56 : ((((tailM s j).length : Nat) : Int) % 64 == 56) = false := by simp; omega
          have n56 : ((((tailM s j).length : Nat) : Int) % 64 != 56) = true := by simp; omega
          generalize hU : tailM s j = U at *
          generalize hU1 : tailM s (j + 1) = U1 at *
          have HU := Lib.hid hU
          have HU1 := Lib.hid hU1
          have HT := Lib.hid hT
          have HT1 := Lib.hid hT1
          clear hU hU1 hT hT1 hz
          go_wp2_with (fail)
          refine ⟨⟨j + 1, by omega, by rw [HU1.out], v3, v2, Bv⟩, ?_⟩
          have e1 := HT.out
          have e2 := HT1.out
          have e3 := HZ.out
          show 200 - ByteArray.size ⟨U1.toArray⟩ < 200 - ByteArray.size ⟨U.toArray⟩
          rw [bs_size, bs_size]
          omega
        · obtain rfl : j = z := by omega
          have t56 : ((((tailM s j).length : Nat) : Int) % 64 == 56) = true := by simp; omega
          have n56 : ((((tailM s j).length : Nat) : Int) % 64 != 56) = false := by simp; omega
          have a1 := fun W => s_add (P := Tryd.prog) (tailM s j) (eightM (8 * s.length)) W (by rw [hT, eightM_length]; omega)
          have hL : (tailM s j ++ eightM (8 * s.length)).length % 64 = 0 := by rw [List.length_append, hT, eightM_length]; omega
          have hL2 : (tailM s j ++ eightM (8 * s.length)).length ≤ 200 := by rw [List.length_append, hT, eightM_length]; omega
          have hpad := HPAD.out
          clear HPAD
          generalize hV : tailM s j ++ eightM (8 * s.length) = V at *
          obtain ⟨M, hMv⟩ : ∃ M, V.length = 64 * M := ⟨V.length / 64, by omega⟩
          have HPAD := Lib.hid hpad
          have HM := Lib.hid hMv
          clear hV hL hpad hT hz hMv hlt hjz
          have kon := hk.next Bv
          go_wp2_with (first | (go_at_call 58; refine (number_any _ _ (by omega) (by omega)).mono ?_; rintro e w1 ⟨rfl, b1⟩; clear t56 n56; replace v3 := v3.next b1; replace v2 := v2.next b1; replace Bv := Below.on Bv b1))
          clear a1
          go_loopw [7] (fun i W => ∃ m : Nat, m ≤ M ∧ i = .int .i64 (64 * (m : Int)) ∧ BoxA W (w.heap.size + 1) 24 .u32 (hashM X0 (V.take (64 * m))) ∧ BoxA W w.heap.size 30 .u8 (List.replicate 32 0) ∧ Below w.heap.size w W) (fun i _ => 64 * M - (intOf i).toNat)
          case atStart => exact ⟨0, by omega, rfl, by rw [List.take_zero, hashM_done (by simp)]; exact v3, v2, Bv⟩
          case round =>
            clear v3 v2 Bv
            obtain ⟨m, hmM, rfl, v3, v2, Bv⟩ := hrel
            have hst : St (hashM X0 (V.take (64 * m))) := hashM_st _ _ (Nat.le_refl _) HST.out
            have hMv := HM.out
            by_cases hlt : m < M
            · have m1 : 64 * (m : Int) < V.length := by omega
              have m0 : 0 ≤ (m : Int) := by omega
              have stp := hashM_step X0 V m (by omega)
              have hc : ((V.drop (64 * m)).take 64).length = 64 := by rw [List.length_take, List.length_drop]; omega
              have cut := fun W => s_cut (P := Tryd.prog) 9 (by kernel_rfl) V W .i64 .i64 (64 * (m : Int)) (64 * (m : Int) + 64) (64 * m) (64 * m + 64) (by omega) (by omega) (by omega) (by omega)
              have e64 : 64 * m + 64 - 64 * m = 64 := by omega
              rw [e64] at cut
              generalize hashM X0 (V.take (64 * m)) = X at *
              generalize (V.drop (64 * m)).take 64 = C at *
              have STP := Lib.hid stp
              have HC := Lib.hid hc
              have w0 : IntKind.i64.wrap (64 * (m : Int) + 64) = 64 * m + 64 := IntWalk.i64_in _ (by omega)
              obtain ⟨xa, xb, xc, xd, xe, xf, xg, xh, rfl, _⟩ := list8 hst
              have HST2 := Lib.hid hst
              have c0 := v3.cell (i := 0) (by simp)
              have c1 := v3.cell (i := 1) (by simp)
              have c2 := v3.cell (i := 2) (by simp)
              have c3 := v3.cell (i := 3) (by simp)
              have c4 := v3.cell (i := 4) (by simp)
              have c5 := v3.cell (i := 5) (by simp)
              have c6 := v3.cell (i := 6) (by simp)
              have c7 := v3.cell (i := 7) (by simp)
              simp only [List.getElem_cons_zero, List.getElem_cons_succ] at c0 c1 c2 c3 c4 c5 c6 c7
              clear stp hc hst e64 hMv
              go_upto_region 14 with (fail)
              go_still_tail 6, (by kernel_rfl)
              clear c0 c1 c2 c3 c4 c5 c6 c7 cut w0
              have Dd : Below wr.heap.size wr wr.drew := Below.drawn wr 1 _
              replace v3 := v3.next Dd
              replace v2 := v2.next Dd
              replace Bv := Below.on Bv Dd
              have hk' := hk.next Bv
              change wpList _ _ _ _ _ wr.drew
              generalize wr.drew = wd at *
              clear Dd
              go_wp2_with (first
                | (go_at_call 57; refine (compress_any _ C _ HST2.out HC.out hk').mono ?_; rintro e w1 ⟨rfl, b1⟩)
                | (refine wpList_store_row rfl 24 (.tmp 3) (.tmp 57) rfl (w.heap.size + 1) (ints .u32 (compM _ C)) rfl rfl 24 _ (v3.next b1) (by rw [ints_size, (compM_st HST2.out C).1]; exact HSZ.out) (by rw [ints_size, ints_size, (compM_st HST2.out C).1]; rfl) (ints_one _ _) ?_))
              have y3 := (v3.next b1).setRow (l' := compM [xa, xb, xc, xd, xe, xf, xg, xh] C)
              have y2 := (v2.next b1).farRow (b' := w.heap.size + 1) (by omega) (ints .u32 (compM [xa, xb, xc, xd, xe, xf, xg, xh] C))
              have yB := below_setRow (Below.on Bv b1) (show w.heap.size ≤ w.heap.size + 1 by omega) (ints .u32 (compM [xa, xb, xc, xd, xe, xf, xg, xh] C))
              rw [← STP.out] at y3 y2 yB ⊢
              exact ⟨⟨m + 1, by omega, by rw [show (64 * (m : Int) + 64) = 64 * ((m + 1 : Nat) : Int) from by omega], y3, y2, yB⟩, by simp [intOf]; omega⟩
            · obtain rfl : m = M := by omega
              have m1 : ¬ (64 * (m : Int) < V.length) := by omega
              rw [List.take_of_length_le (by omega), ← HPAD.out] at v3
              rw [List.take_of_length_le (by omega), ← HPAD.out] at hst
              have hsh : sha s = bytesM (hashM hM (padM s)) := rfl
              clear hMv hlt hmM HPAD
              obtain ⟨Y, hY⟩ : ∃ Y, hashM hM (padM s) = Y := ⟨_, rfl⟩
              rw [hY] at v3 hst hsh
              have h32 := bytesI_32 hst.1
              rw [← hsh] at h32
              have HS32 := Lib.hid h32
              have ix := fun k hk W => index8 hst.1 k hk W
              have HIX := Lib.hid ix
              have HY := Lib.hid hst.1
              have szY : (Tryd.prog.info? 24).map (·.size) = some (ints .u32 Y).size := by rw [ints_size, hst.1]; exact HSZ.out
              have SZY := Lib.hid szY
              have sl := v3.lt
              clear hst hsh hY h32 ix szY
              go_wp2_with (refine wpList_load_row rfl 24 (.tmp 3) rfl (w.heap.size + 1) rfl 24 (ints .u32 Y) (0, 0) (.array 8 23) (v3.next (Below.new1 _ _)) (by kernel_rfl) rfl SZY.out ?_)
              obtain ⟨w5, hW5⟩ : ∃ w5, World.alloc wr (.cells (ints .u8 (List.replicate 32 0)) 30) = w5 := ⟨_, rfl⟩
              have v8 : BoxA w5 wr.heap.size 30 .u8 (List.replicate 32 0) := hW5 ▸ BoxA.new wr _ _ _ _ rfl
              have b5 : Below wr.heap.size wr w5 := hW5 ▸ Below.new1 wr _
              replace v2 := v2.next b5
              replace Bv := Below.on Bv b5
              change Code.wp _ _ _ _ (World.alloc wr (.cells (ints .u8 (List.replicate 32 0)) 30))
              rw [hW5]
              clear hW5 b5 v3
              generalize hbo : wr.heap.size = bo at *
              go_loopw [9, 10, 11, 59, 63] (fun _ _ _ i _ W => ∃ m : Nat, m ≤ 8 ∧ i = .int .i64 m ∧ BoxA W bo 30 .u8 (bytesI Y (4 * m)) ∧ BoxA W w.heap.size 30 .u8 (List.replicate 32 0) ∧ Below w.heap.size w W) (fun _ _ _ i _ _ => 8 - (intOf i).toNat)
              case atStart => exact ⟨0, by omega, rfl, v8, v2, Bv⟩
              case round =>
                clear v8 v2 Bv
                obtain ⟨m, hm8, rfl, v8, v2, Bv⟩ := hrel
                by_cases hlt : m < 8
                · have m1' : (m : Int) < 8 := by omega
                  have m0' : 0 ≤ (m : Int) := by omega
                  have ix := HIX.out m hlt
                  obtain ⟨y, hy⟩ : ∃ y, Y.getD m 0 = y := ⟨_, rfl⟩
                  rw [hy] at ix
                  have HYM := Lib.hid hy
                  clear hy
                  go_wp2_with (fail)
                  go_loopw [11, 63] (fun _ i W => ∃ j : Nat, j ≤ 4 ∧ i = .int .i64 j ∧ BoxA W bo 30 .u8 (bytesI Y (4 * m + j)) ∧ BoxA W w.heap.size 30 .u8 (List.replicate 32 0) ∧ Below w.heap.size w W) (fun _ i _ => 4 - (intOf i).toNat)
                  case atStart => exact ⟨0, by omega, rfl, v8, v2, Bv⟩
                  case round =>
                    clear v8 v2 Bv
                    obtain ⟨j, hj4, rfl, v8, v2, Bv⟩ := hrel
                    by_cases hjlt : j < 4
                    · have j1 : (j : Int) < 4 := by omega
                      have j0 : 0 ≤ (j : Int) := by omega
                      have n1 : 4 * (m : Int) + j < 32 := by omega
                      have ff := v8.frozen (4 * m + j)
                      have cc := v8.cell (i := 4 * m + j) (by rw [bytesI_length]; omega)
                      have key := v8.set (4 * m + j) (y / 2 ^ (24 - 8 * j) % 256)
                      have ek : (bytesI Y (4 * m + j)).set (4 * m + j) (y / 2 ^ (24 - 8 * j) % 256) = bytesI Y (4 * m + (j + 1)) := by
                        rw [← Nat.add_assoc, bytesI, show (4 * m + j) / 4 = m from by omega, show (4 * m + j) % 4 = j from by omega, HYM.out]
                      rw [ek] at key
                      have KEY := Lib.hid key
                      clear ek key
                      go_wp2_with (fail)
                      exact ⟨⟨j + 1, by omega, by go_num, KEY.out, v2.far (by omega) _ _ _, Bv.setCell (p := ⟨bo, 4 * m + j, none⟩) (show w.heap.size ≤ bo by omega) _⟩, by simp [intOf]; omega⟩
                    · obtain rfl : j = 4 := by omega
                      go_wp2_with (fail)
                      exact ⟨⟨m + 1, by omega, by go_num, by rw [show 4 * (m + 1) = 4 * m + 4 from by omega]; exact v8, v2, Bv⟩, by simp [intOf]; omega⟩
                · obtain rfl : m = 8 := by omega
                  have hl := bytesI_length Y (4 * 8)
                  have hZ : ints .u8 (bytesI Y (4 * 8)) = (cellsB (sha s)).toArray := by
                    rw [show 4 * 8 = 32 from rfl, HS32.out]; simp [ints, cellsB, Function.comp_def]
                  obtain ⟨Z, hZ2⟩ : ∃ Z, bytesI Y (4 * 8) = Z := ⟨_, rfl⟩
                  rw [hZ2] at v8 hl hZ
                  have szZ : (Tryd.prog.info? 30).map (·.size) = some (ints .u8 Z).size := by rw [ints_size, hl]; kernel_rfl
                  have sxZ : (ints .u8 (List.replicate 32 0)).size = (ints .u8 Z).size := by rw [ints_size, ints_size, hl]; rfl
                  have HZ2 := Lib.hid hZ
                  have nb : bo ≠ w.heap.size := by omega
                  clear hZ hZ2 hl
                  go_wp2_with (first
                    | (refine wpList_load_row rfl 30 (.tmp 8) rfl bo rfl 30 (ints .u8 Z) (0, 0) (.array 32 5) v8 (by kernel_rfl) rfl szZ ?_)
                    | (refine wpList_store_row rfl 30 (.tmp 2) (.tmp 79) rfl w.heap.size (ints .u8 Z) rfl rfl 30 _ v2 szZ sxZ (ints_one _ _) ?_))
                  exact bodyPost_ret (v := .agg (ints .u8 Z)) (results_cell_row (p := 2) (ty := 30) rfl _ _ w.heap.size 30 (ints .u8 Z) (0, 0) (.array 32 5) rfl v2.setRow (by kernel_rfl) rfl szZ) rfl ⟨by rw [HZ2.out], below_setRow Bv (by omega) _⟩
end
section
open Go.RowKit
/-- The bytes of a hash, as numbers. -/
def nums (h : Bs) : List Int := h.map fun b => (b.toNat : Int)
theorem nums_length (h : Bs) : (nums h).length = h.length := by simp [nums]
theorem ints_nums (h : Bs) : ints .u8 (nums h) = (cellsB h).toArray := by simp [ints, nums, cellsB, Function.comp_def]
theorem hashV_eq (h : Bs) : hashV h = .agg (ints .u8 (nums h)) := by rw [ints_nums]
/-- Block b is a variable that holds a hash. -/
abbrev BoxH (W : World) (b : Nat) (h : Bs) : Prop := BoxA W b 30 .u8 (nums h)
theorem BoxH.cellB {W : World} {b : Nat} {h : Bs} (H : BoxH W b h) (j : Nat) (hj : j < h.length) : W.cell? ⟨b, j, none⟩ = some (.int .u8 (h[j].toNat : Int)) := by
  have := H.cell (i := j) (by rw [nums_length]; exact hj)
  rw [this]; simp [nums]
theorem BoxH.text {W : World} {b : Nat} {h : Bs} (H : BoxH W b h) (hl : h.length = 32) (c : Nat) : (convert 67 9 (.slice (some ⟨b, 0, none⟩) 32 c)).run Tryd.prog W = .ok (.string ⟨h.toArray⟩) W :=
  bytes_back h W b c _ _ 5 (by kernel_rfl) (by kernel_rfl) (by kernel_rfl) (fun j hj => H.cellB j hj) 32 hl.symm
section
variable {ops : Array Oper} {rest : List Oper} {o : Oper} {a : Act} {w : World} {Q : Exit → Act → World → Prop}
theorem szHash : (Tryd.prog.info? 30).map (·.size) = some 32 := by kernel_rfl
theorem wpList_storeH (hgd : o.guard = none) (x y : Operand) (ho : o.op = .store 30 x y) (g : Nat) (h : Bs) (hx : a.eval x = .pointer (some ⟨g, 0, none⟩)) (hy : a.eval y = hashV h)
    {l : List Int} (hg : BoxA w g 30 .u8 l) (hl : l.length = 32) (hh : h.length = 32) (K : wpList Tryd.prog ops Q rest (a.put o.dst undef) (w.setRow g (ints .u8 (nums h)))) : wpList Tryd.prog ops Q (o :: rest) a w :=
  wpList_store_row hgd 30 x y ho g (ints .u8 (nums h)) hx (by rw [hy, hashV_eq]) 30 _ hg (by rw [ints_size, nums_length, hh]; exact szHash) (by rw [ints_size, ints_size, nums_length, hl, hh]) (ints_one _ _) K
theorem wpList_loadH (hgd : o.guard = none) (x : Operand) (ho : o.op = .load 30 x) (g : Nat) (h : Bs) (hx : a.eval x = .pointer (some ⟨g, 0, none⟩)) (hg : BoxH w g h) (hh : h.length = 32)
    (K : wpList Tryd.prog ops Q rest (a.put o.dst (hashV h)) w) : wpList Tryd.prog ops Q (o :: rest) a w :=
  wpList_load_row hgd 30 x ho g hx 30 (ints .u8 (nums h)) (0, 0) (.array 32 5) hg (by kernel_rfl) rfl (by rw [ints_size, nums_length, hh]; exact szHash) (by rw [← hashV_eq]; exact K)
theorem wpList_load_at {P : Program} (hgd : o.guard = none) (ty : TypeId) (x : Operand) (ho : o.op = .load ty x) (v : Value) (hr : (Instr.loadAt ty (a.eval x)).run P w = .ok v w)
    (K : wpList P ops Q rest (a.put o.dst v) w) : wpList P ops Q (o :: rest) a w := by
  refine wpList_plain hgd fun _ hK => ?_
  unfold Oper.wp
  simp [execOp, ho, hr, Result.andThen]
  exact hK _ _ K
theorem results_hash {fn : Func} {p : Tmp} (hf : fn.results = #[.cell p 30]) (tmps : Array Value) (g : Nat) (h : Bs) (hp : tmps.getD p undef = .pointer (some ⟨g, 0, none⟩)) (hg : BoxH w g h) (hh : h.length = 32) :
    (results fn tmps).run Tryd.prog w = .ok (hashV h) w := by
  rw [hashV_eq]
  exact results_cell_row hf tmps w g 30 (ints .u8 (nums h)) (0, 0) (.array 32 5) hp hg (by kernel_rfl) rfl (by rw [ints_size, nums_length, hh]; exact szHash)
end
theorem BoxH.new (w : World) (h : Bs) : BoxH (w.alloc (.cells (cellsB h).toArray 30)) w.heap.size h := BoxA.new w _ _ _ _ (ints_nums h).symm
abbrev zero32 : Value := .agg (ints .u8 (List.replicate 32 0))
set_option maxRecDepth 100000 in
set_option maxHeartbeats 1000000 in
theorem hleaf_any (s : Bs) (w : World) (hs : s.length ≤ 99999) (hk : Kon w) : Calls Tryd.prog 76 #[.string ⟨s.toArray⟩] w fun e w' => e = .returned (hashV (leafM sha s)) ∧ Below w.heap.size w w' := by
  have a0 := fun W => s_add (P := Tryd.prog) [0] s W (by simp; omega)
  have hl : (leafM sha s).length = 32 := sha_length _
  have hsum := fun (W : World) (hk : Kon W) => sum_any (0 :: s) W (by simp; omega) hk
  have szH : (Tryd.prog.info? 30).map (·.size) = some 32 := by kernel_rfl
  have HS := Lib.hid hsum
  have HL := Lib.hid hl
  have SZ := Lib.hid szH
  clear hsum hl szH
  go_enter Tryd.func76, Tryd.ntmps76
  go_wp2_with (first
    | (go_at_call 19; refine (HS.out _ (hk.next (Below.new1 _ _))).mono ?_; rintro e w1 ⟨rfl, b1⟩; clear a0)
    | (refine wpList_storeH rfl (.tmp 2) (.tmp 5) rfl w.heap.size (leafM sha s) rfl rfl ((BoxA.new w _ _ (List.replicate 32 0) _ rfl).next b1) rfl HL.out ?_))
  exact bodyPost_ret (v := hashV (leafM sha s)) (results_hash rfl _ w.heap.size _ rfl (((BoxA.new w _ _ (List.replicate 32 0) _ rfl).next b1).setRow) HL.out) rfl ⟨rfl, below_setRow (Below.on (Below.new1 w _) b1) (Nat.le_refl _) _⟩
set_option maxRecDepth 100000 in
set_option maxHeartbeats 1000000 in
theorem hjoin_any (a b : Bs) (w : World) (ha : a.length = 32) (hb : b.length = 32) (hk : Kon w) : Calls Tryd.prog 94 #[hashV a, hashV b] w fun e w' => e = .returned (hashV (joinM sha a b)) ∧ Below w.heap.size w w' := by
  have hl : (joinM sha a b).length = 32 := sha_length _
  have hsum := fun (W : World) (hk : Kon W) => sum_any (1 :: (a ++ b)) W (by simp; omega) hk
  have szH : (Tryd.prog.info? 30).map (·.size) = some 32 := by kernel_rfl
  have a0 := fun W => s_add (P := Tryd.prog) [1] a W (by simp; omega)
  have a1 := fun W => s_add (P := Tryd.prog) (1 :: a) b W (by simp; omega)
  have HS := Lib.hid hsum
  have HL := Lib.hid hl
  have SZ := Lib.hid szH
  have HA := Lib.hid ha
  have HB := Lib.hid hb
  clear hsum hl szH ha hb
  go_enter Tryd.func94, Tryd.ntmps94
  go_upto_region 1 with (fail)
  generalize hW0 : (World.alloc (World.alloc (w.alloc _) _) _) = w0
  have B0 : Below w.heap.size w w0 := hW0 ▸ Below.on (Below.on (Below.new1 _ _) (Below.new1 _ _)) (Below.new1 _ _)
  have x2 : BoxH w0 w.heap.size a := hW0 ▸ ((BoxH.new w a).next (Below.new1 _ _)).next (Below.new1 _ _)
  have x3 : BoxH w0 (w.heap.size + 1) b := by
    have := (BoxH.new (w.alloc (.cells (cellsB a).toArray 30)) b).next (Below.new1 _ (.cells (ints .u8 (List.replicate 32 0)) 30))
    rw [World.size_alloc] at this; exact hW0 ▸ this
  have x4 : BoxA w0 (w.heap.size + 1 + 1) 30 .u8 (List.replicate 32 0) := by
    have := BoxA.new ((w.alloc (.cells (cellsB a).toArray 30)).alloc (.cells (cellsB b).toArray 30)) 30 .u8 (List.replicate 32 0) _ rfl
    rw [World.size_alloc, World.size_alloc] at this; exact hW0 ▸ this
  clear hW0
  have D0 : Below w0.heap.size w0 w0.drew := Below.drawn w0 1 _
  have cva := BoxH.text (h := a) (x2.next D0) HA.out 32
  have cvb := BoxH.text (h := b) (x3.next D0) HB.out 32
  go_still_tail 6, (by kernel_rfl)
  clear cva cvb a0 a1 x2 x3
  replace x4 := x4.next D0
  replace B0 := Below.on B0 D0
  change wpList _ _ _ _ _ w0.drew
  generalize w0.drew = wd at *
  have kon := hk.next B0
  go_wp2_with (first
    | (go_at_call 19; refine (HS.out _ kon).mono ?_; rintro e w1 ⟨rfl, b1⟩)
    | (refine wpList_storeH rfl (.tmp 4) (.tmp 11) rfl (w.heap.size + 1 + 1) (joinM sha a b) rfl rfl (x4.next b1) rfl HL.out ?_))
  exact bodyPost_ret (v := hashV (joinM sha a b)) (results_hash rfl _ (w.heap.size + 1 + 1) _ rfl ((x4.next b1).setRow) HL.out) rfl ⟨rfl, below_setRow (Below.on B0 b1) (by omega) _⟩
set_option maxRecDepth 100000 in
set_option maxHeartbeats 1000000 in
theorem half_any (n : Nat) (w : World) (h2 : 2 ≤ n) (h3 : n ≤ 1000000) : Calls Tryd.prog 93 #[.int .i64 n] w fun e w' => e = .returned (.int .i64 (half n : Nat)) ∧ w = w' := by
  obtain ⟨H, hH⟩ : ∃ H, half n = H := ⟨_, rfl⟩
  rw [hH]
  have HH := Lib.hid hH
  clear hH
  go_enter Tryd.func93, Tryd.ntmps93
  go_wp2_with (fail)
  go_loop [3] (fun i => ∃ k : Nat, 0 < k ∧ k < n ∧ halfL k n = H ∧ i = .int .i64 k) (fun i => n - (intOf i).toNat)
  case atStart => exact ⟨1, by omega, by omega, HH.out, rfl⟩
  case round =>
    obtain ⟨k, hk0, hkn, hk, rfl⟩ := hrel
    have HK := Lib.hid hk
    clear hk
    by_cases hlt : 2 * k < n
    · go_wp2_with (fail)
      exact ⟨⟨2 * k, by omega, by omega, by rw [← halfL_step hk0 hlt]; exact HK.out, by rw [show ((2 * k : Nat) : Int) = (k : Int) * 2 from by omega]⟩, by simp [intOf]; omega⟩
    · obtain rfl : k = H := by rw [← HK.out, halfL_stop hlt]
      go_wp2_with (fail)
      go_ret
      exact ⟨rfl, rfl⟩
end
section
open Go.RowKit
/-- Cells stored one after the other. -/
theorem BoxA.cells {b : Nat} {t : TypeId} {k : IntKind} : ∀ (ms : List Int) (o : Nat) {W : World} {l : List Int}, BoxA W b t k l → o + ms.length ≤ l.length → BoxA (W.setCells b o (ms.map (Value.int k))) b t k (l.take o ++ ms ++ l.drop (o + ms.length))
  | [], o, W, l, h, _ => by simpa [World.setCells] using h
  | m :: ms, o, W, l, h, hl => by
    have hl' : o + (ms.length + 1) ≤ l.length := by simpa using hl
    have := BoxA.cells ms (o + 1) (h.set o m) (by rw [List.length_set]; omega)
    simp only [List.map_cons, World.setCells]
    have e : l.take o ++ (m :: ms) ++ l.drop (o + (m :: ms).length) = (l.set o m).take (o + 1) ++ ms ++ (l.set o m).drop (o + 1 + ms.length) := by
      rw [List.take_add_one, List.take_set_of_le (Nat.le_refl _), List.getElem?_set_self (by omega), List.drop_set_of_lt (by omega)]
      simp [Nat.add_assoc, Nat.add_comm 1]
    rw [e]; exact this
theorem BoxA.farCells {b b' : Nat} {t : TypeId} {k : IntKind} {l : List Int} (hne : b ≠ b') : ∀ (vs : List Value) (o : Nat) {W : World}, BoxA W b t k l → BoxA (W.setCells b' o vs) b t k l
  | [], _, _, h => h
  | v :: vs, o, _, h => BoxA.farCells hne vs (o + 1) (h.far hne o none v)
theorem below_cells {B b : Nat} {w : World} (hb : B ≤ b) : ∀ (vs : List Value) (o : Nat) {W : World}, Below B w W → Below B w (W.setCells b o vs)
  | [], _, _, h => h
  | v :: vs, o, _, h => below_cells hb vs (o + 1) (h.setCell (p := ⟨b, o, none⟩) hb v)
theorem BoxH.stored {W : World} {b : Nat} {l : List Int} (h : BoxA W b 30 .u8 l) (hl : l.length = 32) (x : Bs) (hx : x.length = 32) : BoxH (W.setCells b 0 (cellsB x)) b x := by
  have := BoxA.cells (nums x) 0 h (by rw [nums_length]; omega)
  have e : (nums x).map (Value.int .u8) = cellsB x := by simp [nums, cellsB, Function.comp_def]
  rw [e, nums_length, hx, List.drop_eq_nil_of_le (by omega)] at this
  simpa using this
theorem BoxA.there {W : World} {b : Nat} {t : TypeId} {k : IntKind} {l : List Int} (h : BoxA W b t k l) {n : Nat} (hn : n = l.length) : W.there b 0 n := fun j hj => by
  rw [Nat.zero_add]
  exact ⟨by rw [h.cell (i := j) (by omega)]; rfl, h.frozen j⟩
theorem cellsB_size {x : Bs} (hx : x.length = 32) : (Tryd.prog.info? 30).map (·.size) = some (cellsB x).length := by rw [cellsB_length, hx]; exact szHash
theorem Hs.drewN {w : World} {A : Option Addr} {l : List Bs} (h : Hs w A l) (n : Nat) : Hs (w.drewN n) A l := h.next (Below.drawn w n _)
theorem Hs.drew {w : World} {A : Option Addr} {l : List Bs} (h : Hs w A l) : Hs w.drew A l := h.next (Below.drawn w 1 _)
theorem Kon.drewN {w : World} (h : Kon w) (n : Nat) : Kon (w.drewN n) := h.next (Below.drawn w n _)
theorem Kon.drew {w : World} (h : Kon w) : Kon w.drew := h.next (Below.drawn w 1 _)
/-- Where the hashes from number i on lie. -/
def cutA (A : Option Addr) (c i : Nat) : Option Addr := if c = i then A else A.map (·.add (i * 32))
theorem Hs.from_ {w : World} {A : Option Addr} {l : List Bs} (h : Hs w A l) {c : Nat} (hlc : l.length ≤ c) (i : Nat) (hi : i ≤ l.length) : Hs w (cutA A c i) (l.drop i) := by
  have := h.cut hlc i l.length hi (Nat.le_refl _)
  rw [List.take_of_length_le (by rw [List.length_drop]; omega)] at this
  exact this
theorem Hs.to_ {w : World} {A : Option Addr} {l : List Bs} (h : Hs w A l) (k : Nat) : Hs w A (l.take k) := by
  obtain ⟨h0, h | ⟨a, e, h⟩⟩ := h
  · subst h; exact ⟨by simpa using H32.nil, .inl (by simp)⟩
  · refine ⟨h0.take k, .inr ⟨a, e, fun j u hu => h j u ?_⟩⟩
    rw [← cellsH_take h0, List.getElem?_take] at hu
    split at hu
    · exact hu
    · cases hu
theorem elemH : Tryd.prog.underlying 35 = some (.slice (Tryd.prog.elem 35)) := by kernel_rfl
theorem sizeH (W : World) : (sizeOf (Tryd.prog.elem 35)).run Tryd.prog W = .ok 32 W := by kernel_rfl
theorem hs_to (A : Option Addr) (n c k : Nat) (hk : k ≤ c) (W : World) : (Instr.slice 35 (.slice A n c) none (some (.int .i64 k)) none).run Tryd.prog W = .ok (.slice A k c) W := by
  rw [run_slice_h W _ A n c elemH .i64 k (by omega) (by omega), sizeH]
  simp only [Result.andThen, sliced, Int.toNat_natCast, Nat.zero_mul, Nat.sub_zero]
  have : A.map (·.add 0) = A := by cases A <;> simp [Addr.add]
  rw [this]; split <;> rfl
theorem hs_from (A : Option Addr) (n c k : Nat) (hk : k ≤ n) (W : World) : (Instr.slice 35 (.slice A n c) (some (.int .i64 k)) none none).run Tryd.prog W = .ok (.slice (cutA A c k) (n - k) (c - k)) W := by
  rw [run_slice_l W _ A n c elemH .i64 k (by omega) (by omega), sizeH]; rfl
theorem hs_mid (A : Option Addr) (n c : Nat) (i j : Nat) (x y : Int) (hx : x = i) (hy : y = j) (h1 : i ≤ j) (h2 : j ≤ c) (W : World) : (Instr.slice 35 (.slice A n c) (some (.int .i64 x)) (some (.int .i64 y)) none).run Tryd.prog W = .ok (.slice (cutA A c i) (j - i) (c - i)) W := by
  subst hx hy
  rw [run_slice_lh W _ A n c elemH .i64 .i64 i j (by omega) (by omega) (by omega), sizeH]; rfl
set_option maxRecDepth 100000 in
set_option maxHeartbeats 1000000 in
theorem top_nil (A : Option Addr) (c : Nat) (w : World) (hk : Kon w) : Calls Tryd.prog 69 #[.slice A 0 c] w fun e w' => e = .returned (hashV (topM sha [])) ∧ Below w.heap.size w w' := by
  have hl : (sha []).length = 32 := sha_length _
  have hsum := fun (W : World) (hk : Kon W) => sum_any [] W (by decide) hk
  have HS := Lib.hid hsum
  have HL := Lib.hid hl
  rw [topM_nil]
  clear hsum hl
  go_enter Tryd.func69, Tryd.ntmps69
  go_wp2_with (first
    | (go_at_call 19; refine (HS.out _ (hk.next (Below.new1 _ _))).mono ?_; rintro e w1 ⟨rfl, b1⟩)
    | (refine wpList_storeH rfl (.tmp 2) (.tmp 8) rfl w.heap.size (sha []) rfl rfl ((BoxA.new w _ _ (List.replicate 32 0) _ rfl).next b1) rfl HL.out ?_))
  exact bodyPost_ret (v := hashV (sha [])) (results_hash rfl _ w.heap.size _ rfl (((BoxA.new w _ _ (List.replicate 32 0) _ rfl).next b1).setRow) HL.out) rfl ⟨rfl, below_setRow (Below.on (Below.new1 w _) b1) (Nat.le_refl _) _⟩
set_option maxRecDepth 100000 in
set_option maxHeartbeats 1000000 in
theorem top_one (x : Bs) (A : Option Addr) (c : Nat) (w : World) (h : Hs w A [x]) : Calls Tryd.prog 69 #[.slice A 1 c] w fun e w' => e = .returned (hashV (topM sha [x])) ∧ Below w.heap.size w w' := by
  rw [topM_one]
  have hx : x.length = 32 := h.1 x (by simp)
  have HX := Lib.hid hx
  obtain ⟨a, rfl⟩ : ∃ a, A = some a := by
    obtain ⟨_, h | ⟨a, e, _⟩⟩ := h
    · cases h
    · exact ⟨a, e⟩
  have H := Lib.hid h
  clear h hx
  go_enter Tryd.func69, Tryd.ntmps69
  go_wp2_with (first
    | (refine wpList_load_at rfl 30 (.tmp 12) rfl (hashV x) (by exact (H.out.next (Below.new1 w _)).load (i := 0) (by simp) _ 32 5 (by kernel_rfl) szHash) ?_)
    | (refine wpList_storeH rfl (.tmp 2) (.tmp 13) rfl w.heap.size x rfl rfl (BoxA.new w _ _ (List.replicate 32 0) _ rfl) rfl HX.out ?_))
  exact bodyPost_ret (v := hashV x) (results_hash rfl _ w.heap.size _ rfl ((BoxA.new w _ _ (List.replicate 32 0) _ rfl).setRow) HX.out) rfl ⟨rfl, below_setRow (Below.new1 w _) (Nat.le_refl _) _⟩
/-- What top does with lists of at most m hashes. -/
def TopOk (m : Nat) : Prop := ∀ (l : List Bs) (A : Option Addr) (n c : Nat) (w : World), l.length ≤ m → n = l.length → n ≤ 10000 → n ≤ c → Hs w A l → Kon w → Calls Tryd.prog 69 #[.slice A n c] w fun e w' => e = .returned (hashV (topM sha l)) ∧ Below w.heap.size w w'
set_option maxRecDepth 100000 in
set_option maxHeartbeats 2000000 in
theorem top_two (m : Nat) (ih : TopOk m) (l : List Bs) (A : Option Addr) (n c : Nat) (w : World) (hm : l.length ≤ m + 1) (hn : n = l.length) (h2 : 2 ≤ n) (h1 : n ≤ 10000) (hc : n ≤ c) (h : Hs w A l) (hk : Kon w) :
    Calls Tryd.prog 69 #[.slice A n c] w fun e w' => e = .returned (hashV (topM sha l)) ∧ Below w.heap.size w w' := by
  have hr := half_range h2
  have ht := topM_two sha (l := l) (by omega)
  rw [← hn] at ht
  have d1 := hs_to A n c (half n) (by omega)
  have d2 := hs_from A n c (half n) (by omega)
  have p1 := fun W (h : Hs W A l) (hk : Kon W) => ih (l.take (half n)) A (half n) c W (by rw [List.length_take]; omega) (by rw [List.length_take]; omega) (by omega) (by omega) (h.to_ _) hk
  have p2 := fun W (h : Hs W A l) (hk : Kon W) => ih (l.drop (half n)) (cutA A c (half n)) (n - half n) (c - half n) W (by rw [List.length_drop]; omega) (by rw [List.length_drop]; omega) (by omega) (by omega) (h.from_ (by omega) _ (by omega)) hk
  have hf := fun W => half_any n W h2 (by omega)
  generalize cutA A c (half n) = A2 at *
  generalize half n = k at *
  have l1 : (topM sha (l.take k)).length = 32 := topM_length sha sha_length (h.1.take k)
  have l2 : (topM sha (l.drop k)).length = 32 := topM_length sha sha_length (h.1.drop k)
  have l3 : (topM sha l).length = 32 := topM_length sha sha_length h.1
  generalize topM sha (l.take k) = t1 at *
  generalize topM sha (l.drop k) = t2 at *
  generalize topM sha l = t at *
  have hj := fun W (hk : Kon W) => hjoin_any t1 t2 W l1 l2 hk
  rw [← ht] at hj
  have P1 := Lib.hid p1
  have P2 := Lib.hid p2
  have HF := Lib.hid hf
  have HJ := Lib.hid hj
  have L3 := Lib.hid l3
  have HH := Lib.hid h
  have HN := Lib.hid hn
  have ne0 : ((n : Int) == 0) = false := by simp; omega
  have ne1 : ((n : Int) == 1) = false := by simp; omega
  clear ih p1 p2 hf hj l1 l2 l3 h hn ht
  go_enter Tryd.func69, Tryd.ntmps69
  go_wp2_with (go_at_call 93; refine (HF.out _).mono ?_; rintro e w' ⟨rfl, rfl⟩)
  generalize hW0 : World.alloc w _ = w0
  have B0 : Below w.heap.size w w0 := hW0 ▸ Below.new1 _ _
  have x2 : BoxA w0 w.heap.size 30 .u8 (List.replicate 32 0) := hW0 ▸ BoxA.new w _ _ (List.replicate 32 0) _ rfl
  have H0 := Lib.hid (HH.out.next B0)
  have K0 := Lib.hid (hk.next B0)
  clear hW0 hk HH
  go_region_held3 (fun _ => True) (trivial)
    ((first
      | (go_at_call_of 69 (Value.slice A k c); refine (P1.out _ (by exact H0.out.drew) (by exact K0.out.drew)).mono ?_; rintro e w1 ⟨rfl, b1⟩; have H1 := Lib.hid (H0.out.drew.next b1); have K1 := Lib.hid (K0.out.drew.next b1))
      | (go_at_call_of 69 (Value.slice A2 (n - k) (c - k)); refine (P2.out _ (by first | exact H1.out | exact H1.out.drew) (by first | exact K1.out | exact K1.out.drew)).mono ?_; rintro e w2 ⟨rfl, b2⟩; have K2 := Lib.hid (K1.out.next b2))
      | (go_at_call 94; refine (HJ.out _ (by exact K2.out)).mono ?_; rintro e w3 ⟨rfl, b3⟩; have szt := cellsB_size L3.out; have ont := cellsB_one t; have tht := ((((x2.next (Below.drawn w0 1 _)).next b1).next b2).next b3).there (n := (cellsB t).length) (by rw [cellsB_length]; exact L3.out))))
  have D0 : Below w0.heap.size w0 w0.drew := Below.drawn w0 1 _
  have x5 := (((x2.next D0).next b1).next b2).next b3
  have B5 := Below.on (Below.on (Below.on (Below.on B0 D0) b1) b2) b3
  have y5 := BoxH.stored x5 rfl t L3.out
  have y6 := below_cells (show w.heap.size ≤ w.heap.size from Nat.le_refl _) (cellsB t) 0 B5
  generalize World.setCells w3 w.heap.size 0 (cellsB t) = w4 at *
  go_wp2_with (fail)
  exact bodyPost_ret (v := hashV t) (results_hash rfl _ w.heap.size _ rfl y5 L3.out) rfl ⟨rfl, y6⟩
theorem top_le (m : Nat) : TopOk m := by
  induction m with
  | zero =>
    intro l A n c w hm hn _ _ h hk
    obtain rfl : l = [] := List.length_eq_zero_iff.1 (by omega)
    subst hn; exact top_nil A c w hk
  | succ m ih =>
    intro l A n c w hm hn h1 hc h hk
    by_cases h2 : 2 ≤ n
    · exact top_two m ih l A n c w hm hn h2 h1 hc h hk
    · match l, hn with
      | [], hn => subst hn; exact top_nil A c w hk
      | [x], hn => subst hn; exact top_one x A c w h
      | x :: y :: l, hn => simp at hn; omega
theorem top_any (l : List Bs) (A : Option Addr) (n c : Nat) (w : World) (hn : n = l.length) (h1 : n ≤ 10000) (hc : n ≤ c) (h : Hs w A l) (hk : Kon w) :
    Calls Tryd.prog 69 #[.slice A n c] w fun e w' => e = .returned (hashV (topM sha l)) ∧ Below w.heap.size w w' := top_le l.length l A n c w (Nat.le_refl _) hn h1 hc h hk
end
end Go.Proofs.YtcocengpekndjaaDoor
