/- The walk over From of the reference of span. -/
import Derived.Test.YtfmplibjhohpgaaSpAlike
namespace Go.Proofs.Ytfmplibjhohpgaa
open Go.RowKit

def rbad (hi tag : Int) (x : Rn) : Prop := x.lo ≠ hi ∨ x.hi ≤ x.lo ∨ (x.tag < 0 ∨ 16 ≤ x.tag) ∨ x.tag = tag
instance (hi tag : Int) (x : Rn) : Decidable (rbad hi tag x) := by unfold rbad; infer_instance
def rscan : Int → Int → List Rn → Option Int
  | hi, _, [] => some hi
  | hi, tag, x :: l => if rbad hi tag x then none else rscan x.hi x.tag l
theorem rscan_le {hi tag : Int} {L : List Rn} {h : Int} (hs : rscan hi tag L = some h) : hi ≤ h := by
  induction L generalizing hi tag with
  | nil => simp only [rscan, Option.some.injEq] at hs; omega
  | cons x L ih =>
    simp only [rscan] at hs
    split at hs
    · cases hs
    · rename_i hb
      have := ih hs
      unfold rbad at hb; omega
theorem scan_of_rscan {size hi tag : Int} {L : List Rn} {h : Int} (hs : rscan hi tag L = some h) (hz : h ≤ size) : scan size hi tag L = some h := by
  induction L generalizing hi tag with
  | nil => exact hs
  | cons x L ih =>
    simp only [rscan] at hs
    simp only [scan]
    split at hs
    · cases hs
    · rename_i hb
      have h2 := rscan_le hs
      have h3 := ih hs
      unfold rbad at hb
      rw [if_neg (by unfold badRun; omega)]; exact h3
theorem rscan_of_scan {size hi tag : Int} {L : List Rn} {h : Int} (hs : scan size hi tag L = some h) : rscan hi tag L = some h := by
  induction L generalizing hi tag with
  | nil => exact hs
  | cons x L ih =>
    simp only [scan] at hs
    simp only [rscan]
    split at hs
    · cases hs
    · rename_i hb
      unfold badRun at hb
      rw [if_neg (by unfold rbad; omega)]; exact ih hs
theorem fromR_rscan {size : Int} {L : List Rn} (hz : 1 ≤ size ∧ size ≤ 1099511627776) : fromR size L = if rscan 0 (-1) L = some size then (if 4096 < (L.length : Int) then (5, []) else (0, segs L)) else (2, []) := by
  unfold fromR
  by_cases hL : L = []
  · subst hL
    rw [if_pos (.inr rfl), if_neg (by simp only [rscan, Option.some.injEq]; omega)]
  · rw [if_neg (by intro h; rcases h with h | h; exact h hz; exact hL h)]
    by_cases h : rscan 0 (-1) L = some size
    · rw [if_pos h, scan_of_rscan h (Int.le_refl _)]
      dsimp only
      rw [if_pos rfl]
    · rw [if_neg h]
      cases hs : scan size 0 (-1) L with
      | none => rfl
      | some h' =>
        dsimp only
        rw [if_neg]
        rintro rfl
        exact h (rscan_of_scan hs)
/-- The cells of a slice of runs. -/
theorem cells_of_runs {w : World} {a : Addr} {L : List Rn} (h : Runs w (some a) L) : ∀ j u, (cellsR L)[j]? = some u → w.cell? (a.add j) = some u := by
  rcases h with h | ⟨a', ha, _, h⟩
  · subst h; intro j u hj; simp [cellsR] at hj
  · cases ha
    have key : ∀ (L : List Rn) (k : Nat), (∀ i (hi : i < L.length), RunAt w (a.add ((k + i) * 3)) L[i]) → ∀ j u, (cellsR L)[j]? = some u → w.cell? (a.add (k * 3 + j)) = some u := by
      intro L
      induction L with
      | nil => intro k _ j u hj; simp [cellsR] at hj
      | cons x L ih =>
        intro k hk j u hj
        have e : cellsR (x :: L) = [.int .i64 x.lo, .int .i64 x.hi, .int .i64 x.tag] ++ cellsR L := by simp [cellsR]
        have ea : ∀ m, m ≠ 0 → (⟨(a.add (k * 3)).block, (a.add (k * 3)).off + m, none⟩ : Addr) = (a.add (k * 3)).add m := by
          intro m hm; unfold Addr.add; rw [if_neg hm]
        obtain ⟨k0, k1, k2⟩ := hk 0 (by simp)
        rw [Nat.add_zero] at k0 k1 k2
        rw [ea 1 (by decide), add_add'] at k1
        rw [ea 2 (by decide), add_add'] at k2
        rw [e] at hj
        match j, hj with
        | 0, hj => simp at hj; subst hj; exact k0
        | 1, hj => simp at hj; subst hj; exact k1
        | 2, hj => simp at hj; subst hj; exact k2
        | j + 3, hj =>
          have := ih (k + 1) (fun i hi => by have := hk (i + 1) (by simpa using hi); rw [show k + 1 + i = k + (i + 1) from by omega]; simpa using this) j u (by simpa using hj)
          rw [show k * 3 + (j + 3) = (k + 1) * 3 + j from by omega]; exact this
    have := key L 0 (fun i hi => by rw [Nat.zero_add]; exact h i hi)
    intro j u hj
    have h2 := this j u hj
    rwa [Nat.zero_mul, Nat.zero_add] at h2
theorem cellsR_length (L : List Rn) : (cellsR L).length = L.length * 3 := by
  induction L with
  | nil => rfl
  | cons x L ih => simp only [cellsR, List.flatMap_cons, List.length_append, List.length_cons, List.length_nil] at ih ⊢; omega
theorem cellsR_one (L : List Rn) : ∀ u ∈ cellsR L, u.oneCell' = true := by
  intro u hu
  simp only [cellsR, List.mem_flatMap, List.mem_cons, List.not_mem_nil, or_false] at hu
  obtain ⟨x, _, h | h | h⟩ := hu <;> subst h <;> rfl
/-- The empty slice that was just made. -/
theorem OwnRuns.empty (w : World) : (w.alloc (.cells #[] 35)).ownsRow w.heap.size 35 3 (.slice (some ⟨w.heap.size, 0, none⟩) 0 0) 0 (cellsR []) :=
  ⟨rfl, .inr ⟨w.heap.size, 0, #[], rfl, Nat.le_refl _, heap_alloc_new w _, Nat.le_refl _, Nat.zero_le _, rfl, rfl⟩⟩
theorem Below.grown_ {w w1 : World} {o : Obj} (h : (w.alloc o).grownBy w1 (some w.heap.size)) : Below w.heap.size w w1 where
  os := h.os
  tape := h.tape
  output := h.output
  size := by have := h.size; rw [World.size_alloc] at this; omega
  block := fun k hk => (h.block k (by rw [World.size_alloc]; omega) (by simp; omega)).trans (heap_alloc_old w o hk)
theorem OwnRuns.of_empty {w : World} {base n : Nat} {v : Value} {L : List Rn} (hn : L.length = n) (h : w.ownsRow base 35 3 v (0 + n) (cellsR [] ++ cellsR L)) : OwnRuns w base v L := by
  rw [Nat.zero_add, show cellsR [] ++ cellsR L = cellsR L from rfl, ← hn] at h
  exact h
theorem OwnRuns.set {w : World} {base : Nat} {v : Value} {L : List Rn} (h : OwnRuns w base v L) {p : Addr} (hp : p.block < base) (x : Value) : OwnRuns (w.setCell p x) base v L := by
  obtain ⟨h1, h2⟩ := h
  refine ⟨h1, ?_⟩
  rcases h2 with h2 | ⟨g, cap, cur, e, hg, hh, r⟩
  · exact .inl h2
  · refine .inr ⟨g, cap, cur, e, hg, ?_, r⟩
    rw [← hh]
    simp only [World.setCell, Array.getElem?_modify]
    rw [if_neg (by omega)]
theorem OwnRuns.toRuns {w : World} {base : Nat} {A : Option Addr} {n c : Nat} {L : List Rn} (h : OwnRuns w base (.slice A n c) L) : Runs w A L := by
  obtain ⟨A', c', e, _, hR⟩ := h.runs
  cases e; exact hR
def RFromPost (w : World) (r : Int × List (Int × Int)) (e : Ending) (w' : World) : Prop :=
  ∃ A c, e = .returned (.tuple #[.agg #[.int .i64 (Tr.total r.2), .slice A r.2.length c], .int .i64 r.1]) ∧ OwnRuns w' w.heap.size (.slice A r.2.length c) (lay 0 r.2) ∧ r.2.length ≤ c ∧ Below w.heap.size w w'
set_option maxRecDepth 100000 in
set_option maxHeartbeats 400000 in
theorem rfrom_bad (size : Int) (n : Nat) (A : Option Addr) (c : Nat) (w : World) (h : ¬ (1 ≤ size ∧ size ≤ 1099511627776)) : Calls Try.prog 20 #[.int .i64 size, .slice A n c] w (RFromPost w (2, [])) := by
  by_cases h1 : size < 1
  · go_enter Try.func20, Try.ntmps20
    go_wp2_with (fail)
    exact bodyPost_ret (v := .tuple #[.agg #[.int .i64 0, .slice none 0 0], .int .i64 2]) (by simp [results, Try.results20, go_sem]) rfl ⟨none, 0, rfl, World.ownsRow_nil _ _ _ _, Nat.le_refl _, Below.alloc1 _ _⟩
  · have h2 : 1099511627776 < size := by omega
    go_enter Try.func20, Try.ntmps20
    go_wp2_with (fail)
    exact bodyPost_ret (v := .tuple #[.agg #[.int .i64 0, .slice none 0 0], .int .i64 2]) (by simp [results, Try.results20, go_sem]) rfl ⟨none, 0, rfl, World.ownsRow_nil _ _ _ _, Nat.le_refl _, Below.alloc1 _ _⟩
set_option maxRecDepth 100000 in
set_option maxHeartbeats 2000000 in
theorem rfrom_scan (size : Int) (L : List Rn) (A : Option Addr) (c : Nat) (w : World) (hL : Runs w A L) (h1 : 1 ≤ size ∧ size ≤ 1099511627776) (hlc : L.length ≤ c) (hm : L.length ≤ 1000000) :
    Calls Try.prog 20 #[.int .i64 size, .slice A L.length c] w (RFromPost w (fromR size L)) := by
  have hfr := fromR_rscan (L := L) h1
  obtain ⟨i0, hi0, hz0, hz1, hz2⟩ := info_parts infoRun
  have hm' : (L.length : Int) ≤ 1000000 := by omega
  have HFR := Lib.hid hfr
  clear hfr
  obtain ⟨n, hn⟩ : ∃ n, L.length = n := ⟨_, rfl⟩
  rw [hn] at hm' ⊢
  have HN := Lib.hid hn
  have HLC := Lib.hid hlc
  clear hn hlc hm
  have H1 := Lib.hid h1
  obtain ⟨z1, z2⟩ := h1
  go_enter Try.func20, Try.ntmps20
  go_wp2_with (fail)
  go_loopw [6, 7, 8] (fun a t i wr => ∃ (k : Nat) (y z : Int), k ≤ n ∧ a = .int .i64 y ∧ t = .int .i64 z ∧ i = .int .i64 k ∧ BoxM wr w.heap.size 0 (.slice none 0 0) ∧ Below w.heap.size w wr ∧ Hid (rscan 0 (-1) L = rscan y z (L.drop k))) (fun _ _ i _ => n - (intOf i).toNat)
  case atStart => exact ⟨0, 0, -1, by omega, rfl, rfl, rfl, BoxM.new w _ _, Below.alloc1 _ _, rfl⟩
  case round =>
    obtain ⟨k, y, z, hk, rfl, rfl, rfl, hbt, hB, hS⟩ := hrel
    have rz := hbt.lt
    by_cases hlt : k < n
    · have hkL : k < L.length := by have := HN.out; omega
      obtain ⟨a, rfl⟩ : ∃ a, A = some a := by
        rcases hL with hh | ⟨a, hh, _⟩
        · rw [hh] at hkL; simp at hkL
        · exact ⟨a, hh⟩
      obtain ⟨hab, hrun⟩ := (hL.below hB).at_ hkL
      obtain ⟨g0, g1, g2⟩ := hrun
      have hd : L.drop k = L[k] :: L.drop (k + 1) := List.drop_eq_getElem_cons hkL
      have hS' := hS.out
      rw [hd] at hS'
      simp only [rscan] at hS'
      generalize L[k] = X at *
      have HS := Lib.hid hS'
      clear hS' hd hS
      have k0 : (0 : Int) ≤ (k : Int) := by omega
      have k1 : (k : Int) < (n : Int) := by omega
      go_upto_region 8 with (fail)
      generalize hwq : World.alloc wr _ = wq
      have hBq0 : Below wr.heap.size wr wq := hwq ▸ Below.alloc1 wr _
      have hX : BoxRun wq wr.heap.size X.lo X.hi X.tag := hwq ▸ BoxRun.new wr _ _ _
      clear hwq g0 g1 g2
      have hBq : Below w.heap.size w wq := Below.next hB hBq0
      have hbt2 := hbt.next hBq0
      have g0 := hX.c0
      have g1 := hX.c1
      have g2 := hX.c2
      have r0 := hbt2.c0
      have r1 := hbt2.c1
      have q0 := hbt2.frozen 0
      have q1 := hbt2.frozen 1
      by_cases hbad : rbad y z X
      · have hFR : Hid (fromR size L = (2, [])) := by
          have h := HS.out
          rw [if_pos hbad] at h
          show _ = _
          rw [HFR.out, if_neg (by rw [h]; intro e; cases e)]
        clear HS
        unfold rbad at hbad
        by_cases c1 : X.lo ≠ y
        · have t1 : (X.lo != y) = true := by simp; omega
          clear hbad c1
          go_wp2_with (fail)
          exact bodyPost_ret (v := .tuple #[.agg #[.int .i64 0, .slice none 0 0], .int .i64 2]) (by simp [results, Try.results20, go_sem, r0, r1]) rfl ⟨none, 0, by rw [hFR.out]; rfl, by rw [hFR.out]; exact World.ownsRow_nil _ _ _ _, by rw [hFR.out]; exact Nat.le_refl _, (hBq.setCell (p := ⟨w.heap.size, 0, none⟩) (Nat.le_refl _) _).setCell (p := ⟨w.heap.size, 1, none⟩) (Nat.le_refl _) _⟩
        by_cases c2 : X.hi ≤ X.lo
        · have t1 : (X.lo != y) = false := by simp; omega
          clear hbad c1
          go_wp2_with (fail)
          exact bodyPost_ret (v := .tuple #[.agg #[.int .i64 0, .slice none 0 0], .int .i64 2]) (by simp [results, Try.results20, go_sem, r0, r1]) rfl ⟨none, 0, by rw [hFR.out]; rfl, by rw [hFR.out]; exact World.ownsRow_nil _ _ _ _, by rw [hFR.out]; exact Nat.le_refl _, (hBq.setCell (p := ⟨w.heap.size, 0, none⟩) (Nat.le_refl _) _).setCell (p := ⟨w.heap.size, 1, none⟩) (Nat.le_refl _) _⟩
        by_cases c4 : X.tag < 0 ∨ 16 ≤ X.tag
        · have t1 : (X.lo != y) = false := by simp; omega
          have C4 := Lib.hid c4
          clear hbad c1 c4
          go_wp2_with (go_at_call 54; refine (rtag_no X.tag _ C4.out).mono ?_; rintro e w' ⟨rfl, rfl⟩)
          exact bodyPost_ret (v := .tuple #[.agg #[.int .i64 0, .slice none 0 0], .int .i64 2]) (by simp [results, Try.results20, go_sem, r0, r1]) rfl ⟨none, 0, by rw [hFR.out]; rfl, by rw [hFR.out]; exact World.ownsRow_nil _ _ _ _, by rw [hFR.out]; exact Nat.le_refl _, (hBq.setCell (p := ⟨w.heap.size, 0, none⟩) (Nat.le_refl _) _).setCell (p := ⟨w.heap.size, 1, none⟩) (Nat.le_refl _) _⟩
        · have t1 : (X.lo != y) = false := by simp; omega
          have t5 : (X.tag == z) = true := by simp; omega
          have C4 : Hid (0 ≤ X.tag ∧ X.tag < 16) := Lib.hid (by omega)
          clear hbad c1 c4
          go_wp2_with (go_at_call 54; refine (rtag_yes X.tag _ C4.out).mono ?_; rintro e w' ⟨rfl, rfl⟩)
          exact bodyPost_ret (v := .tuple #[.agg #[.int .i64 0, .slice none 0 0], .int .i64 2]) (by simp [results, Try.results20, go_sem, r0, r1]) rfl ⟨none, 0, by rw [hFR.out]; rfl, by rw [hFR.out]; exact World.ownsRow_nil _ _ _ _, by rw [hFR.out]; exact Nat.le_refl _, (hBq.setCell (p := ⟨w.heap.size, 0, none⟩) (Nat.le_refl _) _).setCell (p := ⟨w.heap.size, 1, none⟩) (Nat.le_refl _) _⟩
      · have h := HS.out
        rw [if_neg hbad] at h
        have HS2 := Lib.hid h
        clear h HS
        unfold rbad at hbad
        have t1 : (X.lo != y) = false := by simp; omega
        have t2 : ¬ X.hi ≤ X.lo := by omega
        have t5 : (X.tag == z) = false := by simp; omega
        have C4 : Hid (0 ≤ X.tag ∧ X.tag < 16) := Lib.hid (by omega)
        clear hbad
        go_wp2_with (go_at_call 54; refine (rtag_yes X.tag _ C4.out).mono ?_; rintro e w' ⟨rfl, rfl⟩)
        go_roundw
        case rel => exact ⟨k + 1, _, _, by omega, rfl, rfl, by go_num, hbt2, hBq, HS2⟩
        case measure => simp [intOf]; omega
    · obtain rfl : k = n := by omega
      have hd : L.drop k = [] := List.drop_eq_nil_of_le (by have := HN.out; omega)
      have h := hS.out
      rw [hd] at h
      simp only [rscan] at h
      have HS := Lib.hid h
      clear h hd hS
      have r0 := hbt.c0
      have r1 := hbt.c1
      have q0 := hbt.frozen 0
      have q1 := hbt.frozen 1
      have hBq := hB
      have hbt2 := hbt
      by_cases c1 : y = size
      · subst c1
        by_cases c2 : 4096 < (k : Int)
        · have hFR : Hid (fromR y L = (5, [])) := by
            show _ = _
            rw [HFR.out, if_pos HS.out, if_pos (by have := HN.out; omega)]
          go_wp2_with (fail)
          exact bodyPost_ret (v := .tuple #[.agg #[.int .i64 0, .slice none 0 0], .int .i64 5]) (by simp [results, Try.results20, go_sem, r0, r1]) rfl ⟨none, 0, by rw [hFR.out]; rfl, by rw [hFR.out]; exact World.ownsRow_nil _ _ _ _, by rw [hFR.out]; exact Nat.le_refl _, (hBq.setCell (p := ⟨w.heap.size, 0, none⟩) (Nat.le_refl _) _).setCell (p := ⟨w.heap.size, 1, none⟩) (Nat.le_refl _) _⟩
        · have hFR : Hid (fromR y L = (0, segs L)) := by
            show _ = _
            rw [HFR.out, if_pos HS.out, if_neg (by have := HN.out; omega)]
          obtain ⟨f1, f2, f3, f4, f5, f6⟩ := scan_good (scan_of_rscan HS.out (Int.le_refl _)) (Int.le_refl _) (by omega)
          obtain ⟨a, rfl⟩ : ∃ a, A = some a := by
            rcases hL with hh | ⟨a, hh, _⟩
            · exfalso
              rw [hh] at f5
              simp only [segs, List.map_nil, Tr.total_nil] at f5; omega
            · exact ⟨a, hh⟩
          have F5 := Lib.hid f5
          have F6 := Lib.hid f6
          clear f1 f2 f3 f4 f5 f6
          have HL := Lib.hid (OwnRuns.empty wr)
          have hLr : Hid (∀ j u, (cellsR L)[j]? = some u → (wr.alloc (.cells #[] 35)).cell? (a.add j) = some u) := cells_of_runs ((hL.below hB).below (Below.alloc1 wr _))
          have hLn : Hid ((cellsR L).length = k * 3) := by show _ = _; rw [cellsR_length, HN.out]
          go_wp2_with (at_builtin; (refine wpList_append_own _ rfl _ _ 22 rfl wr.heap.size 35 i0 (.agg #[.int .i64 0, .int .i64 0, .int .i64 0]) 3 24 Try.underlying22 hi0 hz0 hz1 hz2 rfl (by decide) _ _ _ rfl HL.out a k c (cellsR L) rfl hLn.out hLr.out (cellsR_one L) (by unfold maxLen; omega) (by omega) (by rw [World.size_alloc]; omega) ?_); intro v' w1 hown hgrow _; have hBx : Below wr.heap.size wr w1 := Below.grown_ hgrow; have hbt3 := hbt.next hBx; have r2 := hbt3.c0; have r3 := hbt3.c1; have q2 := hbt3.frozen 0; have q3 := hbt3.frozen 1; have rz3 := hbt3.lt; have hO := OwnRuns.of_empty HN.out hown; obtain ⟨A', c', rfl, hc', -⟩ := hO.runs)
          have hl' := segs_length L
          exact bodyPost_ret (v := .tuple #[.agg #[.int .i64 y, .slice A' L.length c'], .int .i64 0]) (by simp [results, Try.results20, go_sem, r2, r3]) rfl ⟨A', c', by rw [hFR.out]; dsimp only; rw [hl', show Tr.total (segs L) = y from by have := F5.out; omega], by rw [hFR.out]; dsimp only; rw [F6.out, hl']; exact ((hO.set (p := ⟨w.heap.size, 0, none⟩) rz _).set (p := ⟨w.heap.size, 1, none⟩) rz _).mono (by omega), by rw [hFR.out]; dsimp only; rw [hl']; exact hc', ((Below.next hB hBx).setCell (p := ⟨w.heap.size, 0, none⟩) (Nat.le_refl _) _).setCell (p := ⟨w.heap.size, 1, none⟩) (Nat.le_refl _) _⟩
      · have hFR : Hid (fromR size L = (2, [])) := by
          show _ = _
          rw [HFR.out, if_neg (by rw [HS.out]; intro e; cases e; exact c1 rfl)]
        have t1 : (y != size) = true := by simp; omega
        clear c1
        go_wp2_with (fail)
        exact bodyPost_ret (v := .tuple #[.agg #[.int .i64 0, .slice none 0 0], .int .i64 2]) (by simp [results, Try.results20, go_sem, r0, r1]) rfl ⟨none, 0, by rw [hFR.out]; rfl, by rw [hFR.out]; exact World.ownsRow_nil _ _ _ _, by rw [hFR.out]; exact Nat.le_refl _, (hBq.setCell (p := ⟨w.heap.size, 0, none⟩) (Nat.le_refl _) _).setCell (p := ⟨w.heap.size, 1, none⟩) (Nat.le_refl _) _⟩
theorem rfrom_any (size : Int) (L : List Rn) (A : Option Addr) (c : Nat) (w : World) (hL : Runs w A L) (hlc : L.length ≤ c) (hm : L.length ≤ 1000000) :
    Calls Try.prog 20 #[.int .i64 size, .slice A L.length c] w (RFromPost w (fromR size L)) := by
  by_cases h1 : 1 ≤ size ∧ size ≤ 1099511627776
  · exact rfrom_scan size L A c w hL h1 hlc hm
  · have e : fromR size L = (2, []) := by unfold fromR; rw [if_pos (.inl h1)]
    rw [e]; exact rfrom_bad size L.length A c w h1
end Go.Proofs.Ytfmplibjhohpgaa
