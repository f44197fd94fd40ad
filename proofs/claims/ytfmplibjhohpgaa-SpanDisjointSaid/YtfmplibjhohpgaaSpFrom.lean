/- The walk over From of package span. -/
import Derived.Test.YtfmplibjhohpgaaSpRunsAny
namespace Go.Proofs.Ytfmplibjhohpgaa
open Go.RowKit

/-- A run that may not follow one that ends at hi and has a tag. -/
def badRun (size hi tag : Int) (x : Rn) : Prop := x.lo ≠ hi ∨ x.hi ≤ x.lo ∨ size < x.hi ∨ (x.tag < 0 ∨ 16 ≤ x.tag) ∨ x.tag = tag
instance (size hi tag : Int) (x : Rn) : Decidable (badRun size hi tag x) := by unfold badRun; infer_instance
/-- Where runs end that follow one another; none if one may not follow. -/
def scan (size : Int) : Int → Int → List Rn → Option Int
  | hi, _, [] => some hi
  | hi, tag, x :: l => if badRun size hi tag x then none else scan size x.hi x.tag l
/-- What From returns. -/
def fromR (size : Int) (L : List Rn) : Int × List (Int × Int) :=
  if ¬ (1 ≤ size ∧ size ≤ 1099511627776) ∨ L = [] then (2, []) else
    match scan size 0 (-1) L with
    | none => (2, [])
    | some h => if h = size then (if 4096 < (L.length : Int) then (5, []) else (0, segs L)) else (2, [])
theorem scan_good {size hi tag : Int} {L : List Rn} {h : Int} (hs : scan size hi tag L = some h) (h0 : 0 ≤ hi) (hz : size ≤ 1099511627776) :
    Fine L ∧ Tr.OkL (segs L) ∧ Norm (segs L) ∧ (∀ x, L.head? = some x → x.tag ≠ tag) ∧ hi + Tr.total (segs L) = h ∧ lay hi (segs L) = L := by
  induction L generalizing hi tag with
  | nil => simp only [scan, Option.some.injEq] at hs; subst hs; simp [Fine, segs, Tr.OkL, Norm, Tr.total, lay]
  | cons x L ih =>
    simp only [scan] at hs
    split at hs
    · cases hs
    · rename_i hb
      unfold badRun at hb
      obtain ⟨f1, f2, f3, f4, f5, f6⟩ := ih hs (by omega)
      have ex : 0 ≤ x.lo ∧ x.lo < x.hi ∧ x.hi ≤ 1099511627776 ∧ 0 ≤ x.tag ∧ x.tag < 16 := by omega
      refine ⟨fun y hy => ?_, ?_, ?_, ?_, ?_, ?_⟩
      · rcases List.mem_cons.1 hy with rfl | hy
        · exact ex
        · exact f1 y hy
      · simp only [segs, List.map_cons]; exact Tr.OkL.cons.2 ⟨⟨by simp; omega, ex.2.2.2.1, ex.2.2.2.2⟩, f2⟩
      · simp only [segs, List.map_cons]
        refine ⟨fun y hy => ?_, f3⟩
        cases L with
        | nil => simp at hy
        | cons z L => simp at hy; subst hy; exact fun e => f4 z rfl e.symm
      · intro y hy; simp at hy; subst hy; omega
      · simp only [segs, List.map_cons, Tr.total_cons] at f5 ⊢; omega
      · simp only [segs, List.map_cons, lay] at f6 ⊢
        have e1 : hi = x.lo := by omega
        subst e1
        rw [show x.lo + (x.hi - x.lo) = x.hi from by omega, f6]
theorem fromR_good (size : Int) (L : List Rn) : (fromR size L).2 = [] ∨ Good (fromR size L).2 := by
  unfold fromR
  split
  · exact .inl rfl
  · rename_i h
    split
    · exact .inl rfl
    · rename_i h' hs
      split
      · rename_i he
        split
        · exact .inl rfl
        · rename_i hl
          obtain ⟨f1, f2, f3, f4, f5, f6⟩ := scan_good hs (Int.le_refl _) (by omega)
          refine .inr ⟨?_, f2, f3, by show Tr.total (segs L) ≤ _; omega, by simp only [segs_length]; omega⟩
          intro e; exact h (.inr (by simpa [segs] using e))
      · exact .inl rfl
/-- Block b holds a run. -/
def BoxRun (W : World) (b : Nat) (x y z : Int) : Prop := W.heap[b]? = some (.cells #[.int .i64 x, .int .i64 y, .int .i64 z] 35 (0, 0))
theorem BoxRun.new (w : World) (x y z : Int) : BoxRun (w.alloc (.cells #[.int .i64 x, .int .i64 y, .int .i64 z] 35)) w.heap.size x y z := heap_alloc_new w _
theorem BoxRun.lt {W : World} {b : Nat} {x y z : Int} (h : BoxRun W b x y z) : b < W.heap.size := (Array.getElem?_eq_some_iff.1 h).1
theorem BoxRun.next {W W' : World} {b : Nat} {x y z : Int} (h : BoxRun W b x y z) (hB : Below W.heap.size W W') : BoxRun W' b x y z := (hB.block b h.lt).trans h
theorem BoxRun.c0 {W : World} {b : Nat} {x y z : Int} (h : BoxRun W b x y z) : W.cell? ⟨b, 0, none⟩ = some (.int .i64 x) := cell_of_row W b 0 _ _ _ h
theorem BoxRun.c1 {W : World} {b : Nat} {x y z : Int} (h : BoxRun W b x y z) : W.cell? ⟨b, 1, none⟩ = some (.int .i64 y) := cell_of_row W b 1 _ _ _ h
theorem BoxRun.c2 {W : World} {b : Nat} {x y z : Int} (h : BoxRun W b x y z) : W.cell? ⟨b, 2, none⟩ = some (.int .i64 z) := cell_of_row W b 2 _ _ _ h
theorem BoxRun.frozen {W : World} {b : Nat} {x y z : Int} (h : BoxRun W b x y z) (i : Nat) : W.frozen? ⟨b, i, none⟩ = false := by unfold BoxRun at h; simp [World.frozen?, h]
theorem BoxRun.set3 {W : World} {b : Nat} {x y z : Int} (h : BoxRun W b x y z) (x' y' z' : Int) : BoxRun (((W.setCell ⟨b, 0, none⟩ (.int .i64 x')).setCell ⟨b, 1, none⟩ (.int .i64 y')).setCell ⟨b, 2, none⟩ (.int .i64 z')) b x' y' z' := by
  unfold BoxRun at h ⊢
  simp [World.setCell, Array.getElem?_modify, h]
theorem BoxRun.other {W : World} {b : Nat} {x y z : Int} (h : BoxRun W b x y z) : Other W b := ⟨_, _, _, h, by decide⟩
theorem BoxT.far {W : World} {b : Nat} {v : Value} (h : BoxT W b v) {b' : Nat} (hne : b ≠ b') (off : Nat) (sp : Option Nat) (u : Value) : BoxT (W.setCell ⟨b', off, sp⟩ u) b v := by
  obtain ⟨t, h1, h2⟩ := h; exact ⟨t, h1, (Below.heap_setCell W ⟨b', off, sp⟩ u b hne).trans h2⟩
theorem RunAt.cells {w : World} {e : Addr} {x : Rn} (h : RunAt w e x) : w.cell? e = some (.int .i64 x.lo) ∧ w.cell? ⟨e.block, e.off + 1, none⟩ = some (.int .i64 x.hi) ∧ w.cell? ⟨e.block, e.off + 2, none⟩ = some (.int .i64 x.tag) := h
def FromPost (w : World) (size : Int) (L : List Rn) (e : Ending) (w' : World) : Prop :=
  ∃ p, e = .returned (.tuple #[.agg #[.pointer p], .int .i64 (fromR size L).1]) ∧ Rep w' p (fromR size L).2 ∧ Below w.heap.size w w'

set_option maxRecDepth 100000 in
set_option maxHeartbeats 2000000 in
theorem from_bad (size : Int) (L : List Rn) (A : Option Addr) (c : Nat) (w : World) (h : ¬ (1 ≤ size ∧ size ≤ 1099511627776) ∨ L = []) : Calls Try.prog 19 #[.int .i64 size, .slice A L.length c] w fun e w' => e = .returned (.tuple #[.agg #[.pointer none], .int .i64 2]) ∧ Below w.heap.size w w' := by
  by_cases h1 : 1 ≤ size ∧ size ≤ 1099511627776
  · obtain rfl : L = [] := h.resolve_left (fun hh => hh h1)
    rw [List.length_nil]
    go_enter Try.func19, Try.ntmps19
    go_wp2_with (go_at_call 51; refine (sized_yes size _ h1).mono ?_; rintro e w' ⟨rfl, rfl⟩)
    exact bodyPost_ret (v := .tuple #[.agg #[.pointer none], .int .i64 2]) (by simp [results, Try.results19, go_sem]) rfl ⟨rfl, Below.alloc1 _ _⟩
  · go_enter Try.func19, Try.ntmps19
    go_wp2_with (go_at_call 51; refine (sized_no size _ h1).mono ?_; rintro e w' ⟨rfl, rfl⟩)
    exact bodyPost_ret (v := .tuple #[.agg #[.pointer none], .int .i64 2]) (by simp [results, Try.results19, go_sem]) rfl ⟨rfl, Below.alloc1 _ _⟩

set_option maxRecDepth 100000 in
set_option maxHeartbeats 2000000 in
theorem from_scan (size : Int) (L : List Rn) (a : Addr) (c : Nat) (w : World) (hL : Runs w (some a) L) (h1 : 1 ≤ size ∧ size ≤ 1099511627776) (hne : L ≠ []) (hlc : L.length ≤ c) (hm : L.length ≤ 1000000) :
    Calls Try.prog 19 #[.int .i64 size, .slice (some a) L.length c] w (FromPost w size L) := by
  have hg := fromR_good size L
  have hpost : ∀ (e : Ending) (w' : World), FromPost w size L e w' ↔ FromPost w size L e w' := fun _ _ => Iff.rfl
  have hl0 : ((L.length : Int) == 0) = false := by cases L with
    | nil => exact (hne rfl).elim
    | cons x l => simp; omega
  have hm' : (L.length : Int) ≤ 1000000 := by omega
  have HG := Lib.hid hg
  have HNE := Lib.hid hne
  clear hg hpost hne
  obtain ⟨n, hn⟩ : ∃ n, L.length = n := ⟨_, rfl⟩
  rw [hn] at hl0 hm' ⊢
  have HN := Lib.hid hn
  have HLC := Lib.hid hlc
  clear hn hlc hm
  go_enter Try.func19, Try.ntmps19
  go_wp2_with (go_at_call 51; refine (sized_yes size _ h1).mono ?_; rintro e w' ⟨rfl, rfl⟩)
  have H1 := Lib.hid h1
  clear h1
  obtain ⟨z1, z2⟩ := H1.out
  go_loopw [21] (fun i wr => ∃ (k : Nat) (x y z : Int), k ≤ n ∧ i = .int .i64 k ∧ BoxRun wr (w.heap.size + 1) x y z ∧ BoxT wr w.heap.size (.pointer none) ∧ Below w.heap.size w wr ∧ Hid (scan size 0 (-1) L = scan size y z (L.drop k))) (fun i _ => n - (intOf i).toNat)
  case atStart =>
    refine ⟨0, 0, 0, -1, by omega, rfl, ?_, ?_, ?_, rfl⟩
    · have := BoxRun.new (w.alloc (.cells #[.pointer none] 26)) 0 0 (-1); rw [World.size_alloc] at this; exact this
    · exact (BoxT.new w _ _ (by decide)).alloc _
    · exact Below.alloc2 _ _ _
  case round =>
    obtain ⟨k, x, y, z, hk, rfl, hbr, hbt, hB, hS⟩ := hrel
    have rz := hbt.lt
    by_cases hlt : k < n
    · have hkL : k < L.length := by have := HN.out; omega
      obtain ⟨hab, hrun⟩ := (hL.below hB).at_ hkL
      obtain ⟨g0, g1, g2⟩ := hrun
      have hd : L.drop k = L[k] :: L.drop (k + 1) := List.drop_eq_getElem_cons hkL
      have hS' := hS.out
      rw [hd] at hS'
      simp only [scan] at hS'
      generalize L[k] = X at *
      have HS := Lib.hid hS'
      clear hS' hd hS
      have k0 : (0 : Int) ≤ (k : Int) := by omega
      have k1 : (k : Int) < (n : Int) := by omega
      go_upto_region 7 with (fail)
      generalize hwq : World.alloc wr _ = wq
      have hBq0 : Below wr.heap.size wr wq := hwq ▸ Below.alloc1 wr _
      have hX : BoxRun wq wr.heap.size X.lo X.hi X.tag := hwq ▸ BoxRun.new wr _ _ _
      clear hwq g0 g1 g2
      have hBq : Below w.heap.size w wq := Below.next hB hBq0
      have hbr2 := hbr.next hBq0
      have hbt2 := hbt.next hBq0
      have l0 := hbr.lt
      have g0 := hX.c0
      have g1 := hX.c1
      have g2 := hX.c2
      have r0 := hbr2.c0
      have r1 := hbr2.c1
      have r2 := hbr2.c2
      have q0 := hbr2.frozen 0
      have q1 := hbr2.frozen 1
      have q2 := hbr2.frozen 2
      have rt := hbt2.cell
      have rf := hbt2.frozen
      by_cases hbad : badRun size y z X
      · have hFR : Hid (fromR size L = (2, [])) := by
          have h := HS.out
          rw [if_pos hbad] at h
          show _ = _
          unfold fromR
          rw [if_neg (by intro hh; rcases hh with hh | hh; exact hh H1.out; exact HNE.out hh), h]
        clear HS
        unfold badRun at hbad
        by_cases c1 : X.lo ≠ y
        · have t1 : (X.lo != y) = true := by simp; omega
          clear hbad c1
          go_wp2_with (fail)
          exact bodyPost_ret (v := .tuple #[.agg #[.pointer none], .int .i64 2]) (by simp [results, Try.results19, go_sem, rt]) rfl ⟨none, by rw [hFR.out], by rw [hFR.out]; exact Rep.none _, hBq.setCell (p := ⟨w.heap.size, 0, none⟩) (Nat.le_refl _) _⟩
        by_cases c2 : X.hi ≤ X.lo
        · have t1 : (X.lo != y) = false := by simp; omega
          clear hbad c1
          go_wp2_with (fail)
          exact bodyPost_ret (v := .tuple #[.agg #[.pointer none], .int .i64 2]) (by simp [results, Try.results19, go_sem, rt]) rfl ⟨none, by rw [hFR.out], by rw [hFR.out]; exact Rep.none _, hBq.setCell (p := ⟨w.heap.size, 0, none⟩) (Nat.le_refl _) _⟩
        by_cases c3 : size < X.hi
        · have t1 : (X.lo != y) = false := by simp; omega
          clear hbad c1
          go_wp2_with (fail)
          exact bodyPost_ret (v := .tuple #[.agg #[.pointer none], .int .i64 2]) (by simp [results, Try.results19, go_sem, rt]) rfl ⟨none, by rw [hFR.out], by rw [hFR.out]; exact Rep.none _, hBq.setCell (p := ⟨w.heap.size, 0, none⟩) (Nat.le_refl _) _⟩
        by_cases c4 : X.tag < 0 ∨ 16 ≤ X.tag
        · have t1 : (X.lo != y) = false := by simp; omega
          have C4 := Lib.hid c4
          clear hbad c1 c4
          go_wp2_with (go_at_call 52; refine (isTag_no X.tag _ C4.out).mono ?_; rintro e w' ⟨rfl, rfl⟩)
          exact bodyPost_ret (v := .tuple #[.agg #[.pointer none], .int .i64 2]) (by simp [results, Try.results19, go_sem, rt]) rfl ⟨none, by rw [hFR.out], by rw [hFR.out]; exact Rep.none _, hBq.setCell (p := ⟨w.heap.size, 0, none⟩) (Nat.le_refl _) _⟩
        · have t1 : (X.lo != y) = false := by simp; omega
          have t5 : (X.tag == z) = true := by simp; omega
          have C4 : Hid (0 ≤ X.tag ∧ X.tag < 16) := Lib.hid (by omega)
          clear hbad c1 c4
          go_wp2_with (go_at_call 52; refine (isTag_yes X.tag _ C4.out).mono ?_; rintro e w' ⟨rfl, rfl⟩)
          exact bodyPost_ret (v := .tuple #[.agg #[.pointer none], .int .i64 2]) (by simp [results, Try.results19, go_sem, rt]) rfl ⟨none, by rw [hFR.out], by rw [hFR.out]; exact Rep.none _, hBq.setCell (p := ⟨w.heap.size, 0, none⟩) (Nat.le_refl _) _⟩
      · have h := HS.out
        rw [if_neg hbad] at h
        have HS2 := Lib.hid h
        clear h HS
        unfold badRun at hbad
        have t1 : (X.lo != y) = false := by simp; omega
        have t2 : ¬ X.hi ≤ X.lo := by omega
        have t3 : ¬ size < X.hi := by omega
        have t5 : (X.tag == z) = false := by simp; omega
        have C4 : Hid (0 ≤ X.tag ∧ X.tag < 16) := Lib.hid (by omega)
        clear hbad
        go_wp2_with (go_at_call 52; refine (isTag_yes X.tag _ C4.out).mono ?_; rintro e w' ⟨rfl, rfl⟩)
        go_roundw
        case rel =>
          refine ⟨k + 1, _, _, _, by omega, by go_num, hbr2.set3 _ _ _, ?_, ?_, HS2⟩
          · exact ((hbt2.far (by omega) _ _ _).far (by omega) _ _ _).far (by omega) _ _ _
          · exact ((hBq.setCell (p := ⟨w.heap.size + 1, 0, none⟩) (Nat.le_succ _) _).setCell (p := ⟨w.heap.size + 1, 1, none⟩) (Nat.le_succ _) _).setCell (p := ⟨w.heap.size + 1, 2, none⟩) (Nat.le_succ _) _
        case measure => simp [intOf]; omega
    · obtain rfl : k = n := by omega
      have hd : L.drop k = [] := List.drop_eq_nil_of_le (by have := HN.out; omega)
      have h := hS.out
      rw [hd] at h
      simp only [scan] at h
      have HS := Lib.hid h
      clear h hd hS
      have r1 := hbr.c1
      have rt := hbt.cell
      have rf := hbt.frozen
      have nb : ¬ (¬ (1 ≤ size ∧ size ≤ 1099511627776) ∨ L = []) := by intro hh; rcases hh with hh | hh; exact hh H1.out; exact HNE.out hh
      have NB := Lib.hid nb
      clear nb
      by_cases c1 : y = size
      · subst c1
        by_cases c2 : 4096 < (k : Int)
        · have hFR : Hid (fromR y L = (5, [])) := by
            show _ = _
            unfold fromR
            rw [if_neg NB.out, HS.out]; dsimp only
            rw [if_pos rfl, if_pos (by have := HN.out; omega)]
          go_wp2_with (fail)
          exact bodyPost_ret (v := .tuple #[.agg #[.pointer none], .int .i64 5]) (by simp [results, Try.results19, go_sem, rt]) rfl ⟨none, by rw [hFR.out], by rw [hFR.out]; exact Rep.none _, hB.setCell (p := ⟨w.heap.size, 0, none⟩) (Nat.le_refl _) _⟩
        · have hFR : Hid (fromR y L = (0, segs L)) := by
            show _ = _
            unfold fromR
            rw [if_neg NB.out, HS.out]; dsimp only
            rw [if_pos rfl, if_neg (by have := HN.out; omega)]
          obtain ⟨f1, f2, f3, f4, f5, f6⟩ := scan_good HS.out (Int.le_refl _) (by omega)
          obtain ⟨d1, d2, _⟩ := Tr.bld_facts L.length (segs L) (by rw [segs_length]; exact Nat.le_refl _)
          have hbd := build_any L.length L wr (some a) c (Nat.le_refl _) (by have := HN.out; omega) (by have := HLC.out; have := HN.out; omega) (hL.below hB) f1 (by omega)
          rw [HN.out] at hbd d1 d2
          have HBD := Lib.hid hbd
          have D1 := Lib.hid d1
          have D2 := Lib.hid d2
          clear hbd d1 d2 f1 f2 f3 f4 f5 f6
          go_wp2_with (fail)
          go_at_call 53
          refine HBD.out.mono ?_
          clear HBD
          rintro e w2 ⟨p1, rfl, ht1, hb1⟩
          have hbt2 := hbt.next hb1
          have rt := hbt2.cell
          have rf := hbt2.frozen
          have rz := hbt2.lt
          go_wp2_with (fail)
          exact bodyPost_ret (v := .tuple #[.agg #[.pointer p1], .int .i64 0]) (by simp [results, Try.results19, go_sem, rt]) rfl ⟨p1, by rw [hFR.out], ⟨_, ht1.set_ hbt2.other _ _ _, D2.out, by rw [hFR.out]; exact D1.out, HG.out⟩, (Below.next hB hb1).setCell (p := ⟨w.heap.size, 0, none⟩) (Nat.le_refl _) _⟩
      · have hFR : Hid (fromR size L = (2, [])) := by
          show _ = _
          unfold fromR
          rw [if_neg NB.out, HS.out]; dsimp only
          rw [if_neg c1]
        have t1 : (y != size) = true := by simp; omega
        clear c1
        go_wp2_with (fail)
        exact bodyPost_ret (v := .tuple #[.agg #[.pointer none], .int .i64 2]) (by simp [results, Try.results19, go_sem, rt]) rfl ⟨none, by rw [hFR.out], by rw [hFR.out]; exact Rep.none _, hB.setCell (p := ⟨w.heap.size, 0, none⟩) (Nat.le_refl _) _⟩
/-- From, whatever its arguments. -/
theorem from_any (size : Int) (L : List Rn) (A : Option Addr) (c : Nat) (w : World) (hL : Runs w A L) (hlc : L.length ≤ c) (hm : L.length ≤ 1000000) : Calls Try.prog 19 #[.int .i64 size, .slice A L.length c] w (FromPost w size L) := by
  by_cases h : ¬ (1 ≤ size ∧ size ≤ 1099511627776) ∨ L = []
  · have e : fromR size L = (2, []) := by unfold fromR; rw [if_pos h]
    exact (from_bad size L A c w h).mono fun e' w' ⟨h1, h2⟩ => ⟨none, by rw [e]; exact h1, by rw [e]; exact Rep.none _, h2⟩
  · have h1 : 1 ≤ size ∧ size ≤ 1099511627776 := Classical.byContradiction fun hh => h (.inl hh)
    have h2 : L ≠ [] := fun hh => h (.inr hh)
    obtain ⟨a, rfl⟩ : ∃ a, A = some a := by
      rcases hL with hh | ⟨a, hh, _⟩
      · exact (h2 hh).elim
      · exact ⟨a, hh⟩
    exact from_scan size L a c w hL h1 h2 hlc hm

end Go.Proofs.Ytfmplibjhohpgaa
