/- The walk over Apply of the reference. -/
import Derived.Test.YtfmplibjhohpgaaSpChs
import Derived.Test.YtfmplibjhohpgaaSpRefAsk
namespace Go.Proofs.Ytfmplibjhohpgaa
open Go.RowKit Go.Shelf

theorem RunsT.nil (w : World) : RunsT w none (lay 0 []) := ⟨.inl rfl, fun a h => by cases h⟩
/-- What Apply of the reference returns. -/
def RApplyPost (w : World) (R : Int × List (Int × Int)) (e : Ending) (w' : World) : Prop :=
  ∃ A c, e = .returned (.tuple #[.agg #[.int .i64 (Tr.total R.2), .slice A R.2.length c], .int .i64 R.1]) ∧ RunsT w' A (lay 0 R.2) ∧ R.2.length ≤ c ∧ Below w.heap.size w w'
set_option maxRecDepth 100000 in
set_option maxHeartbeats 400000 in
theorem rapply_nil (w : World) (C : Option Addr) (d : Nat) (A : Option Addr) (n c : Nat) : Calls Try.prog 45 #[.agg #[.int .i64 0, .slice C 0 d], .slice A n c] w (RApplyPost w (1, [])) := by
  go_enter Try.func45, Try.ntmps45
  go_wp2_with (fail)
  go_at_call 55
  refine (usable_any 0 C 0 d _ (by omega)).mono ?_
  rintro e w1 ⟨rfl, b1⟩
  have x4 : BoxM w1 (w.heap.size + 1) 0 (.slice none 0 0) := by
    have := (BoxM.new (w.alloc (.cells #[.int .i64 0, .slice C 0 d] 31)) 0 (.slice none 0 0)).next b1
    rw [World.size_alloc] at this; exact this
  have hB := Below.next (Below.alloc2 w _ _) b1
  have r0 := x4.c0
  have r1 := x4.c1
  have f0 := x4.frozen 0
  have f1 := x4.frozen 1
  have l4 := x4.lt
  go_wp2_with (fail)
  exact bodyPost_ret (v := .tuple #[.agg #[.int .i64 0, .slice none 0 0], .int .i64 1]) (by simp [results, Try.results45, go_sem, (boxM_set x4 0 (.slice none 0 0)).c0, (boxM_set x4 0 (.slice none 0 0)).c1]) rfl ⟨none, 0, rfl, RunsT.nil _, Nat.le_refl _, (hB.setCell (p := ⟨w.heap.size + 1, 0, none⟩) (show w.heap.size ≤ w.heap.size + 1 by omega) _).setCell (p := ⟨w.heap.size + 1, 1, none⟩) (show w.heap.size ≤ w.heap.size + 1 by omega) _⟩
set_option maxRecDepth 100000 in
set_option maxHeartbeats 8000000 in
theorem rapply_some (w : World) (C : Option Addr) (d : Nat) (A : Option Addr) (l : List Ch) (n c : Nat) (L : List (Int × Int)) (g : Good L) (h : RunsT w C (lay 0 L)) (hd : L.length ≤ d) (hn : l.length = n) (hA : Chs w A l) (hnc : n ≤ c) (hm : (n : Int) ≤ 1000000) (R : Int × List (Int × Int)) (hR : applyR L l = R) :
    Calls Try.prog 45 #[.agg #[.int .i64 (Tr.total L), .slice C L.length d], .slice A n c] w (RApplyPost w R) := by
  have hus : ∀ W, Calls Try.prog 55 #[.agg #[.int .i64 (Tr.total L), .slice C L.length d]] W fun e w' => e = .returned (.bool true) ∧ Below W.heap.size W w' := fun W => by
    have := usable_any (Tr.total L) C L.length d W (by have := g.2.2.2.2; omega)
    rw [show decide (0 < L.length) = true from by simp; exact List.length_pos_iff.2 g.1] at this
    exact this
  have HUS := Lib.hid hus
  have HN := Lib.hid hn
  have HA := Lib.hid hA
  have HR := Lib.hid hR
  have HG := Lib.hid g
  clear hn hA hR g hus
  go_enter Try.func45, Try.ntmps45
  go_upto_region 1 with (fail)
  obtain ⟨wa, hwa⟩ : ∃ wa, (w.alloc (.cells #[.int .i64 (Tr.total L), .slice C L.length d] 31)).alloc (.cells #[.int .i64 0, .slice none 0 0] 31) = wa := ⟨_, rfl⟩
  have x2 : BoxM wa w.heap.size (Tr.total L) (.slice C L.length d) := hwa ▸ (BoxM.new w _ _).next (Below.alloc1 _ _)
  have x4 : BoxM wa (w.heap.size + 1) 0 (.slice none 0 0) := by
    have := BoxM.new (w.alloc (.cells #[.int .i64 (Tr.total L), .slice C L.length d] 31)) 0 (.slice none 0 0)
    rw [World.size_alloc] at this; exact hwa ▸ this
  have hBa : Below w.heap.size w wa := hwa ▸ Below.alloc2 w _ _
  rw [hwa]
  clear hwa
  have c20 := x2.c0
  have c21 := x2.c1
  go_wp2_with (fail)
  go_at_call 55
  refine (HUS.out _).mono ?_
  rintro e w1 ⟨rfl, b1⟩
  have y2 := x2.next b1
  have y4 := x4.next b1
  have hB1 := Below.next hBa b1
  have ra := h.below hB1
  clear b1 x2 x4 hBa c20 c21 h
  go_wp2_with (fail)
  go_loopw [6] (fun i W => ∃ (j : Nat) (Q : Option Addr) (f : Nat) (M : List (Int × Int)), j ≤ n ∧ i = .int .i64 j ∧ BoxM W w.heap.size (Tr.total M) (.slice Q M.length f) ∧ BoxM W (w.heap.size + 1) 0 (.slice none 0 0) ∧ RunsT W Q (lay 0 M) ∧ M.length ≤ f ∧ Hid (Good M) ∧ Hid (applyR M (l.drop j) = R) ∧ Below w.heap.size w W) (fun i _ => n - (intOf i).toNat)
  case atStart => exact ⟨0, C, d, L, Nat.zero_le _, rfl, y2, y4, ra, hd, HG, HR, hB1⟩
  case round =>
    clear ra y2 y4 hB1
    obtain ⟨j, Q, f, M, hj, rfl, y2, y4, ra, hf, gM, hF, hB⟩ := hrel
    by_cases hlt : j < n
    · have k1 : (j : Int) < (n : Int) := by omega
      have hjl : j < l.length := by rw [HN.out]; exact hlt
      obtain ⟨b, rfl⟩ := HA.out.some_ hjl
      obtain ⟨hab, g0, g1, g2, g3⟩ := (HA.out.below hB).at_ hjl
      have hst := applyR_step (L := M) hjl
      rw [hF.out] at hst
      generalize l[j] = X at *
      have HST := Lib.hid hst
      clear hst
      go_upto_region 7 with (fail)
      generalize hwb : World.alloc wr _ = wb
      have xb : BoxCh wb wr.heap.size X := hwb ▸ BoxCh.new wr X
      have db : Below wr.heap.size wr wb := hwb ▸ Below.alloc1 wr _
      have s2 := y2.next db
      have s4 := y4.next db
      have sr := ra.below db
      have sB := Below.next hB db
      clear hwb db y2 y4 ra hB g0 g1 g2 g3
      have c20 := s2.c0
      have c21 := s2.c1
      have f20 := s2.frozen 0
      have f21 := s2.frozen 1
      have c40 := s4.c0
      have c41 := s4.c1
      have f40 := s4.frozen 0
      have f41 := s4.frozen 1
      have d0 := xb.c0
      have d1 := xb.c1
      have d2 := xb.c2
      have d3 := xb.c3
      have l2 := s2.lt
      have l4 := s4.lt
      have tM := gM.out.2.2.2.1
      by_cases e1 : 0 ≤ X.lo
      · by_cases e2 : X.lo < X.hi
        · by_cases e3 : X.hi ≤ Tr.total M
          · have HE1 : Hid (¬ (X.lo < 0 ∨ X.hi ≤ X.lo ∨ Tr.total M < X.hi)) := Lib.hid (by omega)
            by_cases q2 : X.frm < 0 ∨ 16 ≤ X.frm
            · have HE2 := Lib.hid q2
              have hch : chR M X = (2, []) := by unfold chR; rw [if_neg HE1.out, if_pos (.inl q2)]
              have hre : R = (2, []) := by have := HST.out; rw [hch, if_neg (by decide)] at this; exact this
              have HRE := Lib.hid hre
              clear hch hre
              clear q2
              go_wp2_with (fail)
              go_at_call 54
              refine (rtag_no X.frm _ HE2.out).mono ?_
              rintro e w' ⟨rfl, rfl⟩
              go_wp2_with (fail)
              exact bodyPost_ret (v := .tuple #[.agg #[.int .i64 0, .slice none 0 0], .int .i64 2]) (by simp [results, Try.results45, go_sem, (boxM_set s4 0 (.slice none 0 0)).c0, (boxM_set s4 0 (.slice none 0 0)).c1]) rfl (by rw [HRE.out]; exact ⟨none, 0, rfl, RunsT.nil _, Nat.le_refl _, (sB.setCell (p := ⟨w.heap.size + 1, 0, none⟩) (show w.heap.size ≤ w.heap.size + 1 by omega) _).setCell (p := ⟨w.heap.size + 1, 1, none⟩) (show w.heap.size ≤ w.heap.size + 1 by omega) _⟩)
            · have HE2 : Hid (0 ≤ X.frm ∧ X.frm < 16) := Lib.hid (by omega)
              by_cases q3 : X.to < 0 ∨ 16 ≤ X.to
              · have HE3 := Lib.hid q3
                have hch : chR M X = (2, []) := by unfold chR; rw [if_neg HE1.out, if_pos (.inr q3)]
                have hre : R = (2, []) := by have := HST.out; rw [hch, if_neg (by decide)] at this; exact this
                have HRE := Lib.hid hre
                clear hch hre
                clear q3 q2
                go_wp2_with (fail)
                go_at_call 54
                refine (rtag_yes X.frm _ HE2.out).mono ?_
                rintro e w' ⟨rfl, rfl⟩
                go_wp2_with (fail)
                go_at_call 54
                refine (rtag_no X.to _ HE3.out).mono ?_
                rintro e w' ⟨rfl, rfl⟩
                go_wp2_with (fail)
                exact bodyPost_ret (v := .tuple #[.agg #[.int .i64 0, .slice none 0 0], .int .i64 2]) (by simp [results, Try.results45, go_sem, (boxM_set s4 0 (.slice none 0 0)).c0, (boxM_set s4 0 (.slice none 0 0)).c1]) rfl (by rw [HRE.out]; exact ⟨none, 0, rfl, RunsT.nil _, Nat.le_refl _, (sB.setCell (p := ⟨w.heap.size + 1, 0, none⟩) (show w.heap.size ≤ w.heap.size + 1 by omega) _).setCell (p := ⟨w.heap.size + 1, 1, none⟩) (show w.heap.size ≤ w.heap.size + 1 by omega) _⟩)
              · have HE3 : Hid (0 ≤ X.to ∧ X.to < 16) := Lib.hid (by omega)
                have HE4 : Hid (¬ ((X.frm < 0 ∨ 16 ≤ X.frm) ∨ (X.to < 0 ∨ 16 ≤ X.to))) := Lib.hid (by omega)
                have hco := rcount_any wb Q f X.lo X.hi X.frm M (.inr gM.out) sr.1 hf
                rw [count_clip gM.out e1 (by omega) e3 HE2.out.1 HE2.out.2] at hco
                obtain ⟨T, hT⟩ : ∃ T, Tr.totalOf X.frm (segs (clipL X.lo X.hi 0 M)) = T := ⟨_, rfl⟩
                rw [hT] at hco
                have HCO := Lib.hid hco
                have HT := Lib.hid hT
                have i1 : IntKind.i64.wrap (X.hi - X.lo) = X.hi - X.lo := IntWalk.i64_in _ (by omega)
                clear hco hT q2 q3
                go_wp2_with (fail)
                go_at_call 54
                refine (rtag_yes X.frm _ HE2.out).mono ?_
                rintro e w' ⟨rfl, rfl⟩
                go_wp2_with (fail)
                go_at_call 54
                refine (rtag_yes X.to _ HE3.out).mono ?_
                rintro e w' ⟨rfl, rfl⟩
                go_wp2_with (fail)
                go_at_call 40
                refine HCO.out.mono ?_
                rintro e w7 ⟨rfl, b7⟩
                have u2 := s2.next b7
                have u4 := s4.next b7
                have ux := xb.next b7
                have ur := sr.below b7
                have uB := Below.next sB b7
                clear b7 s2 s4 xb sr sB c20 c21 f20 f21 c40 c41 f40 f41 d0 d1 d2 d3 l2 l4
                have c20 := u2.c0
                have c21 := u2.c1
                have f20 := u2.frozen 0
                have f21 := u2.frozen 1
                have c40 := u4.c0
                have c41 := u4.c1
                have f40 := u4.frozen 0
                have f41 := u4.frozen 1
                have d0 := ux.c0
                have d1 := ux.c1
                have d2 := ux.c2
                have d3 := ux.c3
                have l2 := u2.lt
                have l4 := u4.lt
                by_cases e4 : T = X.hi - X.lo
                · have e4' : (T != (X.hi - X.lo)) = false := by simpa using e4
                  have HE5 := Lib.hid e4
                  obtain ⟨k1', k2'⟩ := swap_is_set gM.out e1 (by omega) e3 HE2.out.1 HE2.out.2 HE3.out.1 HE3.out.2 (by rw [HT.out]; exact HE5.out)
                  have hse := rswap_any w7 M (Tr.total M) Q M.length f X.lo X.hi X.frm X.to (.inr gM.out) ur.1 rfl hf rfl
                  rw [k1', k2'] at hse
                  obtain ⟨E, N, hEN⟩ : ∃ E N, setR M X.lo X.hi X.to = (E, N) := ⟨_, _, rfl⟩
                  rw [hEN] at hse
                  have hch : chR M X = (E, N) := by unfold chR; rw [if_neg HE1.out, if_neg HE4.out, if_neg (by rw [HT.out]; exact fun h => h HE5.out), hEN]
                  have hst := HST.out
                  rw [hch] at hst
                  have hgd := chR_good gM.out X
                  rw [hch] at hgd
                  have HST := Lib.hid hst
                  have HGD := Lib.hid hgd
                  have HSE := Lib.hid hse
                  clear hse hEN hch hst hgd e4 k1' k2'
                  go_wp2_with (fail)
                  go_at_call 65
                  refine HSE.out.mono ?_
                  rintro e w8 ⟨Q8, f8, cn8, rfl, _, O8, hf8, b8⟩
                  have v2 := u2.next b8
                  have v4 := u4.next b8
                  have vB := Below.next uB b8
                  clear b8 u2 u4 ux ur uB c20 c21 f20 f21 c40 c41 f40 f41 d0 d1 d2 d3 l2 l4
                  go_upto_region 15 with (fail)
                  generalize hw9 : World.alloc w8 _ = w9
                  have d9 : Below w8.heap.size w8 w9 := hw9 ▸ Below.alloc1 w8 _
                  have t10 : BoxM w9 w8.heap.size (Tr.total N) (.slice Q8 N.length f8) := hw9 ▸ BoxM.new w8 _ _
                  have t2 := v2.next d9
                  have t4 := v4.next d9
                  have tB := Below.next vB d9
                  have tr := O8.runsT.below d9
                  have v2l := v2.lt
                  clear hw9 d9 v2 v4 vB O8
                  have c20 := t2.c0
                  have c21 := t2.c1
                  have f20 := t2.frozen 0
                  have f21 := t2.frozen 1
                  have c40 := t4.c0
                  have c41 := t4.c1
                  have f40 := t4.frozen 0
                  have f41 := t4.frozen 1
                  have ca0 := t10.c0
                  have ca1 := t10.c1
                  have l4 := t4.lt
                  have l2 := t2.lt
                  by_cases e5 : E = 0
                  · subst e5
                    have gN : Good N := by
                      rcases HGD.out with ⟨h, _⟩ | ⟨_, h, _⟩
                      · exact (h rfl).elim
                      · exact h
                    have hst := HST.out
                    rw [if_pos rfl] at hst
                    have HS2 := Lib.hid hst.symm
                    have GN := Lib.hid gN
                    clear hst gN
                    go_wp2_with (fail)
                    exact ⟨⟨j + 1, Q8, f8, N, by omega, by go_num, boxM_set t2 _ _, (t4.far (by omega) _ _ _).far (by omega) _ _ _, (tr.set t2 (by decide) _ _).set (boxM_set0 t2 _) (by decide) _ _, hf8, GN, HS2, (tB.setCell (p := ⟨w.heap.size, 0, none⟩) (Nat.le_refl _) _).setCell (p := ⟨w.heap.size, 1, none⟩) (Nat.le_refl _) _⟩, by simp [intOf]; omega⟩
                  · have e5' : (E != 0) = true := by simpa using e5
                    have hre : R = (E, []) := by have := HST.out; rw [if_neg e5] at this; exact this
                    have HRE := Lib.hid hre
                    clear hre e5
                    go_wp2_with (fail)
                    exact bodyPost_ret (v := .tuple #[.agg #[.int .i64 0, .slice none 0 0], .int .i64 E]) (by simp [results, Try.results45, go_sem, (boxM_set t4 0 (.slice none 0 0)).c0, (boxM_set t4 0 (.slice none 0 0)).c1]) rfl (by rw [HRE.out]; exact ⟨none, 0, rfl, RunsT.nil _, Nat.le_refl _, (tB.setCell (p := ⟨w.heap.size + 1, 0, none⟩) (show w.heap.size ≤ w.heap.size + 1 by omega) _).setCell (p := ⟨w.heap.size + 1, 1, none⟩) (show w.heap.size ≤ w.heap.size + 1 by omega) _⟩)
                · have e4' : (T != (X.hi - X.lo)) = true := by simpa using e4
                  have hch : chR M X = (30, []) := by unfold chR; rw [if_neg HE1.out, if_neg HE4.out, if_pos (by rw [HT.out]; exact e4)]
                  have hre : R = (30, []) := by have := HST.out; rw [hch, if_neg (by decide)] at this; exact this
                  have HRE := Lib.hid hre
                  clear hch hre
                  clear e4
                  go_wp2_with (fail)
                  exact bodyPost_ret (v := .tuple #[.agg #[.int .i64 0, .slice none 0 0], .int .i64 30]) (by simp [results, Try.results45, go_sem, (boxM_set u4 0 (.slice none 0 0)).c0, (boxM_set u4 0 (.slice none 0 0)).c1]) rfl (by rw [HRE.out]; exact ⟨none, 0, rfl, RunsT.nil _, Nat.le_refl _, (uB.setCell (p := ⟨w.heap.size + 1, 0, none⟩) (show w.heap.size ≤ w.heap.size + 1 by omega) _).setCell (p := ⟨w.heap.size + 1, 1, none⟩) (show w.heap.size ≤ w.heap.size + 1 by omega) _⟩)
          · have e3' : decide (X.hi ≤ Tr.total M) = false := by simpa using e3
            have hch : chR M X = (3, []) := by unfold chR; rw [if_pos (by omega)]
            have hre : R = (3, []) := by have := HST.out; rw [hch, if_neg (by decide)] at this; exact this
            have HRE := Lib.hid hre
            clear hch hre
            go_wp2_with (fail)
            exact bodyPost_ret (v := .tuple #[.agg #[.int .i64 0, .slice none 0 0], .int .i64 3]) (by simp [results, Try.results45, go_sem, (boxM_set s4 0 (.slice none 0 0)).c0, (boxM_set s4 0 (.slice none 0 0)).c1]) rfl (by rw [HRE.out]; exact ⟨none, 0, rfl, RunsT.nil _, Nat.le_refl _, (sB.setCell (p := ⟨w.heap.size + 1, 0, none⟩) (show w.heap.size ≤ w.heap.size + 1 by omega) _).setCell (p := ⟨w.heap.size + 1, 1, none⟩) (show w.heap.size ≤ w.heap.size + 1 by omega) _⟩)
        · have e2' : decide (X.lo < X.hi) = false := by simpa using e2
          have hch : chR M X = (3, []) := by unfold chR; rw [if_pos (by omega)]
          have hre : R = (3, []) := by have := HST.out; rw [hch, if_neg (by decide)] at this; exact this
          have HRE := Lib.hid hre
          clear hch hre
          go_wp2_with (fail)
          exact bodyPost_ret (v := .tuple #[.agg #[.int .i64 0, .slice none 0 0], .int .i64 3]) (by simp [results, Try.results45, go_sem, (boxM_set s4 0 (.slice none 0 0)).c0, (boxM_set s4 0 (.slice none 0 0)).c1]) rfl (by rw [HRE.out]; exact ⟨none, 0, rfl, RunsT.nil _, Nat.le_refl _, (sB.setCell (p := ⟨w.heap.size + 1, 0, none⟩) (show w.heap.size ≤ w.heap.size + 1 by omega) _).setCell (p := ⟨w.heap.size + 1, 1, none⟩) (show w.heap.size ≤ w.heap.size + 1 by omega) _⟩)
      · have e1' : decide (0 ≤ X.lo) = false := by simpa using e1
        have hch : chR M X = (3, []) := by unfold chR; rw [if_pos (by omega)]
        have hre : R = (3, []) := by have := HST.out; rw [hch, if_neg (by decide)] at this; exact this
        have HRE := Lib.hid hre
        clear hch hre
        go_wp2_with (fail)
        exact bodyPost_ret (v := .tuple #[.agg #[.int .i64 0, .slice none 0 0], .int .i64 3]) (by simp [results, Try.results45, go_sem, (boxM_set s4 0 (.slice none 0 0)).c0, (boxM_set s4 0 (.slice none 0 0)).c1]) rfl (by rw [HRE.out]; exact ⟨none, 0, rfl, RunsT.nil _, Nat.le_refl _, (sB.setCell (p := ⟨w.heap.size + 1, 0, none⟩) (show w.heap.size ≤ w.heap.size + 1 by omega) _).setCell (p := ⟨w.heap.size + 1, 1, none⟩) (show w.heap.size ≤ w.heap.size + 1 by omega) _⟩)
    · obtain rfl : j = n := by omega
      have hff := hF.out
      rw [List.drop_eq_nil_of_le (by rw [HN.out]; exact Nat.le_refl _)] at hff
      simp only [applyR] at hff
      have HF := Lib.hid hff
      clear hff hF
      have c20 := y2.c0
      have c21 := y2.c1
      have c40 := y4.c0
      have c41 := y4.c1
      have f40 := y4.frozen 0
      have f41 := y4.frozen 1
      have l4 := y4.lt
      go_wp2_with (fail)
      exact bodyPost_ret (v := .tuple #[.agg #[.int .i64 (Tr.total M), .slice Q M.length f], .int .i64 0]) (by simp [results, Try.results45, go_sem, (boxM_set y4 (Tr.total M) (.slice Q M.length f)).c0, (boxM_set y4 (Tr.total M) (.slice Q M.length f)).c1]) rfl (by rw [← HF.out]; exact ⟨Q, f, rfl, (ra.set y4 (by decide) _ _).set (boxM_set0 y4 _) (by decide) _ _, hf, (hB.setCell (p := ⟨w.heap.size + 1, 0, none⟩) (show w.heap.size ≤ w.heap.size + 1 by omega) _).setCell (p := ⟨w.heap.size + 1, 1, none⟩) (show w.heap.size ≤ w.heap.size + 1 by omega) _⟩)
theorem rapply_any (w : World) (C : Option Addr) (d : Nat) (A : Option Addr) (l : List Ch) (c : Nat) (L : List (Int × Int)) (hL : L = [] ∨ Good L) (h : RunsT w C (lay 0 L)) (hd : L.length ≤ d) (hA : Chs w A l) (hnc : l.length ≤ c) (hm : (l.length : Int) ≤ 1000000) :
    Calls Try.prog 45 #[.agg #[.int .i64 (Tr.total L), .slice C L.length d], .slice A l.length c] w (RApplyPost w (applyTop L l)) := by
  unfold applyTop
  rcases hL with rfl | g
  · rw [if_pos rfl]
    exact rapply_nil w C d A _ c
  · rw [if_neg g.1]
    exact rapply_some w C d A l _ c L g h hd rfl hA hnc hm _ rfl
end Go.Proofs.Ytfmplibjhohpgaa
