/- The walk over Apply of package span. -/
import Derived.Test.YtfmplibjhohpgaaSpChs
import Derived.Deep.CutRange
import Derived.Deep.DeepCutAuto
namespace Go.Proofs.Ytfmplibjhohpgaa
open Go.RowKit Go.Shelf

/-- What Apply returns. -/
def ApplyPost (w : World) (R : Int × List (Int × Int)) (e : Ending) (w' : World) : Prop :=
  ∃ p, e = .returned (.tuple #[.agg #[.pointer p], .int .i64 R.1]) ∧ Rep w' p R.2 ∧ Below w.heap.size w w'
set_option maxRecDepth 100000 in
set_option maxHeartbeats 400000 in
theorem apply_nil (w : World) (A : Option Addr) (n c : Nat) : Calls Try.prog 35 #[.agg #[.pointer none], .slice A n c] w (ApplyPost w (1, [])) := by
  go_enter Try.func35, Try.ntmps35
  go_wp2_with (fail)
  exact bodyPost_ret (v := .tuple #[.agg #[.pointer none], .int .i64 1]) (by simp [results, Try.results35, go_sem]) rfl ⟨none, rfl, Rep.none _, Below.alloc2 _ _ _⟩
set_option maxRecDepth 100000 in
set_option maxHeartbeats 8000000 in
theorem apply_some (w : World) (a : Addr) (A : Option Addr) (l : List Ch) (n c : Nat) (L : List (Int × Int)) (g : Good L) (h : Rep w (some a) L) (hn : l.length = n) (hA : Chs w A l) (hnc : n ≤ c) (hm : (n : Int) ≤ 1000000) (R : Int × List (Int × Int)) (hR : applyR L l = R) :
    Calls Try.prog 35 #[.agg #[.pointer (some a)], .slice A n c] w (ApplyPost w R) := by
  have HN := Lib.hid hn
  have HA := Lib.hid hA
  have HR := Lib.hid hR
  have HG := Lib.hid g
  clear hn hA hR g
  go_enter Try.func35, Try.ntmps35
  go_upto_region 1 with (fail)
  obtain ⟨wa, hwa⟩ : ∃ wa, (w.alloc (.cells #[.pointer (some a)] 26)).alloc (.cells #[.pointer none] 26) = wa := ⟨_, rfl⟩
  have x2 : Boxed wa w.heap.size 26 (.pointer (some a)) := hwa ▸ bx_next (Boxed.new w _ _) (Below.alloc1 _ _)
  have x4 : Boxed wa (w.heap.size + 1) 26 (.pointer none) := by
    have := Boxed.new (w.alloc (.cells #[.pointer (some a)] 26)) 26 (.pointer none)
    rw [World.size_alloc] at this; exact hwa ▸ this
  have hBa : Below w.heap.size w wa := hwa ▸ Below.alloc2 w _ _
  have qa := h.below hBa
  rw [hwa]
  clear hwa h
  have c2 := x2.cell
  go_wp2_with (fail)
  go_loopw [18] (fun i W => ∃ (j : Nat) (q : Option Addr) (M : List (Int × Int)), j ≤ n ∧ i = .int .i64 j ∧ Boxed W w.heap.size 26 (.pointer q) ∧ Boxed W (w.heap.size + 1) 26 (.pointer none) ∧ Rep W q M ∧ Hid (Good M) ∧ Hid (applyR M (l.drop j) = R) ∧ Below w.heap.size w W) (fun i _ => n - (intOf i).toNat)
  case atStart => exact ⟨0, some a, L, Nat.zero_le _, rfl, x2, x4, qa, HG, HR, hBa⟩
  case round =>
    obtain ⟨j, q, M, hj, rfl, y2, y4, hq, gM, hF, hB⟩ := hrel
    clear c2
    by_cases hlt : j < n
    · have k1 : (j : Int) < (n : Int) := by omega
      have hjl : j < l.length := by rw [HN.out]; exact hlt
      obtain ⟨b, rfl⟩ := HA.out.some_ hjl
      obtain ⟨hab, g0, g1, g2, g3⟩ := (HA.out.below hB).at_ hjl
      have hst := applyR_step (L := M) hjl
      rw [hF.out] at hst
      generalize l[j] = X at *
      have HST := Lib.hid hst
      clear hst
      go_upto_region 6 with (fail)
      generalize hwb : World.alloc wr _ = wb
      have xb : BoxCh wb wr.heap.size X := hwb ▸ BoxCh.new wr X
      have db : Below wr.heap.size wr wb := hwb ▸ Below.alloc1 wr _
      have z2 := bx_next y2 db
      have z4 := bx_next y4 db
      have qb := hq.below db
      have Bb := Below.next hB db
      clear hwb db y2 y4 hq hB g0 g1 g2 g3
      have c2 := z2.cell
      have d0 := xb.c0
      have d1 := xb.c1
      have d2 := xb.c2
      have d3 := xb.c3
      obtain ⟨bad, hbad⟩ : ∃ bad : Bool, decide (X.lo < 0 ∨ X.hi ≤ X.lo ∨ Tr.total M < X.hi) = bad := ⟨_, rfl⟩
      have HBAD := Lib.hid hbad
      have hsz : ∀ W, Below wb.heap.size wb W → Calls Try.prog 26 #[.agg #[.pointer q]] W fun e w' => e = .returned (.int .i64 (Tr.total M)) ∧ Below W.heap.size W w' := fun W hW => size_any W q M (qb.below hW)
      have HSZ := Lib.hid hsz
      clear hbad hsz
      go_cut [22] from 19 to 88 (fun v wx => v = .bool bad ∧ Below wb.heap.size wb wx)
      case first =>
        by_cases e1 : X.lo < 0
        · have hb : bad = true := by rw [← HBAD.out]; exact decide_eq_true (.inl e1)
          have HB := Lib.hid hb
          clear hb
          go_quiet (fail)
          go_wp2_with (fail)
          go_meet
          exact ⟨by rw [HB.out], Quiet.below ⟨_, rfl⟩ _⟩
        · have e1' : decide (X.lo < 0) = false := by simpa using e1
          by_cases e2 : X.hi ≤ X.lo
          · have hb : bad = true := by rw [← HBAD.out]; exact decide_eq_true (.inr (.inl e2))
            have HB := Lib.hid hb
            have e2' : decide (X.lo ≥ X.hi) = true := by simpa using e2
            clear hb
            go_quiet (fail)
            go_wp2_with (fail)
            go_meet
            exact ⟨by rw [HB.out], Quiet.below ⟨_, rfl⟩ _⟩
          · have e2' : decide (X.lo ≥ X.hi) = false := by simpa using e2
            have hb : bad = decide (Tr.total M < X.hi) := by
              rw [← HBAD.out]
              by_cases e3 : Tr.total M < X.hi
              · rw [decide_eq_true e3]; exact decide_eq_true (.inr (.inr e3))
              · rw [decide_eq_false e3]; exact decide_eq_false (by omega)
            have HB := Lib.hid hb
            clear hb
            generalize Tr.total M = TM at *
            go_region_with ((go_at_call 26; refine (HSZ.out _ (Quiet.below ⟨1, rfl⟩ _)).mono ?_; rintro e w6 ⟨rfl, b6'⟩; have b6 : Below wb.heap.size wb w6 := Below.of_drew b6'; have t7 := xb.next b6; have d0' := t7.c0; have d1' := t7.c1; have c2' := (bx_next z2 b6).cell))
            all_goals
              go_wp2_with (fail)
              go_meet
              exact ⟨by rw [HB.out], b6⟩
      case rest =>
        obtain ⟨rfl, Bx⟩ := hcut
        have s2 := bx_next z2 Bx
        have s4 := bx_next z4 Bx
        have sx := xb.next Bx
        have sq := qb.below Bx
        have sB := Below.next Bb Bx
        clear Bx z2 z4 xb qb Bb c2 d0 d1 d2 d3 HSZ
        have c2 := s2.cell
        have f2 := s2.frozen
        have c4 := s4.cell
        have f4 := s4.frozen
        have d0 := sx.c0
        have d1 := sx.c1
        have d2 := sx.c2
        have d3 := sx.c3
        have l4 := s4.lt
        have l2 := s2.lt
        by_cases e1 : X.lo < 0 ∨ X.hi ≤ X.lo ∨ Tr.total M < X.hi
        · obtain rfl : bad = true := by rw [← HBAD.out]; exact decide_eq_true e1
          have hch : chR M X = (3, []) := by unfold chR; rw [if_pos e1]
          have hre : R = (3, []) := by have := HST.out; rw [hch, if_neg (by decide)] at this; exact this
          have HRE := Lib.hid hre
          clear hch hre
          clear e1
          go_wp2_with (fail)
          exact bodyPost_ret (v := .tuple #[.agg #[.pointer none], .int .i64 3]) (by simp [results, Try.results35, go_sem, (s4.set (.pointer none)).cell]) rfl (by rw [HRE.out]; exact ⟨none, rfl, Rep.none _, sB.setCell (p := ⟨w.heap.size + 1, 0, none⟩) (show w.heap.size ≤ w.heap.size + 1 by omega) _⟩)
        · obtain rfl : bad = false := by rw [← HBAD.out]; exact decide_eq_false e1
          have r0 : 0 ≤ X.lo ∧ X.lo ≤ X.hi ∧ X.hi ≤ Tr.total M := by omega
          have tM := gM.out.2.2.2.1
          have HE1 := Lib.hid e1
          clear e1
          by_cases e2 : X.frm < 0 ∨ 16 ≤ X.frm
          · have HE2 := Lib.hid e2
            have hch : chR M X = (2, []) := by unfold chR; rw [if_neg HE1.out, if_pos (.inl e2)]
            have hre : R = (2, []) := by have := HST.out; rw [hch, if_neg (by decide)] at this; exact this
            have HRE := Lib.hid hre
            clear hch hre
            clear e2
            go_wp2_with (fail)
            go_at_call 52
            refine (isTag_no X.frm _ HE2.out).mono ?_
            rintro e w' ⟨rfl, rfl⟩
            go_wp2_with (fail)
            exact bodyPost_ret (v := .tuple #[.agg #[.pointer none], .int .i64 2]) (by simp [results, Try.results35, go_sem, (s4.set (.pointer none)).cell]) rfl (by rw [HRE.out]; exact ⟨none, rfl, Rep.none _, sB.setCell (p := ⟨w.heap.size + 1, 0, none⟩) (show w.heap.size ≤ w.heap.size + 1 by omega) _⟩)
          · have HE2 : Hid (0 ≤ X.frm ∧ X.frm < 16) := Lib.hid (by omega)
            by_cases e3 : X.to < 0 ∨ 16 ≤ X.to
            · have HE3 := Lib.hid e3
              have hch : chR M X = (2, []) := by unfold chR; rw [if_neg HE1.out, if_pos (.inr e3)]
              have hre : R = (2, []) := by have := HST.out; rw [hch, if_neg (by decide)] at this; exact this
              have HRE := Lib.hid hre
              clear hch hre
              clear e3 e2
              go_wp2_with (fail)
              go_at_call 52
              refine (isTag_yes X.frm _ HE2.out).mono ?_
              rintro e w' ⟨rfl, rfl⟩
              go_wp2_with (fail)
              go_at_call 52
              refine (isTag_no X.to _ HE3.out).mono ?_
              rintro e w' ⟨rfl, rfl⟩
              go_wp2_with (fail)
              exact bodyPost_ret (v := .tuple #[.agg #[.pointer none], .int .i64 2]) (by simp [results, Try.results35, go_sem, (s4.set (.pointer none)).cell]) rfl (by rw [HRE.out]; exact ⟨none, rfl, Rep.none _, sB.setCell (p := ⟨w.heap.size + 1, 0, none⟩) (show w.heap.size ≤ w.heap.size + 1 by omega) _⟩)
            · have HE3 : Hid (0 ≤ X.to ∧ X.to < 16) := Lib.hid (by omega)
              have HE4 : Hid (¬ ((X.frm < 0 ∨ 16 ≤ X.frm) ∨ (X.to < 0 ∨ 16 ≤ X.to))) := Lib.hid (by omega)
              have hco := count_any wc q M X.lo X.hi X.frm sq
              rw [count_clip gM.out r0.1 r0.2.1 r0.2.2 HE2.out.1 HE2.out.2] at hco
              obtain ⟨T, hT⟩ : ∃ T, Tr.totalOf X.frm (segs (clipL X.lo X.hi 0 M)) = T := ⟨_, rfl⟩
              rw [hT] at hco
              have HCO := Lib.hid hco
              have HT := Lib.hid hT
              have i1 : IntKind.i64.wrap (X.hi - X.lo) = X.hi - X.lo := IntWalk.i64_in _ (by omega)
              clear hco hT e2 e3
              go_wp2_with (fail)
              go_at_call 52
              refine (isTag_yes X.frm _ HE2.out).mono ?_
              rintro e w' ⟨rfl, rfl⟩
              go_wp2_with (fail)
              go_at_call 52
              refine (isTag_yes X.to _ HE3.out).mono ?_
              rintro e w' ⟨rfl, rfl⟩
              go_wp2_with (fail)
              go_at_call 28
              refine HCO.out.mono ?_
              rintro e w7 ⟨rfl, b7⟩
              have u2 := bx_next s2 b7
              have u4 := bx_next s4 b7
              have ux := sx.next b7
              have uq := sq.below b7
              have uB := Below.next sB b7
              clear b7 s2 s4 sx sq sB c2 f2 c4 f4 d0 d1 d2 d3 l4 l2
              have c2 := u2.cell
              have f2 := u2.frozen
              have c4 := u4.cell
              have f4 := u4.frozen
              have d0 := ux.c0
              have d1 := ux.c1
              have d2 := ux.c2
              have d3 := ux.c3
              have l4 := u4.lt
              have l2 := u2.lt
              by_cases e4 : T = X.hi - X.lo
              · have e4' : (T != (X.hi - X.lo)) = false := by simpa using e4
                have HE5 := Lib.hid e4
                have hse := set_any w7 q M X.lo X.hi X.to uq
                unfold SetPost at hse
                obtain ⟨E, N, hEN⟩ : ∃ E N, setR M X.lo X.hi X.to = (E, N) := ⟨_, _, rfl⟩
                rw [hEN] at hse
                have hch : chR M X = (E, N) := by unfold chR; rw [if_neg HE1.out, if_neg HE4.out, if_neg (by rw [HT.out]; exact fun h => h HE5.out), hEN]
                have hst := HST.out
                rw [hch] at hst
                have hgd := chR_good gM.out X
                rw [hch] at hgd
                have HST := Lib.hid hst
                have HGD := Lib.hid hgd
                have HSE := Lib.hid hse
                clear hse hEN hch hst hgd e4
                go_wp2_with (fail)
                go_at_call 25
                refine HSE.out.mono ?_
                rintro e w8 ⟨p8, rfl, hp8, b8⟩
                have v2 := bx_next u2 b8
                have v4 := bx_next u4 b8
                have vB := Below.next uB b8
                clear b8 u2 u4 ux uq uB c2 f2 c4 f4 d0 d1 d2 d3 l4 l2
                go_upto_region 14 with (fail)
                generalize hw9 : World.alloc w8 _ = w9
                have d9 : Below w8.heap.size w8 w9 := hw9 ▸ Below.alloc1 w8 _
                have t10 : Boxed w9 w8.heap.size 26 (.pointer p8) := hw9 ▸ Boxed.new w8 _ _
                have t2 := bx_next v2 d9
                have t4 := bx_next v4 d9
                have tB := Below.next vB d9
                have tq := hp8.below d9
                have v2l := v2.lt
                clear hw9 d9 v2 v4 vB hp8
                have c2 := t2.cell
                have f2 := t2.frozen
                have c4 := t4.cell
                have f4 := t4.frozen
                have c10 := t10.cell
                have l4 := t4.lt
                have l2 := t2.lt
                by_cases e5 : E = 0
                · subst e5
                  have gN : Good N := by
                    rcases HGD.out with ⟨h, _⟩ | ⟨_, h, _⟩
                    · exact (h rfl).elim
                    · exact h
                  have hst := HST.out
                  rw [if_pos rfl] at hst
                  have HS2 := Lib.hid hst.symm
                  have GN := Lib.hid gN
                  clear hst gN
                  go_wp2_with (fail)
                  go_roundw
                  case rel => first | exact ⟨j + 1, p8, N, by omega, by go_num, t2.set _, boxed_far t4 (by omega), tq.set_ ⟨_, _, _, t2, by decide⟩ _ _ _, GN, HS2, tB.setCell (p := ⟨w.heap.size, 0, none⟩) (Nat.le_refl _) _⟩ | ((repeat apply Exists.intro); exact ⟨⟨j + 1, p8, N, by omega, by go_num, t2.set _, boxed_far t4 (by omega), tq.set_ ⟨_, _, _, t2, by decide⟩ _ _ _, GN, HS2, tB.setCell (p := ⟨w.heap.size, 0, none⟩) (Nat.le_refl _) _⟩, rfl⟩)
                  case measure => simp [intOf]; omega
                · have e5' : (E != 0) = true := by simpa using e5
                  have hre : R = (E, []) := by have := HST.out; rw [if_neg e5] at this; exact this
                  have HRE := Lib.hid hre
                  clear hre e5
                  go_wp2_with (fail)
                  exact bodyPost_ret (v := .tuple #[.agg #[.pointer none], .int .i64 E]) (by simp [results, Try.results35, go_sem, (t4.set (.pointer none)).cell]) rfl (by rw [HRE.out]; exact ⟨none, rfl, Rep.none _, tB.setCell (p := ⟨w.heap.size + 1, 0, none⟩) (show w.heap.size ≤ w.heap.size + 1 by omega) _⟩)
              · have e4' : (T != (X.hi - X.lo)) = true := by simpa using e4
                have hch : chR M X = (30, []) := by unfold chR; rw [if_neg HE1.out, if_neg HE4.out, if_pos (by rw [HT.out]; exact e4)]
                have hre : R = (30, []) := by have := HST.out; rw [hch, if_neg (by decide)] at this; exact this
                have HRE := Lib.hid hre
                clear hch hre
                clear e4
                go_wp2_with (fail)
                exact bodyPost_ret (v := .tuple #[.agg #[.pointer none], .int .i64 30]) (by simp [results, Try.results35, go_sem, (u4.set (.pointer none)).cell]) rfl (by rw [HRE.out]; exact ⟨none, rfl, Rep.none _, uB.setCell (p := ⟨w.heap.size + 1, 0, none⟩) (show w.heap.size ≤ w.heap.size + 1 by omega) _⟩)
    · obtain rfl : j = n := by omega
      have hf := hF.out
      rw [List.drop_eq_nil_of_le (by rw [HN.out]; exact Nat.le_refl _)] at hf
      simp only [applyR] at hf
      have HF := Lib.hid hf
      clear hf hF
      have c2 := y2.cell
      have c4 := y4.cell
      have f4 := y4.frozen
      have l4 := y4.lt
      go_wp2_with (fail)
      exact bodyPost_ret (v := .tuple #[.agg #[.pointer q], .int .i64 0]) (by simp [results, Try.results35, go_sem, (y4.set (.pointer q)).cell]) rfl (by rw [← HF.out]; exact ⟨q, rfl, hq.set_ ⟨_, _, _, y4, by decide⟩ _ _ _, hB.setCell (p := ⟨w.heap.size + 1, 0, none⟩) (show w.heap.size ≤ w.heap.size + 1 by omega) _⟩)
theorem apply_any (w : World) (p : Option Addr) (A : Option Addr) (l : List Ch) (c : Nat) (L : List (Int × Int)) (hL : L = [] ∨ Good L) (h : Rep w p L) (hA : Chs w A l) (hnc : l.length ≤ c) (hm : (l.length : Int) ≤ 1000000) :
    Calls Try.prog 35 #[.agg #[.pointer p], .slice A l.length c] w (ApplyPost w (applyTop L l)) := by
  unfold applyTop
  rcases hL with rfl | g
  · rw [if_pos rfl]
    obtain rfl := (h.nil_iff).2 rfl
    exact apply_nil w A _ c
  · rw [if_neg g.1]
    cases p with
    | none => exact (g.1 (h.nil_iff.1 rfl)).elim
    | some a => exact apply_some w a A l _ c L g h rfl hA hnc hm _ rfl
end Go.Proofs.Ytfmplibjhohpgaa
