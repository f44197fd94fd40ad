/- The journal layer: the walk over Append. -/
import Derived.Test.YtkljfampkkfgdaaJAppend
namespace Go.Proofs.Ytkljfampkkfgdaa
open Go.RowKit
section
variable {W W' : World} {jb dk : Nat} {v : Value} {J : Jn} {G F : Nat → Prop} {D : Dk}
/-- A record has come to a journal's records. -/
theorem JB.append {wa w4 : World} {v' : Value} {l : List Bs} (h : JB W jb dk v J) (b : Below W.heap.size W wa) (hb : ButS (fun i => v.ownBlock = some i) wa w4) (hO : OwnStrs w4 0 v' l) (hON : OldNew wa v v') :
    JB (w4.setCell ⟨jb, 6, none⟩ v') jb dk v' { J with recs := l } := by
  have hl := h.lt jb (.inl rfl)
  have e : w4.heap[jb]? = W.heap[jb]? := (hb.block jb (Nat.lt_of_lt_of_le hl b.size) fun e => h.far jb e rfl).trans (b.block jb hl)
  have hf : ∀ g, v'.ownBlock = some g → g ≠ jb := fun g hg => by
    rcases hON with q | q
    · exact h.far g (q ▸ hg)
    · have := q g hg; have := b.size; omega
  refine ⟨?_, hO.kept fun g hg => Below.heap_setCell _ _ _ _ (hf g hg), hf⟩
  have := e.trans h.head
  simp [World.setCell, Array.getElem?_modify, this]
theorem cellS0 (w : World) (x : Bs) : (w.alloc (.cells #[.string ⟨x.toArray⟩] 9)).cell? ⟨w.heap.size, 0, none⟩ = some (.string ⟨x.toArray⟩) := (cell_of_row _ _ 0 _ _ _ (heap_alloc_new w _)).trans rfl
theorem JB.cells {w4 : World} (_h : JB W jb dk v J) {p : Nat} {u : Value} (hc : W.cell? ⟨jb, p, none⟩ = some u) (e : w4.heap[jb]? = W.heap[jb]?) : w4.cell? ⟨jb, p, none⟩ = some u := (World.cell?_of_block (a := ⟨jb, p, none⟩) e).trans hc
set_option maxRecDepth 100000 in
set_option maxHeartbeats 4000000 in
theorem append_all (hd : DiskAt W dk D F) (hj : JAt W jb dk J G) (hdis : ∀ i, F i → ¬ G i) (h8 : 8 ≤ D.sec.length) (s : Bs) (hfew : Few 50000 D) (hreg : 0 ≤ J.reg ∧ J.reg ≤ 1) (hep : 0 ≤ J.ep ∧ J.ep < 4611686018427387904) (hrl : J.recs.length ≤ 900000) (hul : J.used ≤ 900000) :
    Calls Try.prog 16 #[.pointer (some ⟨jb, 0, none⟩), .string ⟨s.toArray⟩] W fun e w' => e = .returned (.int .i64 (appendM D J s).1) ∧ Mj W F G dk jb w' (appendM D J s).2.1 (appendM D J s).2.2 := by
  have hre := jready_any hj hd
  have how := fun w (J' : Jn) (h : JAt w jb dk J' G) (b : ButS (fun i => i = jb) W w) => Mj.own hd h hdis b
  obtain ⟨R, hR⟩ : ∃ R, appendM D J s = R := ⟨_, rfl⟩
  rw [hR]
  unfold appendM at hR
  by_cases h0 : (jreadyM D J).1 ≠ 0
  · rw [if_pos h0] at hR
    obtain ⟨er, J', hq⟩ : ∃ er J', jreadyM D J = (er, J') := ⟨_, _, rfl⟩
    rw [hq] at hre h0 hR
    simp only at hre h0 hR
    have b0 : (er != 0) = true := by simpa using h0
    have HRE := Lib.hid hre
    have HOW := Lib.hid how
    have HR := Lib.hid hR
    clear hre how hd hj hdis hR h0 hq
    go_enter Try.func16, Try.ntmps16
    go_wp2_with (go_at_call 46; refine HRE.out.mono ?_; rintro x w1 ⟨rfl, hj1, hb1⟩)
    go_ret
    rw [← HR.out]
    exact ⟨rfl, HOW.out _ _ hj1 hb1⟩
  · rw [if_neg h0] at hR
    have h1 : (jreadyM D J).1 = 0 := Classical.not_not.1 h0
    rw [h1, jready_ok h1] at hre
    have HRE := Lib.hid hre
    have HOW := Lib.hid how
    clear hre how h0 h1
    by_cases h2 : 1024 < s.length
    · rw [if_pos h2] at hR
      have t2 : (s.length : Int) > 1024 := by omega
      have HR := Lib.hid hR
      clear hd hj hdis hR h2
      go_enter Try.func16, Try.ntmps16
      go_wp2_with (go_at_call 46; refine HRE.out.mono ?_; rintro x w1 ⟨rfl, hj1, hb1⟩)
      go_ret
      rw [← HR.out]
      exact ⟨rfl, HOW.out _ _ hj1 hb1⟩
    · rw [if_neg h2] at hR
      have t2 : ¬ (s.length : Int) > 1024 := by omega
      have hs : s.length ≤ 1000000 := by omega
      have hun := fun W => units_any s W hs
      have hrm := fun w (hj : JAt w jb dk J G) (hd : DiskAt w dk D F) => jroom_any hj hd h8 (by omega)
      have hfi := fun w (hd : DiskAt w dk D F) => first_any hd h8 J.reg hreg.1 hreg.2
      have hbe := baseM_eq D.sec.length hreg.1
      have hfit := fit_base (N := D.sec.length) hreg (by omega)
      rw [hbe] at hfi
      have hN := hd.ok.few
      have hcpl : capM D.sec.length ≤ 2047 := by unfold capM; omega
      have hst := fun w (hd : DiskAt w dk D F) (hu : J.used ≤ capM D.sec.length) => store_any hd ((baseM D.sec.length J.reg + J.used : Nat) : Int) J.ep (J.recs.length + 1) s hep.1 (by omega) (by omega) (by omega) (by omega) (by omega) (hfew.mono (by omega))
      have hup := unitsM_pos s.length
      have hul2 : unitsM s.length ≤ 30 := by unfold unitsM; omega
      generalize capM D.sec.length = C at *
      generalize unitsM s.length = us at *
      generalize baseM D.sec.length J.reg = base at *
      have HUN := Lib.hid hun
      have HRM := Lib.hid hrm
      have HFI := Lib.hid hfi
      have HD := Lib.hid hd
      have HDIS := Lib.hid hdis
      have HJ := Lib.hid hj
      by_cases h3 : C < J.used + us
      · rw [if_pos h3] at hR
        have t3 : (us : Int) > (C : Int) - (J.used : Int) := by omega
        have HR := Lib.hid hR
        clear hd hj hdis hR h3 hun hrm hfi hbe hst
        go_enter Try.func16, Try.ntmps16
        go_upto_region 6 with (go_at_call 46; refine HRE.out.mono ?_; rintro x w1 ⟨rfl, hj1, hb1⟩)
        have HOW1 := Lib.hid (HOW.out _ _ hj1 hb1)
        have HR1 := Lib.hid (HRM.out w1 hj1 (HD.out.but hb1 fun i hi e => HDIS.out i hi (e ▸ HJ.out.self)))
        clear hj1 hb1
        go_wp2_with (first
          | (go_at_call 47; refine (HUN.out _).mono ?_; rintro x w2 ⟨rfl, hw2⟩; obtain rfl := hw2.symm)
          | (go_at_call 13; refine HR1.out.mono ?_; rintro x w3 ⟨rfl, b3⟩))
        go_ret
        rw [← HR.out]
        exact ⟨rfl, HOW1.out.next b3⟩
      · rw [if_neg h3] at hR
        have t3 : ¬ (us : Int) > (C : Int) - (J.used : Int) := by omega
        have hst2 := fun w hd => hst w hd (by omega)
        have hsl := storeM_length D ((base + J.used : Nat) : Int) J.ep ((J.recs.length + 1 : Nat) : Int) s
        obtain ⟨er, E, hX⟩ : ∃ er E, storeM D ((base + J.used : Nat) : Int) J.ep ((J.recs.length + 1 : Nat) : Int) s = (er, E) := ⟨_, _, rfl⟩
        rw [hX] at hR hst2
        simp only at hR hst2
        have HR := Lib.hid hR
        have HST := Lib.hid hst2
        have m1 : IntKind.i64.wrap ((base : Int) + (J.used : Int)) = ((base + J.used : Nat) : Int) := by rw [IntWalk.i64_in _ (by omega)]; omega
        have m2 : IntKind.i64.wrap ((J.recs.length : Int) + 1) = ((J.recs.length + 1 : Nat) : Int) := by rw [IntWalk.i64_in _ (by omega)]; omega
        have m3 : IntKind.i64.wrap ((J.used : Int) + (us : Int)) = ((J.used + us : Nat) : Int) := by rw [IntWalk.i64_in _ (by omega)]; omega
        clear hd hj hdis hR h3 hun hrm hfi hbe hst hst2 hX hsl
        go_enter Try.func16, Try.ntmps16
        go_upto_region 6 with (go_at_call 46; refine HRE.out.mono ?_; rintro x w1 ⟨rfl, hj1, hb1⟩)
        have hd1 := HD.out.but hb1 fun i hi e => HDIS.out i hi (e ▸ HJ.out.self)
        have HR1 := Lib.hid (HRM.out w1 hj1 hd1)
        go_upto_region 8 with (first
          | (go_at_call 47; refine (HUN.out _).mono ?_; rintro x w2 ⟨rfl, hw2⟩; obtain rfl := hw2.symm)
          | (go_at_call 13; refine HR1.out.mono ?_; rintro x w3 ⟨rfl, b3⟩))
        have hb3 := hb1.next b3
        have hd3 := hd1.next b3
        obtain ⟨v, hjb, rfl⟩ := hj1.next b3
        have hcl : ∀ i, F i → i ≠ jb := fun i hi e => HDIS.out i hi (e ▸ .inl rfl)
        obtain ⟨A, c, rfl, -, -⟩ := hjb.own.slice
        have c0 := hjb.c0
        have c3 := hjb.c3
        have c4 := hjb.c4
        have c6 := hjb.c6
        have c8 := hjb.c8
        have hjF : ¬ F jb := fun h => hcl jb h rfl
        have HSTO := Lib.hid (HST.out _ (hd3.next (Below.drawn w3 1 _)))
        have HFI1 := Lib.hid (HFI.out _ (hd3.next (Below.drawn w3 1 _)))
        have HJB := Lib.hid hjb
        have HB3 := Lib.hid hb3
        clear hd1 hj1 hb1 hd3 hjb hb3
        go_region_held3 (fun w => w.cell? ⟨jb, 0, none⟩ = some (.pointer (some ⟨dk, 0, none⟩)) ∧ w.cell? ⟨jb, 3, none⟩ = some (.int .i64 J.ep) ∧ w.cell? ⟨jb, 4, none⟩ = some (.int .i64 J.reg) ∧ w.cell? ⟨jb, 6, none⟩ = some (.slice A J.recs.length c) ∧ w.cell? ⟨jb, 8, none⟩ = some (.int .i64 (J.used : Nat)))
          (first | exact ⟨c0, c3, c4, c6, c8⟩ | exact hcs) (first
          | (go_at_call 49; refine HFI1.out.mono ?_; rintro x w4 ⟨rfl, hw4⟩; obtain rfl := hw4.symm)
          | (go_at_call 48; refine HSTO.out.mono ?_; rintro x w5 ⟨rfl, mv5⟩
             have hcs := And.intro (mv5.cell (p := ⟨jb, 0, none⟩) c0 hjF) (And.intro (mv5.cell (p := ⟨jb, 3, none⟩) c3 hjF) (And.intro (mv5.cell (p := ⟨jb, 4, none⟩) c4 hjF) (And.intro (mv5.cell (p := ⟨jb, 6, none⟩) c6 hjF) (mv5.cell (p := ⟨jb, 8, none⟩) c8 hjF))))))
        all_goals
          clear hcs
          have hjd := HJB.out.next (Below.drawn w3 1 _)
          have hbd : ButS (fun i => F i ∨ Fj jb (.slice A J.recs.length c) i) W w3.drew := (HB3.out.next (Below.drawn w3 1 _)).mono fun i _ e => .inr (.inl e)
          have HM5 := Lib.hid ((mv5.mj ⟨_, hjd, rfl⟩ HDIS.out).after hbd)
          by_cases he : er = 0
          · have he2 : (er != 0) = false := by simpa using he
            obtain ⟨F', hd5, hb5, hf5⟩ := mv5
            have hj5 := hjd.butS hb5 HDIS.out
            have hdis5 : ∀ i, F' i → ¬ Fj jb (.slice A J.recs.length c) i := fun i hi hg => (hf5 i hi).elim (fun h => HDIS.out i h hg) fun h => by have := hjd.lt i hg; omega
            have c6' := hj5.c6
            have HJ5 := Lib.hid hj5
            have HD5 := Lib.hid hd5
            have HDIS5 := Lib.hid hdis5
            have HB5 := Lib.hid (hbd.trans hb5 fun i h => .inl (.inl h))
            have HF5 := Lib.hid (show ∀ i, F' i → F i ∨ W.heap.size ≤ i from fun i hi => (hf5 i hi).imp id fun h => Nat.le_trans hbd.size h)
            clear hd5 hb5 hf5 hj5 hdis5 hjd hbd c0 c3 c4 c6 c8
            go_upto_region 12 with (at_builtin; refine wpList_append_s rfl (.tmp 62) (.tmp 64) rfl (.slice A J.recs.length c) J.recs s w5.heap.size 1 rfl rfl (HJ5.out.own.next (Below.new1 _ _)) (cellS0 w5 s) (by omega) ?_
                                    intro v6 w6 hO6 hB6 hON
                                    have h6e : w6.heap[jb]? = w5.heap[jb]? := (hB6.block jb (Nat.lt_of_lt_of_le (HJ5.out.lt jb (.inl rfl)) (Below.new1 w5 (.cells #[.string ⟨s.toArray⟩] 9)).size) fun e => HJ5.out.far jb e rfl).trans ((Below.new1 w5 (.cells #[.string ⟨s.toArray⟩] 9)).block jb (HJ5.out.lt jb (.inl rfl)))
                                    have k6 := HJ5.out.cells HJ5.out.c6 h6e
                                    have kf : w6.frozen? ⟨jb, 6, none⟩ = false := (World.frozen?_of_block (a := ⟨jb, 6, none⟩) h6e).trans (HJ5.out.f 6)
                                    have hj6 := HJ5.out.append (Below.new1 w5 (.cells #[.string ⟨s.toArray⟩] 9)) hB6 hO6 hON
                                    obtain ⟨A6, cc6, rfl, -, -⟩ := hO6.slice)
            have hm7 : Mj W F (Fj jb (.slice A J.recs.length c)) dk jb (w6.setCell ⟨jb, 6, none⟩ (.slice A6 (J.recs ++ [s]).length cc6)) E { J with recs := J.recs ++ [s] } := by
              have ba := Below.new1 w5 (.cells #[.string ⟨s.toArray⟩] 9)
              have bs := ButS.setCell (F := fun i => i = jb) w6 (p := ⟨jb, 6, none⟩) rfl (.slice A6 (J.recs ++ [s]).length cc6)
              refine ⟨F', _, (((HD5.out.next ba).but hB6 fun i hi hg => HDIS5.out i hi (.inr hg))).but bs fun i hi e => HDIS5.out i hi (.inl e), ⟨_, hj6, rfl⟩, fun i hi hg => ?_, ((HB5.out.next ba).trans hB6 fun i hg => .inl (.inr (.inr hg))).trans bs fun i e => .inl (.inr (.inl e)), HF5.out, fun i hg => ?_⟩
              · rcases hg with rfl | hg
                · exact HDIS5.out _ hi (.inl rfl)
                · rcases hON with q | q
                  · exact HDIS5.out _ hi (.inr (q ▸ hg))
                  · have h1 := q i hg; have h2 := HD5.out.lt i hi; have h3 := ba.size; omega
              · rcases hg with rfl | hg
                · exact .inl (.inl rfl)
                · rcases hON with q | q
                  · exact .inl (.inr (q ▸ hg))
                  · exact .inr (by have h1 := q i hg; have h2 := ba.size; have h3 := HB5.out.size; omega)
            have HM7 := Lib.hid hm7
            have c8' := hj6.c8
            have f8 := hj6.f 8
            have e1 := HR.out
            rw [if_neg (fun h => h he)] at e1
            have HR2 := Lib.hid e1
            clear e1 hm7 hj6 hO6 hB6 hON h6e k6 kf c6' he he2
            have hln : (J.recs ++ [s]).length = J.recs.length + 1 := by simp
            rw [hln] at HM7 c8' f8
            generalize w6.setCell ⟨jb, 6, none⟩ (.slice A6 (J.recs.length + 1) cc6) = w7 at *
            have hm8 : Mj W F (Fj jb (.slice A J.recs.length c)) dk jb (w7.drew.setCell ⟨jb, 8, none⟩ (.int .i64 ((J.used + us : Nat) : Int))) E { J with recs := J.recs ++ [s], used := J.used + us } :=
              (HM7.out.next (Below.drawn w7 1 _)).set (ButS.setCell (F := fun i => i = jb) _ (p := ⟨jb, 8, none⟩) rfl _) fun v h => h.setUsed _
            have HM8 := Lib.hid hm8
            clear hm8
            go_still_tail 9, (by kernel_rfl)
            still_call (HUN.out _)
            repeat still_step
            refine wpStill_nil ?_
            change wpList _ _ _ _ _ w7.drew
            have c9 : w7.drew.cell? ⟨jb, 8, none⟩ = some (.int .i64 (J.used : Nat)) := c8'
            have f9 : w7.drew.frozen? ⟨jb, 8, none⟩ = false := f8
            clear c8' f8 HM7
            generalize w7.drew = w9 at *
            go_wp2_with (fail)
            go_ret
            rw [← HR2.out]
            exact ⟨rfl, HM8.out⟩
          · have he2 : (er != 0) = true := by simpa using he
            have HEN := Lib.hid (jends_mj HM5.out er)
            have e1 := HR.out
            rw [if_pos he] at e1
            have HR2 := Lib.hid e1
            clear e1 mv5 hjd hbd c0 c3 c4 c6 c8
            go_wp2_with (go_at_call 50; refine HEN.out.mono ?_; rintro x w6 ⟨rfl, hm6⟩)
            go_ret
            rw [← HR2.out]
            exact ⟨rfl, hm6⟩
end
end Go.Proofs.Ytkljfampkkfgdaa
