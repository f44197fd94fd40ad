/- The journal layer: the walk over open. -/
import Derived.Test.YtkljfampkkfgdaaJAppW
namespace Go.Proofs.Ytkljfampkkfgdaa
open Go.RowKit
/-- A world, with another journal on its disk. -/
def WdJ (W0 W : World) (wb jb : Nat) (X : Wd) (J : Jn) : Prop := ∃ K dk jp rv av cv, WB K W wb dk jp rv av cv X ∧ (∀ i, Old W0 i → K i) ∧ W0.heap.size ≤ wb ∧ Kp (Old W0) W0 W ∧ JD K W dk jb X.D J
section
variable {W0 W w1 : World} {wb jb N n : Nat} {X : Wd} {J : Jn}
theorem WdJ.wd (h : WdJ W0 W wb jb X J) : WdAt W0 W wb X := by
  obtain ⟨K, dk, jp, rv, av, cv, hw, h1, h2, h3, h4⟩ := h
  exact ⟨K, dk, jp, rv, av, cv, hw, h1, h2, h3⟩
theorem WdJ.next (h : WdJ W0 W wb jb X J) (hB : Below W.heap.size W w1) : WdJ W0 w1 wb jb X J := by
  obtain ⟨K, dk, jp, rv, av, cv, hw, h1, h2, h3, h4⟩ := h
  exact ⟨K, dk, jp, rv, av, cv, hw.next hB, h1, h2, h3.next hB, h4.next hB⟩
theorem WdJ.setBroken (h : WdJ W0 W wb jb X J) (b : Bool) : WdJ W0 (W.setCell ⟨wb, 11, none⟩ (.bool b)) wb jb { X with broken := b } J := by
  obtain ⟨K, dk, jp, rv, av, cv, hw, h1, h2, h3, h4⟩ := h
  exact ⟨K, dk, jp, rv, av, cv, hw.setCell 11 _ rfl hw.rR hw.rA hw.rC hw.dj, h1, h2, h3.trans ((ButS.setCell (F := fun i => i = wb) W (p := ⟨wb, 11, none⟩) rfl _).mono fun i hi e hn => by have := h2; simp only [Old] at hn; omega), h4.keep ((ButS.setCell (F := fun i => i = wb) W (p := ⟨wb, 11, none⟩) rfl _).mono fun i _ e => e ▸ hw.kw)⟩
/-- The other journal is the world's from now on. -/
theorem WdJ.take (h : WdJ W0 W wb jb X J) : WdAt W0 (W.setCell ⟨wb, 1, none⟩ (.pointer (some ⟨jb, 0, none⟩))) wb { X with J := some J } := by
  obtain ⟨K, dk, jp, rv, av, cv, hw, h1, h2, h3, h4⟩ := h
  exact ⟨K, dk, _, rv, av, cv, hw.setCell (X' := { X with J := some J }) 1 _ rfl hw.rR hw.rA hw.rC ⟨jb, rfl, h4⟩, h1, h2, h3.trans ((ButS.setCell (F := fun i => i = wb) W (p := ⟨wb, 1, none⟩) rfl _).mono fun i hi e hn => by have := h2; simp only [Old] at hn; omega)⟩
theorem WdJ.asks (h : WdJ W0 W wb jb X J) (b : JBd J) : (Calls Try.prog 19 #[.pointer (some ⟨jb, 0, none⟩)] W fun e w' => e = .returned (.int .i64 (J.dur : Nat)) ∧ w' = W)
    ∧ (Calls Try.prog 31 #[.pointer (some ⟨jb, 0, none⟩)] W fun e w' => e = .returned (.string ⟨J.st.toArray⟩) ∧ w' = W)
    ∧ (Calls Try.prog 15 #[.pointer (some ⟨jb, 0, none⟩)] W fun e w' => ∃ v, e = .returned v ∧ OwnStrs w' W.heap.size v J.recs ∧ Below W.heap.size W w') := by
  obtain ⟨K, dk, jp, rv, av, cv, hw, h1, h2, h3, h4⟩ := h
  exact ⟨durable_jd h4, state_jd h4, records_jd h4 (by have := b.recs; omega)⟩
/-- Open. -/
theorem WdAt.opn (h : WdAt W0 W wb X) (b : Bd X.D) : ∃ p, W.cell? ⟨wb, 0, none⟩ = some p ∧
    (∀ er D', openM X.D = (er, D', none) → Calls Try.prog 21 #[p] W fun e w' => e = .returned (.tuple #[.pointer none, .int .i64 er]) ∧ WdAt W0 w' wb { X with D := D' }) ∧
    (∀ er D' J, openM X.D = (er, D', some J) → Calls Try.prog 21 #[p] W fun e w' => ∃ jb, e = .returned (.tuple #[.pointer (some ⟨jb, 0, none⟩), .int .i64 er]) ∧ WdJ W0 w' wb jb { X with D := D' } J) := by
  obtain ⟨K, dk, jp, rv, av, cv, hw, h1, h2, h3⟩ := h
  have ho := open_dj hw.dj b
  refine ⟨_, hw.c0, fun er D' q => ?_, fun er D' J q => ?_⟩
  · rw [q] at ho
    refine ho.mono ?_
    rintro e w' ⟨⟨q1, q2, q3⟩, q4⟩
    exact ⟨q3, K, dk, jp, rv, av, cv, hw.call q4 q1, h1, h2, h3.trans (q1.mono h1)⟩
  · rw [q] at ho
    refine ho.mono ?_
    rintro e w' ⟨⟨q1, q2, jb, q3, q5⟩, q4⟩
    exact ⟨jb, q3, K, dk, jp, rv, av, cv, hw.call q4 q1, h1, h2, h3.trans (q1.mono h1), q5⟩
set_option maxRecDepth 100000 in
set_option maxHeartbeats 1000000 in
/-- The disk is off, or the power is lost. -/
theorem open_off (h : WdAt W0 W wb X) (b : Bd X.D) (D' : Dk) (ho : openM X.D = (70, D', none)) (hD : D'.off = true) (hf : X.D.off = true ∨ X.fused = true) :
    Calls Try.prog 66 #[.pointer (some ⟨wb, 0, none⟩)] W fun e w' => e = .returned (.bool true) ∧ WdAt W0 w' wb { X with D := D', broken := true } := by
  obtain ⟨p, k0, hop, -⟩ := h.opn b
  obtain ⟨p', k0', hoff, -⟩ := h.dk
  rw [k0] at k0'
  cases k0'
  have hop2 := hop _ _ ho
  have hfe : X.fused = true → ∀ w, WdAt W0 w wb { X with D := D', broken := true } → Calls Try.prog 67 #[.pointer (some ⟨wb, 0, none⟩)] w fun e w' => e = .returned (.bool true) ∧ w' = w := fun hf w h => (fell_any h).mono fun e w' q => ⟨by rw [q.1]; simp only [hf, hD]; rfl, q.2⟩
  have HOF := Lib.hid hoff
  have HOP := Lib.hid hop2
  have HFE := Lib.hid hfe
  clear hop hop2 hfe hoff ho hD b h
  rcases Bool.eq_false_or_eq_true X.D.off with e | e
  · rw [e] at HOF
    clear hf e
    go_enter Try.func66, Try.ntmps66
    go_upto_region 3 with (first
      | (go_at_call 42; refine HOF.out.mono ?_; rintro x w2 ⟨rfl, hw2⟩; obtain rfl := hw2.symm)
      | (go_at_call 21; refine HOP.out.mono ?_; rintro x w3 ⟨rfl, h3⟩))
    have f11 := h3.f 11
    have h4 := h3.setBroken true
    obtain ⟨-, -, -, -, -, -, -, -, -, -, -, -, -, -, -, -, -, -, -, -, -, -, -, k11, -⟩ := h3.rows
    go_wp2_with (fail)
    go_ret
    exact ⟨rfl, h4⟩
  · rw [e] at HOF
    have hf2 : X.fused = true := hf.resolve_left (by rw [e]; decide)
    have HFE2 := Lib.hid (HFE.out hf2)
    clear hf e hf2
    go_enter Try.func66, Try.ntmps66
    go_upto_region 3 with (first
      | (go_at_call 42; refine HOF.out.mono ?_; rintro x w2 ⟨rfl, hw2⟩; obtain rfl := hw2.symm)
      | (go_at_call 21; refine HOP.out.mono ?_; rintro x w3 ⟨rfl, h3⟩))
    have f11 := h3.f 11
    have h4 := h3.setBroken true
    obtain ⟨-, -, -, -, -, -, -, -, -, -, -, -, -, -, -, -, -, -, -, -, -, -, -, k11, -⟩ := h3.rows
    go_wp2_with (first
      | (go_at_call 67; refine (HFE2.out _ h4).mono ?_; rintro x w5 ⟨rfl, hw5⟩; obtain rfl := hw5.symm))
    go_ret
    exact ⟨rfl, h4⟩
set_option maxRecDepth 100000 in
set_option maxHeartbeats 1000000 in
/-- There is no journal. -/
theorem open_bare (h : WdAt W0 W wb X) (b : Bd X.D) (D' : Dk) (ho : openM X.D = (71, D', none)) (hD : X.D.off = false) (hS : X.m.Sure = false) :
    Calls Try.prog 66 #[.pointer (some ⟨wb, 0, none⟩)] W fun e w' => e = .returned (.bool true) ∧ WdAt W0 w' wb { X with D := D', broken := true } := by
  obtain ⟨p, k0, hop, -⟩ := h.opn b
  obtain ⟨p', k0', hoff, -⟩ := h.dk
  rw [k0] at k0'
  cases k0'
  rw [hD] at hoff
  have hop2 := hop _ _ ho
  have HOF := Lib.hid hoff
  have HOP := Lib.hid hop2
  clear hop hop2 hoff ho hD b h
  go_enter Try.func66, Try.ntmps66
  go_upto_region 3 with (first
    | (go_at_call 42; refine HOF.out.mono ?_; rintro x w2 ⟨rfl, hw2⟩; obtain rfl := hw2.symm)
    | (go_at_call 21; refine HOP.out.mono ?_; rintro x w3 ⟨rfl, h3⟩))
  have f11 := h3.f 11
  have h4 := h3.setBroken true
  obtain ⟨-, -, -, -, -, -, -, -, -, -, -, -, -, -, -, -, k5, -, -, -, -, -, -, k11, -⟩ := h3.rows
  simp only [hS] at k5
  clear hS
  go_wp2_with (fail)
  go_ret
  exact ⟨rfl, h4⟩
set_option maxRecDepth 100000 in
set_option maxHeartbeats 4000000 in
/-- A journal is found. -/
theorem open_found (h : WdAt W0 W wb X) (b : Bd X.D) (D' : Dk) (ho : openM X.D = (0, D', some J)) (hD : X.D.off = false) (hD' : D'.off = false) (hal : allowsM X.m J.st J.recs = true) (hdu : J.dur = J.recs.length) (bj : JBd J) (hl : J.recs.length ≤ 100) (hsz : X.m.R.length ≤ 200 ∧ X.m.A.length ≤ 200) :
    Calls Try.prog 66 #[.pointer (some ⟨wb, 0, none⟩)] W fun e w' => e = .returned (.bool true) ∧ WdAt W0 w' wb { X with D := D', J := some J, m := openedM J.st J.recs, has := true, broken := false, st := J.st, recs := J.recs, sure := J.recs.length } := by
  obtain ⟨p, k0, -, hop⟩ := h.opn b
  obtain ⟨p', k0', hoff, -⟩ := h.dk
  rw [k0] at k0'
  cases k0'
  rw [hD] at hoff
  have hop2 := hop _ _ _ ho
  have HOF := Lib.hid hoff
  have HOP := Lib.hid hop2
  have HBJ := Lib.hid bj
  have HAL := Lib.hid hal
  have HDU := Lib.hid hdu
  have HL := Lib.hid hl
  have HSZ := Lib.hid hsz
  have HD' := Lib.hid hD'
  clear hop hop2 hoff ho hD b h bj hal hdu hl hsz hD'
  go_enter Try.func66, Try.ntmps66
  go_upto_region 3 with (first
    | (go_at_call 42; refine HOF.out.mono ?_; rintro x w2 ⟨rfl, hw2⟩; obtain rfl := hw2.symm)
    | (go_at_call 21; refine HOP.out.mono ?_; rintro x w3 ⟨jb, rfl, h3⟩))
  have f11 := h3.wd.f 11
  have h4 := h3.setBroken true
  obtain ⟨-, -, -, -, -, -, -, -, -, -, -, -, -, -, -, -, k5, -, -, -, -, -, -, k11, -⟩ := h3.wd.rows
  go_upto_region 9 with (fail)
  generalize w3.setCell ⟨wb, 11, none⟩ (.bool true) = w4 at *
  clear h3 k5 k11 f11
  have h4d := h4.next (Below.drawn w4 1 _)
  obtain ⟨RA, rc, AA, ac, CA, cc, n3, n4, -, s2, s3, -, t2, t3, -, n2, n5, n6, n7, n8, -, -, -, -, -⟩ := h4d.wd.rows
  obtain ⟨p', n0, hof, -⟩ := h4d.wd.dk
  simp only at n2 n3 n4 n5 n6 n7 n8 s2 s3 hof
  rw [HD'.out] at hof
  have hal := fun w A c (b : Below w4.drew.heap.size w4.drew w) (hS : Strs w A J.recs) => allows_any w X.m J.st RA AA A X.m.R.length rc X.m.A.length ac J.recs.length c J.recs (s2.next b) (s3.next b) hS rfl rfl rfl t2 t3 (by have := HSZ.out; omega) (by have := HSZ.out; omega) (by have := HL.out; omega)
  simp only [HAL.out] at hal
  have hask := fun w (b : Below w4.drew.heap.size w4.drew w) => (h4d.next b).asks HBJ.out
  rw [HDU.out] at hask
  have HOF2 := Lib.hid hof
  have HA := Lib.hid hal
  have HASK := Lib.hid hask
  have H4 := Lib.hid h4d
  have b9 : ((J.recs.length : Int) != (J.recs.length : Int)) = false := by simp
  have hcs4 : w4.drew.cell? ⟨wb, 0, none⟩ = some p' ∧ w4.drew.cell? ⟨wb, 2, none⟩ = some (.string ⟨X.m.S.toArray⟩) ∧ w4.drew.cell? ⟨wb, 3, none⟩ = some (.slice RA X.m.R.length rc) ∧ w4.drew.cell? ⟨wb, 4, none⟩ = some (.slice AA X.m.A.length ac) ∧ w4.drew.cell? ⟨wb, 5, none⟩ = some (.bool X.m.Sure) ∧ w4.drew.cell? ⟨wb, 6, none⟩ = some (.bool X.m.Empty) ∧ w4.drew.cell? ⟨wb, 7, none⟩ = some (.bool X.m.Swap) ∧ w4.drew.cell? ⟨wb, 8, none⟩ = some (.string ⟨X.m.Next.toArray⟩) := ⟨n0, n2, n3, n4, n5, n6, n7, n8⟩
  have hkeep : ∀ w, Below w4.drew.heap.size w4.drew w → w.cell? ⟨wb, 0, none⟩ = some p' ∧ w.cell? ⟨wb, 2, none⟩ = some (.string ⟨X.m.S.toArray⟩) ∧ w.cell? ⟨wb, 3, none⟩ = some (.slice RA X.m.R.length rc) ∧ w.cell? ⟨wb, 4, none⟩ = some (.slice AA X.m.A.length ac) ∧ w.cell? ⟨wb, 5, none⟩ = some (.bool X.m.Sure) ∧ w.cell? ⟨wb, 6, none⟩ = some (.bool X.m.Empty) ∧ w.cell? ⟨wb, 7, none⟩ = some (.bool X.m.Swap) ∧ w.cell? ⟨wb, 8, none⟩ = some (.string ⟨X.m.Next.toArray⟩) := fun w b => ⟨cell_kept b n0, cell_kept b n2, cell_kept b n3, cell_kept b n4, cell_kept b n5, cell_kept b n6, cell_kept b n7, cell_kept b n8⟩
  have HKE := Lib.hid hkeep
  clear hof hal hask h4d s2 s3 t2 t3 hkeep
  go_cut [85] from 50 to 85 (fun u wx => u = .bool false ∧ Below w4.drew.heap.size w4.drew wx)
  case first =>
    go_region_held3 (fun w => w.cell? ⟨wb, 0, none⟩ = some p' ∧ w.cell? ⟨wb, 2, none⟩ = some (.string ⟨X.m.S.toArray⟩) ∧ w.cell? ⟨wb, 3, none⟩ = some (.slice RA X.m.R.length rc) ∧ w.cell? ⟨wb, 4, none⟩ = some (.slice AA X.m.A.length ac) ∧ w.cell? ⟨wb, 5, none⟩ = some (.bool X.m.Sure) ∧ w.cell? ⟨wb, 6, none⟩ = some (.bool X.m.Empty) ∧ w.cell? ⟨wb, 7, none⟩ = some (.bool X.m.Swap) ∧ w.cell? ⟨wb, 8, none⟩ = some (.string ⟨X.m.Next.toArray⟩))
      (first | exact hcs4 | exact hcs6 | exact hcs7 | exact hcs8) (first
      | (go_at_call 15; refine (HASK.out _ B7).2.2.mono ?_; rintro x w8 ⟨v8, rfl, hv8, b8⟩
         obtain ⟨A8, c8, rfl, -, -⟩ := hv8.slice
         have B8 := Below.next B7 b8
         have hcs8 := HKE.out _ B8)
      | (go_at_call 19; refine (HASK.out _ B7).1.mono ?_; rintro x w2 ⟨rfl, hw2⟩; obtain rfl := hw2.symm)
      | (go_at_call 78; refine (HA.out _ A6 c6 B6 S6).mono ?_; rintro x w7 ⟨rfl, b7⟩
         have B7 := Below.next B6 b7
         have hcs7 := HKE.out _ B7)
      | (go_at_call 15; refine (HASK.out _ (Below.refl _ _)).2.2.mono ?_; rintro x w6 ⟨v6, rfl, hv6, B6⟩
         obtain ⟨A6, c6, rfl, S6, -⟩ := hv6.slice
         have hcs6 := HKE.out _ B6)
      | (go_at_call 31; refine (HASK.out _ (Below.refl _ _)).2.1.mono ?_; rintro x w2 ⟨rfl, hw2⟩; obtain rfl := hw2.symm)
      | (go_at_call 42; refine HOF2.out.mono ?_; rintro x w2 ⟨rfl, hw2⟩; obtain rfl := hw2.symm))
    all_goals
      go_wp2_with (fail)
      go_meet
      exact ⟨rfl, B8⟩
  case rest =>
    obtain ⟨rfl, b10⟩ := hcut
    have h10 := H4.out.next b10
    clear hcs4 n0 n2 n3 n4 n5 n6 n7 n8 b9 b10 H4 HOF2 HA HASK HKE h4
    have f1 := h10.wd.f 1
    have f10 := h10.wd.f 10
    have f11 := h10.wd.f 11
    obtain ⟨q1, k1, -⟩ := h10.wd.jp
    obtain ⟨-, -, -, -, -, -, -, -, -, -, -, -, -, -, -, -, -, -, -, -, -, -, k10, k11, -⟩ := h10.wd.rows
    have h11 := ((h10.take).setHas true).setBroken false
    have c1 : (((wc.setCell ⟨wb, 1, none⟩ (.pointer (some ⟨jb, 0, none⟩))).setCell ⟨wb, 10, none⟩ (.bool true)).setCell ⟨wb, 11, none⟩ (.bool false)).cell? ⟨wb, 1, none⟩ = some (.pointer (some ⟨jb, 0, none⟩)) :=
      (World.cell?_setCell_other _ _ _ _ (fun e => by cases e)).trans ((World.cell?_setCell_other _ _ _ _ (fun e => by cases e)).trans (World.cell?_setCell_same _ _ _ k1))
    go_upto_region 14 with (fail)
    generalize ((wc.setCell ⟨wb, 1, none⟩ (.pointer (some ⟨jb, 0, none⟩))).setCell ⟨wb, 10, none⟩ (.bool true)).setCell ⟨wb, 11, none⟩ (.bool false) = w11 at *
    clear f1 f10 f11 k1 k10 k11 h10
    obtain ⟨jp, c1', -, hst, -⟩ := h11.jp
    rw [c1] at c1'
    cases c1'
    have HST := Lib.hid hst
    have f12 := h11.f 12
    obtain ⟨-, -, -, -, -, -, -, -, -, -, -, -, -, -, -, -, -, -, -, -, k12, -⟩ := h11.rows
    have h12 := h11.setSt J.st
    have c2 : (w11.setCell ⟨wb, 12, none⟩ (.string ⟨J.st.toArray⟩)).cell? ⟨wb, 1, none⟩ = some (.pointer (some ⟨jb, 0, none⟩)) := (World.cell?_setCell_other _ _ _ _ (fun e => by cases e)).trans c1
    clear hst h11 c1
    go_upto_region 15 with (go_at_call 31; refine HST.out.mono ?_; rintro x w2 ⟨rfl, hw2⟩; obtain rfl := hw2.symm)
    change Code.wp _ _ _ _ (w11.setCell ⟨wb, 12, none⟩ (.string ⟨J.st.toArray⟩))
    generalize w11.setCell ⟨wb, 12, none⟩ (.string ⟨J.st.toArray⟩) = w12 at *
    obtain ⟨jp, c1', -, -, hre, -⟩ := h12.jp
    rw [c2] at c1'
    cases c1'
    have hre2 := hre (fun J' e => by cases e; exact HBJ.out)
    simp only [recsO] at hre2
    have HRE := Lib.hid hre2
    have H12 := Lib.hid h12
    clear hre hre2 h12 k12 f12
    go_upto_region 16 with (go_at_call 15; refine HRE.out.mono ?_; rintro x w13 ⟨v13, rfl, hv13, b13⟩
                            obtain ⟨A13, c13, rfl, -, -⟩ := hv13.slice
                            have f13 := (H12.out.next b13).f 13
                            obtain ⟨RA13, rc13, AA13, ac13, CA13, cc13, -, -, k13, -⟩ := (H12.out.next b13).rows
                            have h13 := H12.out.setRecs b13 hv13)
    generalize hw14 : w13.setCell ⟨wb, 13, none⟩ (.slice A13 J.recs.length c13) = w14 at *
    clear hw14 f13 k13 hv13 b13
    have f14 := h13.f 14
    obtain ⟨RA14, rc14, AA14, ac14, CA14, cc14, -, -, k13, -, -, -, -, -, -, -, -, -, -, -, -, k14, -⟩ := h13.rows
    simp only at k13
    have h14 := h13.setSure J.recs.length
    clear h13
    go_upto_region 17 with (fail)
    generalize w14.setCell ⟨wb, 14, none⟩ (.int .i64 (J.recs.length : Nat)) = w15 at *
    clear f14 k13 k14
    have h3d : WdAt W0 w15.drew wb _ := h14.next (Below.drawn w15 1 _)
    obtain ⟨RA, rc, AA, ac, CA, cc, -, -, k13, -, -, s3, -, -, t3, -, -, -, -, -, k12, -, -, -, -⟩ := h3d.rows
    simp only at k13 k12 s3
    have hop := opened_any w15.drew J.st CA J.recs J.recs.length cc s3 rfl t3 (by have := HL.out; omega)
    simp only [cellsMd, openedM] at hop
    have HOP := Lib.hid hop
    have H3D := Lib.hid h3d
    clear hop h3d s3 t3 h14
    go_cut [114] from 114 to 125 (fun u wx => u = .pointer (some ⟨wb, 0, none⟩) ∧ WdAt W0 wx wb { X with D := D', J := some J, m := openedM J.st J.recs, has := true, broken := false, st := J.st, recs := J.recs, sure := J.recs.length })
    case first =>
      go_region_with (first
        | (go_at_call 68; refine HOP.out.mono ?_; rintro x w6 ⟨v6, rfl, hv6, b6⟩
           obtain ⟨A6, c6, rfl, -, -⟩ := hv6.slice
           have h6 := H3D.out.next b6
           obtain ⟨RA6, rc6, AA6, ac6, -, -, k3, k4, -, -, -, -, -, -, -, k2, k5, k6, k7, k8, -, -, -, -, -⟩ := h6.rows
           have f2 := h6.f 2
           have f3 := h6.f 3
           have f4 := h6.f 4
           have f5 := h6.f 5
           have f6 := h6.f 6
           have f7 := h6.f 7
           have f8 := h6.f 8
           have H7 := Lib.hid (H3D.out.model (m' := openedM J.st J.recs) b6 hv6 (OwnStrs.none _ _))))
      all_goals
        go_wp2_with (fail)
        go_meet
        exact ⟨rfl, H7.out⟩
    case rest =>
      obtain ⟨rfl, h16⟩ := hcut
      go_wp2_with (fail)
      go_ret
      exact ⟨rfl, h16⟩
theorem open_w (h : WdAt W0 W wb X) (hi : WI N n X) (hn : n < 150) : Calls Try.prog 66 #[.pointer (some ⟨wb, 0, none⟩)] W fun e w' => e = .returned (.bool true) ∧ ∃ X', WdAt W0 w' wb X' ∧ WI N (n + 2) X' := by
  rcases hi.open_ hn with ⟨D', J', q1, q2, q3, q4, q5, q6⟩ | ⟨D', q1, q2, q3, q4⟩ | ⟨D', q1, q2, q3, q4⟩
  · have := q6.small.1
    exact (open_found h hi.ws.bd D' q1 q2 q3 q4 q5 (q6.bd J' rfl).1 this hi.sz).mono fun e w' ⟨r1, r2⟩ => ⟨r1, _, r2, q6⟩
  · exact (open_bare h hi.ws.bd D' q1 q2 q3).mono fun e w' ⟨r1, r2⟩ => ⟨r1, _, r2, q4⟩
  · exact (open_off h hi.ws.bd D' q1 q2 q3).mono fun e w' ⟨r1, r2⟩ => ⟨r1, _, r2, q4⟩
end
end Go.Proofs.Ytkljfampkkfgdaa
