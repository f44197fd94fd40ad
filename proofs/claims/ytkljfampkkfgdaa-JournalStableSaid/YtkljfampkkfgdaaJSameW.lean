/- The journal layer: the walk over same. -/
import Derived.Test.YtkljfampkkfgdaaJDoW
namespace Go.Proofs.Ytkljfampkkfgdaa
open Go.RowKit
section
variable {W0 W w1 : World} {wb N n : Nat} {X : Wd}
/-- What a world and its journal answer from now on, as long as nothing old changes. -/
theorem WdAt.asks (h : WdAt W0 W wb X) (hi : WI N n X) : ∃ p jp CA cc, W.cell? ⟨wb, 0, none⟩ = some p ∧ W.cell? ⟨wb, 1, none⟩ = some jp ∧ W.cell? ⟨wb, 13, none⟩ = some (.slice CA X.recs.length cc) ∧ Strs W CA X.recs ∧
    ∀ w, Below W.heap.size W w → (Calls Try.prog 31 #[jp] w fun e w' => e = .returned (.string ⟨X.st.toArray⟩) ∧ w' = w) ∧ (Calls Try.prog 19 #[jp] w fun e w' => e = .returned (.int .i64 (X.sure : Nat)) ∧ w' = w) ∧
      (Calls Try.prog 15 #[jp] w fun e w' => ∃ v, e = .returned v ∧ OwnStrs w' w.heap.size v X.recs ∧ Below w.heap.size w w') ∧
      (Calls Try.prog 13 #[jp] w fun e w' => e = .returned (.int .i64 (roomO (capM N : Nat) X.J)) ∧ Below w.heap.size w w') ∧
      (Calls Try.prog 41 #[p] w fun e w' => e = .returned (.int .i64 (N : Nat)) ∧ w' = w) := by
  obtain ⟨p, k0, -⟩ := h.dk
  obtain ⟨jp, k1, -⟩ := h.jp
  obtain ⟨RA, rc, AA, ac, CA, cc, -, -, k13, -, -, s3, -⟩ := h.rows
  refine ⟨p, jp, CA, cc, k0, k1, k13, s3, fun w b => ?_⟩
  obtain ⟨p', k0', -, hbl, -⟩ := (h.next b).dk
  obtain rfl : p = p' := Option.some.inj ((cell_kept b k0).symm.trans k0')
  obtain ⟨jp', k1', hdu, hst, hre, hro, -⟩ := (h.next b).jp
  obtain rfl : jp = jp' := Option.some.inj ((cell_kept b k1).symm.trans k1')
  have hlen := hi.ws.len
  rw [hi.durO] at hdu
  rw [hi.stO] at hst
  have hre2 := hre hi.jbo
  rw [hi.recsO] at hre2
  have hro2 := hro (by have := hi.ws.low; omega) hi.jbo
  rw [hlen] at hro2 hbl
  exact ⟨hst, hdu, hre2, hro2, hbl⟩
set_option maxRecDepth 100000 in
set_option maxHeartbeats 1000000 in
theorem same_none (h : WdAt W0 W wb X) (hi : WI N n X) (hJ : X.J = none) : Calls Try.prog 37 #[.pointer (some ⟨wb, 0, none⟩)] W fun e w' => e = .returned (.bool true) ∧ WdAt W0 w' wb X := by
  obtain ⟨p, jp, CA, cc, -, k1, -, -, hask⟩ := h.asks hi
  obtain ⟨e1, e2, e3⟩ := hi.no hJ
  have e4 := hi.has
  rw [hJ] at e4 hask
  rw [e1, e2, e3] at hask
  simp only [roomO] at hask
  obtain ⟨-, -, -, -, -, -, -, -, -, -, -, -, -, -, -, -, -, -, -, -, -, -, k10, -⟩ := h.rows
  rw [e4] at k10
  have HASK := Lib.hid hask
  have H := Lib.hid h
  clear h hi hask e1 e2 e3 e4 hJ
  go_enter Try.func37, Try.ntmps37
  go_wp2_with (first
    | (go_at_call 13; refine (HASK.out _ b2).2.2.2.1.mono ?_; rintro x w5 ⟨rfl, b5⟩)
    | (go_at_call 19; refine (HASK.out _ b2).2.1.mono ?_; rintro x w3 ⟨rfl, hw3⟩; obtain rfl := hw3.symm)
    | (go_at_call 31; refine (HASK.out _ (Below.refl _ _)).1.mono ?_; rintro x w3 ⟨rfl, hw3⟩; obtain rfl := hw3.symm)
    | (go_at_call 15; refine (HASK.out _ (Below.refl _ _)).2.2.1.mono ?_; rintro x w2 ⟨v2, rfl, hv2, b2⟩
       obtain ⟨A2, c2, rfl, -, -⟩ := hv2.slice
       have k1' := cell_kept b2 k1))
  go_ret
  exact ⟨rfl, H.out.next (Below.next b2 b5)⟩
set_option maxRecDepth 100000 in
set_option maxHeartbeats 8000000 in
theorem same_some {J : Jn} (h : WdAt W0 W wb X) (hi : WI N n X) (hJ : X.J = some J) : Calls Try.prog 37 #[.pointer (some ⟨wb, 0, none⟩)] W fun e w' => e = .returned (.bool true) ∧ WdAt W0 w' wb X := by
  have h0 : WdAt W0 W.drew wb X := h.next (Below.drawn W 1 _)
  obtain ⟨p, jp, CA, cc, n0, n1, n13, s13, hask⟩ := h0.asks hi
  obtain ⟨e1, e2, e3⟩ := hi.con J hJ
  obtain ⟨-, e5, e6, -⟩ := hi.bd J hJ
  rw [← e1, ← e2] at e5
  have e4 := hi.has
  rw [hJ] at e4 hask
  simp only [roomO, e5] at hask
  rw [e5] at e6
  obtain ⟨-, -, -, -, -, -, -, -, -, -, -, -, -, -, -, -, -, -, -, -, n12, n14, -⟩ := h0.rows
  obtain ⟨-, -, -, -, -, -, -, -, -, -, -, -, -, -, -, -, -, -, -, -, -, -, k10, -⟩ := h.rows
  rw [e4] at k10
  have hsm := hi.small
  have hN := hi.ws.high
  have hN8 := hi.ws.low
  have hC : capM N ≤ 100 := by unfold capM; omega
  have hus := fun w (b : Below W.drew.heap.size W.drew w) => used_any w X.st CA X.recs X.recs.length cc (s13.next b) rfl (by omega) hsm.2
  have hsa := fun w A c (b : Below W.drew.heap.size W.drew w) (hS : Strs w A X.recs) => same_any w A CA X.recs X.recs X.recs.length X.recs.length c cc hS (s13.next b) rfl rfl (by omega) (by omega)
  simp only [decide_true] at hsa
  have hto := fun w => total_any w N (by omega) (by omega)
  have hkeep : ∀ w, Below W.drew.heap.size W.drew w → w.cell? ⟨wb, 0, none⟩ = some p ∧ w.cell? ⟨wb, 1, none⟩ = some jp ∧ w.cell? ⟨wb, 12, none⟩ = some (.string ⟨X.st.toArray⟩) ∧ w.cell? ⟨wb, 13, none⟩ = some (.slice CA X.recs.length cc) ∧ w.cell? ⟨wb, 14, none⟩ = some (.int .i64 (X.sure : Nat)) := fun w b => ⟨cell_kept b n0, cell_kept b n1, cell_kept b n12, cell_kept b n13, cell_kept b n14⟩
  have HASK := Lib.hid hask
  have HUS := Lib.hid hus
  have HSA := Lib.hid hsa
  have HTO := Lib.hid hto
  have HKE := Lib.hid hkeep
  have H := Lib.hid h
  generalize capM N = C at *
  generalize usedM (X.st :: X.recs) = u at *
  have m1 : IntKind.i64.wrap ((C : Int) - (u : Int)) = (C : Int) - (u : Int) := IntWalk.i64_in _ (by omega)
  have q1 : (((C : Int) - (u : Int)) == ((C : Int) - (u : Int))) = true := by simp
  have q2 : ((X.sure : Int) == (X.sure : Int)) = true := by simp
  have q3 : (X.st == X.st) = true := by simp
  have hcs0 := hkeep _ (Below.refl _ _)
  clear h h0 hi hask e1 e2 e3 e4 e5 hJ hsm hus hsa hto hkeep s13
  generalize X.sure = su at *
  go_enter Try.func37, Try.ntmps37
  go_upto_region 3 with (fail)
  go_region_held3 (fun w => w.cell? ⟨wb, 0, none⟩ = some p ∧ w.cell? ⟨wb, 1, none⟩ = some jp ∧ w.cell? ⟨wb, 12, none⟩ = some (.string ⟨X.st.toArray⟩) ∧ w.cell? ⟨wb, 13, none⟩ = some (.slice CA X.recs.length cc) ∧ w.cell? ⟨wb, 14, none⟩ = some (.int .i64 (su : Nat)))
    (first | exact hcs0 | exact hcs2 | exact hcs3 | exact hcs4) (first
    | (go_at_call 70; refine (HUS.out _ B4).mono ?_; rintro x w9 ⟨rfl, hw9⟩; obtain rfl := hw9.symm)
    | (go_at_call 14; refine (HTO.out _).mono ?_; rintro x w9 ⟨rfl, hw9⟩; obtain rfl := hw9.symm)
    | (go_at_call 41; refine (HASK.out _ B4).2.2.2.2.mono ?_; rintro x w9 ⟨rfl, hw9⟩; obtain rfl := hw9.symm)
    | (go_at_call 13; refine (HASK.out _ B3).2.2.2.1.mono ?_; rintro x w4 ⟨rfl, b4⟩
       have B4 := Below.next B3 b4
       have hcs4 := HKE.out _ B4)
    | (go_at_call 19; refine (HASK.out _ B3).2.1.mono ?_; rintro x w9 ⟨rfl, hw9⟩; obtain rfl := hw9.symm)
    | (go_at_call 22; refine (HSA.out _ A2 c2 B2 S2).mono ?_; rintro x w3 ⟨rfl, b3⟩
       have B3 := Below.next B2 b3
       have hcs3 := HKE.out _ B3)
    | (go_at_call 15; refine (HASK.out _ (Below.refl _ _)).2.2.1.mono ?_; rintro x w2 ⟨v2, rfl, hv2, B2⟩
       obtain ⟨A2, c2, rfl, S2, -⟩ := hv2.slice
       have hcs2 := HKE.out _ B2)
    | (go_at_call 31; refine (HASK.out _ (Below.refl _ _)).1.mono ?_; rintro x w9 ⟨rfl, hw9⟩; obtain rfl := hw9.symm))
  all_goals
    go_wp2_with (fail)
    go_ret
    exact ⟨rfl, H.out.next (Below.trans (Below.drawn W 1 _) B4)⟩
theorem same_w (h : WdAt W0 W wb X) (hi : WI N n X) : Calls Try.prog 37 #[.pointer (some ⟨wb, 0, none⟩)] W fun e w' => e = .returned (.bool true) ∧ WdAt W0 w' wb X := by
  cases hJ : X.J with
  | none => exact same_none h hi hJ
  | some J => exact same_some h hi hJ
end
end Go.Proofs.Ytkljfampkkfgdaa
