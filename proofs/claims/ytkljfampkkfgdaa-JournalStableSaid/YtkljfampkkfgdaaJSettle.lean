/- The journal layer: the walks over fell, refused, settle. The journal layer: the walks over settle. -/
import Derived.Test.YtkljfampkkfgdaaJAllows
namespace Go.Proofs.Ytkljfampkkfgdaa
section
open Go.RowKit
section
variable {K : Nat → Prop} {W : World} {wb dk : Nat} {jp rv av cv : Value} {X : Wd}
theorem WB.c0 (h : WB K W wb dk jp rv av cv X) : W.cell? ⟨wb, 0, none⟩ = some (.pointer (some ⟨dk, 0, none⟩)) := h.c 0 rfl
theorem WB.c1 (h : WB K W wb dk jp rv av cv X) : W.cell? ⟨wb, 1, none⟩ = some (jp) := h.c 1 rfl
theorem WB.c2 (h : WB K W wb dk jp rv av cv X) : W.cell? ⟨wb, 2, none⟩ = some (.string ⟨X.m.S.toArray⟩) := h.c 2 rfl
theorem WB.c3 (h : WB K W wb dk jp rv av cv X) : W.cell? ⟨wb, 3, none⟩ = some (rv) := h.c 3 rfl
theorem WB.c4 (h : WB K W wb dk jp rv av cv X) : W.cell? ⟨wb, 4, none⟩ = some (av) := h.c 4 rfl
theorem WB.c5 (h : WB K W wb dk jp rv av cv X) : W.cell? ⟨wb, 5, none⟩ = some (.bool X.m.Sure) := h.c 5 rfl
theorem WB.c6 (h : WB K W wb dk jp rv av cv X) : W.cell? ⟨wb, 6, none⟩ = some (.bool X.m.Empty) := h.c 6 rfl
theorem WB.c7 (h : WB K W wb dk jp rv av cv X) : W.cell? ⟨wb, 7, none⟩ = some (.bool X.m.Swap) := h.c 7 rfl
theorem WB.c8 (h : WB K W wb dk jp rv av cv X) : W.cell? ⟨wb, 8, none⟩ = some (.string ⟨X.m.Next.toArray⟩) := h.c 8 rfl
theorem WB.c9 (h : WB K W wb dk jp rv av cv X) : W.cell? ⟨wb, 9, none⟩ = some (.bool X.fused) := h.c 9 rfl
theorem WB.c10 (h : WB K W wb dk jp rv av cv X) : W.cell? ⟨wb, 10, none⟩ = some (.bool X.has) := h.c 10 rfl
theorem WB.c11 (h : WB K W wb dk jp rv av cv X) : W.cell? ⟨wb, 11, none⟩ = some (.bool X.broken) := h.c 11 rfl
theorem WB.c12 (h : WB K W wb dk jp rv av cv X) : W.cell? ⟨wb, 12, none⟩ = some (.string ⟨X.st.toArray⟩) := h.c 12 rfl
theorem WB.c13 (h : WB K W wb dk jp rv av cv X) : W.cell? ⟨wb, 13, none⟩ = some (cv) := h.c 13 rfl
theorem WB.c14 (h : WB K W wb dk jp rv av cv X) : W.cell? ⟨wb, 14, none⟩ = some (.int .i64 (X.sure : Nat)) := h.c 14 rfl
end
section
variable {W0 W : World} {wb : Nat} {X : Wd}
set_option maxRecDepth 100000 in
set_option maxHeartbeats 1000000 in
theorem fell_any (h : WdAt W0 W wb X) : Calls Try.prog 67 #[.pointer (some ⟨wb, 0, none⟩)] W fun e w' => e = .returned (.bool (X.fused && X.D.off)) ∧ w' = W := by
  obtain ⟨K, dk, jp, rv, av, cv, hw, -, -, -⟩ := h
  have ho := off_dj hw.dj
  have k0 := hw.c0
  have k9 := hw.c9
  clear hw
  have HO := Lib.hid ho
  clear ho
  cases hf : X.fused with
  | false =>
    rw [hf] at k9
    clear hf
    go_enter Try.func67, Try.ntmps67
    go_wp2_with (fail)
    go_ret
    exact ⟨by simp, rfl⟩
  | true =>
    rw [hf] at k9
    clear hf
    go_enter Try.func67, Try.ntmps67
    go_wp2_with (go_at_call 42; refine HO.out.mono ?_; rintro x w1 ⟨rfl, hw1⟩; obtain rfl := hw1.symm)
    go_ret
    exact ⟨by simp, rfl⟩
/-- The error that is certain. -/
def refM (X : Wd) (n most used : Int) : Int := if X.has = false then 1 else if X.broken = true then 72 else if X.D.off = true then 70 else if n > most then 2 else if used > (capM X.D.sec.length : Int) then 5 else 0
set_option maxRecDepth 100000 in
set_option maxHeartbeats 4000000 in
theorem refused_any (h : WdAt W0 W wb X) (h2 : 2 ≤ X.D.sec.length) (h5 : X.D.sec.length ≤ 5000) (n most used : Int) : Calls Try.prog 79 #[.pointer (some ⟨wb, 0, none⟩), .int .i64 n, .int .i64 most, .int .i64 used] W fun e w' => e = .returned (.int .i64 (refM X n most used)) ∧ w' = W := by
  obtain ⟨K, dk, jp, rv, av, cv, hw, -, -, -⟩ := h
  have ho := off_dj hw.dj
  have hbl := blocks_dj hw.dj
  have hto := fun w => total_any w X.D.sec.length h2 h5
  have k0 := hw.c0
  have k10 := hw.c10
  have k11 := hw.c11
  have HO := Lib.hid ho
  have HBL := Lib.hid hbl
  have HTO := Lib.hid hto
  unfold refM
  generalize X.has = has at *
  generalize X.broken = bro at *
  generalize X.D.off = off at *
  generalize capM X.D.sec.length = C at *
  generalize X.D.sec.length = N at *
  clear hw ho hbl hto h2 h5
  cases has with
  | false =>
    rw [if_pos rfl]
    go_enter Try.func79, Try.ntmps79
    go_wp2_with (fail)
    go_ret
    exact ⟨rfl, rfl⟩
  | true =>
    rw [if_neg (by simp)]
    cases bro with
    | true =>
      rw [if_pos rfl]
      go_enter Try.func79, Try.ntmps79
      go_wp2_with (fail)
      go_ret
      exact ⟨rfl, rfl⟩
    | false =>
      rw [if_neg (by simp)]
      cases off with
      | true =>
        rw [if_pos rfl]
        go_enter Try.func79, Try.ntmps79
        go_wp2_with (go_at_call 42; refine HO.out.mono ?_; rintro x w1 ⟨rfl, hw1⟩; obtain rfl := hw1.symm)
        go_ret
        exact ⟨rfl, rfl⟩
      | false =>
        rw [if_neg (by simp)]
        by_cases hn : n > most
        · rw [if_pos hn]
          go_enter Try.func79, Try.ntmps79
          go_wp2_with (go_at_call 42; refine HO.out.mono ?_; rintro x w1 ⟨rfl, hw1⟩; obtain rfl := hw1.symm)
          go_ret
          exact ⟨rfl, rfl⟩
        · rw [if_neg hn]
          by_cases hu : used > (C : Int)
          · rw [if_pos hu]
            go_enter Try.func79, Try.ntmps79
            go_wp2_with (first
              | (go_at_call 42; refine HO.out.mono ?_; rintro x w1 ⟨rfl, hw1⟩; obtain rfl := hw1.symm)
              | (go_at_call 41; refine HBL.out.mono ?_; rintro x w1 ⟨rfl, hw1⟩; obtain rfl := hw1.symm)
              | (go_at_call 14; refine (HTO.out _).mono ?_; rintro x w1 ⟨rfl, hw1⟩; obtain rfl := hw1.symm))
            go_ret
            exact ⟨rfl, rfl⟩
          · rw [if_neg hu]
            go_enter Try.func79, Try.ntmps79
            go_wp2_with (first
              | (go_at_call 42; refine HO.out.mono ?_; rintro x w1 ⟨rfl, hw1⟩; obtain rfl := hw1.symm)
              | (go_at_call 41; refine HBL.out.mono ?_; rintro x w1 ⟨rfl, hw1⟩; obtain rfl := hw1.symm)
              | (go_at_call 14; refine (HTO.out _).mono ?_; rintro x w1 ⟨rfl, hw1⟩; obtain rfl := hw1.symm))
            go_ret
            exact ⟨rfl, rfl⟩
end
end
section
open Go.RowKit
section
variable {W0 W : World} {wb : Nat} {X : Wd}
theorem WdAt.setBroken (h : WdAt W0 W wb X) (b : Bool) : WdAt W0 (W.setCell ⟨wb, 11, none⟩ (.bool b)) wb { X with broken := b } := by
  obtain ⟨K, dk, jp, rv, av, cv, hw, h1, h2, h3⟩ := h
  exact ⟨K, dk, jp, rv, av, cv, hw.setCell 11 _ rfl hw.rR hw.rA hw.rC hw.dj, h1, h2, h3.trans ((ButS.setCell (F := fun i => i = wb) W (p := ⟨wb, 11, none⟩) rfl _).mono fun i hi e hn => by have := h2; simp only [Old] at hn; omega)⟩
set_option maxRecDepth 100000 in
set_option maxHeartbeats 1000000 in
theorem settle_no (h : WdAt W0 W wb X) (k : Int) (h0 : k ≠ 0) (h70 : k ≠ 70) : Calls Try.prog 80 #[.pointer (some ⟨wb, 0, none⟩), .int .i64 k, .int .i64 k, .int .i64 (durO X.J : Nat)] W fun e w' => e = .returned (.tuple #[.bool true, .bool false]) ∧ w' = W := by
  obtain ⟨K, dk, jp, rv, av, cv, hw, -, -, -⟩ := h
  have hd := durable_dj hw.dj
  have k1 := hw.c1
  have HD := Lib.hid hd
  clear hw hd
  generalize durO X.J = du at *
  have b1 : (k == 70) = false := by simpa using h70
  have b2 : (k != 0) = true := by simpa using h0
  have b3 : (k == k) = true := by simp
  have b4 : ((du : Int) == (du : Int)) = true := by simp
  clear h0 h70
  go_enter Try.func80, Try.ntmps80
  go_wp2_with (go_at_call 19; refine HD.out.mono ?_; rintro x w1 ⟨rfl, hw1⟩; obtain rfl := hw1.symm)
  go_ret2
  exact ⟨rfl, rfl⟩
set_option maxRecDepth 100000 in
set_option maxHeartbeats 1000000 in
theorem settle_off2 (h : WdAt W0 W wb X) (hf : X.fused = true) (ho : X.D.off = true) : Calls Try.prog 80 #[.pointer (some ⟨wb, 0, none⟩), .int .i64 70, .int .i64 0, .int .i64 (durO X.J : Nat)] W fun e w' => e = .returned (.tuple #[.bool true, .bool false]) ∧ w' = W.setCell ⟨wb, 11, none⟩ (.bool true) := by
  have hs := h.setBroken true
  have hfe := fell_any hs
  obtain ⟨K, dk, jp, rv, av, cv, hw, -, -, -⟩ := h
  have k11 := hw.c11
  have f11 := hw.f 11
  obtain ⟨K', dk', jp', rv', av', cv', hw', -, -, -⟩ := id hs
  have hd := durable_dj hw'.dj
  have k1 := hw'.c1
  simp only [hf, ho] at hfe hd
  have HD := Lib.hid hd
  have HFE := Lib.hid hfe
  clear hw hd hfe hs hw' hf ho
  generalize durO X.J = du at *
  have b4 : ((du : Int) == (du : Int)) = true := by simp
  go_enter Try.func80, Try.ntmps80
  go_wp2_with (first
    | (go_at_call 67; refine HFE.out.mono ?_; rintro x w1 ⟨rfl, hw1⟩; obtain rfl := hw1.symm)
    | (go_at_call 19; refine HD.out.mono ?_; rintro x w1 ⟨rfl, hw1⟩; obtain rfl := hw1.symm))
  go_ret2
  exact ⟨rfl, rfl⟩
theorem settle_off (h : WdAt W0 W wb X) (hf : X.fused = true) (ho : X.D.off = true) : Calls Try.prog 80 #[.pointer (some ⟨wb, 0, none⟩), .int .i64 70, .int .i64 0, .int .i64 (durO X.J : Nat)] W fun e w' => e = .returned (.tuple #[.bool true, .bool false]) ∧ WdAt W0 w' wb { X with broken := true } :=
  (settle_off2 h hf ho).mono fun _ _ ⟨q1, q2⟩ => ⟨q1, q2 ▸ h.setBroken true⟩
set_option maxRecDepth 100000 in
set_option maxHeartbeats 1000000 in
theorem settle_ok (h : WdAt W0 W wb X) (ho : X.D.off = false) (du : Int) : Calls Try.prog 80 #[.pointer (some ⟨wb, 0, none⟩), .int .i64 0, .int .i64 0, .int .i64 du] W fun e w' => e = .returned (.tuple #[.bool true, .bool true]) ∧ w' = W := by
  obtain ⟨K, dk, jp, rv, av, cv, hw, -, -, -⟩ := h
  have hf := off_dj hw.dj
  rw [ho] at hf
  have k0 := hw.c0
  have HF := Lib.hid hf
  clear hw hf ho
  go_enter Try.func80, Try.ntmps80
  go_wp2_with (go_at_call 42; refine HF.out.mono ?_; rintro x w1 ⟨rfl, hw1⟩; obtain rfl := hw1.symm)
  go_ret2
  exact ⟨rfl, rfl⟩
end
end
end Go.Proofs.Ytkljfampkkfgdaa
