/- The journal layer: the walk over store. -/
import Derived.Test.YtkljfampkkfgdaaJStoreL
namespace Go.Proofs.Ytkljfampkkfgdaa
open Go.RowKit
/-- A disk as a device. -/
abbrev devV (dk : Nat) : Value := .iface 23 (.pointer (some ⟨dk, 0, none⟩))
theorem ahead_write (dk : Nat) (W : World) : (nilAhead 249 23 (.pointer (some ⟨dk, 0, none⟩)) "Write").run Try.prog W = .ok (some false) W := by kernel_rfl
theorem method_write (dk : Nat) (W : World) : (method 249 23 (.pointer (some ⟨dk, 0, none⟩)) "Write").run Try.prog W = .ok (39, .pointer (some ⟨dk, 0, none⟩)) W := by kernel_rfl
section
variable {D : Dk} {F : Nat → Prop}
theorem Mv.step {w W W' : World} {F : Nat → Prop} {d : Nat} {D D' : Dk} (h : Mv w F d W D) (k : ∀ F', DiskAt W d D F' → Mv W F' d W' D') : Mv w F d W' D' := by
  obtain ⟨F', h1, h2, h3⟩ := h
  exact (k F' h1).then h2 h3
set_option maxRecDepth 100000 in
set_option maxHeartbeats 2000000 in
theorem store_any {Wi : World} {dk : Nat} (h : DiskAt Wi dk D F) (fr ep : Int) (q : Nat) (s : Bs) (e0 : 0 ≤ ep) (e1 : ep < 9223372036854775808) (hq : q < 1000000) (hs : s.length ≤ 100000) (hfr : 0 ≤ fr) (hfr2 : fr ≤ 100000) (hfew : Few 100000 D) :
    Calls Try.prog 48 #[devV dk, .int .i64 fr, .int .i64 ep, .int .i64 (q : Int), .string ⟨s.toArray⟩] Wi fun x w' => x = .returned (.int .i64 (storeM D fr ep q s).1) ∧ Mv Wi F dk w' (storeM D fr ep q s).2 := by
  have hu := fun W => units_any s W (by omega)
  obtain ⟨N, hN⟩ : ∃ N, unitsM s.length = N := ⟨_, rfl⟩
  rw [hN] at hu
  have hNb : N ≤ 3000 := by rw [← hN]; unfold unitsM; omega
  have hNs : ∀ k, k < N → 40 * k ≤ s.length := fun k hk => by rw [← hN] at hk; unfold unitsM at hk; omega
  have HN := Lib.hid hN
  have H0 := Lib.hid h
  have HFEW := Lib.hid hfew
  clear hN h hfew
  go_enter Try.func48, Try.ntmps48
  go_wp2_with (go_at_call 47; refine (hu _).mono ?_; rintro e w1 ⟨rfl, hw1⟩; obtain rfl := hw1.symm)
  clear hu
  go_loopw [11, 12, 15] (fun _ _ i w => ∃ k : Nat, k ≤ N ∧ i = .int .i64 k ∧ (writesM (strW fr ep q s k) D).1 = 0 ∧ Mv Wi F dk w (writesM (strW fr ep q s k) D).2) (fun _ _ i _ => N - (intOf i).toNat)
  case atStart => exact ⟨0, by omega, rfl, rfl, H0.out.mv⟩
  case round =>
    obtain ⟨k, hk, rfl, hz, hM⟩ := hrel
    by_cases hlt : k < N
    · have k1 : (k : Int) < N := by omega
      have k0 : 0 ≤ (k : Int) := by omega
      have HLT := Lib.hid (show k + 1 ≤ N ∧ N - (k + 1) < N - k from by omega)
      have hun := fun W => unit_any ep q k s W e0 e1 hq (by omega) (by omega) (hNs k hlt)
      have hfk : Few 999999 (writesM (strW fr ep q s k) D).2 := fun y hy => Nat.le_trans (writesM_few HFEW.out y hy) (by simp [strW]; omega)
      have hsn := writesM_snoc hz (fr + (k : Int), unitM ep q k s)
      rw [← strW_succ] at hsn
      obtain ⟨F', hd, hb, hf⟩ := hM
      have hwr := fun W (b : Below wr.heap.size wr W) => dwrite_any (hd.next b) (fr + (k : Int)) (unitM ep q k s) hfk
      rw [← hsn] at hwr
      obtain ⟨m, hm⟩ := strW_split fr ep q s (show k + 1 ≤ N from hlt)
      have hst := writesM_stop (l := strW fr ep q s (k + 1)) (m := m) (D := D)
      rw [← hm] at hst
      have m1 : IntKind.i64.wrap (fr + (k : Int)) = fr + k := IntWalk.i64_in _ (by omega)
      obtain ⟨er, D', hR⟩ : ∃ er D', writesM (strW fr ep q s (k + 1)) D = (er, D') := ⟨_, _, rfl⟩
      rw [hR] at hwr hst
      generalize unitM ep q k s = u at *
      simp only at hwr hst
      have HR := Lib.hid hR
      have HB := Lib.hid hb
      have HF := Lib.hid hf
      have HST := Lib.hid hst
      have HUN := Lib.hid hun
      have HWR := Lib.hid hwr
      have HSN := Lib.hid hsn
      clear hun hwr hst hb hf hsn hfk hm hz hd hR
      have hna := fun W => ahead_write dk W
      have hme := fun W => method_write dk W
      go_upto_region 4 with (fail)
      go_region_held3 (fun _ => True) (trivial) (first
        | (go_at_call 73; refine (HUN.out _).mono ?_; rintro x w2 ⟨rfl, b2⟩)
        | (go_at_call 39; refine (HWR.out _ ((Below.drawn wr 1 _).trans (b2.mono (by exact Nat.le_refl _)))).mono ?_; rintro x w3 ⟨rfl, mv3⟩))
      all_goals
        have MV := Lib.hid (mv3.then (HB.out.next ((Below.drawn wr 1 _).trans (b2.mono (Nat.le_refl _)))) HF.out)
        by_cases he : er = 0
        · subst he
          clear mv3
          go_wp2_with (fail)
          exact ⟨⟨k + 1, HLT.out.1, by go_num, by rw [HR.out], by rw [HR.out]; exact MV.out⟩, by have := HLT.out.2; simp [intOf]; omega⟩
        · have he2 : (er == 0) = false := by simpa using he
          clear mv3
          go_wp2_with (fail)
          go_ret
          have e : storeM D fr ep q s = (er, D') := by unfold storeM; rw [HN.out]; exact HST.out he
          rw [e]
          exact ⟨rfl, MV.out⟩
    · obtain rfl : k = N := by omega
      have HZ := Lib.hid hz
      have HM := Lib.hid hM
      clear hz hM
      go_wp2_with (fail)
      go_ret
      have e : storeM D fr ep q s = writesM (strW fr ep q s k) D := by unfold storeM; rw [HN.out]
      rw [e]
      exact ⟨by rw [HZ.out]; rfl, HM.out⟩
end
end Go.Proofs.Ytkljfampkkfgdaa
