/- The journal layer: the walks over sure and clear. -/
import Derived.Test.YtkljfampkkfgdaaJLoad
import Derived.Stop.BytesEq
namespace Go.Proofs.Ytkljfampkkfgdaa
open Go.RowKit
theorem ahead_sync (dk : Nat) (W : World) : (nilAhead 249 23 (.pointer (some ⟨dk, 0, none⟩)) "Sync").run Try.prog W = .ok (some false) W := by kernel_rfl
theorem method_sync (dk : Nat) (W : World) : (method 249 23 (.pointer (some ⟨dk, 0, none⟩)) "Sync").run Try.prog W = .ok (40, .pointer (some ⟨dk, 0, none⟩)) W := by kernel_rfl
/-- An empty block. -/
def zeroB : Bs := List.replicate 64 0
theorem zeroB_length : zeroB.length = 64 := by simp [zeroB]
theorem eq_block {x y : Bs} (hx : x.length = 64) (hy : y.length = 64) (b : Bool) (h : (x == y) = b) (W : World) : (Op.equalIn 10000 95 (hashV x) (hashV y)).run Try.prog W = .ok b W := by
  rw [← h]
  exact run_equalIn_bytes (P := Try.prog) W 9998 95 5 64 (by kernel_rfl) (by kernel_rfl) (fun w => by kernel_rfl) x y hx hy
theorem eq_zero {x : Bs} (hx : x.length = 64) (b : Bool) (h : (x == zeroB) = b) (W : World) : (Op.equalIn 10000 95 (hashV x) (Value.agg #[Value.int IntKind.u8 0, Value.int IntKind.u8 0, Value.int IntKind.u8 0, Value.int IntKind.u8 0, Value.int IntKind.u8 0, Value.int IntKind.u8 0, Value.int IntKind.u8 0, Value.int IntKind.u8 0, Value.int IntKind.u8 0, Value.int IntKind.u8 0, Value.int IntKind.u8 0, Value.int IntKind.u8 0, Value.int IntKind.u8 0, Value.int IntKind.u8 0, Value.int IntKind.u8 0, Value.int IntKind.u8 0, Value.int IntKind.u8 0, Value.int IntKind.u8 0, Value.int IntKind.u8 0, Value.int IntKind.u8 0, Value.int IntKind.u8 0, Value.int IntKind.u8 0, Value.int IntKind.u8 0, Value.int IntKind.u8 0, Value.int IntKind.u8 0, Value.int IntKind.u8 0, Value.int IntKind.u8 0, Value.int IntKind.u8 0, Value.int IntKind.u8 0, Value.int IntKind.u8 0, Value.int IntKind.u8 0, Value.int IntKind.u8 0, Value.int IntKind.u8 0, Value.int IntKind.u8 0, Value.int IntKind.u8 0, Value.int IntKind.u8 0, Value.int IntKind.u8 0, Value.int IntKind.u8 0, Value.int IntKind.u8 0, Value.int IntKind.u8 0, Value.int IntKind.u8 0, Value.int IntKind.u8 0, Value.int IntKind.u8 0, Value.int IntKind.u8 0, Value.int IntKind.u8 0, Value.int IntKind.u8 0, Value.int IntKind.u8 0, Value.int IntKind.u8 0, Value.int IntKind.u8 0, Value.int IntKind.u8 0, Value.int IntKind.u8 0, Value.int IntKind.u8 0, Value.int IntKind.u8 0, Value.int IntKind.u8 0, Value.int IntKind.u8 0, Value.int IntKind.u8 0, Value.int IntKind.u8 0, Value.int IntKind.u8 0, Value.int IntKind.u8 0, Value.int IntKind.u8 0, Value.int IntKind.u8 0, Value.int IntKind.u8 0, Value.int IntKind.u8 0, Value.int IntKind.u8 0])).run Try.prog W = .ok b W := eq_block hx zeroB_length b h W
/-- Blocks that are not empty are overwritten. -/
def clearM : Nat → Nat → Dk → Int × Dk
  | 0, _, D => (0, D)
  | n + 1, i, D => if getM D i = zeroB then clearM n (i + 1) D else if (writeM D i []).1 = 0 then clearM n (i + 1) (writeM D i []).2 else writeM D i []
section
variable {D : Dk} {F : Nat → Prop}
set_option maxRecDepth 100000 in
set_option maxHeartbeats 1000000 in
theorem sure_any {Wi : World} {dk : Nat} (h : DiskAt Wi dk D F) (jv : Value) : Calls Try.prog 51 #[jv, devV dk] Wi fun x w' => x = .returned (.int .i64 (syncM D).1) ∧ Mv Wi F dk w' (syncM D).2 := by
  have hs := dsync_any h
  have hna := fun W => ahead_sync dk W
  have hme := fun W => method_sync dk W
  generalize (syncM D).1 = er at *
  have HS := Lib.hid hs
  clear hs h
  go_enter Try.func51, Try.ntmps51
  go_wp2_with (go_at_call 40; refine HS.out.mono ?_; rintro x w2 ⟨rfl, mv⟩)
  have MV := Lib.hid mv
  clear mv
  go_wp2_with (fail)
  go_ret
  exact ⟨rfl, MV.out⟩
theorem writeM_ok {D : Dk} (ho : D.off = false) (n : Int) (hn : 0 ≤ n) (hn2 : n < D.sec.length) (s : Bs) (hs : s.length ≤ 64) : ((writeM D n s).1 = 0 ∧ (writeM D n s).2.off = false) ∨ ((writeM D n s).1 = 70 ∧ (writeM D n s).2.off = true) := by
  unfold writeM
  rw [if_neg (by simp [ho]), if_neg (by omega), if_neg (by omega)]
  split
  · exact .inr ⟨rfl, rfl⟩
  · exact .inl ⟨rfl, ho⟩
set_option maxRecDepth 100000 in
set_option maxHeartbeats 2000000 in
theorem clear_any {Wi : World} {dk jb : Nat} (h : DiskAt Wi dk D F) (hj : ¬ F jb) (hjc : Wi.cell? ⟨jb, 0, none⟩ = some (.pointer (some ⟨dk, 0, none⟩))) (fr n : Nat) (hfr : fr + n ≤ D.sec.length) (hfew : Few 900000 D) :
    Calls Try.prog 75 #[.pointer (some ⟨jb, 0, none⟩), .int .i64 (fr : Int), .int .i64 ((fr + n : Nat) : Int)] Wi fun x w' => x = .returned (.int .i64 (clearM n fr D).1) ∧ Mv Wi F dk w' (clearM n fr D).2 := by
  have hN := h.ok.few
  obtain ⟨R, hR⟩ : ∃ R, clearM n fr D = R := ⟨_, rfl⟩
  rw [hR]
  obtain ⟨to_, hto⟩ : ∃ to_, fr + n = to_ := ⟨_, rfl⟩
  rw [hto] at hfr ⊢
  obtain ⟨L, hL⟩ : ∃ L, D.sec.length = L := ⟨_, rfl⟩
  have H0 := Lib.hid h
  have HFEW := Lib.hid hfew
  have HR := Lib.hid hR
  have HL := Lib.hid hL
  rw [hL] at hfr hN
  clear h hfew hR hL
  go_enter Try.func75, Try.ntmps75
  go_wp2_with (fail)
  go_loopw [7, 8] (fun i _ w => ∃ (k : Nat) (E : Dk), fr ≤ k ∧ k ≤ to_ ∧ i = .int .i64 k ∧ clearM (to_ - k) k E = R ∧ E.sec.length = L ∧ Few (900000 + (k - fr)) E ∧ Mv Wi F dk w E) (fun i _ _ => to_ - (intOf i).toNat)
  case atStart => exact ⟨fr, D, by omega, by omega, rfl, by rw [← hto, Nat.add_sub_cancel_left]; exact HR.out, HL.out, by simpa using HFEW.out, H0.out.mv⟩
  case round =>
    obtain ⟨k, E, hk1, hk, rfl, hc, hlen, hfw, hM⟩ := hrel
    have HC := Lib.hid hc
    have HLEN := Lib.hid hlen
    have HFW := Lib.hid hfw
    have HM := Lib.hid hM
    clear hc hlen hfw hM
    have k0 : 0 ≤ (k : Int) := by omega
    by_cases hlt : k < to_
    · have k1 : (k : Int) < (to_ : Int) := by omega
      obtain ⟨F', hd, hb, hf⟩ := HM.out
      have hcur := hb.cell hjc hj
      have hc2 := HC.out
      rw [show to_ - k = (to_ - (k + 1)) + 1 from by omega, clearM] at hc2
      have HMS := Lib.hid (show fr ≤ k + 1 ∧ k + 1 ≤ to_ ∧ to_ - (k + 1) < to_ - k ∧ 900000 + (k + 1 - fr) = 900000 + (k - fr) + 1 from by omega)
      have hw := fun W (b : Below wr.heap.size wr W) => dwrite_any (hd.next b) (k : Int) [] (show Few 999999 E from fun y hy => Nat.le_trans (HFW.out y hy) (by omega))
      have hw2 := writeM_few HFW.out (k : Int) []
      have hw3 := writeM_length E (k : Int) []
      obtain ⟨b, c, vs, hd2, rfl⟩ := hd
      have q0 := hd2.c0
      obtain ⟨sc, v, e1, e2, r1, r2, r3, r4⟩ := hd2.sec_ (i := k) (by rw [HLEN.out]; omega)
      have e3 : getM E k = sc.latest := by unfold getM; rw [List.getD_eq_getElem?_getD, e1]; rfl
      have hl := latest_length r4 r3.1
      have hlat := latest_any sc v b k r1 r2 r3 r4
      have HLAT := Lib.hid hlat
      rw [HLEN.out] at q0 hw3
      have k2 : (k : Int) < (L : Nat) := by omega
      rw [e3] at hc2
      have HB := Lib.hid hb
      have HF := Lib.hid hf
      have hz := fun W => eq_zero hl _ rfl W
      by_cases hze : sc.latest = zeroB
      · rw [if_pos hze] at hc2
        rw [show (sc.latest == zeroB) = true from by simpa using hze] at hz
        have HC2 := Lib.hid hc2
        clear hw hw2 hw3 hd2 r1 r2 r3 r4 e1 e2 e3 hlat hc2 hb hf hl hze
        go_wp2_with (go_at_call 71; refine HLAT.out.mono ?_; rintro x w2 ⟨rfl, b2⟩)
        exact ⟨⟨k + 1, E, HMS.out.1, HMS.out.2.1, by go_num, HC2.out, HLEN.out, fun y hy => Nat.le_trans (HFW.out y hy) (by omega), HM.out.next b2⟩, by have := HMS.out.2.2.1; simp [intOf]; omega⟩
      · rw [if_neg hze] at hc2
        rw [show (sc.latest == zeroB) = false from by simpa using hze] at hz
        have HW := Lib.hid hw
        have HW2 := Lib.hid hw2
        have HW3 := Lib.hid hw3
        obtain ⟨er, D', hR⟩ : ∃ er D', writeM E (k : Int) [] = (er, D') := ⟨_, _, rfl⟩
        rw [hR] at hc2 HW HW2 HW3
        simp only at hc2 HW HW2 HW3
        have HC2 := Lib.hid hc2
        clear hw hw2 hw3 hd2 r1 r2 r3 r4 e1 e2 e3 hlat hc2 hb hf hl hze hR
        go_upto_region 6 with (first
          | (go_at_call 71; refine HLAT.out.mono ?_; rintro x w2 ⟨rfl, b2⟩; have HCC := cell_kept b2 hcur)
          | (go_at_call 39; refine (HW.out _ b2).mono ?_; rintro x w3 ⟨rfl, mv3⟩))
        have MV := Lib.hid (mv3.then (HB.out.next b2) fun i hi => HF.out i hi)
        by_cases he : er = 0
        · have he2 : (er != 0) = false := by simpa using he
          clear mv3
          go_wp2_with (fail)
          exact ⟨⟨k + 1, D', HMS.out.1, HMS.out.2.1, by go_num, by have := HC2.out; rw [if_pos he] at this; exact this, HW3.out, by have := HW2.out; rw [HMS.out.2.2.2]; exact this, MV.out⟩, by have := HMS.out.2.2.1; simp [intOf]; omega⟩
        · have he2 : (er != 0) = true := by simpa using he
          clear mv3
          go_wp2_with (fail)
          go_ret
          have e := HC2.out
          rw [if_neg he] at e
          rw [← e]
          exact ⟨rfl, MV.out⟩
    · obtain rfl : to_ = k := by omega
      have hc := HC.out
      rw [Nat.sub_self, clearM] at hc
      subst hc
      have HM' := HM
      clear HM
      go_wp2_with (fail)
      go_ret
      exact ⟨rfl, HM'.out⟩
end
end Go.Proofs.Ytkljfampkkfgdaa
