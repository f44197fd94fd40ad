/- The journal layer: the walk over current. -/
import Derived.Test.YtkljfampkkfgdaaJStore
namespace Go.Proofs.Ytkljfampkkfgdaa
open Go.RowKit
/-- What a block contains. -/
def getM (D : Dk) (i : Nat) : Bs := (D.sec.getD i ⟨[], []⟩).latest
/-- A header is looked at. -/
def seeM (b : Bs) (p : Int × Int) : Int × Int :=
  if b.take 17 = magicM then (if p.1 < numM ((b.drop 32).take 8) ∧ 0 ≤ numM ((b.drop 40).take 8) ∧ numM ((b.drop 40).take 8) < 2 then (numM ((b.drop 32).take 8), numM ((b.drop 40).take 8)) else p) else p
/-- The header that counts, of contents g. -/
def curK (g : Nat → Bs) : Nat → Int × Int
  | 0 => (0, 0)
  | k + 1 => seeM (g k) (curK g k)
def curC (g : Nat → Bs) : Int × Int := curK g 2
theorem getM_length {D : Dk} (h : D.Ok) {i : Nat} (hi : i < D.sec.length) : (getM D i).length = 64 := by
  unfold getM
  rw [List.getD_eq_getElem?_getD, List.getElem?_eq_getElem hi]
  exact latest_length (h.dur _ (List.getElem_mem hi)) (h.pend _ (List.getElem_mem hi))
theorem readM_on {D : Dk} (ho : D.off = false) {i : Nat} (hi : i < D.sec.length) : readM D i = (getM D i, 0) := by
  unfold readM getM
  rw [ho, if_neg (by simp), if_neg (by omega), Int.toNat_natCast]
section
variable {D : Dk} {F : Nat → Prop}
theorem s_to {P : Program} (t : TypeId) (ht : P.underlying t = some .string) (s : Bs) (W : World) (k : IntKind) (j : Int) (j' : Nat) (hj : j = j') (h : j' ≤ s.length) :
    (Instr.slice t (.string ⟨s.toArray⟩) none (some (.int k j)) none).run P W = .ok (.string ⟨(s.take j').toArray⟩) W := by
  subst hj
  rw [run_slice_string_to_if W t _ k _ ht, if_pos ⟨by omega, by rw [bs_size]; omega⟩, ByteArray.extract_mk]
  simp
set_option maxRecDepth 100000 in
set_option maxHeartbeats 2000000 in
theorem current_any {Wi : World} {dk : Nat} (h : DiskAt Wi dk D F) (ho : D.off = false) (h8 : 8 ≤ D.sec.length) : Calls Try.prog 56 #[.pointer (some ⟨dk, 0, none⟩)] Wi fun x w' => x = .returned (.tuple #[.int .i64 (curC (getM D)).1, .int .i64 (curC (getM D)).2]) ∧ Below Wi.heap.size Wi w' := by
  have H0 := Lib.hid h
  have hok := h.ok
  clear h
  go_enter Try.func56, Try.ntmps56
  go_wp2_with (fail)
  go_loopw [4, 5, 6, 7, 8, 9, 10, 11] (fun e r _ _ _ _ _ i w => ∃ k : Nat, k ≤ 2 ∧ i = .int .i64 k ∧ e = .int .i64 (curK (getM D) k).1 ∧ r = .int .i64 (curK (getM D) k).2 ∧ Below Wi.heap.size Wi w) (fun _ _ _ _ _ _ _ i _ => 2 - (intOf i).toNat)
  case atStart => exact ⟨0, by omega, rfl, rfl, rfl, Below.refl _ _⟩
  case round =>
    obtain ⟨k, hk, rfl, rfl, rfl, hB⟩ := hrel
    by_cases hlt : k < 2
    · have k1 : (k : Int) < 2 := by omega
      have k0 : 0 ≤ (k : Int) := by omega
      have hrd := dread_any (H0.out.next hB) (k : Int)
      rw [readM_on ho (by omega)] at hrd
      have hl := getM_length hok (i := k) (by omega)
      have es : curK (getM D) (k + 1) = seeM (getM D k) (curK (getM D) k) := rfl
      generalize getM D k = bb at *
      generalize curK (getM D) k = p at *
      obtain ⟨pe, pr⟩ := p
      have cut0 := fun W => s_to (P := Try.prog) 9 (by kernel_rfl) bb W .i64 17 17 rfl (by omega)
      have ES := Lib.hid es
      have HRD := Lib.hid hrd
      have HBB := Lib.hid hB
      clear es hrd hB
      have hmg : ((ByteArray.mk magicM.toArray).toList == (ByteArray.mk #[103, 117, 105, 108, 108, 111, 99, 104, 101, 32, 106, 111, 117, 114, 110, 97, 108]).toList) = true := by rw [ByteArray.toList_eq, ByteArray.toList_eq]; rfl
      have HLT := Lib.hid (show k + 1 ≤ 2 ∧ 2 - (k + 1) < 2 - k from by omega)
      by_cases hma : bb.take 17 = magicM
      · rw [hma] at cut0
        have ct1 := fun W => s_cut (P := Try.prog) 9 (by kernel_rfl) bb W .i64 .i64 32 40 32 40 rfl rfl (by omega) (by omega)
        have ct2 := fun W => s_cut (P := Try.prog) 9 (by kernel_rfl) bb W .i64 .i64 40 48 40 48 rfl rfl (by omega) (by omega)
        rw [show 40 - 32 = 8 from rfl] at ct1
        rw [show 48 - 40 = 8 from rfl] at ct2
        have n1 := fun W => number_any ((bb.drop 32).take 8) W (by simp; omega)
        have n2 := fun W => number_any ((bb.drop 40).take 8) W (by simp; omega)
        unfold seeM at ES
        rw [if_pos hma] at ES
        generalize (bb.drop 32).take 8 = x1 at *
        generalize (bb.drop 40).take 8 = x2 at *
        generalize numM x1 = y1 at *
        generalize numM x2 = y2 at *
        have N1 := Lib.hid n1
        have N2 := Lib.hid n2
        clear hma n1 n2 hl hok ho
        go_upto_region 7 with (go_at_call 38; refine HRD.out.mono ?_; rintro x w2 ⟨rfl, b2⟩)
        go_region_held3 (fun _ => True) (trivial) (first
          | (go_at_call_of 74 (Value.string ⟨x1.toArray⟩); refine (N1.out _).mono ?_; rintro x w3 ⟨rfl, hw3⟩)
          | (go_at_call_of 74 (Value.string ⟨x2.toArray⟩); refine (N2.out _).mono ?_; rintro x w4 ⟨rfl, hw4⟩))
        all_goals
          obtain rfl := hw3
          obtain rfl := hw4
          have HBW := Lib.hid ((HBB.out.trans (b2.mono HBB.out.size)).trans (Below.drawn w2 1 _))
          clear b2
          by_cases t1 : y1 > pe
          · by_cases t2 : y2 ≥ 0
            · by_cases t3 : y2 < 2
              · rw [if_pos ⟨t1, t2, t3⟩] at ES
                go_wp2_with (fail)
                exact ⟨⟨k + 1, HLT.out.1, by go_num, by rw [ES.out], by rw [ES.out], HBW.out⟩, by have := HLT.out.2; simp [intOf]; omega⟩
              · rw [if_neg fun h => t3 h.2.2] at ES
                go_wp2_with (fail)
                exact ⟨⟨k + 1, HLT.out.1, by go_num, by rw [ES.out], by rw [ES.out], HBW.out⟩, by have := HLT.out.2; simp [intOf]; omega⟩
            · rw [if_neg fun h => t2 h.2.1] at ES
              go_wp2_with (fail)
              exact ⟨⟨k + 1, HLT.out.1, by go_num, by rw [ES.out], by rw [ES.out], HBW.out⟩, by have := HLT.out.2; simp [intOf]; omega⟩
          · rw [if_neg fun h => t1 h.1] at ES
            go_wp2_with (fail)
            exact ⟨⟨k + 1, HLT.out.1, by go_num, by rw [ES.out], by rw [ES.out], HBW.out⟩, by have := HLT.out.2; simp [intOf]; omega⟩
      · have hne : (bb.take 17 == [103, 117, 105, 108, 108, 111, 99, 104, 101, 32, 106, 111, 117, 114, 110, 97, 108]) = false := beq_eq_false_iff_ne.2 hma
        unfold seeM at ES
        rw [if_neg hma] at ES
        clear hma hl hok
        go_wp2_with (go_at_call 38; refine HRD.out.mono ?_; rintro x w2 ⟨rfl, b2⟩)
        exact ⟨⟨k + 1, HLT.out.1, by go_num, by rw [ES.out], by rw [ES.out], HBB.out.trans (b2.mono HBB.out.size)⟩, by have := HLT.out.2; simp [intOf]; omega⟩
    · obtain rfl : k = 2 := by omega
      have HBB := Lib.hid hB
      clear hB
      go_wp2_with (fail)
      go_ret2
      exact ⟨rfl, HBB.out⟩
end
end Go.Proofs.Ytkljfampkkfgdaa
