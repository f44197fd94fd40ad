/- The journal layer: the walk over load. -/
import Derived.Test.YtkljfampkkfgdaaJCur
namespace Go.Proofs.Ytkljfampkkfgdaa
open Go.RowKit
/-- A string is read from contents g: the rest of it, from unit i on. -/
def loadK (g : Nat → Bs) (base cap : Nat) (e : Int) (at_ q : Nat) : Nat → Nat → Bs → Int → Option Bs
  | 0, _, _, _ => none
  | f + 1, i, s, len =>
    if i = 0 ∨ (i : Int) * 40 < len then
      if cap ≤ at_ + i then none
      else if numM ((g (base + at_ + i)).take 8) = e then
        if numM (((g (base + at_ + i)).drop 8).take 8) = ((q * 65536 + i : Nat) : Int) then
          if numM (((g (base + at_ + i)).drop 16).take 8) < 0 then none
          else if 65536 < numM (((g (base + at_ + i)).drop 16).take 8) then none
          else if 0 < i ∧ numM (((g (base + at_ + i)).drop 16).take 8) ≠ len then none
          else loadK g base cap e at_ q f (i + 1) (s ++ ((g (base + at_ + i)).drop 24).take (min 40 (numM (((g (base + at_ + i)).drop 16).take 8) - 40 * (i : Int)).toNat)) (numM (((g (base + at_ + i)).drop 16).take 8))
        else none
      else none
    else some s
def loadC (g : Nat → Bs) (base cap : Nat) (e : Int) (at_ q : Nat) : Option Bs := loadK g base cap e at_ q (cap + 1) 0 [] 0
section
variable {D : Dk} {F : Nat → Prop}
theorem exec_maxE {ev : Operand → Value} {o : Oper} {w : World} (p q : Operand) (ho : o.op = .call { callee := .builtin .max, args := #[p, q], argTypes := #[3, 3] }) {x y z : Int} (hx : ev p = .int .i64 x) (hy : ev q = .int .i64 y) (h : max x y = z) : (execOp ev o).run Try.prog w = .ok (.value (.int .i64 z)) w := h ▸ exec_max p q ho hx hy
theorem exec_minE {ev : Operand → Value} {o : Oper} {w : World} (p q : Operand) (ho : o.op = .call { callee := .builtin .min, args := #[p, q], argTypes := #[3, 3] }) {x y z : Int} (hx : ev p = .int .i64 x) (hy : ev q = .int .i64 y) (h : min x y = z) : (execOp ev o).run Try.prog w = .ok (.value (.int .i64 z)) w := h ▸ exec_min p q ho hx hy
/-- What load returns. -/
def optV (L : Option Bs) : Value := .tuple #[.string ⟨(L.getD []).toArray⟩, .bool L.isSome]
set_option maxRecDepth 100000 in
set_option maxHeartbeats 4000000 in
theorem load_any {Wi : World} {dk : Nat} (h : DiskAt Wi dk D F) (ho : D.off = false) (h8 : 8 ≤ D.sec.length) (e r : Int) (base at_ q : Nat) (r0 : 0 ≤ r) (r1 : r ≤ 1) (hbase : 2 + r * (capM D.sec.length : Nat) = (base : Int)) (hat : at_ ≤ 10000) (hq : q < 1000000) :
    Calls Try.prog 57 #[.pointer (some ⟨dk, 0, none⟩), .int .i64 e, .int .i64 r, .int .i64 (at_ : Int), .int .i64 (q : Int)] Wi fun x w' => x = .returned (optV (loadC (getM D) base (capM D.sec.length) e at_ q)) ∧ Below Wi.heap.size Wi w' := by
  have hfit : base + capM D.sec.length ≤ D.sec.length := by
    have : capM D.sec.length + capM D.sec.length + 2 ≤ D.sec.length := by unfold capM; omega
    rcases (by omega : r = 0 ∨ r = 1) with rfl | rfl <;> omega
  have hc := capacity_any h h8
  have hfi := first_any h h8 r r0 r1
  rw [hbase] at hfi
  have hok := h.ok
  have hcap : capM D.sec.length ≤ 2047 := by have := hok.few; unfold capM; omega
  have hrd := fun (i : Nat) (hi : i < D.sec.length) W (b : Below Wi.heap.size Wi W) => readM_on ho hi ▸ dread_any (h.next b) (i : Int)
  have hlen := fun (i : Nat) (hi : i < D.sec.length) => getM_length hok hi
  have hcN := fun W (b : Below Wi.heap.size Wi W) => capacity_any (h.next b) h8
  have hfN := fun W (b : Below Wi.heap.size Wi W) => hbase ▸ first_any (h.next b) h8 r r0 r1
  clear hc hfi
  generalize capM D.sec.length = C at *
  obtain ⟨R, hR⟩ : ∃ R, loadC (getM D) base C e at_ q = R := ⟨_, rfl⟩
  rw [hR]
  unfold loadC at hR
  have HRD := Lib.hid hrd
  have HLEN := Lib.hid hlen
  have HCN := Lib.hid hcN
  have HFN := Lib.hid hfN
  have hN := hok.few
  clear hrd hlen hcN hfN h hok h8 hbase
  go_enter Try.func57, Try.ntmps57
  go_wp2_with (fail)
  go_loopw [12, 13, 14, 15, 16, 17] (fun s n i _ _ _ w => ∃ (k : Nat) (t : Bs) (len : Int), k ≤ C ∧ t.length ≤ 40 * k ∧ i = .int .i64 k ∧ s = .string ⟨t.toArray⟩ ∧ n = .int .i64 len ∧ loadK (getM D) base C e at_ q (C + 1 - k) k t len = R ∧ Below Wi.heap.size Wi w) (fun _ _ i _ _ _ _ => C + 1 - (intOf i).toNat)
  case atStart => exact ⟨0, [], 0, by omega, by simp, rfl, rfl, rfl, hR, Below.refl _ _⟩
  case round =>
    obtain ⟨k, t, len, hk, ht, rfl, rfl, rfl, hL, hB⟩ := hrel
    clear hR
    rw [show C + 1 - k = (C - k) + 1 from by omega, loadK] at hL
    have HB := Lib.hid hB
    have HT := Lib.hid ht
    have HCN1 := Lib.hid (HCN.out _ hB)
    clear hB ht
    have k0 : 0 ≤ (k : Int) := by omega
    have m1 : IntKind.i64.wrap ((k : Int) * 40) = k * 40 := IntWalk.i64_in _ (by omega)
    have m2 : IntKind.i64.wrap ((at_ : Int) + (k : Int)) = ((at_ + k : Nat) : Int) := by rw [IntWalk.i64_in _ (by omega)]; omega
    by_cases hc : k = 0 ∨ (k : Int) * 40 < len
    · rw [if_pos hc] at hL
      have hz : ((((k : Int) == 0) = true) ∧ k = 0) ∨ ((((k : Int) == 0) = false) ∧ (k : Int) * 40 < len ∧ 0 < k) := by
        rcases Nat.eq_zero_or_pos k with h | h
        · exact .inl ⟨by simp [h], h⟩
        · exact .inr ⟨by simp; omega, by omega, h⟩
      clear hc
      by_cases hcap2 : C ≤ at_ + k
      · rw [if_pos hcap2] at hL
        have q1 : ((at_ + k : Nat) : Int) ≥ (C : Int) := by omega
        subst hL
        rcases hz with ⟨z1, -⟩ | ⟨z1, z2, -⟩
        all_goals
          go_wp2_with (go_at_call 44; refine HCN1.out.mono ?_; rintro x w2 ⟨rfl, hw2⟩; obtain rfl := hw2.symm)
          go_ret2
          exact ⟨rfl, HB.out⟩
      · rw [if_neg hcap2] at hL
        have q1 : ¬ ((at_ + k : Nat) : Int) ≥ (C : Int) := by omega
        have hi : base + at_ + k < D.sec.length := by omega
        have HRD1 := Lib.hid (HRD.out _ hi)
        have hl := HLEN.out _ hi
        have m3 : IntKind.i64.wrap ((base : Int) + (at_ : Int)) = ((base + at_ : Nat) : Int) := by rw [IntWalk.i64_in _ (by omega)]; omega
        have m4 : IntKind.i64.wrap (((base + at_ : Nat) : Int) + (k : Int)) = ((base + at_ + k : Nat) : Int) := by rw [IntWalk.i64_in _ (by omega)]; omega
        have hor : bits .or .i64 ((q : Int) * 65536) (k : Int) = ((q * 65536 + k : Nat) : Int) := by rw [← or_low q k (by omega) (by omega)]; congr 1
        have m5 : IntKind.i64.wrap ((q : Int) * 65536) = (q : Int) * 65536 := IntWalk.i64_in _ (by omega)
        generalize getM D (base + at_ + k) = bb at *
        have c1 := fun W => s_cut (P := Try.prog) 9 (by kernel_rfl) bb W .i64 .i64 0 8 0 8 rfl rfl (by omega) (by omega)
        have c2 := fun W => s_cut (P := Try.prog) 9 (by kernel_rfl) bb W .i64 .i64 8 16 8 16 rfl rfl (by omega) (by omega)
        have c3 := fun W => s_cut (P := Try.prog) 9 (by kernel_rfl) bb W .i64 .i64 16 24 16 24 rfl rfl (by omega) (by omega)
        simp only [List.drop_zero, Nat.sub_zero] at c1
        rw [show 16 - 8 = 8 from rfl] at c2
        rw [show 24 - 16 = 8 from rfl] at c3
        have n1 := fun W => number_any (bb.take 8) W (by simp; omega)
        have n2 := fun W => number_any ((bb.drop 8).take 8) W (by simp; omega)
        have n3 := fun W => number_any ((bb.drop 16).take 8) W (by simp; omega)
        generalize bb.take 8 = x1 at *
        generalize (bb.drop 8).take 8 = x2 at *
        generalize (bb.drop 16).take 8 = x3 at *
        generalize numM x1 = y1 at *
        generalize numM x2 = y2 at *
        generalize numM x3 = y3 at *
        generalize hyy : ((q * 65536 + k : Nat) : Int) = yy at *
        have HYY := Lib.hid hyy
        have N1 := Lib.hid n1
        have N2 := Lib.hid n2
        have N3 := Lib.hid n3
        clear n1 n2 n3 hyy
        by_cases e1 : y1 = e
        · rw [if_pos e1] at hL
          have b1 : (y1 != e) = false := by simpa using e1
          clear e1
          by_cases e2 : y2 = yy
          · rw [if_pos e2] at hL
            have b2 : (y2 != yy) = false := by simpa using e2
            clear e2
            by_cases e3 : y3 < 0
            · rw [if_pos e3] at hL
              subst hL
              rcases hz with ⟨z1, -⟩ | ⟨z1, z2, -⟩
              all_goals
                go_wp2_with (first
                      | (go_at_call 44; refine HCN1.out.mono ?_; rintro x w2 ⟨rfl, hw2⟩; obtain rfl := hw2.symm)
                      | (go_at_call 49; refine (HFN.out _ HB.out).mono ?_; rintro x w2 ⟨rfl, hw2⟩; obtain rfl := hw2.symm)
                      | (go_at_call 38; refine (HRD1.out _ HB.out).mono ?_; rintro x w3 ⟨rfl, bb2⟩)
                      | (go_at_call_of 74 (Value.string ⟨x1.toArray⟩); refine (N1.out _).mono ?_; rintro x w4 ⟨rfl, hw4⟩; obtain rfl := hw4.symm)
                      | (go_at_call_of 74 (Value.string ⟨x2.toArray⟩); refine (N2.out _).mono ?_; rintro x w4 ⟨rfl, hw4⟩; obtain rfl := hw4.symm)
                      | (go_at_call_of 74 (Value.string ⟨x3.toArray⟩); refine (N3.out _).mono ?_; rintro x w4 ⟨rfl, hw4⟩; obtain rfl := hw4.symm))
                go_ret2
                exact ⟨rfl, HB.out.trans (bb2.mono HB.out.size)⟩
            · rw [if_neg e3] at hL
              by_cases e4 : 65536 < y3
              · rw [if_pos e4] at hL
                have e4' : y3 > 65536 := e4
                subst hL
                rcases hz with ⟨z1, -⟩ | ⟨z1, z2, -⟩
                all_goals
                  go_wp2_with (first
                      | (go_at_call 44; refine HCN1.out.mono ?_; rintro x w2 ⟨rfl, hw2⟩; obtain rfl := hw2.symm)
                      | (go_at_call 49; refine (HFN.out _ HB.out).mono ?_; rintro x w2 ⟨rfl, hw2⟩; obtain rfl := hw2.symm)
                      | (go_at_call 38; refine (HRD1.out _ HB.out).mono ?_; rintro x w3 ⟨rfl, bb2⟩)
                      | (go_at_call_of 74 (Value.string ⟨x1.toArray⟩); refine (N1.out _).mono ?_; rintro x w4 ⟨rfl, hw4⟩; obtain rfl := hw4.symm)
                      | (go_at_call_of 74 (Value.string ⟨x2.toArray⟩); refine (N2.out _).mono ?_; rintro x w4 ⟨rfl, hw4⟩; obtain rfl := hw4.symm)
                      | (go_at_call_of 74 (Value.string ⟨x3.toArray⟩); refine (N3.out _).mono ?_; rintro x w4 ⟨rfl, hw4⟩; obtain rfl := hw4.symm))
                  go_ret2
                  exact ⟨rfl, HB.out.trans (bb2.mono HB.out.size)⟩
              · rw [if_neg e4] at hL
                have e4' : ¬ y3 > 65536 := e4
                by_cases e5 : 0 < k ∧ y3 ≠ len
                · rw [if_pos e5] at hL
                  have b5 : (y3 != len) = true := by simpa using e5.2
                  have b6 : (k : Int) > 0 := by omega
                  subst hL
                  rcases hz with ⟨_, z0⟩ | ⟨z1, z2, _⟩
                  · omega
                  · clear e5
                    go_wp2_with (first
                      | (go_at_call 44; refine HCN1.out.mono ?_; rintro x w2 ⟨rfl, hw2⟩; obtain rfl := hw2.symm)
                      | (go_at_call 49; refine (HFN.out _ HB.out).mono ?_; rintro x w2 ⟨rfl, hw2⟩; obtain rfl := hw2.symm)
                      | (go_at_call 38; refine (HRD1.out _ HB.out).mono ?_; rintro x w3 ⟨rfl, bb2⟩)
                      | (go_at_call_of 74 (Value.string ⟨x1.toArray⟩); refine (N1.out _).mono ?_; rintro x w4 ⟨rfl, hw4⟩; obtain rfl := hw4.symm)
                      | (go_at_call_of 74 (Value.string ⟨x2.toArray⟩); refine (N2.out _).mono ?_; rintro x w4 ⟨rfl, hw4⟩; obtain rfl := hw4.symm)
                      | (go_at_call_of 74 (Value.string ⟨x3.toArray⟩); refine (N3.out _).mono ?_; rintro x w4 ⟨rfl, hw4⟩; obtain rfl := hw4.symm))
                    go_ret2
                    exact ⟨rfl, HB.out.trans (bb2.mono HB.out.size)⟩
                · rw [if_neg e5] at hL
                  obtain ⟨m, hm⟩ : ∃ m : Nat, max 0 (y3 - (k : Int) * 40) = (m : Int) := ⟨(max 0 (y3 - (k : Int) * 40)).toNat, by omega⟩
                  obtain ⟨j, hj⟩ : ∃ j : Nat, min (64 : Int) (24 + (m : Int)) = 24 + (j : Int) := ⟨min 40 m, by omega⟩
                  have hj3 : min 40 (y3 - 40 * (k : Int)).toNat = j := by omega
                  rw [hj3] at hL
                  have hj4 : j ≤ 40 := by omega
                  have c4 := fun W => s_cut (P := Try.prog) 9 (by kernel_rfl) bb W .i64 .i64 24 (24 + (j : Int)) 24 (24 + j) rfl (by omega) (by omega) (by omega)
                  rw [show 24 + j - 24 = j from by omega] at c4
                  have hx4 : ((bb.drop 24).take j).length ≤ 40 := by simp; omega
                  have hT' : (t ++ (bb.drop 24).take j).length ≤ 40 * (k + 1) := by have := HT.out; simp; omega
                  generalize (bb.drop 24).take j = x4 at *
                  have c5 := fun W => s_add (P := Try.prog) t x4 W (by have := HT.out; omega)
                  have m6 : IntKind.i64.wrap (y3 - (k : Int) * 40) = y3 - k * 40 := IntWalk.i64_in _ (by omega)
                  have m7 : IntKind.i64.wrap (24 + (m : Int)) = 24 + m := IntWalk.i64_in _ (by omega)
                  have HM := Lib.hid hm
                  have HJ := Lib.hid hj
                  have HT2 := Lib.hid hT'
                  have HL := Lib.hid hL
                  have HMS := Lib.hid (show k + 1 ≤ C ∧ C + 1 - (k + 1) < C + 1 - k ∧ C + 1 - (k + 1) = C - k from by omega)
                  have hb5 : (((k : Int) > 0) ∧ (y3 != len) = false) ∨ ¬ ((k : Int) > 0) := by
                    rcases Nat.eq_zero_or_pos k with h | h
                    · exact .inr (by omega)
                    · exact .inl ⟨by omega, by simpa using fun hh => e5 ⟨h, hh⟩⟩
                  clear hm hj hj3 hT' hL hx4 e5
                  rcases hz with ⟨z1, z0⟩ | ⟨z1, z2, z3⟩
                  · have b6 : ¬ ((k : Int) > 0) := by omega
                    clear hb5 z0
                    go_wp2_with (first
                      | (go_at_call 44; refine HCN1.out.mono ?_; rintro x w2 ⟨rfl, hw2⟩; obtain rfl := hw2.symm)
                      | (go_at_call 49; refine (HFN.out _ HB.out).mono ?_; rintro x w2 ⟨rfl, hw2⟩; obtain rfl := hw2.symm)
                      | (go_at_call 38; refine (HRD1.out _ HB.out).mono ?_; rintro x w3 ⟨rfl, bb2⟩)
                      | (go_at_call_of 74 (Value.string ⟨x1.toArray⟩); refine (N1.out _).mono ?_; rintro x w4 ⟨rfl, hw4⟩; obtain rfl := hw4.symm)
                      | (go_at_call_of 74 (Value.string ⟨x2.toArray⟩); refine (N2.out _).mono ?_; rintro x w4 ⟨rfl, hw4⟩; obtain rfl := hw4.symm)
                      | (go_at_call_of 74 (Value.string ⟨x3.toArray⟩); refine (N3.out _).mono ?_; rintro x w4 ⟨rfl, hw4⟩; obtain rfl := hw4.symm)
                      | (refine wpList_exec rfl _ (exec_maxE (.const (.int .i64 0)) (.tmp 85) rfl rfl rfl HM.out) ?_)
                      | (refine wpList_exec rfl _ (exec_minE (.const (.int .i64 64)) (.tmp 87) rfl rfl rfl HJ.out) ?_))
                    exact ⟨⟨k + 1, _, _, HMS.out.1, HT2.out, by go_num, rfl, rfl, by rw [HMS.out.2.2]; exact HL.out, HB.out.trans (bb2.mono HB.out.size)⟩, by have := HMS.out.2.1; simp [intOf]; omega⟩
                  · have b6 : (k : Int) > 0 := by omega
                    have b7 : (y3 != len) = false := by
                      rcases hb5 with h | h
                      · exact h.2
                      · exact absurd b6 h
                    clear hb5 z3
                    go_wp2_with (first
                      | (go_at_call 44; refine HCN1.out.mono ?_; rintro x w2 ⟨rfl, hw2⟩; obtain rfl := hw2.symm)
                      | (go_at_call 49; refine (HFN.out _ HB.out).mono ?_; rintro x w2 ⟨rfl, hw2⟩; obtain rfl := hw2.symm)
                      | (go_at_call 38; refine (HRD1.out _ HB.out).mono ?_; rintro x w3 ⟨rfl, bb2⟩)
                      | (go_at_call_of 74 (Value.string ⟨x1.toArray⟩); refine (N1.out _).mono ?_; rintro x w4 ⟨rfl, hw4⟩; obtain rfl := hw4.symm)
                      | (go_at_call_of 74 (Value.string ⟨x2.toArray⟩); refine (N2.out _).mono ?_; rintro x w4 ⟨rfl, hw4⟩; obtain rfl := hw4.symm)
                      | (go_at_call_of 74 (Value.string ⟨x3.toArray⟩); refine (N3.out _).mono ?_; rintro x w4 ⟨rfl, hw4⟩; obtain rfl := hw4.symm)
                      | (refine wpList_exec rfl _ (exec_maxE (.const (.int .i64 0)) (.tmp 85) rfl rfl rfl HM.out) ?_)
                      | (refine wpList_exec rfl _ (exec_minE (.const (.int .i64 64)) (.tmp 87) rfl rfl rfl HJ.out) ?_))
                    exact ⟨⟨k + 1, _, _, HMS.out.1, HT2.out, by go_num, rfl, rfl, by rw [HMS.out.2.2]; exact HL.out, HB.out.trans (bb2.mono HB.out.size)⟩, by have := HMS.out.2.1; simp [intOf]; omega⟩
          · rw [if_neg e2] at hL
            have b2 : (y2 != yy) = true := by simpa using e2
            clear e2
            subst hL
            rcases hz with ⟨z1, -⟩ | ⟨z1, z2, -⟩
            all_goals
              go_wp2_with (first
                      | (go_at_call 44; refine HCN1.out.mono ?_; rintro x w2 ⟨rfl, hw2⟩; obtain rfl := hw2.symm)
                      | (go_at_call 49; refine (HFN.out _ HB.out).mono ?_; rintro x w2 ⟨rfl, hw2⟩; obtain rfl := hw2.symm)
                      | (go_at_call 38; refine (HRD1.out _ HB.out).mono ?_; rintro x w3 ⟨rfl, bb2⟩)
                      | (go_at_call_of 74 (Value.string ⟨x1.toArray⟩); refine (N1.out _).mono ?_; rintro x w4 ⟨rfl, hw4⟩; obtain rfl := hw4.symm)
                      | (go_at_call_of 74 (Value.string ⟨x2.toArray⟩); refine (N2.out _).mono ?_; rintro x w4 ⟨rfl, hw4⟩; obtain rfl := hw4.symm)
                      | (go_at_call_of 74 (Value.string ⟨x3.toArray⟩); refine (N3.out _).mono ?_; rintro x w4 ⟨rfl, hw4⟩; obtain rfl := hw4.symm))
              go_ret2
              exact ⟨rfl, HB.out.trans (bb2.mono HB.out.size)⟩
        · rw [if_neg e1] at hL
          have b1 : (y1 != e) = true := by simpa using e1
          clear e1
          subst hL
          rcases hz with ⟨z1, -⟩ | ⟨z1, z2, -⟩
          all_goals
            go_wp2_with (first
                      | (go_at_call 44; refine HCN1.out.mono ?_; rintro x w2 ⟨rfl, hw2⟩; obtain rfl := hw2.symm)
                      | (go_at_call 49; refine (HFN.out _ HB.out).mono ?_; rintro x w2 ⟨rfl, hw2⟩; obtain rfl := hw2.symm)
                      | (go_at_call 38; refine (HRD1.out _ HB.out).mono ?_; rintro x w3 ⟨rfl, bb2⟩)
                      | (go_at_call_of 74 (Value.string ⟨x1.toArray⟩); refine (N1.out _).mono ?_; rintro x w4 ⟨rfl, hw4⟩; obtain rfl := hw4.symm)
                      | (go_at_call_of 74 (Value.string ⟨x2.toArray⟩); refine (N2.out _).mono ?_; rintro x w4 ⟨rfl, hw4⟩; obtain rfl := hw4.symm)
                      | (go_at_call_of 74 (Value.string ⟨x3.toArray⟩); refine (N3.out _).mono ?_; rintro x w4 ⟨rfl, hw4⟩; obtain rfl := hw4.symm))
            go_ret2
            exact ⟨rfl, HB.out.trans (bb2.mono HB.out.size)⟩
    · rw [if_neg hc] at hL
      have z1 : ((k : Int) == 0) = false := by simp; omega
      have z2 : ¬ (k : Int) * 40 < len := by omega
      clear hc
      subst hL
      go_wp2_with (fail)
      go_ret2
      exact ⟨rfl, HB.out⟩
end
end Go.Proofs.Ytkljfampkkfgdaa
