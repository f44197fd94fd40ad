/- The journal layer: the walks over what the reference asks of lists of strings. -/
import Derived.Test.YtkljfampkkfgdaaJFresh
namespace Go.Proofs.Ytkljfampkkfgdaa
open Go.RowKit
theorem begins_take {a b : List Bs} (h : b.length ≤ a.length) : beginsM a b = true ↔ b.take b.length = a.take b.length := by
  rw [begins_iff, List.take_length]
  constructor
  · rintro ⟨t, rfl⟩; simp
  · intro h2; exact ⟨a.drop b.length, by rw [h2, List.length_take, Nat.min_eq_left h, List.take_append_drop]⟩
theorem begins_long {a b : List Bs} (h : a.length < b.length) : beginsM a b = false := by
  cases hb : beginsM a b with
  | false => rfl
  | true =>
    obtain ⟨t, rfl⟩ := begins_iff.1 hb
    simp at h; omega
theorem strs_some {W : World} {A : Option Addr} {l : List Bs} (h : Strs W A l) (hl : l ≠ []) : ∃ a, A = some a := by
  rcases h with e | ⟨a, e, _⟩
  · exact absurd e hl
  · exact ⟨a, e⟩
set_option maxRecDepth 100000 in
set_option maxHeartbeats 2000000 in
theorem begins_any (W : World) (A B : Option Addr) (a b : List Bs) (n m c d : Nat) (hA : Strs W A a) (hB : Strs W B b) (hn : a.length = n) (hm : b.length = m) (hs : m ≤ 1000000) (hs2 : n ≤ 1000000) :
    Calls Try.prog 33 #[.slice A n c, .slice B m d] W fun e w' => e = .returned (.bool (beginsM a b)) ∧ Below W.heap.size W w' := by
  by_cases hlen : n < m
  · have e0 := begins_long (a := a) (b := b) (by omega)
    rw [e0]
    have t1 : (m : Int) > n := by omega
    clear hA hB hn hm e0
    go_enter Try.func33, Try.ntmps33
    go_wp2_with (fail)
    go_ret
    exact ⟨rfl, Below.refl _ _⟩
  · have t1 : ¬ (m : Int) > n := by omega
    obtain ⟨R, hR⟩ : ∃ R, beginsM a b = R := ⟨_, rfl⟩
    rw [hR]
    have hiff := begins_take (a := a) (b := b) (by omega)
    rw [hR] at hiff
    have HI := Lib.hid hiff
    have HN := Lib.hid hn
    have HM := Lib.hid hm
    clear hR hiff hn hm
    go_enter Try.func33, Try.ntmps33
    go_wp2_with (fail)
    go_loopw [5] (fun i w => ∃ k : Nat, k ≤ m ∧ i = .int .i64 k ∧ b.take k = a.take k ∧ Below W.heap.size W w) (fun i _ => m - (intOf i).toNat)
    case atStart => exact ⟨0, Nat.zero_le _, rfl, rfl, Below.refl _ _⟩
    case round =>
      obtain ⟨k, hk, rfl, hpre, hW⟩ := hrel
      have HP := Lib.hid hpre
      have HW := Lib.hid hW
      by_cases hlt : k < m
      · have k1 : (k : Int) < (m : Nat) := by omega
        have k0 : 0 ≤ (k : Int) := by omega
        have k2 : k < m := hlt
        have k3 : k < n := by omega
        have k4 : (k : Int) < (n : Nat) := by omega
        have ha : k < a.length := by have := HN.out; omega
        have hb : k < b.length := by have := HM.out; omega
        obtain ⟨pa, rfl⟩ := strs_some hA (by rintro rfl; cases ha)
        obtain ⟨pb, rfl⟩ := strs_some hB (by rintro rfl; cases hb)
        have g0 := (hA.next hW).cell ha
        have g1 := (hB.next hW).cell hb
        have hsn : ∀ x y, x = y → b[k] = x → a[k] = y → b.take (k + 1) = a.take (k + 1) := fun x y e e1 e2 => by rw [List.take_succ_eq_append_getElem hb, List.take_succ_eq_append_getElem ha, HP.out, e1, e2, e]
        have hno : a[k] ≠ b[k] → R = false := fun hne => by
          cases R with
          | false => rfl
          | true =>
            have h1 := HI.out.1 rfl
            refine absurd ?_ hne
            have h2 := congrArg (fun l => l[k]?) h1
            simp only [List.getElem?_take] at h2
            rw [if_pos hb, if_pos hb, List.getElem?_eq_getElem hb, List.getElem?_eq_getElem ha] at h2
            exact (Option.some.inj h2).symm
        have HSN := Lib.hid hsn
        have HNO := Lib.hid hno
        have HMS := Lib.hid (show k + 1 ≤ m ∧ m - (k + 1) < m - k from by omega)
        obtain ⟨X, hX⟩ : ∃ X, a[k] = X := ⟨_, rfl⟩
        obtain ⟨Y, hY⟩ : ∃ Y, b[k] = Y := ⟨_, rfl⟩
        rw [hX] at g0 HNO
        rw [hY] at g1 HNO
        have HX := Lib.hid hX
        have HY := Lib.hid hY
        clear hX hY hsn hno hpre hW
        by_cases hXY : X = Y
        · have q1 : (X == Y) = true := by simpa using hXY
          have HE := Lib.hid hXY
          clear hXY
          go_upto_region 6 with (fail)
          go_quiet (fail)
          go_wp2_with (fail)
          exact ⟨⟨k + 1, HMS.out.1, by go_num, HSN.out _ _ HE.out.symm HY.out HX.out, Below.on HW.out (Below.drawn wr nq _)⟩, by have := HMS.out.2; simp [intOf]; omega⟩
        · have q1 : (X == Y) = false := by simpa using hXY
          have HE := Lib.hid (HNO.out hXY)
          clear hXY
          go_upto_region 6 with (fail)
          go_quiet (fail)
          go_wp2_with (fail)
          go_ret
          rw [HE.out]
          exact ⟨rfl, Below.on HW.out (Below.drawn wr nq _)⟩
      · obtain rfl : k = m := by omega
        have e1 : R = true := HI.out.2 (by rw [HM.out]; exact HP.out)
        have HE := Lib.hid e1
        clear hpre hW e1
        go_wp2_with (fail)
        go_ret
        rw [HE.out]
        exact ⟨rfl, HW.out⟩
def sameM (a b : List Bs) : Bool := decide (a = b)
theorem begins_same {a b : List Bs} (h : a.length = b.length) : beginsM a b = decide (a = b) := by
  by_cases e : a = b
  · rw [e, begins_self]; simp
  · rw [decide_eq_false e]
    cases hb : beginsM a b with
    | false => rfl
    | true =>
      obtain ⟨t, rfl⟩ := begins_iff.1 hb
      have : t = [] := by simpa using h
      subst this
      exact absurd (List.append_nil _) e
set_option maxRecDepth 100000 in
set_option maxHeartbeats 1000000 in
theorem same_any (W : World) (A B : Option Addr) (a b : List Bs) (n m c d : Nat) (hA : Strs W A a) (hB : Strs W B b) (hn : a.length = n) (hm : b.length = m) (hs : m ≤ 1000000) (hs2 : n ≤ 1000000) :
    Calls Try.prog 22 #[.slice A n c, .slice B m d] W fun e w' => e = .returned (.bool (decide (a = b))) ∧ Below W.heap.size W w' := by
  have hb := begins_any W A B a b n m c d hA hB hn hm hs hs2
  by_cases e : n = m
  · rw [begins_same (by omega)] at hb
    subst e
    have t1 : ((n : Int) == n) = true := by simp
    have HB := Lib.hid hb
    clear hb hA hB hn hm
    go_enter Try.func22, Try.ntmps22
    go_wp2_with (go_at_call 33; refine HB.out.mono ?_; rintro x w1 ⟨rfl, b1⟩)
    go_ret
    exact ⟨rfl, b1⟩
  · have t1 : ((n : Int) == m) = false := by simp; omega
    have e1 : decide (a = b) = false := decide_eq_false fun h => e (by rw [← hn, ← hm, h])
    rw [e1]
    clear hb hA hB hn hm e e1
    go_enter Try.func22, Try.ntmps22
    go_wp2_with (fail)
    go_ret
    exact ⟨rfl, Below.refl _ _⟩
theorem unitsM_le (n : Nat) : unitsM n ≤ n + 1 := by unfold unitsM; omega
theorem usedM_le {l : List Bs} {k : Nat} (h : ∀ x ∈ l, x.length ≤ k) : usedM l ≤ l.length * (k + 1) := by
  induction l with
  | nil => exact Nat.zero_le _
  | cons x l ih =>
    have h1 := h x (by simp)
    have h2 := ih fun y hy => h y (by simp [hy])
    have h3 := unitsM_le x.length
    simp only [usedM, List.length_cons, Nat.succ_mul]
    omega
set_option maxRecDepth 100000 in
set_option maxHeartbeats 2000000 in
theorem used_any (W : World) (st : Bs) (A : Option Addr) (l : List Bs) (n c : Nat) (hA : Strs W A l) (hn : l.length = n) (hs : n ≤ 100000) (h1 : ∀ x ∈ st :: l, x.length ≤ 1000000) :
    Calls Try.prog 70 #[.string ⟨st.toArray⟩, .slice A n c] W fun e w' => e = .returned (.int .i64 (usedM (st :: l) : Nat)) ∧ w' = W := by
  have hu := fun W => runits_any W st.length (h1 st (by simp))
  have hun := fun W k (h : k < l.length) => runits_any W l[k].length (h1 l[k] (List.mem_cons_of_mem _ (List.getElem_mem h)))
  have hbound : ∀ k, usedM (st :: l.take k) ≤ 200000000000 := fun k => by
    have h2 := usedM_le (l := l.take k) (k := 1000000) fun x hx => h1 x (List.mem_cons_of_mem _ (List.mem_of_mem_take hx))
    have h3 := unitsM_le st.length
    have h4 := h1 st (by simp)
    have h5 : (l.take k).length ≤ 100000 := by simp; omega
    have h6 : (l.take k).length * (1000000 + 1) ≤ 100000 * (1000000 + 1) := Nat.mul_le_mul_right _ h5
    simp only [usedM]
    omega
  have HU := Lib.hid hu
  have HUN := Lib.hid hun
  have HBD := Lib.hid hbound
  have HN := Lib.hid hn
  clear hu hun hbound hn h1
  go_enter Try.func70, Try.ntmps70
  go_wp2_with (go_at_call 17; refine (HU.out _).mono ?_; rintro x w1 ⟨rfl, hw1⟩; obtain rfl := hw1.symm)
  go_loopw [5, 6] (fun u i w => ∃ k : Nat, k ≤ n ∧ i = .int .i64 k ∧ u = .int .i64 (usedM (st :: l.take k) : Nat) ∧ w = W) (fun _ i _ => n - (intOf i).toNat)
  case atStart => exact ⟨0, Nat.zero_le _, rfl, by simp [usedM], rfl⟩
  case round =>
    obtain ⟨k, hk, rfl, rfl, rfl⟩ := hrel
    by_cases hlt : k < n
    · have k1 : (k : Int) < (n : Nat) := by omega
      have k0 : 0 ≤ (k : Int) := by omega
      have k2 : k < n := hlt
      have hl : k < l.length := by have := HN.out; omega
      obtain ⟨pa, rfl⟩ := strs_some hA (by rintro rfl; cases hl)
      have g0 := hA.cell hl
      have hun1 := fun W => HUN.out W k hl
      have hus : usedM (st :: l.take (k + 1)) = usedM (st :: l.take k) + unitsM l[k].length := by simp only [usedM]; rw [usedM_take hl]; omega
      have hb1 := HBD.out (k + 1)
      generalize l[k] = X at *
      rw [hus] at hb1
      have HUS := Lib.hid hus
      have HUN1 := Lib.hid hun1
      generalize usedM (st :: l.take k) = u at *
      generalize unitsM X.length = ux at *
      have m1 : IntKind.i64.wrap ((u : Int) + (ux : Int)) = ((u + ux : Nat) : Int) := by rw [IntWalk.i64_in _ (by omega)]; omega
      have HMS := Lib.hid (show k + 1 ≤ n ∧ n - (k + 1) < n - k from by omega)
      clear hus hun1 hl hb1
      go_wp2_with (go_at_call 17; refine (HUN1.out _).mono ?_; rintro x w1 ⟨rfl, hw1⟩; obtain rfl := hw1.symm)
      exact ⟨⟨k + 1, HMS.out.1, by go_num, by rw [HUS.out]; exact congrArg _ (by omega), trivial⟩, by have := HMS.out.2; simp [intOf]; omega⟩
    · obtain rfl : k = n := by omega
      have e1 : l.take k = l := List.take_of_length_le (by rw [HN.out]; exact Nat.le_refl _)
      rw [e1]
      clear e1
      go_wp2_with (fail)
      go_ret
      exact ⟨rfl, rfl⟩
end Go.Proofs.Ytkljfampkkfgdaa
