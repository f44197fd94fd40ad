/- The journal layer: the walk over awake. -/
import Derived.Test.YtkljfampkkfgdaaJOwn
namespace Go.Proofs.Ytkljfampkkfgdaa
open Go.RowKit
/-- What the calls of awake leave, one after the other. -/
def bdB (D : Dk) : Bool := decide (8 ≤ D.sec.length) && decide ((curC (getM D)).1 < 4611686018427387904) && D.sec.all fun s => decide (s.pend.length ≤ 50000)
def jbB (J : Jn) : Bool := decide (0 ≤ J.reg ∧ J.reg ≤ 1) && decide (0 ≤ J.ep ∧ J.ep < 4611686018427387904) && decide (J.recs.length ≤ 900000) && decide (J.used ≤ 900000)
theorem bdB_ok {D : Dk} (h : bdB D = true) : Bd D := by
  unfold bdB at h
  simp only [Bool.and_eq_true, decide_eq_true_eq, List.all_eq_true] at h
  exact ⟨h.1.1, h.1.2, h.2⟩
theorem jbB_ok {J : Jn} (h : jbB J = true) : JBd J := by
  unfold jbB at h
  simp only [Bool.and_eq_true, decide_eq_true_eq] at h
  exact ⟨h.1.1.1, h.1.1.2, h.1.2, h.2⟩
def aj0 : Jn := newJ 0
def awD1 : Dk := (formatM (newM 20)).2
def awO2 : Int × Dk × Option Jn := openM awD1
def awR3 : Int × Dk × Jn := appendM awO2.2.1 (awO2.2.2.getD aj0) [97]
def awR4 : Int × Dk × Jn := commitM awR3.2.1 awR3.2.2
def awR5 : Int × Dk × Jn := appendM awR4.2.1 awR4.2.2 [98]
def awD6 : Dk := crashM awR5.2.1 []
def awO7 : Int × Dk × Option Jn := openM awD6
def awR8 : Int × Dk × Jn := appendM awO7.2.1 awR5.2.2 [99]
def awB : Bool :=
  decide ((formatM (newM 20)).1 = 0) && bdB (newM 20) && bdB awD1 && decide (awO2.1 = 0) && awO2.2.2.isSome && decide (capM awO2.2.1.sec.length = (awO2.2.2.getD aj0).used + 8) && bdB awO2.2.1 && jbB (awO2.2.2.getD aj0)
  && decide (awR3.1 = 0) && bdB awR3.2.1 && jbB awR3.2.2 && decide (awR4.1 = 0) && bdB awR4.2.1 && jbB awR4.2.2 && decide (awR5.1 = 0) && bdB awR5.2.1 && jbB awR5.2.2
  && bdB awD6 && decide (awO7.1 = 0) && awO7.2.2.isSome && decide ((awO7.2.2.getD aj0).recs.head? = some [97]) && bdB awO7.2.1 && jbB (awO7.2.2.getD aj0) && decide (awR8.1 = 72)
set_option maxRecDepth 100000 in
theorem awB_true : awB = true := by decide +kernel
theorem open_some {r : Int × Dk × Option Jn} (h1 : r.1 = 0) (h2 : r.2.2.isSome = true) (J : Jn) : r = (0, r.2.1, some (r.2.2.getD J)) := by
  obtain ⟨a, b, c⟩ := r
  cases c with
  | none => cases h2
  | some x => simp only at h1; rw [h1]; rfl
theorem aw_facts : ∃ D1 D2 J2 D3 J3 D4 J4 D5 J5 D7 J7 D8 J8 l, formatM (newM 20) = (0, D1) ∧ Bd (newM 20) ∧ Bd D1 ∧ openM D1 = (0, D2, some J2) ∧ capM D2.sec.length = J2.used + 8 ∧ Bd D2 ∧ JBd J2 ∧ appendM D2 J2 [97] = (0, D3, J3) ∧ Bd D3 ∧ JBd J3
    ∧ commitM D3 J3 = (0, D4, J4) ∧ Bd D4 ∧ JBd J4 ∧ appendM D4 J4 [98] = (0, D5, J5) ∧ Bd D5 ∧ JBd J5 ∧ Bd (crashM D5 []) ∧ openM (crashM D5 []) = (0, D7, some J7) ∧ J7.recs = [97] :: l ∧ Bd D7 ∧ JBd J7 ∧ appendM D7 J5 [99] = (72, D8, J8) := by
  have h := awB_true
  unfold awB at h
  simp only [Bool.and_eq_true, decide_eq_true_eq] at h
  obtain ⟨⟨⟨⟨⟨⟨⟨⟨⟨⟨⟨⟨⟨⟨⟨⟨⟨⟨⟨⟨⟨⟨⟨h1, h2⟩, h3⟩, h4⟩, h5⟩, h6⟩, h7⟩, h8⟩, h9⟩, h10⟩, h11⟩, h12⟩, h13⟩, h14⟩, h15⟩, h16⟩, h17⟩, h18⟩, h19⟩, h20⟩, h21⟩, h22⟩, h23⟩, h24⟩ := h
  have p3 : ∀ r : Int × Dk, r.1 = 0 → r = (0, r.2) := fun r h => by rw [← h]
  have p4 : ∀ (r : Int × Dk × Jn) (n : Int), r.1 = n → r = (n, r.2.1, r.2.2) := fun r n h => by rw [← h]
  cases hr : (awO7.2.2.getD aj0).recs with
  | nil => rw [hr] at h21; cases h21
  | cons x l =>
    rw [hr] at h21
    simp only [List.head?_cons, Option.some.injEq] at h21
    subst h21
    exact ⟨awD1, awO2.2.1, awO2.2.2.getD aj0, awR3.2.1, awR3.2.2, awR4.2.1, awR4.2.2, awR5.2.1, awR5.2.2, awO7.2.1, awO7.2.2.getD aj0, awR8.2.1, awR8.2.2, l, p3 _ h1, bdB_ok h2, bdB_ok h3, open_some h4 h5 _, h6, bdB_ok h7, jbB_ok h8, p4 _ _ h9, bdB_ok h10, jbB_ok h11,
      p4 _ _ h12, bdB_ok h13, jbB_ok h14, p4 _ _ h15, bdB_ok h16, jbB_ok h17, bdB_ok h18, open_some h19 h20 _, hr, bdB_ok h22, jbB_ok h23, p4 _ _ h24⟩
set_option maxRecDepth 100000 in
set_option maxHeartbeats 4000000 in
theorem awake_any (W : World) : Calls Try.prog 12 #[] W fun e w' => e = .returned (.bool true) ∧ Below W.heap.size W w' := by
  obtain ⟨D1, D2, J2, D3, J3, D4, J4, D5, J5, D7, J7, D8, J8, l, a1, b0, b1, a2, a3, b2, j2, a4, b3, j3, a5, b4, j4, a6, b5, j5, b6, a7, a8, b7, j7, a9⟩ := aw_facts
  have n1 := dnew_dd W (fun i => i < W.heap.size) (fun i hi => hi) 20 (by decide) (by decide)
  have f1 := fun w dk (h : DD (fun i => i < W.heap.size) w dk (newM 20)) => a1 ▸ format_dd h b0
  have o1 := fun w dk (h : DD (fun i => i < W.heap.size) w dk D1) => a2 ▸ open_dd h b1
  have r1 := fun w dk jb (h : JD (fun i => i < W.heap.size) w dk jb D2 J2) => room_jd h b2.h8 (by have := j2.used; omega)
  have p1 := fun w dk jb (h : JD (fun i => i < W.heap.size) w dk jb D2 J2) => a4 ▸ append_jd h b2 j2 [97] (by decide)
  have c1 := fun w dk jb (h : JD (fun i => i < W.heap.size) w dk jb D3 J3) => a5 ▸ commit_jd h j3
  have p2 := fun w dk jb (h : JD (fun i => i < W.heap.size) w dk jb D4 J4) => a6 ▸ append_jd h b4 j4 [98] (by decide)
  have k1 := fun K' w dk (h : DD K' w dk D5) => crash_dd h none [] 0 0 rfl (.inl rfl) (fun _ => nofun) (by decide)
  have o2 := fun w dk jb (h : JD (fun i => i < W.heap.size) w dk jb (crashM D5 []) J5) => a7 ▸ open_jd h b6
  have q1 := fun w dk jb (h : JD (fun i => i < W.heap.size) w dk jb D7 J7) => a8 ▸ records_jd h (by have := j7.recs; omega)
  have p3 := fun w dk jb (h : JD (fun i => i < W.heap.size) w dk jb D7 J5) => a9 ▸ append_jd h b7 j5 [99] (by decide)
  rw [a3, show (((J2.used + 8 : Nat) : Int) - (J2.used : Int)) = 8 from by omega] at r1
  simp only [OpenD] at f1 o1 p1 c1 p2 o2 p3
  have N1 := Lib.hid n1
  have F1 := Lib.hid f1
  have O1 := Lib.hid o1
  have R1 := Lib.hid r1
  have P1 := Lib.hid p1
  have C1 := Lib.hid c1
  have P2 := Lib.hid p2
  have K1 := Lib.hid k1
  have O2 := Lib.hid o2
  have Q1 := Lib.hid q1
  have P3 := Lib.hid p3
  clear n1 f1 o1 r1 p1 c1 p2 k1 o2 q1 p3 a1 b0 b1 a2 a3 b2 j2 a4 b3 j3 a5 b4 j4 a6 b5 j5 b6 a7 a8 b7 j7 a9
  go_enter Try.func12, Try.ntmps12
  go_upto_region 4 with (first
    | (go_at_call 24; refine N1.out.mono ?_; rintro x w1 ⟨dk, rfl, b1, d1⟩)
    | (go_at_call 23; refine (F1.out _ _ d1).mono ?_; rintro x w2 ⟨rfl, d2, k2⟩)
    | (go_at_call 21; refine (O1.out _ _ d2).mono ?_; rintro x w3 ⟨k3, d3, jb, rfl, j3⟩))
  have KK := Lib.hid (((Kp.of b1).trans k2).trans k3)
  clear d1 d2 d3 k2 k3 b1
  go_upto_region 6 with (first
    | (go_at_call 13; refine (R1.out _ _ _ j3).mono ?_; rintro x w4 ⟨rfl, b4⟩; have j4 := j3.next b4)
    | (go_at_call_of 16 (Value.string ⟨#[97]⟩); refine (P1.out _ _ _ j4).mono ?_; rintro x w5 ⟨rfl, j5, k5⟩)
    | (go_at_call 18; refine (C1.out _ _ _ j5).mono ?_; rintro x w6 ⟨rfl, j6, k6⟩)
    | (go_at_call_of 16 (Value.string ⟨#[98]⟩); refine (P2.out _ _ _ j6).mono ?_; rintro x w7 ⟨rfl, j7, k7⟩; obtain ⟨K', hk', hd7, hl7⟩ := j7.lift)
    | (go_at_call 28; refine (K1.out K' _ _ hd7).mono ?_; rintro x w8 ⟨rfl, d8, k8⟩; obtain ⟨j8, k9⟩ := hl7 _ _ d8 k8))
  have KK2 := Lib.hid (((((KK.out.next b4).trans k5).trans k6).trans k7).trans k9)
  clear j3 j4 j5 j6 j7 hd7 hl7 d8 k8 k9 b4 k5 k6 k7 KK
  go_upto_region 8 with (first
    | (go_at_call 21; refine (O2.out _ _ _ j8).mono ?_; rintro x w9 ⟨⟨k10, d9, kb, rfl, j9⟩, jo⟩)
    | (go_at_call 15; refine (Q1.out _ _ _ j9).mono ?_; rintro x w10 ⟨v, rfl, hv, b10⟩
       obtain ⟨A, c, rfl, hS, -⟩ := hv.slice))
  have jo2 := jo.next b10
  have KK3 := Lib.hid ((KK2.out.trans k10).next b10)
  obtain ⟨a, rfl⟩ : ∃ a, A = some a := by
    rcases hS with h | ⟨a, h, _⟩
    · cases h
    · exact ⟨a, h⟩
  have g0 := hS.cell (i := 0) (by simp)
  rw [List.getElem_cons_zero, show a.add 0 = a from rfl] at g0
  clear hS hv j9 d9 j8 jo k10 b10 KK2
  obtain ⟨m, hm⟩ : ∃ m, l.length = m := ⟨_, rfl⟩
  rw [hm]
  have t1 : ¬ ((m : Int) + 1 < 1) := by omega

  go_wp2_with (first
    | (go_at_call 16; refine (P3.out _ _ _ jo2).mono ?_; rintro x w11 ⟨rfl, j11, k11⟩))
  go_ret
  exact ⟨rfl, (KK3.out.trans k11).below (Nat.le_refl _) fun i hi => hi⟩
end Go.Proofs.Ytkljfampkkfgdaa
