/- The journal layer: Units of any length. The journal layer: the walk over write, a Checkpoint. -/
import Derived.Test.YtkljfampkkfgdaaJCommitW
namespace Go.Proofs.Ytkljfampkkfgdaa
section
open Go.RowKit
/-- What Units answers, whatever the length. -/
def unitsW (n : Int) : Int := max 1 (wrap64 ((wrap64 (wrap64 (n + 40) - 1)).tdiv 40))
theorem unitsW_eq {n : Nat} (h : n ≤ 1000000) : unitsW n = (unitsM n : Nat) := by
  unfold unitsW
  have e1 : wrap64 ((n : Int) + 40) = (n : Int) + 40 := IntWalk.wrap64_in _ (by omega)
  have e2 : wrap64 ((n : Int) + 40 - 1) = (n : Int) + 40 - 1 := IntWalk.wrap64_in _ (by omega)
  have e3 : ((n : Int) + 40 - 1).tdiv 40 = ((n : Int) + 40 - 1) / 40 := Int.tdiv_eq_ediv_of_nonneg (by omega)
  have e4 : wrap64 (((n : Int) + 40 - 1) / 40) = ((n : Int) + 40 - 1) / 40 := IntWalk.wrap64_in _ (by omega)
  rw [e1, e2, e3, e4]
  unfold unitsM
  omega
theorem runits_all (W : World) (n : Int) : Calls Try.prog 17 #[.int .i64 n] W fun e w' => e = .returned (.int .i64 (unitsW n)) ∧ w' = W := by
  go_enter Try.func17, Try.ntmps17
  go_wp2_with (fail)
  all_goals
    go_ret
    refine ⟨?_, rfl⟩
    refine congrArg (fun y => Ending.returned (Value.int .i64 y)) (?_ : _ = unitsW n)
    unfold unitsW
    omega
section
variable {W0 W w1 : World} {wb : Nat} {X : Wd}
/-- The world's block, and what is new since W. -/
abbrev NewK (wb : Nat) (W w1 : World) : Nat → Prop := fun i => i = wb ∨ (W.heap.size ≤ i ∧ i < w1.heap.size)
/-- The calls on the journal keep what is new, too. -/
theorem WdAt.jp2 (h : WdAt W0 W wb X) (hB : Below W.heap.size W w1) : ∃ jp, w1.cell? ⟨wb, 1, none⟩ = some jp ∧ (X.J = none → jp = .pointer none)
    ∧ (∀ J s er D' J', X.J = some J → Bd X.D → checkM X.D J s = (er, D', J') → Calls Try.prog 30 #[jp, .string ⟨s.toArray⟩] w1 fun e w' => e = .returned (.int .i64 er) ∧ WdAt W0 w' wb { X with D := D', J := some J' } ∧ Kp (NewK wb W w1) w1 w')
    ∧ (∀ J s er D' J', X.J = some J → Bd X.D → JBd J → appendM X.D J s = (er, D', J') → Calls Try.prog 16 #[jp, .string ⟨s.toArray⟩] w1 fun e w' => e = .returned (.int .i64 er) ∧ WdAt W0 w' wb { X with D := D', J := some J' } ∧ Kp (NewK wb W w1) w1 w') := by
  obtain ⟨K, dk, jp, rv, av, cv, hw0, h1, h2, h3⟩ := h
  have hw := hw0.more hB
  have hn : ∀ i, NewK wb W w1 i → K i ∨ (W.heap.size ≤ i ∧ i < w1.heap.size) := fun i hi => Or.imp (fun (e : i = wb) => (by rw [e]; exact hw0.kw : K i)) id hi
  refine ⟨jp, hw.c1, fun e => ?_, fun J s er D' J' e b q => ?_, fun J s er D' J' e b bj q => ?_⟩
  · have := hw.dj; rw [e] at this; exact this.1
  · have hd := hw.dj
    rw [e] at hd
    obtain ⟨jb, rfl, hd⟩ := hd
    refine (check_jdL hd b s).mono ?_
    rw [q]
    rintro x w' ⟨rfl, q1, q2⟩
    exact ⟨rfl, ⟨_, dk, _, rv, av, cv, hw.call (J' := some J') ⟨jb, rfl, q1⟩ q2, fun i hi => .inl (h1 i hi), h2, (h3.next hB).trans (q2.mono fun i hi => .inl (h1 i hi))⟩, q2.mono hn⟩
  · have hd := hw.dj
    rw [e] at hd
    obtain ⟨jb, rfl, hd⟩ := hd
    refine (append_jdL hd b bj s).mono ?_
    rw [q]
    rintro x w' ⟨rfl, q1, q2⟩
    exact ⟨rfl, ⟨_, dk, _, rv, av, cv, hw.call (J' := some J') ⟨jb, rfl, q1⟩ q2, fun i hi => .inl (h1 i hi), h2, (h3.next hB).trans (q2.mono fun i hi => .inl (h1 i hi))⟩, q2.mono hn⟩
/-- So does Crash, which may read there. -/
theorem WdAt.dk2 (h : WdAt W0 W wb X) (hB : Below W.heap.size W w1) : ∃ p, w1.cell? ⟨wb, 0, none⟩ = some p
    ∧ (∀ A keep n c2, keep.length = n → Ints w1 A keep → (∀ a, 0 < n → A = some a → a.block < W0.heap.size ∨ (W.heap.size ≤ a.block ∧ a.block < w1.heap.size)) → n ≤ 9223372036854775807 → Calls Try.prog 28 #[p, .slice A n c2] w1 fun e w' => e = .returned (.int .i64 0) ∧ WdAt W0 w' wb { X with D := crashM X.D keep }) := by
  obtain ⟨K, dk, jp, rv, av, cv, hw0, h1, h2, h3⟩ := h
  have hw := hw0.more hB
  refine ⟨_, hw.c0, fun A keep n c2 e hA hK hn => (crash_dj hw.dj A keep n c2 e hA (fun h0 a ha => (hK a h0 ha).imp (h1 _) id) hn).mono ?_⟩
  rintro x w' ⟨rfl, q1, q2⟩
  exact ⟨rfl, _, dk, jp, rv, av, cv, hw.call q1 q2, fun i hi => .inl (h1 i hi), h2, (h3.next hB).trans (q2.mono fun i hi => .inl (h1 i hi))⟩
theorem WdAt.wb_lt (h : WdAt W0 W wb X) : wb < W.heap.size := by
  obtain ⟨K, dk, jp, rv, av, cv, hw, h1, h2, h3⟩ := h
  exact hw.lt
end
end
section
open Go.RowKit
theorem cell_setCells7 (w : World) (wb : Nat) (l : Array Value) (b k : Nat) (h : b ≠ wb) : (w.setCells wb 2 l.toList).cell? ⟨b, k, none⟩ = w.cell? ⟨b, k, none⟩ := World.cell?_setCells_out wb _ 2 w ⟨b, k, none⟩ (fun e => absurd e h)
section
variable {W0 W : World} {wb N n : Nat} {X : Wd}
set_option maxRecDepth 100000 in
set_option maxHeartbeats 500000 in
/-- A Checkpoint that is refused. -/
theorem check_none (h : WdAt W0 W wb X) (kd : Int) (hk : kd.tmod 8 = 3) (T : Bs) (Nn : Int) (A : Option Addr) (kn kc : Nat) (k : Int) (k0 : k ≠ 0) (k70 : k ≠ 70)
    (hrf : ∀ w, WdAt W0 w wb X → Calls Try.prog 79 #[.pointer (some ⟨wb, 0, none⟩), .int .i64 (T.length : Nat), .int .i64 65536, .int .i64 (unitsW (T.length : Nat))] w fun e w' => e = .returned (.int .i64 k) ∧ w' = w)
    (hc : ∀ w jp, Below W.heap.size W w → w.cell? ⟨wb, 1, none⟩ = some jp → Calls Try.prog 30 #[jp, .string ⟨T.toArray⟩] w fun e w' => e = .returned (.int .i64 k) ∧ WdAt W0 w' wb X ∧ Kp (NewK wb W w) w w') :
    Calls Try.prog 69 #[.pointer (some ⟨wb, 0, none⟩), .agg #[.int .u8 kd, .string ⟨T.toArray⟩, .int .i64 Nn, .slice A kn kc]] W fun e w' => e = .returned (.bool true) ∧ WdAt W0 w' wb X := by
  obtain ⟨w1, hw1⟩ : ∃ w1, W.alloc (.cells #[.int .u8 kd, .string ⟨T.toArray⟩, .int .i64 Nn, .slice A kn kc] 70) = w1 := ⟨_, rfl⟩
  have hB1 : Below W.heap.size W w1 := hw1 ▸ Below.new1 _ _
  have hr1 : w1.heap[W.heap.size]? = some (.cells #[.int .u8 kd, .string ⟨T.toArray⟩, .int .i64 Nn, .slice A kn kc] 70 (0, 0)) := hw1 ▸ heap_alloc_new W _
  have g0 : w1.cell? ⟨W.heap.size, 0, none⟩ = some (.int .u8 kd) := (cell_of_row w1 _ 0 _ _ _ hr1).trans rfl
  have g1 : w1.cell? ⟨W.heap.size, 1, none⟩ = some (.string ⟨T.toArray⟩) := (cell_of_row w1 _ 1 _ _ _ hr1).trans rfl
  have h1 := h.next hB1
  obtain ⟨jp, k1, hdu, -⟩ := h1.jp
  have HS1 := Lib.hid (show W.heap.size < w1.heap.size from block_lt_of_cell g0)
  have hst := fun w (h : WdAt W0 w wb X) => settle_no h k k0 k70
  have H1 := Lib.hid h1
  have HDU := Lib.hid hdu
  have HRF := Lib.hid fun w (b : Below w1.heap.size w1 w) => hrf w (h1.next b)
  have HC := Lib.hid fun w (b : Below w1.heap.size w1 w) => hc w jp (Below.next hB1 b) (cell_kept b k1)
  have HST := Lib.hid hst
  have HUN := Lib.hid runits_all
  have kk1 : (kd.tmod 8 == 2) = false := by rw [hk]; rfl
  have kk2 : (kd.tmod 8 == 3) = true := by rw [hk]; rfl
  have kk3 : (k == 70) = false := by simpa using k70
  clear hr1 h h1 hB1 hst hrf hc hdu hk k0 k70
  generalize durO X.J = du at *
  go_enter Try.func69, Try.ntmps69
  go_upto_region 11 with (first
    | (go_at_call 19; refine HDU.out.mono ?_; rintro x w2 ⟨rfl, hw2⟩; obtain rfl := hw2.symm))
  go_quiet (first
    | (go_at_call 17; exact Calls.quiet_of_same (HUN.out _ _))
    | (go_at_call 79; exact Calls.quiet_of_same (HRF.out _ (Below.drawn w1 _ _))))
  go_upto_region 12 with (fail)
  have HB2 := Lib.hid (Below.drawn w1 nq w1.heap.size)
  generalize w1.drewN nq = w2 at *
  have k1' := cell_kept HB2.out k1
  have g1' := cell_kept HB2.out g1
  have HC2 := Lib.hid (HC.out _ (Below.next HB2.out (Below.drawn w2 1 _)))
  have HS2 := Lib.hid (show W.heap.size < w2.drew.heap.size from Nat.lt_of_lt_of_le HS1.out (Below.next HB2.out (Below.drawn w2 1 _)).size)
  go_region_held3 (fun w => w.cell? ⟨wb, 1, none⟩ = some jp ∧ w.cell? ⟨W.heap.size, 1, none⟩ = some (.string ⟨T.toArray⟩)) (first | exact ⟨k1', g1'⟩ | exact hcs) (first
    | (go_at_call 30; refine HC2.out.mono ?_; rintro x w3 ⟨rfl, h3, q3⟩
       have hcs := And.intro (q3.cell (p := ⟨wb, 1, none⟩) k1' (.inl rfl)) (q3.cell (p := ⟨W.heap.size, 1, none⟩) g1' (.inr ⟨Nat.le_refl _, HS2.out⟩))))
  all_goals
    clear hcs
    go_wp2_with (first
      | (go_at_call 80; refine (HST.out _ h3).mono ?_; rintro x w4 ⟨rfl, hw4⟩; obtain rfl := hw4.symm))
    go_ret
    exact ⟨rfl, h3⟩
set_option maxRecDepth 100000 in
set_option maxHeartbeats 500000 in
/-- A Checkpoint that is made. -/
theorem check_done (h : WdAt W0 W wb X) (kd : Int) (hk : kd.tmod 8 = 3) (T : Bs) (Nn : Int) (A : Option Addr) (kn kc : Nat) (D' : Dk) (J' : Jn) (ho : D'.off = false)
    (hrf : ∀ w, WdAt W0 w wb X → Calls Try.prog 79 #[.pointer (some ⟨wb, 0, none⟩), .int .i64 (T.length : Nat), .int .i64 65536, .int .i64 (unitsW (T.length : Nat))] w fun e w' => e = .returned (.int .i64 0) ∧ w' = w)
    (hc : ∀ w jp, Below W.heap.size W w → w.cell? ⟨wb, 1, none⟩ = some jp → Calls Try.prog 30 #[jp, .string ⟨T.toArray⟩] w fun e w' => e = .returned (.int .i64 0) ∧ WdAt W0 w' wb { X with D := D', J := some J' } ∧ Kp (NewK wb W w) w w') :
    Calls Try.prog 69 #[.pointer (some ⟨wb, 0, none⟩), .agg #[.int .u8 kd, .string ⟨T.toArray⟩, .int .i64 Nn, .slice A kn kc]] W fun e w' => e = .returned (.bool true) ∧ WdAt W0 w' wb { X with D := D', J := some J', m := openedM T [], st := T, recs := [], sure := 0 } := by
  obtain ⟨w1, hw1⟩ : ∃ w1, W.alloc (.cells #[.int .u8 kd, .string ⟨T.toArray⟩, .int .i64 Nn, .slice A kn kc] 70) = w1 := ⟨_, rfl⟩
  have hB1 : Below W.heap.size W w1 := hw1 ▸ Below.new1 _ _
  have hr1 : w1.heap[W.heap.size]? = some (.cells #[.int .u8 kd, .string ⟨T.toArray⟩, .int .i64 Nn, .slice A kn kc] 70 (0, 0)) := hw1 ▸ heap_alloc_new W _
  have g0 : w1.cell? ⟨W.heap.size, 0, none⟩ = some (.int .u8 kd) := (cell_of_row w1 _ 0 _ _ _ hr1).trans rfl
  have g1 : w1.cell? ⟨W.heap.size, 1, none⟩ = some (.string ⟨T.toArray⟩) := (cell_of_row w1 _ 1 _ _ _ hr1).trans rfl
  have h1 := h.next hB1
  obtain ⟨jp, k1, hdu, -⟩ := h1.jp
  have HNE := Lib.hid (show W.heap.size ≠ wb from fun e => by have := h.wb_lt; omega)
  have HS1 := Lib.hid (show W.heap.size < w1.heap.size from block_lt_of_cell g0)
  have hst := fun w (h : WdAt W0 w wb { X with D := D', J := some J' }) => settle_ok h ho (durO X.J : Nat)
  have H1 := Lib.hid h1
  have HDU := Lib.hid hdu
  have HRF := Lib.hid fun w (b : Below w1.heap.size w1 w) => hrf w (h1.next b)
  have HC := Lib.hid fun w (b : Below w1.heap.size w1 w) => hc w jp (Below.next hB1 b) (cell_kept b k1)
  have HST := Lib.hid hst
  have HUN := Lib.hid runits_all
  have kk1 : (kd.tmod 8 == 2) = false := by rw [hk]; rfl
  have kk2 : (kd.tmod 8 == 3) = true := by rw [hk]; rfl
  clear hr1 h h1 hB1 hst hrf hc hdu hk ho
  generalize durO X.J = du at *
  go_enter Try.func69, Try.ntmps69
  go_upto_region 11 with (first
    | (go_at_call 19; refine HDU.out.mono ?_; rintro x w2 ⟨rfl, hw2⟩; obtain rfl := hw2.symm))
  go_quiet (first
    | (go_at_call 17; exact Calls.quiet_of_same (HUN.out _ _))
    | (go_at_call 79; exact Calls.quiet_of_same (HRF.out _ (Below.drawn w1 _ _))))
  go_upto_region 12 with (fail)
  have HB2 := Lib.hid (Below.drawn w1 nq w1.heap.size)
  generalize w1.drewN nq = w2 at *
  have k1' := cell_kept HB2.out k1
  have g1' := cell_kept HB2.out g1
  have HC2 := Lib.hid (HC.out _ (Below.next HB2.out (Below.drawn w2 1 _)))
  have HS2 := Lib.hid (show W.heap.size < w2.drew.heap.size from Nat.lt_of_lt_of_le HS1.out (Below.next HB2.out (Below.drawn w2 1 _)).size)
  go_region_held3 (fun w => w.cell? ⟨wb, 1, none⟩ = some jp ∧ w.cell? ⟨W.heap.size, 1, none⟩ = some (.string ⟨T.toArray⟩)) (first | exact ⟨k1', g1'⟩ | exact hcs) (first
    | (go_at_call 30; refine HC2.out.mono ?_; rintro x w3 ⟨rfl, h3, q3⟩
       have hcs := And.intro (q3.cell (p := ⟨wb, 1, none⟩) k1' (.inl rfl)) (q3.cell (p := ⟨W.heap.size, 1, none⟩) g1' (.inr ⟨Nat.le_refl _, HS2.out⟩))))
  all_goals
    have g3 := hcs.2
    clear hcs
    have hop := opened_any w3 T none [] 0 0 (.inl rfl) rfl (.inr ⟨rfl, rfl⟩) (by decide)
    simp only [cellsMd, openedM] at hop
    have HOP := Lib.hid hop
    have H3 := Lib.hid h3
    clear hop
    go_upto_region 15 with (first
      | (go_at_call 80; refine (HST.out _ h3).mono ?_; rintro x w4 ⟨rfl, hw4⟩; obtain rfl := hw4.symm))
    go_upto_region 16 with (first
      | (go_at_call 68; refine HOP.out.mono ?_; rintro x w6 ⟨v6, rfl, hv6, b6⟩
         obtain ⟨A6, c6, rfl, -, -⟩ := hv6.slice
         have h6 := H3.out.next b6
         obtain ⟨RA6, rc6, AA6, ac6, -, -, k3, k4, -, -, -, -, -, -, -, k2, k5, k6, k7, k8, -, -, -, -, -⟩ := h6.rows
         have f2 := h6.f 2
         have f3 := h6.f 3
         have f4 := h6.f 4
         have f5 := h6.f 5
         have f6 := h6.f 6
         have f7 := h6.f 7
         have f8 := h6.f 8
         have g6 := cell_kept b6 g3
         have H7 := Lib.hid (H3.out.model (m' := openedM T []) b6 hv6 (OwnStrs.none _ _))))
    generalize hw7 : World.setCell _ ⟨wb, 8, none⟩ _ = w7
    have g7 : w7.cell? ⟨W.heap.size, 1, none⟩ = some (.string ⟨T.toArray⟩) := by
      rw [← hw7]
      exact (cell_setCells7 w6 wb (cellsMd (openedM T []) (.slice A6 0 c6) (.slice none 0 0)) W.heap.size 1 HNE.out).trans g6
    have h7 : WdAt W0 w7 wb { X with D := D', J := some J', m := openedM T [] } := by rw [← hw7]; exact H7.out
    clear hw7 H7 f2 f3 f4 f5 f6 f7 f8 k2 k3 k4 k5 k6 k7 k8 h6 g6 hv6 b6 H3 HOP
    have f12 := h7.f 12
    have f13 := h7.f 13
    have f14 := h7.f 14
    obtain ⟨RA7, rc7, AA7, ac7, CA7, cc7, -, -, k13, -, -, -, -, -, -, -, -, -, -, -, k12, k14, -, -, -⟩ := h7.rows
    have H8 := Lib.hid (((h7.setSt T).setRecs (Below.refl _ _) (OwnStrs.none _ _)).setSure 0)
    clear h7
    go_wp2_with (fail)
    go_ret
    exact ⟨rfl, H8.out⟩
set_option maxRecDepth 100000 in
set_option maxHeartbeats 500000 in
/-- A Checkpoint during which the power was lost. -/
theorem check_off (h : WdAt W0 W wb X) (kd : Int) (hk : kd.tmod 8 = 3) (T : Bs) (Nn : Int) (A : Option Addr) (kn kc : Nat) (D' : Dk) (J' : Jn) (hf : X.fused = true) (ho : D'.off = true) (hdd : durO (some J') = durO X.J)
    (hrf : ∀ w, WdAt W0 w wb X → Calls Try.prog 79 #[.pointer (some ⟨wb, 0, none⟩), .int .i64 (T.length : Nat), .int .i64 65536, .int .i64 (unitsW (T.length : Nat))] w fun e w' => e = .returned (.int .i64 0) ∧ w' = w)
    (hc : ∀ w jp, Below W.heap.size W w → w.cell? ⟨wb, 1, none⟩ = some jp → Calls Try.prog 30 #[jp, .string ⟨T.toArray⟩] w fun e w' => e = .returned (.int .i64 70) ∧ WdAt W0 w' wb { X with D := D', J := some J' } ∧ Kp (NewK wb W w) w w') :
    Calls Try.prog 69 #[.pointer (some ⟨wb, 0, none⟩), .agg #[.int .u8 kd, .string ⟨T.toArray⟩, .int .i64 Nn, .slice A kn kc]] W fun e w' => e = .returned (.bool true) ∧ WdAt W0 w' wb { X with D := D', J := some J', broken := true, m := { X.m with Swap := true, Next := T } } := by
  obtain ⟨w1, hw1⟩ : ∃ w1, W.alloc (.cells #[.int .u8 kd, .string ⟨T.toArray⟩, .int .i64 Nn, .slice A kn kc] 70) = w1 := ⟨_, rfl⟩
  have hB1 : Below W.heap.size W w1 := hw1 ▸ Below.new1 _ _
  have hr1 : w1.heap[W.heap.size]? = some (.cells #[.int .u8 kd, .string ⟨T.toArray⟩, .int .i64 Nn, .slice A kn kc] 70 (0, 0)) := hw1 ▸ heap_alloc_new W _
  have g0 : w1.cell? ⟨W.heap.size, 0, none⟩ = some (.int .u8 kd) := (cell_of_row w1 _ 0 _ _ _ hr1).trans rfl
  have g1 : w1.cell? ⟨W.heap.size, 1, none⟩ = some (.string ⟨T.toArray⟩) := (cell_of_row w1 _ 1 _ _ _ hr1).trans rfl
  have h1 := h.next hB1
  obtain ⟨jp, k1, hdu, -⟩ := h1.jp
  have HNE := Lib.hid (show W.heap.size ≠ wb from fun e => by have := h.wb_lt; omega)
  have HS1 := Lib.hid (show W.heap.size < w1.heap.size from block_lt_of_cell g0)
  have hst := fun w (h : WdAt W0 w wb { X with D := D', J := some J' }) => settle_off2 h hf ho
  simp only [hdd] at hst
  have H1 := Lib.hid h1
  have HDU := Lib.hid hdu
  have HRF := Lib.hid fun w (b : Below w1.heap.size w1 w) => hrf w (h1.next b)
  have HC := Lib.hid fun w (b : Below w1.heap.size w1 w) => hc w jp (Below.next hB1 b) (cell_kept b k1)
  have HST := Lib.hid hst
  have HUN := Lib.hid runits_all
  have kk1 : (kd.tmod 8 == 2) = false := by rw [hk]; rfl
  have kk2 : (kd.tmod 8 == 3) = true := by rw [hk]; rfl
  clear hr1 h h1 hB1 hst hrf hc hdu hk ho hf hdd
  generalize durO X.J = du at *
  go_enter Try.func69, Try.ntmps69
  go_upto_region 11 with (first
    | (go_at_call 19; refine HDU.out.mono ?_; rintro x w2 ⟨rfl, hw2⟩; obtain rfl := hw2.symm))
  go_quiet (first
    | (go_at_call 17; exact Calls.quiet_of_same (HUN.out _ _))
    | (go_at_call 79; exact Calls.quiet_of_same (HRF.out _ (Below.drawn w1 _ _))))
  go_upto_region 12 with (fail)
  have HB2 := Lib.hid (Below.drawn w1 nq w1.heap.size)
  generalize w1.drewN nq = w2 at *
  have k1' := cell_kept HB2.out k1
  have g1' := cell_kept HB2.out g1
  have HC2 := Lib.hid (HC.out _ (Below.next HB2.out (Below.drawn w2 1 _)))
  have HS2 := Lib.hid (show W.heap.size < w2.drew.heap.size from Nat.lt_of_lt_of_le HS1.out (Below.next HB2.out (Below.drawn w2 1 _)).size)
  go_region_held3 (fun w => w.cell? ⟨wb, 1, none⟩ = some jp ∧ w.cell? ⟨W.heap.size, 1, none⟩ = some (.string ⟨T.toArray⟩)) (first | exact ⟨k1', g1'⟩ | exact hcs) (first
    | (go_at_call 30; refine HC2.out.mono ?_; rintro x w3 ⟨rfl, h3, q3⟩
       have hcs := And.intro (q3.cell (p := ⟨wb, 1, none⟩) k1' (.inl rfl)) (q3.cell (p := ⟨W.heap.size, 1, none⟩) g1' (.inr ⟨Nat.le_refl _, HS2.out⟩))))
  all_goals
    have g3 := hcs.2
    clear hcs
    have f11 := h3.f 11
    have H4 := Lib.hid (h3.setBroken true)
    have f7' := H4.out.f 7
    have f8' := H4.out.f 8
    obtain ⟨RA4, rc4, AA4, ac4, CA4, cc4, -, -, -, -, -, -, -, -, -, -, -, -, k7', k8', -, -, -, -, -⟩ := H4.out.rows
    have g4 : (w3.setCell ⟨wb, 11, none⟩ (.bool true)).cell? ⟨W.heap.size, 1, none⟩ = some (.string ⟨T.toArray⟩) := (World.cell?_setCell_other _ _ _ _ (fun e => by cases e)).trans g3
    have HS4 := Lib.hid (HST.out _ h3)
    generalize hw4 : w3.setCell ⟨wb, 11, none⟩ (.bool true) = w4 at *
    have H8 := Lib.hid ((H4.out.setSwap true).setNext T)
    have HNE2 := Lib.hid (Ne.symm HNE.out)
    clear h3 H4
    go_wp2_with (first
      | (go_at_call 80; refine HS4.out.mono ?_; rintro x w5 ⟨rfl, hw5⟩; obtain rfl := hw5.symm))
    go_ret
    exact ⟨rfl, H8.out⟩
theorem write_check (h : WdAt W0 W wb X) (hi : WI N n X) (hn : n < 150) (kd : Int) (hk : kd.tmod 8 = 3) (T : Bs) (Nn : Int) (A : Option Addr) (kn kc : Nat) : Calls Try.prog 69 #[.pointer (some ⟨wb, 0, none⟩), .agg #[.int .u8 kd, .string ⟨T.toArray⟩, .int .i64 Nn, .slice A kn kc]] W fun e w' => e = .returned (.bool true) ∧ ∃ X', WdAt W0 w' wb X' ∧ WI N (n + 1) X' := by
  have hlen := hi.ws.len
  have hlow := hi.ws.low
  have hhigh := hi.ws.high
  have hm1 : WI N (n + 1) X := hi.more (by omega) (by omega)
  have hrf := fun w (h : WdAt W0 w wb X) => refused_any h (by omega) (by omega) (T.length : Nat) 65536 (unitsW (T.length : Nat))
  cases hJ : X.J with
  | none =>
    refine (check_none h kd hk T Nn A kn kc 1 (by decide) (by decide) (fun w h => refM_none hi hJ _ _ _ ▸ hrf w h) fun w jp b c => ?_).mono fun e w' ⟨q1, q2⟩ => ⟨q1, X, q2, hm1⟩
    obtain ⟨jp', c', hno, -⟩ := h.jp2 b
    rw [c] at c'
    cases c'
    rw [hno hJ]
    exact (checkpoint_nil w _).mono fun e w' ⟨q1, q2⟩ => ⟨q1, q2 ▸ h.next b, q2 ▸ Kp.refl _ _⟩
  | some J =>
    have hc : ∀ er D' J', checkM X.D J T = (er, D', J') → ∀ w jp, Below W.heap.size W w → w.cell? ⟨wb, 1, none⟩ = some jp → Calls Try.prog 30 #[jp, .string ⟨T.toArray⟩] w fun e w' => e = .returned (.int .i64 er) ∧ WdAt W0 w' wb { X with D := D', J := some J' } ∧ Kp (NewK wb W w) w w' := fun er D' J' q w jp b c => by
      obtain ⟨jp', c', -, hch, -⟩ := h.jp2 b
      rw [c] at c'
      cases c'
      exact hch J T er D' J' hJ hi.ws.bd q
    cases hb : X.broken with
    | true =>
      have q := hc _ _ _ (check_no (hi.bad J hJ hb) T)
      rw [wd_same hJ] at q
      exact (check_none h kd hk T Nn A kn kc 72 (by decide) (by decide) (fun w h => refM_broken hi hJ hb _ _ _ ▸ hrf w h) q).mono fun e w' ⟨q1, q2⟩ => ⟨q1, X, q2, hm1⟩
    | false =>
      rcases hi.check hn hJ hb T with ⟨q1, q2⟩ | ⟨q1, q2, q3⟩ | ⟨q1, q2, er, D', J', q3, ⟨rfl, q4, q5⟩ | ⟨rfl, q4, q5, q6, q7⟩⟩
      · have q := hc _ _ _ q2
        rw [wd_same hJ] at q
        have e2 : refM X ((T.length : Nat) : Int) 65536 (unitsW ((T.length : Nat) : Int)) = 2 := refM_arg hi hJ hb (by omega)
        exact (check_none h kd hk T Nn A kn kc 2 (by decide) (by decide) (fun w h => e2 ▸ hrf w h) q).mono fun e w' ⟨q1, q2⟩ => ⟨q1, X, q2, hm1⟩
      · have q := hc _ _ _ q3
        rw [wd_same hJ] at q
        have e5 : refM X ((T.length : Nat) : Int) 65536 (unitsW ((T.length : Nat) : Int)) = 5 := refM_full hi hJ hb (by omega) (by rw [unitsW_eq (by omega)]; omega)
        exact (check_none h kd hk T Nn A kn kc 5 (by decide) (by decide) (fun w h => e5 ▸ hrf w h) q).mono fun e w' ⟨q1, q2⟩ => ⟨q1, X, q2, hm1⟩
      · have e0 : refM X ((T.length : Nat) : Int) 65536 (unitsW ((T.length : Nat) : Int)) = 0 := refM_ok hi hJ hb (by omega) (by rw [unitsW_eq (by omega)]; omega)
        exact (check_done h kd hk T Nn A kn kc D' J' q4 (fun w h => e0 ▸ hrf w h) (hc _ _ _ q3)).mono fun e w' ⟨q1, q2⟩ => ⟨q1, _, q2, q5⟩
      · have hd : durO (some J') = durO X.J := by rw [hi.durO]; exact q6
        have e0 : refM X ((T.length : Nat) : Int) 65536 (unitsW ((T.length : Nat) : Int)) = 0 := refM_ok hi hJ hb (by omega) (by rw [unitsW_eq (by omega)]; omega)
        exact (check_off h kd hk T Nn A kn kc D' J' q4 q5 hd (fun w h => e0 ▸ hrf w h) (hc _ _ _ q3)).mono fun e w' ⟨q1, q2⟩ => ⟨q1, _, q2, q7⟩
end
end
end Go.Proofs.Ytkljfampkkfgdaa
