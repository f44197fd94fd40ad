/- The journal layer: the walk over do. -/
import Derived.Test.YtkljfampkkfgdaaJOpenW
import Derived.Test.YtkljfampkkfgdaaJActs
namespace Go.Proofs.Ytkljfampkkfgdaa
open Go.RowKit
section
variable {W0 W w1 : World} {wb N n : Nat} {X : Wd}
theorem WdAt.dk3 (h : WdAt W0 W wb X) (hB : Below W.heap.size W w1) : ∃ p, w1.cell? ⟨wb, 0, none⟩ = some p
    ∧ ∀ n, n < 9223372036854775808 → Calls Try.prog 32 #[p, .int .i64 n] w1 fun e w' => e = .returned (.int .i64 (setM X.D n).1) ∧ WdAt W0 w' wb { X with D := (setM X.D n).2 } ∧ Kp (NewK wb W w1) w1 w' := by
  obtain ⟨K, dk, jp, rv, av, cv, hw0, h1, h2, h3⟩ := h
  have hw := hw0.more hB
  refine ⟨_, hw.c0, fun n hn => (fuse_dj hw.dj n hn).mono ?_⟩
  rintro x w' ⟨rfl, q1, q2⟩
  exact ⟨rfl, ⟨_, dk, jp, rv, av, cv, hw.call q1 q2, fun i hi => .inl (h1 i hi), h2, (h3.next hB).trans (q2.mono fun i hi => .inl (h1 i hi))⟩, q2.mono fun i hi => Or.imp (fun (e : i = wb) => (by rw [e]; exact hw0.kw : K i)) id hi⟩
theorem WdAt.offc (h : WdAt W0 W wb X) : ∃ p, W.cell? ⟨wb, 0, none⟩ = some p ∧ (Calls Try.prog 42 #[p] W fun e w' => e = .returned (.bool X.D.off) ∧ w' = W)
    ∧ (Bd X.D → Calls Try.prog 23 #[p] W fun e w' => e = .returned (.int .i64 (formatM X.D).1) ∧ WdAt W0 w' wb { X with D := (formatM X.D).2 }) := by
  obtain ⟨p, h1, h2, -, h3, -⟩ := h.dk
  exact ⟨p, h1, h2, h3⟩
set_option maxRecDepth 100000 in
set_option maxHeartbeats 1000000 in
theorem do_open (h : WdAt W0 W wb X) (hi : WI N n X) (hn : n < 150) (kd : Int) (hk : kd.tmod 8 = 6) (T : Bs) (Nn : Int) (A : Option Addr) (kn kc : Nat) :
    Calls Try.prog 36 #[.pointer (some ⟨wb, 0, none⟩), .agg #[.int .u8 kd, .string ⟨T.toArray⟩, .int .i64 Nn, .slice A kn kc]] W fun e w' => e = .returned (.bool true) ∧ ∃ X', WdAt W0 w' wb X' ∧ WI N (n + 2) X' := by
  obtain ⟨w1, hw1⟩ : ∃ w1, W.alloc (.cells #[.int .u8 kd, .string ⟨T.toArray⟩, .int .i64 Nn, .slice A kn kc] 70) = w1 := ⟨_, rfl⟩
  have hB1 : Below W.heap.size W w1 := hw1 ▸ Below.new1 _ _
  have hr1 : w1.heap[W.heap.size]? = some (.cells #[.int .u8 kd, .string ⟨T.toArray⟩, .int .i64 Nn, .slice A kn kc] 70 (0, 0)) := hw1 ▸ heap_alloc_new W _
  have g0 : w1.cell? ⟨W.heap.size, 0, none⟩ = some (.int .u8 kd) := (cell_of_row w1 _ 0 _ _ _ hr1).trans rfl
  have h1 := h.next hB1
  obtain ⟨p, k0, hoff, -⟩ := h1.offc
  have HOF := Lib.hid hoff
  have HOP := Lib.hid (open_w h1 hi hn)
  have kk4 : (kd.tmod 8 == 4) = false := by rw [hk]; rfl
  have kk5 : (kd.tmod 8 == 5) = false := by rw [hk]; rfl
  have kk6 : (kd.tmod 8 == 6) = true := by rw [hk]; rfl
  clear hoff h hi h1 hr1 hB1 hk
  go_enter Try.func36, Try.ntmps36
  go_wp2_with (first
    | (go_at_call 42; refine HOF.out.mono ?_; rintro x w2 ⟨rfl, hw2⟩; obtain rfl := hw2.symm)
    | (go_at_call 66; refine HOP.out.mono ?_; rintro x w3 ⟨rfl, h3⟩))
  go_ret
  exact ⟨rfl, h3⟩
set_option maxRecDepth 100000 in
set_option maxHeartbeats 1000000 in
theorem do_write (h : WdAt W0 W wb X) (kd : Int) (hk4 : (kd.tmod 8 == 4) = false) (hk5 : (kd.tmod 8 == 5) = false) (hk6 : (kd.tmod 8 == 6) = false) (hk7 : (kd.tmod 8 == 7) = false) (T : Bs) (Nn : Int) (A : Option Addr) (kn kc : Nat) {R : Wd → Prop}
    (hwr : ∀ w, WdAt W0 w wb X → Calls Try.prog 69 #[.pointer (some ⟨wb, 0, none⟩), .agg #[.int .u8 kd, .string ⟨T.toArray⟩, .int .i64 Nn, .slice A kn kc]] w fun e w' => e = .returned (.bool true) ∧ ∃ X', WdAt W0 w' wb X' ∧ R X') :
    Calls Try.prog 36 #[.pointer (some ⟨wb, 0, none⟩), .agg #[.int .u8 kd, .string ⟨T.toArray⟩, .int .i64 Nn, .slice A kn kc]] W fun e w' => e = .returned (.bool true) ∧ ∃ X', WdAt W0 w' wb X' ∧ R X' := by
  obtain ⟨w1, hw1⟩ : ∃ w1, W.alloc (.cells #[.int .u8 kd, .string ⟨T.toArray⟩, .int .i64 Nn, .slice A kn kc] 70) = w1 := ⟨_, rfl⟩
  have hB1 : Below W.heap.size W w1 := hw1 ▸ Below.new1 _ _
  have hr1 : w1.heap[W.heap.size]? = some (.cells #[.int .u8 kd, .string ⟨T.toArray⟩, .int .i64 Nn, .slice A kn kc] 70 (0, 0)) := hw1 ▸ heap_alloc_new W _
  have g0 : w1.cell? ⟨W.heap.size, 0, none⟩ = some (.int .u8 kd) := (cell_of_row w1 _ 0 _ _ _ hr1).trans rfl
  have g1 : w1.cell? ⟨W.heap.size, 1, none⟩ = some (.string ⟨T.toArray⟩) := (cell_of_row w1 _ 1 _ _ _ hr1).trans rfl
  have g2 : w1.cell? ⟨W.heap.size, 2, none⟩ = some (.int .i64 Nn) := (cell_of_row w1 _ 2 _ _ _ hr1).trans rfl
  have g3 : w1.cell? ⟨W.heap.size, 3, none⟩ = some (.slice A kn kc) := (cell_of_row w1 _ 3 _ _ _ hr1).trans rfl
  have h1 := h.next hB1
  obtain ⟨p, k0, hoff, -⟩ := h1.offc
  have HOF := Lib.hid hoff
  have HWR := Lib.hid (hwr w1 h1)
  clear hoff h h1 hr1 hB1 hwr
  go_enter Try.func36, Try.ntmps36
  go_wp2_with (first
    | (go_at_call 42; refine HOF.out.mono ?_; rintro x w2 ⟨rfl, hw2⟩; obtain rfl := hw2.symm)
    | (go_at_call 69; refine HWR.out.mono ?_; rintro x w3 ⟨rfl, h3⟩))
  go_ret
  exact ⟨rfl, h3⟩
set_option maxRecDepth 100000 in
set_option maxHeartbeats 1000000 in
theorem do_fuse (h : WdAt W0 W wb X) (kd : Int) (hk : kd.tmod 8 = 4) (T : Bs) (Nn : Int) (hN : Nn < 9223372036854775808) (A : Option Addr) (kn kc : Nat) :
    Calls Try.prog 36 #[.pointer (some ⟨wb, 0, none⟩), .agg #[.int .u8 kd, .string ⟨T.toArray⟩, .int .i64 Nn, .slice A kn kc]] W fun e w' => e = .returned (.bool true) ∧ WdAt W0 w' wb (if X.D.off = true then X else { X with D := (setM X.D Nn).2, fused := decide (0 ≤ Nn) }) := by
  obtain ⟨w1, hw1⟩ : ∃ w1, W.alloc (.cells #[.int .u8 kd, .string ⟨T.toArray⟩, .int .i64 Nn, .slice A kn kc] 70) = w1 := ⟨_, rfl⟩
  have hB1 : Below W.heap.size W w1 := hw1 ▸ Below.new1 _ _
  have hr1 : w1.heap[W.heap.size]? = some (.cells #[.int .u8 kd, .string ⟨T.toArray⟩, .int .i64 Nn, .slice A kn kc] 70 (0, 0)) := hw1 ▸ heap_alloc_new W _
  have g0 : w1.cell? ⟨W.heap.size, 0, none⟩ = some (.int .u8 kd) := (cell_of_row w1 _ 0 _ _ _ hr1).trans rfl
  have g2 : w1.cell? ⟨W.heap.size, 2, none⟩ = some (.int .i64 Nn) := (cell_of_row w1 _ 2 _ _ _ hr1).trans rfl
  have h1 := h.next hB1
  have hz1 : W.heap.size < w1.drew.heap.size := Nat.lt_of_lt_of_le (block_lt_of_cell g0) (Below.drawn w1 1 w1.heap.size).size
  obtain ⟨p, k0, hoff, -⟩ := h1.offc
  obtain ⟨p', k0', hfu⟩ := h.dk3 (Below.next hB1 (Below.drawn w1 1 _))
  obtain rfl : p = p' := Option.some.inj (k0.symm.trans k0')
  have hf := hfu Nn hN
  have kk4 : (kd.tmod 8 == 4) = true := by rw [hk]; rfl
  have HOF := Lib.hid hoff
  have HF := Lib.hid hf
  have HZ := Lib.hid hz1
  clear hoff h h1 hr1 hB1 hk hfu k0' hz1 hf
  rcases Bool.eq_false_or_eq_true X.D.off with e | e
  · rw [if_pos e]
    have e1 : setM X.D Nn = (70, X.D) := by unfold setM; rw [if_pos e]
    rw [e1] at HF
    rw [e] at HOF
    clear e e1
    go_enter Try.func36, Try.ntmps36
    go_upto_region 4 with (go_at_call 42; refine HOF.out.mono ?_; rintro x w2 ⟨rfl, hw2⟩; obtain rfl := hw2.symm)
    go_region_with (go_at_call 32; refine HF.out.mono ?_; rintro x w3 ⟨rfl, h3, q3⟩)
    all_goals
      go_wp2_with (fail)
      go_ret
      exact ⟨rfl, h3⟩
  · rw [if_neg (by rw [e]; decide)]
    have e1 : (setM X.D Nn).1 = 0 := by unfold setM; rw [if_neg (by rw [e]; decide)]
    rw [e1] at HF
    rw [e] at HOF
    clear e e1
    go_enter Try.func36, Try.ntmps36
    go_upto_region 4 with (go_at_call 42; refine HOF.out.mono ?_; rintro x w2 ⟨rfl, hw2⟩; obtain rfl := hw2.symm)
    go_region_with (go_at_call 32; refine HF.out.mono ?_; rintro x w3 ⟨rfl, h3, q3⟩
                    have g3 := q3.cell (p := ⟨W.heap.size, 2, none⟩) (show w1.drew.cell? _ = _ from g2) (.inr ⟨Nat.le_refl _, HZ.out⟩)
                    have f9 := h3.f 9
                    obtain ⟨-, -, -, -, -, -, -, -, -, -, -, -, -, -, -, -, -, -, -, -, -, -, -, -, k9⟩ := h3.rows
                    have h4 := h3.setFused (decide (0 ≤ Nn)))
    all_goals
      go_wp2_with (fail)
      go_ret
      exact ⟨rfl, h4⟩
set_option maxRecDepth 100000 in
set_option maxHeartbeats 1000000 in
theorem do_format (h : WdAt W0 W wb X) (b : Bd X.D) (kd : Int) (hk : kd.tmod 8 = 7) (T : Bs) (Nn : Int) (A : Option Addr) (kn kc : Nat) (ho : X.D.off = false) (hD : (formatM X.D).2.off = false) (he : (formatM X.D).1 = 0) :
    Calls Try.prog 36 #[.pointer (some ⟨wb, 0, none⟩), .agg #[.int .u8 kd, .string ⟨T.toArray⟩, .int .i64 Nn, .slice A kn kc]] W fun e w' => e = .returned (.bool true) ∧ WdAt W0 w' wb { X with D := (formatM X.D).2, m := openedM [] [], broken := true } := by
  obtain ⟨w1, hw1⟩ : ∃ w1, W.alloc (.cells #[.int .u8 kd, .string ⟨T.toArray⟩, .int .i64 Nn, .slice A kn kc] 70) = w1 := ⟨_, rfl⟩
  have hB1 : Below W.heap.size W w1 := hw1 ▸ Below.new1 _ _
  have hr1 : w1.heap[W.heap.size]? = some (.cells #[.int .u8 kd, .string ⟨T.toArray⟩, .int .i64 Nn, .slice A kn kc] 70 (0, 0)) := hw1 ▸ heap_alloc_new W _
  have g0 : w1.cell? ⟨W.heap.size, 0, none⟩ = some (.int .u8 kd) := (cell_of_row w1 _ 0 _ _ _ hr1).trans rfl
  have h1 := h.next hB1
  obtain ⟨p, k0, hoff, hfo⟩ := h1.offc
  rw [ho] at hoff
  have hf := hfo b
  rw [he] at hf
  have HOF := Lib.hid hoff
  have HF := Lib.hid hf
  have HD := Lib.hid hD
  have kk4 : (kd.tmod 8 == 4) = false := by rw [hk]; rfl
  have kk5 : (kd.tmod 8 == 5) = false := by rw [hk]; rfl
  have kk6 : (kd.tmod 8 == 6) = false := by rw [hk]; rfl
  have kk7 : (kd.tmod 8 == 7) = true := by rw [hk]; rfl
  clear hoff h h1 hr1 hB1 hfo hf hD he ho b hk
  generalize (formatM X.D).2 = D' at *
  go_enter Try.func36, Try.ntmps36
  go_upto_region 17 with (first
    | (go_at_call 42; refine HOF.out.mono ?_; rintro x w2 ⟨rfl, hw2⟩; obtain rfl := hw2.symm)
    | (go_at_call 23; refine HF.out.mono ?_; rintro x w3 ⟨rfl, h3⟩))
  have f11 := h3.f 11
  obtain ⟨-, -, -, -, -, -, -, -, -, -, -, -, -, -, -, -, -, -, -, -, -, -, -, k11, -⟩ := h3.rows
  have h4 := h3.setBroken true
  go_upto_region 18 with (fail)
  generalize w3.setCell ⟨wb, 11, none⟩ (.bool true) = w4 at *
  have HOP := Lib.hid (opened_any w4 [] none [] 0 0 (.inl rfl) rfl (.inr ⟨rfl, rfl⟩) (by decide))
  simp only [cellsMd, openedM] at HOP
  have H4 := Lib.hid h4
  clear h3 h4 f11 k11
  go_upto_region 22 with (first
    | (go_at_call 68; refine HOP.out.mono ?_; rintro x w6 ⟨v6, rfl, hv6, b6⟩
       obtain ⟨A6, c6, rfl, -, -⟩ := hv6.slice
       have h6 := H4.out.next b6
       obtain ⟨RA6, rc6, AA6, ac6, -, -, k3, k4, -, -, -, -, -, -, -, k2, k5, k6, k7, k8, -, -, -, -, -⟩ := h6.rows
       have f2 := h6.f 2
       have f3 := h6.f 3
       have f4 := h6.f 4
       have f5 := h6.f 5
       have f6 := h6.f 6
       have f7 := h6.f 7
       have f8 := h6.f 8
       have H7 := Lib.hid (H4.out.model (m' := openedM [] []) b6 hv6 (OwnStrs.none _ _))))
  generalize hw7 : World.setCell _ ⟨wb, 8, none⟩ _ = w7
  have h7 : WdAt W0 w7 wb { X with D := D', broken := true, m := openedM [] [] } := by rw [← hw7]; exact H7.out
  clear hw7 H7 f2 f3 f4 f5 f6 f7 f8 k2 k3 k4 k5 k6 k7 k8 h6 hv6 b6 H4 HOP
  obtain ⟨p7, k7, hof, -⟩ := h7.offc
  simp only [HD.out] at hof
  have HO7 := Lib.hid hof
  clear hof
  go_wp2_with (first
    | (go_at_call 42; refine HO7.out.mono ?_; rintro x w2 ⟨rfl, hw2⟩; obtain rfl := hw2.symm))
  go_ret
  exact ⟨rfl, h7⟩
set_option maxRecDepth 100000 in
set_option maxHeartbeats 1000000 in
theorem do_format_off (h : WdAt W0 W wb X) (b : Bd X.D) (kd : Int) (hk : kd.tmod 8 = 7) (T : Bs) (Nn : Int) (A : Option Addr) (kn kc : Nat) (hD : (formatM X.D).2.off = true) (he : (formatM X.D).1 = 70) (hf : X.D.off = true ∨ X.fused = true) :
    Calls Try.prog 36 #[.pointer (some ⟨wb, 0, none⟩), .agg #[.int .u8 kd, .string ⟨T.toArray⟩, .int .i64 Nn, .slice A kn kc]] W fun e w' => e = .returned (.bool true) ∧ WdAt W0 w' wb { X with D := (formatM X.D).2, m := { X.m with Empty := true }, broken := true } := by
  obtain ⟨w1, hw1⟩ : ∃ w1, W.alloc (.cells #[.int .u8 kd, .string ⟨T.toArray⟩, .int .i64 Nn, .slice A kn kc] 70) = w1 := ⟨_, rfl⟩
  have hB1 : Below W.heap.size W w1 := hw1 ▸ Below.new1 _ _
  have hr1 : w1.heap[W.heap.size]? = some (.cells #[.int .u8 kd, .string ⟨T.toArray⟩, .int .i64 Nn, .slice A kn kc] 70 (0, 0)) := hw1 ▸ heap_alloc_new W _
  have g0 : w1.cell? ⟨W.heap.size, 0, none⟩ = some (.int .u8 kd) := (cell_of_row w1 _ 0 _ _ _ hr1).trans rfl
  have h1 := h.next hB1
  obtain ⟨p, k0, hoff, hfo⟩ := h1.offc
  have hfm := hfo b
  rw [he] at hfm
  have hfe : X.fused = true → ∀ w, WdAt W0 w wb { X with D := (formatM X.D).2, m := { X.m with Empty := true }, broken := true } → Calls Try.prog 67 #[.pointer (some ⟨wb, 0, none⟩)] w fun e w' => e = .returned (.bool true) ∧ w' = w := fun hf w h => (fell_any h).mono fun e w' q => ⟨by rw [q.1]; simp only [hf, hD]; rfl, q.2⟩
  have HOF := Lib.hid hoff
  have HF := Lib.hid hfm
  have HFE := Lib.hid hfe
  have kk4 : (kd.tmod 8 == 4) = false := by rw [hk]; rfl
  have kk5 : (kd.tmod 8 == 5) = false := by rw [hk]; rfl
  have kk6 : (kd.tmod 8 == 6) = false := by rw [hk]; rfl
  have kk7 : (kd.tmod 8 == 7) = true := by rw [hk]; rfl
  clear hoff h h1 hr1 hB1 hfo hfm hD he b hk hfe
  generalize (formatM X.D).2 = D' at *
  rcases Bool.eq_false_or_eq_true X.D.off with e | e
  · rw [e] at HOF
    clear hf e
    go_enter Try.func36, Try.ntmps36
    go_upto_region 17 with (first
      | (go_at_call 42; refine HOF.out.mono ?_; rintro x w2 ⟨rfl, hw2⟩; obtain rfl := hw2.symm)
      | (go_at_call 23; refine HF.out.mono ?_; rintro x w3 ⟨rfl, h3⟩))
    have f11 := h3.f 11
    have f6 := h3.f 6
    obtain ⟨-, -, -, -, -, -, -, -, -, -, -, -, -, -, -, -, -, k6, -, -, -, -, -, k11, -⟩ := h3.rows
    have h4 := (h3.setBroken true).setEmpty true
    go_wp2_with (fail)
    go_ret
    exact ⟨rfl, h4⟩
  · rw [e] at HOF
    have hf2 : X.fused = true := hf.resolve_left (by rw [e]; decide)
    have HFE2 := Lib.hid (HFE.out hf2)
    clear hf e hf2
    go_enter Try.func36, Try.ntmps36
    go_upto_region 17 with (first
      | (go_at_call 42; refine HOF.out.mono ?_; rintro x w2 ⟨rfl, hw2⟩; obtain rfl := hw2.symm)
      | (go_at_call 23; refine HF.out.mono ?_; rintro x w3 ⟨rfl, h3⟩))
    have f11 := h3.f 11
    have f6 := h3.f 6
    obtain ⟨-, -, -, -, -, -, -, -, -, -, -, -, -, -, -, -, -, k6, -, -, -, -, -, k11, -⟩ := h3.rows
    have h4 := (h3.setBroken true).setEmpty true
    go_wp2_with (go_at_call 67; refine (HFE2.out _ h4).mono ?_; rintro x w5 ⟨rfl, hw5⟩; obtain rfl := hw5.symm)
    go_ret
    exact ⟨rfl, h4⟩
theorem WdAt.dk4 (h : WdAt W0 W wb X) (hB : Below W.heap.size W w1) : ∃ p, w1.cell? ⟨wb, 0, none⟩ = some p
    ∧ (∀ A keep n c2, keep.length = n → Ints w1 A keep → (∀ a, 0 < n → A = some a → a.block < W0.heap.size ∨ (W.heap.size ≤ a.block ∧ a.block < w1.heap.size)) → n ≤ 9223372036854775807 → Calls Try.prog 28 #[p, .slice A n c2] w1 fun e w' => e = .returned (.int .i64 0) ∧ WdAt W0 w' wb { X with D := crashM X.D keep } ∧ w'.cell? ⟨wb, 0, none⟩ = some p) := by
  obtain ⟨K, dk, jp, rv, av, cv, hw0, h1, h2, h3⟩ := h
  have hw := hw0.more hB
  refine ⟨_, hw.c0, fun A keep n c2 e hA hK hn => (crash_dj hw.dj A keep n c2 e hA (fun h0 a ha => (hK a h0 ha).imp (h1 _) id) hn).mono ?_⟩
  rintro x w' ⟨rfl, q1, q2⟩
  have hw2 := hw.call q1 q2
  exact ⟨rfl, ⟨_, dk, jp, rv, av, cv, hw2, fun i hi => .inl (h1 i hi), h2, (h3.next hB).trans (q2.mono fun i hi => .inl (h1 i hi))⟩, hw2.c0⟩
set_option maxRecDepth 100000 in
set_option maxHeartbeats 4000000 in
theorem do_crash (h : WdAt W0 W wb X) (kd : Int) (hk : kd.tmod 8 = 5) (T : Bs) (Nn : Int) (A : Option Addr) (kn kc : Nat) (keep : List Int) (hkn : keep.length = kn) (hI : Ints W0 A keep) (hA2 : (∃ a, A = some a) ∨ (A = none ∧ kc = 0)) (hz : kn * 8 ≤ 140737488355328) :
    Calls Try.prog 36 #[.pointer (some ⟨wb, 0, none⟩), .agg #[.int .u8 kd, .string ⟨T.toArray⟩, .int .i64 Nn, .slice A kn kc]] W fun e w' => e = .returned (.bool true) ∧ WdAt W0 w' wb { X with D := crashM X.D keep, fused := false, broken := true } := by
  obtain ⟨w1, hw1⟩ : ∃ w1, W.alloc (.cells #[.int .u8 kd, .string ⟨T.toArray⟩, .int .i64 Nn, .slice A kn kc] 70) = w1 := ⟨_, rfl⟩
  have hB1 : Below W.heap.size W w1 := hw1 ▸ Below.new1 _ _
  have hr1 : w1.heap[W.heap.size]? = some (.cells #[.int .u8 kd, .string ⟨T.toArray⟩, .int .i64 Nn, .slice A kn kc] 70 (0, 0)) := hw1 ▸ heap_alloc_new W _
  have g0 : w1.cell? ⟨W.heap.size, 0, none⟩ = some (.int .u8 kd) := (cell_of_row w1 _ 0 _ _ _ hr1).trans rfl
  have g3 : w1.cell? ⟨W.heap.size, 3, none⟩ = some (.slice A kn kc) := (cell_of_row w1 _ 3 _ _ _ hr1).trans rfl
  have h1 := h.next hB1
  obtain ⟨p, k0, hoff, -⟩ := h1.offc
  have HOF := Lib.hid hoff
  have kk4 : (kd.tmod 8 == 4) = false := by rw [hk]; rfl
  have kk5 : (kd.tmod 8 == 5) = true := by rw [hk]; rfl
  have f9 := h1.f 9
  have f11 := h1.f 11
  obtain ⟨-, -, -, -, -, -, -, -, -, -, -, -, -, -, -, -, -, -, -, -, -, -, -, k11, k9⟩ := h1.rows
  have h3 := (h1.setFused false).setBroken true
  have g3' : ((w1.setCell ⟨wb, 9, none⟩ (.bool false)).setCell ⟨wb, 11, none⟩ (.bool true)).cell? ⟨W.heap.size, 3, none⟩ = some (.slice A kn kc) := (World.cell?_setCell_other _ _ _ _ (fun e => by cases e)).trans ((World.cell?_setCell_other _ _ _ _ (fun e => by cases e)).trans g3)
  clear hoff h h1 hr1 hB1 hk
  go_enter Try.func36, Try.ntmps36
  go_upto_region 12 with (go_at_call 42; refine HOF.out.mono ?_; rintro x w2 ⟨rfl, hw2⟩; obtain rfl := hw2.symm)
  generalize (w1.setCell ⟨wb, 9, none⟩ (.bool false)).setCell ⟨wb, 11, none⟩ (.bool true) = w3 at *
  clear g3 f9 f11 k9 k11 k0 HOF g0
  obtain ⟨w4, hw4⟩ : ∃ w4, (w3.alloc (.cells #[] 3)).drew = w4 := ⟨_, rfl⟩
  have b4 : Below w3.heap.size w3 w4 := hw4 ▸ Below.next (Below.new1 w3 _) (Below.drawn _ 1 _)
  have r4 : w4.heap[w3.heap.size]? = some (.cells #[] 3 (0, 0)) := by rw [← hw4]; exact heap_alloc_new w3 _
  have i4 : Ints w4 A keep := (hI.next h3.old).next b4
  obtain ⟨p3, k3, -⟩ := h3.dk4 (Below.refl _ _)
  have k4 := cell_kept b4 k3
  have g4 := cell_kept b4 g3'
  have k3d : w3.drew.cell? ⟨wb, 0, none⟩ = some p3 := k3
  have g3d : w3.drew.cell? ⟨W.heap.size, 3, none⟩ = some (.slice A kn kc) := g3'
  have hcr : ∀ w6 A6 c6, Below w3.heap.size w3 w6 → Ints w6 A6 keep → (∀ a, 0 < kn → A6 = some a → w3.heap.size ≤ a.block ∧ a.block < w6.heap.size) → Calls Try.prog 28 #[p3, .slice A6 kn c6] w6 fun e w' => e = .returned (.int .i64 0) ∧ WdAt W0 w' wb { X with D := crashM X.D keep, fused := false, broken := true } ∧ w'.cell? ⟨wb, 0, none⟩ = some p3 ∧
      (Calls Try.prog 42 #[p3] w' fun e w2 => e = .returned (.bool false) ∧ w2 = w') := fun w6 A6 c6 B i l => by
    obtain ⟨p6, k6, hc⟩ := h3.dk4 B
    obtain rfl : p3 = p6 := Option.some.inj ((cell_kept B k3).symm.trans k6)
    refine (hc A6 keep kn c6 hkn i (fun a h1 h2 => .inr (l a h1 h2)) (by omega)).mono ?_
    rintro e w' ⟨rfl, q1, q2⟩
    obtain ⟨p7, k7, ho, -⟩ := q1.offc
    obtain rfl : p3 = p7 := Option.some.inj (q2.symm.trans k7)
    exact ⟨rfl, q1, q2, ho⟩
  have HCR := Lib.hid hcr
  have HZ := Lib.hid hz
  have HKN := Lib.hid hkn
  have HA2 := Lib.hid hA2
  have HI4 := Lib.hid i4
  have HR4 := Lib.hid r4
  have HB4 := Lib.hid b4
  clear hcr hz hkn hA2 i4 r4 b4 h3 hI
  go_region_law (first
    | (refine step_append_ints rfl (.tmp 48) (.tmp 50) rfl w3.heap.size w3.heap.size (Nat.le_refl _) A keep kn kc rfl rfl HR4.out HKN.out HI4.out HA2.out HZ.out ?_
       rintro v6 w6 ⟨A6, c6, rfl, i6, l6⟩ b6
       have B6 := HB4.out.trans b6
       have k6 := cell_kept B6 k3)
    | (go_simp; go_at_call 28; refine (HCR.out w6 A6 c6 B6 i6 l6).mono ?_; rintro x w7 ⟨rfl, h7, k7, HO7⟩)
    | (go_simp; go_at_call 42; refine HO7.mono ?_; rintro x w2 ⟨rfl, hw2⟩; obtain rfl := hw2.symm))
  all_goals
    go_wp2_with (fail)
    go_ret
    exact ⟨rfl, h7⟩
theorem do_any (h : WdAt W0 W wb X) (hi : WI N n X) (hn : n < 150) (kd : Int) (h0 : 0 ≤ kd) (T : Bs) (Nn : Int) (hN : Nn < 9223372036854775808) (A : Option Addr) (kn kc : Nat) (keep : List Int) (hkn : keep.length = kn) (hI : Ints W0 A keep) (hA2 : (∃ a, A = some a) ∨ (A = none ∧ kc = 0)) (hz : kn * 8 ≤ 140737488355328) :
    Calls Try.prog 36 #[.pointer (some ⟨wb, 0, none⟩), .agg #[.int .u8 kd, .string ⟨T.toArray⟩, .int .i64 Nn, .slice A kn kc]] W fun e w' => e = .returned (.bool true) ∧ ∃ X', WdAt W0 w' wb X' ∧ WI N (n + 2) X' := by
  have hr : kd.tmod 8 = kd % 8 := Int.tmod_eq_emod_of_nonneg h0
  have h8 : kd.tmod 8 = 0 ∨ kd.tmod 8 = 1 ∨ kd.tmod 8 = 2 ∨ kd.tmod 8 = 3 ∨ kd.tmod 8 = 4 ∨ kd.tmod 8 = 5 ∨ kd.tmod 8 = 6 ∨ kd.tmod 8 = 7 := by omega
  clear hr
  have app : ∀ k : Int, kd.tmod 8 = k → (k = 0 ∨ k = 1) → Calls Try.prog 36 #[.pointer (some ⟨wb, 0, none⟩), .agg #[.int .u8 kd, .string ⟨T.toArray⟩, .int .i64 Nn, .slice A kn kc]] W fun e w' => e = .returned (.bool true) ∧ ∃ X', WdAt W0 w' wb X' ∧ WI N (n + 2) X' := fun k e ek => by
    have e2 : (kd.tmod 8 == 2) = false := by rw [e]; rcases ek with rfl | rfl <;> rfl
    have e3 : (kd.tmod 8 == 3) = false := by rw [e]; rcases ek with rfl | rfl <;> rfl
    have e4 : (kd.tmod 8 == 4) = false := by rw [e]; rcases ek with rfl | rfl <;> rfl
    have e5 : (kd.tmod 8 == 5) = false := by rw [e]; rcases ek with rfl | rfl <;> rfl
    have e6 : (kd.tmod 8 == 6) = false := by rw [e]; rcases ek with rfl | rfl <;> rfl
    have e7 : (kd.tmod 8 == 7) = false := by rw [e]; rcases ek with rfl | rfl <;> rfl
    exact (do_write h kd e4 e5 e6 e7 T Nn A kn kc fun w h => write_append h hi hn kd e2 e3 T Nn A kn kc).mono fun e w' ⟨q1, X', q2, q3⟩ => ⟨q1, X', q2, q3.more (by omega) (by omega)⟩
  rcases h8 with e | e | e | e | e | e | e | e
  · exact app 0 e (.inl rfl)
  · exact app 1 e (.inr rfl)
  · exact (do_write h kd (by rw [e]; rfl) (by rw [e]; rfl) (by rw [e]; rfl) (by rw [e]; rfl) T Nn A kn kc fun w h => write_commit h hi kd e T Nn A kn kc).mono fun e w' ⟨q1, X', q2, q3⟩ => ⟨q1, X', q2, q3.more (by omega) (by omega)⟩
  · exact (do_write h kd (by rw [e]; rfl) (by rw [e]; rfl) (by rw [e]; rfl) (by rw [e]; rfl) T Nn A kn kc fun w h => write_check h hi hn kd e T Nn A kn kc).mono fun e w' ⟨q1, X', q2, q3⟩ => ⟨q1, X', q2, q3.more (by omega) (by omega)⟩
  · refine (do_fuse h kd e T Nn hN A kn kc).mono fun e w' ⟨q1, q2⟩ => ⟨q1, _, q2, ?_⟩
    have q := hi.fuse Nn
    rcases Bool.eq_false_or_eq_true X.D.off with e | e
    · rw [if_pos e]; exact hi.more (by omega) (by omega)
    · rw [if_neg (by rw [e]; decide)]; exact (q.2.2 e).more (by omega) (by omega)
  · exact (do_crash h kd e T Nn A kn kc keep hkn hI hA2 hz).mono fun e w' ⟨q1, q2⟩ => ⟨q1, _, q2, (hi.crash hn keep).2.more (by omega) (by omega)⟩
  · exact do_open h hi hn kd e T Nn A kn kc
  · rcases hi.format hn with ⟨q1, q2, q3, q4⟩ | ⟨q1, q2, q3, q4⟩
    · exact (do_format h hi.ws.bd kd e T Nn A kn kc q2 q3 q1).mono fun e w' ⟨r1, r2⟩ => ⟨r1, _, r2, q4⟩
    · exact (do_format_off h hi.ws.bd kd e T Nn A kn kc q2 q1 q3).mono fun e w' ⟨r1, r2⟩ => ⟨r1, _, r2, q4⟩
end
end Go.Proofs.Ytkljfampkkfgdaa
