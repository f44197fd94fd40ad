/- The walk over SpanPlays. -/
import Derived.Test.YtfmplibjhohpgaaSpKeep
import Derived.Test.YtfmplibjhohpgaaSpBuilt
import Derived.Test.YtfmplibjhohpgaaSpAwake
import Derived.Deep.DeepCutAuto
import Derived.Deep.CutRange
namespace Go.Proofs.Ytfmplibjhohpgaa
open Go.RowKit Go.Shelf
attribute [local go_sem] Oper.semAt_some

theorem wp_world {P : Program} {Q : Exit → Act → World → Prop} {c : Code} {a : Act} {w : World} (h : ∀ W, w = W → c.wp P Q a W) : c.wp P Q a w := h w rfl
/-- What holds at each round of the first loop. -/
structure PI (w : World) (base b5 b7 m : Nat) (L0 : List (Int × Int)) (l : List Ac) (H : List Hs) (j : Nat) (p A : Option Addr) (c : Nat) (vV vR : Value) (W : World) : Prop where
  hj : j ≤ m
  both : Both W b5 b7 (moreL L0 (l.take j)) p A c
  rv : OwnV W base vV H
  rm : OwnM W base vR H
  hs : ∀ x ∈ H, HsOk W x
  len : H.length = j + 1
  bl : Below w.heap.size w W
  sz : base ≤ W.heap.size
theorem below_via {n m : Nat} {w W W' : World} (h : Below n w W) (h' : Below m W W') (hnm : n ≤ m) : Below n w W' := ⟨h'.os.trans h.os, h'.tape.trans h.tape, h'.output.trans h.output, Nat.le_trans h.size h'.size, fun i hi => (h'.block i (Nat.lt_of_lt_of_le hi hnm)).trans (h.block i hi)⟩
section
variable {W : World} {a b : Nat} {q : Value} {x : Int} {u : Value} (ha : Boxed W a 26 q) (hb : BoxM W b x u) (hab : ¬ a = b) (v1 v3 : Value) (y : Int)
include ha hb hab
theorem safe_a : Safe W (((W.setCell ⟨a, 0, none⟩ v1).setCell ⟨b, 0, none⟩ (.int .i64 y)).setCell ⟨b, 1, none⟩ v3) := by
  have h1 : BoxM (W.setCell ⟨a, 0, none⟩ v1) b x u := hb.far (by omega) _ _ _
  exact ((Safe.set ha (by decide) (by decide) _ _).trans (Safe.set h1 (by decide) (by decide) _ _)).trans (Safe.set (boxM_set0 h1 y) (by decide) (by decide) _ _)
theorem safe_b : Safe W (((W.setCell ⟨b, 0, none⟩ (.int .i64 y)).setCell ⟨b, 1, none⟩ v3).setCell ⟨a, 0, none⟩ v1) := by
  have h3 : Boxed ((W.setCell ⟨b, 0, none⟩ (.int .i64 y)).setCell ⟨b, 1, none⟩ v3) a 26 q := boxed_far (boxed_far ha hab) hab
  exact ((Safe.set hb (by decide) (by decide) _ _).trans (Safe.set (boxM_set0 hb y) (by decide) (by decide) _ _)).trans (Safe.set h3 (by decide) (by decide) _ _)
end
/-- Behind the call of do. -/
def Cut12 (w : World) (base b5 b7 : Nat) (L : List (Int × Int)) (H : List Hs) (vV vR : Value) (wr W : World) : Prop :=
  ∃ (p6 A6 : Option Addr) (c6 : Nat), Both W b5 b7 L p6 A6 c6 ∧ Below w.heap.size w W ∧ OwnV W base vV H ∧ OwnM W base vR H ∧ Safe wr W ∧ base ≤ W.heap.size
section
variable {w wr w6 : World} {base b5 b7 m : Nat} {L0 : List (Int × Int)} {l : List Ac} {H : List Hs} {j : Nat} {p A : Option Addr} {c : Nat} {vV vR : Value} {M : List (Int × Int)} {p6 A6 : Option Addr} {c6 : Nat} {q : Value} {x : Int} {u : Value}
variable (HP : PI w base b5 b7 m L0 l H j p A c vV vR wr) (b6 : Below wr.heap.size wr w6) (t8 : Boxed w6 b5 26 q) (t10 : BoxM w6 b7 x u) (ne : ¬ b5 = b7) (n5 : w.heap.size ≤ b5) (n7 : w.heap.size ≤ b7) (l5 : b5 < base) (l7 : b7 < base) (P6 : Rep w6 p6 M) (R6 : RunsT w6 A6 (lay 0 M)) (C6 : M.length ≤ c6)
include HP b6 t8 t10 ne n5 n7 l5 l7 P6 R6 C6
theorem cut12_a : Cut12 w base b5 b7 M H vV vR wr (((w6.setCell ⟨b5, 0, none⟩ (.pointer p6)).setCell ⟨b7, 0, none⟩ (.int .i64 (Tr.total M))).setCell ⟨b7, 1, none⟩ (.slice A6 M.length c6)) := by
  have S := (Safe.below b6).trans (safe_a t8 t10 ne (.pointer p6) (.slice A6 M.length c6) (Tr.total M))
  exact ⟨p6, A6, c6, both_a t8 t10 ne P6 R6 C6, below_a (Below.next HP.bl b6) n5 n7 _ _ _, (((HP.rv.below b6).far l5 _ _).far l7 _ _).far l7 _ _, (((HP.rm.below b6).far l5 _ _).far l7 _ _).far l7 _ _, S, Nat.le_trans HP.sz S.1⟩
theorem cut12_b : Cut12 w base b5 b7 M H vV vR wr (((w6.setCell ⟨b7, 0, none⟩ (.int .i64 (Tr.total M))).setCell ⟨b7, 1, none⟩ (.slice A6 M.length c6)).setCell ⟨b5, 0, none⟩ (.pointer p6)) := by
  have S := (Safe.below b6).trans (safe_b t8 t10 ne (.pointer p6) (.slice A6 M.length c6) (Tr.total M))
  exact ⟨p6, A6, c6, both_b t8 t10 ne P6 R6 C6, below_b (Below.next HP.bl b6) n5 n7 _ _ _, (((HP.rv.below b6).far l7 _ _).far l7 _ _).far l5 _ _, (((HP.rm.below b6).far l7 _ _).far l7 _ _).far l5 _ _, S, Nat.le_trans HP.sz S.1⟩
end
def RelS (H : List Hs) (vV vR : Value) (base : Nat) (w0 W : World) : Prop := Below base w0 W ∧ Safe w0 W
set_option maxRecDepth 100000 in
set_option maxHeartbeats 2000000 in
theorem plays_many (w : World) (size : Int) (A : Option Addr) (m c : Nat) (hl : ¬ (m : Int) ≤ 60) :
    Calls Try.prog 6 #[.int .i64 size, .slice A m c] w (FromsPost w) := by
  have HL := Lib.hid hl
  clear hl
  go_enter Try.func6, Try.ntmps6
  go_wp2_with (fail)
  go_at_call 29
  refine (lfew_no _ A m c (by have := HL.out; omega)).mono ?_
  rintro e w' ⟨rfl, rfl⟩
  go_wp2_with (fail)
  go_at_call 18
  refine (awake_any _).mono ?_
  rintro e w2 ⟨rfl, b2⟩
  go_wp2_with (fail)
  go_ret
  exact ⟨rfl, b2⟩
theorem lastsV (base : Nat) (H : List Hs) (k : Option Nat) (t : Tmp) (u : Option Nat) : Lasts ⟨k, t, u, fun v W => OwnV W base v H⟩ := fun _ _ _ h b => h.below b
theorem lastsM (base : Nat) (H : List Hs) (k : Option Nat) (t : Tmp) (u : Option Nat) : Lasts ⟨k, t, u, fun v W => OwnM W base v H⟩ := fun _ _ _ h b => h.below b
theorem lasts0 (z : Value) (k : Option Nat) (t : Tmp) (u : Option Nat) : Lasts ⟨k, t, u, fun v _ => v = z⟩ := fun _ _ _ h _ => h
theorem lastsB (z : Value) (k : Option Nat) (t : Tmp) (u : Option Nat) : Lasts ⟨k, t, u, fun v W => ∃ g, v = .slice (some ⟨g, 0, none⟩) 1 1 ∧ Boxed W g 26 z⟩ := fun _ _ _ ⟨g, e, h⟩ b => ⟨g, e, bx_next h b⟩
theorem lastsX (x : Int) (z : Value) (k : Option Nat) (t : Tmp) (u : Option Nat) : Lasts ⟨k, t, u, fun v W => ∃ g, v = .slice (some ⟨g, 0, none⟩) 1 1 ∧ BoxM W g x z⟩ := fun _ _ _ ⟨g, e, h⟩ b => ⟨g, e, h.next b⟩
theorem box_grown {W W' : World} {base g : Nat} {z : Value} {v : Value} {H : List Hs} (h : Boxed W g 26 z) (ho : OwnM W base v H) (hg : W.grownBy W' v.ownBlock) : Boxed W' g 26 z := by
  refine (hg.block g h.lt ?_).trans h
  rcases ho.2 with ⟨e, _⟩ | ⟨g', cap, cur, e, hb, hh', _⟩
  · rw [e]; simp [Value.ownBlock]
  · rw [e]; simp only [Value.ownBlock]; intro c; simp only [Option.some.injEq] at c; subst c
    have h' : W.heap[g]? = _ := h
    rw [h'] at hh'; simp at hh'
theorem boxm_grown {W W' : World} {base g : Nat} {x : Int} {z : Value} {v : Value} {H : List Hs} (h : BoxM W g x z) (ho : OwnV W base v H) (hg : W.grownBy W' v.ownBlock) : BoxM W' g x z := by
  refine (hg.block g h.lt ?_).trans h
  rcases ho.2 with ⟨e, _⟩ | ⟨g', cap, cur, e, hb, hh', _⟩
  · rw [e]; simp [Value.ownBlock]
  · rw [e]; simp only [Value.ownBlock]; intro c; simp only [Option.some.injEq] at c; subst c
    have h' : W.heap[g]? = _ := h
    rw [h'] at hh'; simp at hh'
set_option maxRecDepth 100000 in
set_option maxHeartbeats 8000000 in
theorem plays_few (w : World) (size : Int) (A : Option Addr) (l : List Ac) (m c : Nat) (hm : l.length = m) (hA : Acts w A l) (hlc : m ≤ c) (hl : (m : Int) ≤ 60) :
    Calls Try.prog 6 #[.int .i64 size, .slice A m c] w (FromsPost w) := by
  have hg := newR_good size
  obtain ⟨R, hR⟩ : ∃ R, newR size = R := ⟨_, rfl⟩
  obtain ⟨err, L0⟩ := R
  have hnew : ∀ W, Calls Try.prog 30 #[.int .i64 size] W fun e w' => ∃ p, e = .returned (.tuple #[.agg #[.pointer p], .int .i64 err]) ∧ Rep w' p L0 ∧ Below W.heap.size W w' := fun W => by
    have := new_any W size
    rw [hR] at this; exact this
  have hrnew : ∀ W, Calls Try.prog 31 #[.int .i64 size] W fun e w' => ∃ A c, e = .returned (.tuple #[.agg #[.int .i64 (Tr.total L0), .slice A L0.length c], .int .i64 err]) ∧ OwnRuns w' W.heap.size (.slice A L0.length c) (lay 0 L0) ∧ L0.length ≤ c ∧ Below W.heap.size W w' := fun W => by
    have := rnew_any W size
    rw [hR] at this; exact this
  rw [hR] at hg
  dsimp only at hg
  have HG := Lib.hid hg
  have HN := Lib.hid hnew
  have HRN := Lib.hid hrnew
  have HM := Lib.hid hm
  have HA := Lib.hid hA
  have HL := Lib.hid hl
  have he : (err != err) = false := by simp
  clear hg hnew hrnew hm hA hR hl
  go_enter Try.func6, Try.ntmps6
  go_wp2_with (fail)
  go_at_call 29
  refine (lfew_yes _ A m c HL.out).mono ?_
  rintro e w' ⟨rfl, rfl⟩
  go_wp2_with (fail)
  go_at_call 30
  refine (HN.out _).mono ?_
  rintro e w1 ⟨p, rfl, hp, b1⟩
  have n5 := b1.size
  go_upto_region 4 with (fail)
  generalize hw2 : World.alloc w1 _ = w2
  have d2 : Below w1.heap.size w1 w2 := hw2 ▸ Below.alloc1 w1 _
  have x5 : Boxed w2 w1.heap.size 26 (.pointer p) := hw2 ▸ Boxed.new w1 _ _
  have p2 := hp.below d2
  have hB2 := Below.next b1 d2
  clear hw2 d2 hp b1
  go_wp2_with (fail)
  go_at_call 31
  refine (HRN.out _).mono ?_
  rintro e w3 ⟨A1, c1, rfl, O3, hc1, b3⟩
  have x5l := x5.lt
  have z5 := bx_next x5 b3
  have p3 := p2.below b3
  have h23 := b3.size
  have hB3 := Below.next hB2 b3
  clear b3 x5 p2 hB2
  go_upto_region 5 with (fail)
  generalize hw4 : World.alloc w3 _ = w4
  have d4 : Below w3.heap.size w3 w4 := hw4 ▸ Below.alloc1 w3 _
  have y7 : BoxM w4 w3.heap.size (Tr.total L0) (.slice A1 L0.length c1) := hw4 ▸ BoxM.new w3 _ _
  have T4 : Both w4 w1.heap.size w3.heap.size L0 p A1 c1 := ⟨bx_next z5 d4, y7, p3.below d4, O3.runsT.below d4, hc1⟩
  have B4 : Below w.heap.size w w4 := Below.next hB3 d4
  have ne : ¬ w1.heap.size = w3.heap.size := by omega
  have n7 : w.heap.size ≤ w3.heap.size := by omega
  clear hw4 d4 z5 p3 O3 y7 hB3
  generalize w1.heap.size = b5 at *
  generalize w3.heap.size = b7 at *
  have q5 := T4.1.cell
  have q70 := T4.2.1.c0
  have q71 := T4.2.1.c1
  have HSM := Lib.hid (same_any w4 p L0 A1 c1 T4.2.2.1 T4.2.2.2.1.1 T4.2.2.2.2)
  go_wp2_with (fail)
  go_at_call 21
  refine HSM.out.mono ?_
  rintro e w5 ⟨rfl, b5'⟩
  have T5 := T4.next b5'
  have B5 := Below.next B4 b5'
  clear T4 B4 b5' q5 q70 q71 HSM
  go_upto_region 7 with (fail)
  have l5 := T5.1.lt
  have l7 := T5.2.1.lt
  refine wp_name fun a0 ha0 => ?_
  have e5 : a0.eval (.tmp 5) = .pointer (some ⟨b5, 0, none⟩) := by rw [ha0]; rfl
  have e7 : a0.eval (.tmp 7) = .pointer (some ⟨b7, 0, none⟩) := by rw [ha0]; rfl
  have hz : a0.tmps.size = 91 := by rw [ha0]; rfl
  have HA0 := Lib.hid ha0
  clear ha0
  have SG : ∀ (d d' : Nat → Prop) (W W' : World), (fun (_ : Nat → Prop) (W : World) => Below w5.heap.size w5 W) d W → (∀ j, d j → d' j) → Below W.heap.size W W' → (fun (_ : Nat → Prop) (W : World) => Below w5.heap.size w5 W) d' W' := fun _ _ _ _ h _ b => Below.next h b
  refine wp_region_steps (Inv [37, 38, 39, 40, 9, 10] a0 (fun _ W => Below w5.heap.size w5 W)
    [⟨some 0, 37, none, fun v _ => v = .agg #[.pointer p]⟩, ⟨some 1, 38, none, fun v W => OwnV W w5.heap.size v [⟨p, A1, c1, L0⟩]⟩, ⟨some 2, 39, none, fun v _ => v = .agg #[.int .i64 (Tr.total L0), .slice A1 L0.length c1]⟩,
     ⟨some 3, 40, none, fun v W => OwnM W w5.heap.size v [⟨p, A1, c1, L0⟩]⟩, ⟨some 4, 9, none, fun v W => OwnV W w5.heap.size v [⟨p, A1, c1, L0⟩]⟩, ⟨some 5, 10, none, fun v W => OwnM W w5.heap.size v [⟨p, A1, c1, L0⟩]⟩])
    (by kernel_rfl) (by kernel_rfl) (Inv.start (Below.refl _ _).drew ⟨nofun, nofun, nofun, nofun, nofun, nofun, trivial⟩) ?_ ?_
  · have St : ∀ x ∈ [(⟨some 0, 37, none, fun v _ => v = .agg #[.pointer p]⟩ : Cl), ⟨some 1, 38, none, fun v W => OwnV W w5.heap.size v [⟨p, A1, c1, L0⟩]⟩, ⟨some 2, 39, none, fun v _ => v = .agg #[.int .i64 (Tr.total L0), .slice A1 L0.length c1]⟩,
     ⟨some 3, 40, none, fun v W => OwnM W w5.heap.size v [⟨p, A1, c1, L0⟩]⟩, ⟨some 4, 9, none, fun v W => OwnV W w5.heap.size v [⟨p, A1, c1, L0⟩]⟩, ⟨some 5, 10, none, fun v W => OwnM W w5.heap.size v [⟨p, A1, c1, L0⟩]⟩], Lasts x :=
      AllC.mem ⟨lasts0 _ _ _ _, lastsV _ _ _ _ _, lasts0 _ _ _ _, lastsM _ _ _ _ _, lastsV _ _ _ _ _, lastsM _ _ _ _ _, trivial⟩
    refine ⟨?_, ?_, ?_, ?_, ?_, ?_, trivial⟩
    · refine stepB rfl rfl (by decide) (by rw [hz]; decide) rfl rfl (by kernel_rfl) St SG fun d a W hF hG hH hn hcl hw => ?_
      have q5 := (hF.same 5 (by decide)).trans e5
      have z5 : W.cell? ⟨b5, 0, none⟩ = some (.pointer p) := (hG.cell (p := ⟨b5, 0, none⟩) l5).trans T5.1.cell
      refine ⟨.agg #[.pointer p], W, ?_, Below.refl _ _, ?_⟩
      · clear hF hG hH hn hcl hw
        generalize a.eval = ρ at *
        go_simp
      · rfl
    · refine stepB rfl rfl (by decide) (by rw [hz]; decide) rfl rfl (by kernel_rfl) St SG fun d a W hF hG hH hn hcl hw => ?_
      have q1 : a.eval (.tmp 37) = .agg #[.pointer p] := hH.at_ (i := 0) rfl (hw 0 rfl) id
      refine ⟨.slice (some ⟨W.heap.size, 0, none⟩) 1 1, W.alloc (.cells #[.pointer p] 26), ?_, Below.alloc1 W _, ?_⟩
      · clear hF hG hH hn hcl hw
        generalize a.eval = ρ at *
        go_simp
      · exact OwnV.one p A1 c1 L0 hG.size
    · refine stepB rfl rfl (by decide) (by rw [hz]; decide) rfl rfl (by kernel_rfl) St SG fun d a W hF hG hH hn hcl hw => ?_
      have q7 := (hF.same 7 (by decide)).trans e7
      have z5 : W.cell? ⟨b7, 0, none⟩ = some (.int .i64 (Tr.total L0)) := (hG.cell (p := ⟨b7, 0, none⟩) l7).trans T5.2.1.c0
      have z6 : W.cell? ⟨b7, 1, none⟩ = some (.slice A1 L0.length c1) := (hG.cell (p := ⟨b7, 1, none⟩) l7).trans T5.2.1.c1
      refine ⟨.agg #[.int .i64 (Tr.total L0), .slice A1 L0.length c1], W, ?_, Below.refl _ _, ?_⟩
      · clear hF hG hH hn hcl hw
        generalize a.eval = ρ at *
        go_simp
      · rfl
    · refine stepB rfl rfl (by decide) (by rw [hz]; decide) rfl rfl (by kernel_rfl) St SG fun d a W hF hG hH hn hcl hw => ?_
      have q1 : a.eval (.tmp 39) = .agg #[.int .i64 (Tr.total L0), .slice A1 L0.length c1] := hH.at_ (i := 2) rfl (hw 2 rfl) id
      refine ⟨.slice (some ⟨W.heap.size, 0, none⟩) 1 1, W.alloc (.cells #[.int .i64 (Tr.total L0), .slice A1 L0.length c1] 31), ?_, Below.alloc1 W _, ?_⟩
      · clear hF hG hH hn hcl hw
        generalize a.eval = ρ at *
        go_simp
      · exact OwnM.one p A1 c1 L0 hG.size
    · refine stepB rfl rfl (by decide) (by rw [hz]; decide) rfl rfl (by kernel_rfl) St SG fun d a W hF hG hH hn hcl hw => ?_
      have q1 : OwnV W w5.heap.size (a.eval (.tmp 38)) [⟨p, A1, c1, L0⟩] := hH.at_ (i := 1) rfl (hw 1 rfl) id
      refine ⟨a.eval (.tmp 38), W, ?_, Below.refl _ _, q1⟩
      clear hF hG hH hn hcl hw
      generalize a.eval = ρ at *
      go_simp
    · refine stepB rfl rfl (by decide) (by rw [hz]; decide) rfl rfl (by kernel_rfl) St SG fun d a W hF hG hH hn hcl hw => ?_
      have q1 : OwnM W w5.heap.size (a.eval (.tmp 40)) [⟨p, A1, c1, L0⟩] := hH.at_ (i := 3) rfl (hw 3 rfl) id
      refine ⟨a.eval (.tmp 40), W, ?_, Below.refl _ _, q1⟩
      clear hF hG hH hn hcl hw
      generalize a.eval = ρ at *
      go_simp
  · intro d a W ⟨hF, hB, hH⟩ hall
    have k9 : OwnV W w5.heap.size (a.eval (.tmp 9)) [⟨p, A1, c1, L0⟩] := hH.at_ (i := 4) rfl (hall 4 (by decide)) id
    have k10 : OwnM W w5.heap.size (a.eval (.tmp 10)) [⟨p, A1, c1, L0⟩] := hH.at_ (i := 5) rfl (hall 5 (by decide)) id
    clear hH hall
    rw [hF.shape (by rw [hz]; decide)]
    clear hF
    simp only [List.foldl]
    generalize a.eval (.tmp 9) = vV at *
    generalize a.eval (.tmp 10) = vR at *
    generalize a.eval (.tmp 37) = z37 at *
    generalize a.eval (.tmp 38) = z38 at *
    generalize a.eval (.tmp 39) = z39 at *
    generalize a.eval (.tmp 40) = z40 at *
    rw [HA0.out]
    simp only [Act.put, List.setIfInBounds_toArray, List.set_cons_zero, List.set_cons_succ]
    have T6 := T5.next hB
    have hI : PI w w5.heap.size b5 b7 m L0 l [⟨p, A1, c1, L0⟩] 0 p A1 c1 vV vR W := ⟨Nat.zero_le _, T6, k9, k10, fun x hx => by obtain rfl := List.mem_singleton.1 hx; exact ⟨T6.2.2.1, T6.2.2.2.1, T6.2.2.2.2⟩, rfl, Below.next B5 hB, hB.size⟩
    clear hz HA0 e5 e7 T5 T6 k9 k10 hB B5 SG
    clear a a0
    have nb : w.heap.size ≤ w5.heap.size := by omega
    generalize w5.heap.size = base at *
    go_wp2_with (fail)
    go_loopw [9, 10, 11, 12] (fun s9 s10 ok i W => ∃ (j : Nat) (H : List Hs) (p A : Option Addr) (c : Nat), i = .int .i64 j ∧ ok = .bool true ∧ PI w base b5 b7 m L0 l H j p A c s9 s10 W) (fun _ _ _ i _ => m - (intOf i).toNat)
    case atStart => exact ⟨0, _, p, A1, c1, rfl, rfl, hI⟩
    case round =>
      obtain ⟨j, H, p', A', c', rfl, rfl, hP⟩ := hrel
      have hML := moreL_good (l.take j) (L := L0) HG.out
      have HML := Lib.hid hML
      clear hML hI
      have hT := hP.both
      have c8 := hT.1.cell
      have f8 := hT.1.frozen
      have c10 := hT.2.1.c0
      have c11 := hT.2.1.c1
      have f10 := hT.2.1.frozen 0
      have f11 := hT.2.1.frozen 1
      have l8 := hT.1.lt
      have l10 := hT.2.1.lt
      by_cases hjm : j < m
      · have k2 : (j : Int) < (m : Int) := by omega
        have hjl : j < l.length := by have := HM.out; omega
        obtain ⟨aa, rfl⟩ : ∃ a, A = some a := by
          rcases HA.out with hh | ⟨a, hh, _⟩
          · rw [hh] at hjl; simp at hjl
          · exact ⟨a, hh⟩
        obtain ⟨hab, g0, g1, g2, g3, g4⟩ := (HA.out.below hP.bl).at_ hjl
        have hMX : moreL L0 (l.take (j + 1)) = actL (moreL L0 (l.take j)) l[j] := by rw [List.take_succ_eq_append_getElem hjl, moreL_snoc]
        have hM' := moreL_good (l.take (j + 1)) (L := L0) HG.out
        rw [hMX] at hM'
        generalize l[j] = X at *
        have HP := Lib.hid hP
        clear hP
        generalize hMM : moreL L0 (l.take j) = M at *
        generalize hMM' : actL M X = M' at *
        have HMM := Lib.hid hMM
        have HMM' := Lib.hid hMM'
        have HMX := Lib.hid hMX
        have HT := Lib.hid hT
        have HM' := Lib.hid hM'
        clear hMX hMM hMM' hT hM'
        go_upto_region 12 with (fail)
        go_cut [11] from 47 to 57 (fun u W => u = .bool true ∧ ∃ (p6 A6 : Option Addr) (c6 : Nat), Both W b5 b7 M' p6 A6 c6 ∧ Below w.heap.size w W ∧ OwnV W base u9 H ∧ OwnM W base u10 H ∧ Safe wr W ∧ base ≤ W.heap.size)
        case first =>
          go_region_with ((go_at_call 32; refine (do_both wr HT.out HML.out X (Quiet.below ⟨1, rfl⟩ _)).mono ?_; rintro e w6 ⟨p6, A6, c6, rfl, P6, R6, C6, b6'⟩; rw [HMM'.out] at P6 R6 C6 ⊢; have b6 : Below wr.heap.size wr w6 := Below.of_drew b6'; have t8 := bx_next HT.out.1 b6; have t10 := HT.out.2.1.next b6; have d8 := t8.cell; have e8 := t8.frozen; have d10 := t10.c0; have d11 := t10.c1; have e10 := t10.frozen 0; have e11 := t10.frozen 1; have m8 := t8.lt; have m10 := t10.lt; have KA : ∀ W', (((w6.setCell ⟨b5, 0, none⟩ (.pointer p6)).setCell ⟨b7, 0, none⟩ (.int .i64 (Tr.total M'))).setCell ⟨b7, 1, none⟩ (.slice A6 M'.length c6)) = W' → Cut12 w base b5 b7 M' H u9 u10 wr W' := fun W' e => (by subst e; exact cut12_a HP.out b6 t8 t10 ne n5 n7 l5 l7 P6 R6 C6); have KB : ∀ W', (((w6.setCell ⟨b7, 0, none⟩ (.int .i64 (Tr.total M'))).setCell ⟨b7, 1, none⟩ (.slice A6 M'.length c6)).setCell ⟨b5, 0, none⟩ (.pointer p6)) = W' → Cut12 w base b5 b7 M' H u9 u10 wr W' := fun W' e => (by subst e; exact cut12_b HP.out b6 t8 t10 ne n5 n7 l5 l7 P6 R6 C6)))
          all_goals
            go_wp2_with (fail)
            go_meet
            first
              | exact ⟨rfl, KA _ rfl⟩
              | exact ⟨rfl, KB _ rfl⟩
        case rest =>
          obtain ⟨rfl, p6, A6, c6, F, FB, FV, FM, FS, FZ⟩ := hcut
          clear c8 f8 c10 c11 f10 f11 l8 l10 hab g0 g1 g2 g3 g4 HT HMM HMM'
          generalize hwx : wc = wx at *
          clear hwx
          go_upto_region 13 with (fail)
          have q5 := F.1.cell
          have q70 := F.2.1.c0
          have q71 := F.2.1.c1
          have HSM := Lib.hid (same_any wx p6 M' A6 c6 F.2.2.1 F.2.2.2.1.1 F.2.2.2.2)
          go_wp2_with (fail)
          go_at_call 21
          refine HSM.out.mono ?_
          rintro e w8 ⟨rfl, b8⟩
          have F8 := F.next b8
          have FB8 := Below.next FB b8
          have FV8 := FV.below b8
          have FM8 := FM.below b8
          have FS8 := FS.trans (Safe.below b8)
          have FZ8 := Nat.le_trans FZ b8.size
          clear q5 q70 q71 HSM F FB FV FM FS FZ b8
          go_upto_region 15 with (fail)
          refine wp_name fun a0 ha0 => ?_
          have e5 : a0.eval (.tmp 5) = .pointer (some ⟨b5, 0, none⟩) := by rw [ha0]; rfl
          have e7 : a0.eval (.tmp 7) = .pointer (some ⟨b7, 0, none⟩) := by rw [ha0]; rfl
          have e9 : a0.eval (.tmp 9) = u9 := by rw [ha0]; rfl
          have e10 : a0.eval (.tmp 10) = u10 := by rw [ha0]; rfl
          have hz : a0.tmps.size = 91 := by rw [ha0]; rfl
          have HA0 := Lib.hid ha0
          clear ha0
          have SG : ∀ (d d' : Nat → Prop) (W W' : World), (fun d W => (d 3 ∨ OwnV W base u9 H) ∧ (d 7 ∨ OwnM W base u10 H) ∧ Below base w8 W ∧ Safe w8 W) d W → (∀ j, d j → d' j) → Below W.heap.size W W' → (fun d W => (d 3 ∨ OwnV W base u9 H) ∧ (d 7 ∨ OwnM W base u10 H) ∧ Below base w8 W ∧ Safe w8 W) d' W' := fun _ _ _ _ ⟨h1, h2, h3, h4⟩ hu b => ⟨h1.imp (hu _) (fun h => h.below b), h2.imp (hu _) (fun h => h.below b), below_via h3 b (Nat.le_trans FZ8 h3.size), h4.trans (Safe.below b)⟩
          refine wp_region_steps (Inv [9, 10, 66, 67, 68, 69, 70, 71, 72, 73] a0 (fun d W => (d 3 ∨ OwnV W base u9 H) ∧ (d 7 ∨ OwnM W base u10 H) ∧ Below base w8 W ∧ Safe w8 W)
            [(⟨none, 9, some 8, fun v _ => v = u9⟩ : Cl), ⟨none, 10, some 9, fun v _ => v = u10⟩, ⟨some 0, 66, none, fun v _ => v = u9⟩, ⟨some 1, 67, none, fun v _ => v = .agg #[.pointer p6]⟩, ⟨some 2, 68, some 3, fun v W => ∃ g, v = .slice (some ⟨g, 0, none⟩) 1 1 ∧ Boxed W g 26 (.pointer p6)⟩, ⟨some 3, 69, none, fun v W => OwnV W base v (H ++ [⟨p6, A6, c6, M'⟩])⟩, ⟨some 4, 70, none, fun v _ => v = u10⟩, ⟨some 5, 71, none, fun v _ => v = .agg #[.int .i64 (Tr.total M'), .slice A6 M'.length c6]⟩, ⟨some 6, 72, some 7, fun v W => ∃ g, v = .slice (some ⟨g, 0, none⟩) 1 1 ∧ BoxM W g (Tr.total M') (.slice A6 M'.length c6)⟩, ⟨some 7, 73, none, fun v W => OwnM W base v (H ++ [⟨p6, A6, c6, M'⟩])⟩, ⟨some 8, 9, none, fun v W => OwnV W base v (H ++ [⟨p6, A6, c6, M'⟩])⟩, ⟨some 9, 10, none, fun v W => OwnM W base v (H ++ [⟨p6, A6, c6, M'⟩])⟩])
            (by kernel_rfl) (by kernel_rfl) (Inv.start ⟨.inr (FV8.below (Below.refl _ _).drew), .inr (FM8.below (Below.refl _ _).drew), (Below.refl _ _).drew, Safe.below (Below.refl _ _).drew⟩ ⟨fun _ => e9, fun _ => e10, nofun, nofun, nofun, nofun, nofun, nofun, nofun, nofun, nofun, nofun, trivial⟩) ?_ ?_
          · have St : ∀ x ∈ [(⟨none, 9, some 8, fun v _ => v = u9⟩ : Cl), ⟨none, 10, some 9, fun v _ => v = u10⟩, ⟨some 0, 66, none, fun v _ => v = u9⟩, ⟨some 1, 67, none, fun v _ => v = .agg #[.pointer p6]⟩, ⟨some 2, 68, some 3, fun v W => ∃ g, v = .slice (some ⟨g, 0, none⟩) 1 1 ∧ Boxed W g 26 (.pointer p6)⟩, ⟨some 3, 69, none, fun v W => OwnV W base v (H ++ [⟨p6, A6, c6, M'⟩])⟩, ⟨some 4, 70, none, fun v _ => v = u10⟩, ⟨some 5, 71, none, fun v _ => v = .agg #[.int .i64 (Tr.total M'), .slice A6 M'.length c6]⟩, ⟨some 6, 72, some 7, fun v W => ∃ g, v = .slice (some ⟨g, 0, none⟩) 1 1 ∧ BoxM W g (Tr.total M') (.slice A6 M'.length c6)⟩, ⟨some 7, 73, none, fun v W => OwnM W base v (H ++ [⟨p6, A6, c6, M'⟩])⟩, ⟨some 8, 9, none, fun v W => OwnV W base v (H ++ [⟨p6, A6, c6, M'⟩])⟩, ⟨some 9, 10, none, fun v W => OwnM W base v (H ++ [⟨p6, A6, c6, M'⟩])⟩], Lasts x :=
              AllC.mem ⟨lasts0 _ _ _ _, lasts0 _ _ _ _, lasts0 _ _ _ _, lasts0 _ _ _ _, lastsB _ _ _ _, lastsV _ _ _ _ _, lasts0 _ _ _ _, lasts0 _ _ _ _, lastsX _ _ _ _ _, lastsM _ _ _ _ _, lastsV _ _ _ _ _, lastsM _ _ _ _ _, trivial⟩
            refine ⟨?_, ?_, ?_, ?_, ?_, ?_, ?_, ?_, ?_, ?_, trivial⟩
            · refine stepB rfl rfl (by decide) (by rw [hz]; decide) rfl rfl (by kernel_rfl) St SG fun d a W hF hG hH hn hcl hw => ?_
              have q1 : a.eval (.tmp 9) = u9 := hH.at_ (i := 0) rfl trivial (fun q => hn (hcl 8 _ 0 rfl rfl q))
              refine ⟨u9, W, ?_, Below.refl _ _, ?_⟩
              · clear hF hG hH hn hcl hw
                generalize a.eval = ρ at *
                go_simp
              · rfl
            · refine stepB rfl rfl (by decide) (by rw [hz]; decide) rfl rfl (by kernel_rfl) St SG fun d a W hF hG hH hn hcl hw => ?_
              have q5 := (hF.same 5 (by decide)).trans e5
              have z5 : W.cell? ⟨b5, 0, none⟩ = some (.pointer p6) := (hG.2.2.1.cell (p := ⟨b5, 0, none⟩) l5).trans F8.1.cell
              refine ⟨.agg #[.pointer p6], W, ?_, Below.refl _ _, ?_⟩
              · clear hF hG hH hn hcl hw
                generalize a.eval = ρ at *
                go_simp
              · rfl
            · refine stepB rfl rfl (by decide) (by rw [hz]; decide) rfl rfl (by kernel_rfl) St SG fun d a W hF hG hH hn hcl hw => ?_
              have q1 : a.eval (.tmp 67) = .agg #[.pointer p6] := hH.at_ (i := 3) rfl (hw 1 rfl) id
              refine ⟨.slice (some ⟨W.heap.size, 0, none⟩) 1 1, W.alloc (.cells #[.pointer p6] 26), ?_, Below.alloc1 W _, ?_⟩
              · clear hF hG hH hn hcl hw
                generalize a.eval = ρ at *
                go_simp
              · exact ⟨_, rfl, Boxed.new W _ _⟩
            · refine ⟨rfl, fun d d' a W ⟨hF, hG, hH⟩ hn hcl hw hk hu hself => ?_⟩
              have q1 : a.eval (.tmp 66) = u9 := hH.at_ (i := 2) rfl (hw 0 rfl) id
              obtain ⟨g, q2, hb⟩ : ∃ g, a.eval (.tmp 68) = .slice (some ⟨g, 0, none⟩) 1 1 ∧ Boxed W g 26 (.pointer p6) := hH.at_ (i := 4) rfl (hw 2 rfl) hn
              obtain ⟨g1, g2, g3, g4⟩ := hG
              have g0 := g1.resolve_left hn
              refine wp_append_v W (.tmp 66) (.tmp 68) rfl u9 H ⟨p6, A6, c6, M'⟩ g q1 g0 q2 hb (by have := HP.out.len; have := HL.out; omega) (Nat.le_trans FZ8 g3.size) fun v' w' ho hg => ?_
              have hbl := below_row g0 hg (Nat.le_trans FZ8 g3.size)
              have hsf := Safe.grown g0 (by decide) (by decide) hg
              refine ⟨hF.put (by decide) _, ⟨.inl hself, g2.imp (hu _) (fun q => row_grown q g0 hg (by decide)), below_via g3 hbl (Nat.le_refl _), g4.trans hsf⟩, hH.put rfl rfl (by kernel_rfl) hcl hn hk hu hself (by rw [hF.size, hz]; decide) (AllC.mem ⟨fun _ _ _ _ q => q, fun _ _ _ _ q => q, fun _ _ _ _ q => q, fun _ _ _ _ q => q, fun _ _ h => (h hself).elim, fun h => (h rfl).elim, fun _ _ _ _ q => q, fun _ _ _ _ q => q, fun _ _ _ _ ⟨g, e, q⟩ => ⟨g, e, boxm_grown q g0 hg⟩, fun _ _ _ _ q => row_grown q g0 hg (by decide), fun _ h => (hn (hcl 8 _ 3 rfl rfl h)).elim, fun _ _ _ _ q => row_grown q g0 hg (by decide), trivial⟩) ho⟩
            · refine stepB rfl rfl (by decide) (by rw [hz]; decide) rfl rfl (by kernel_rfl) St SG fun d a W hF hG hH hn hcl hw => ?_
              have q1 : a.eval (.tmp 10) = u10 := hH.at_ (i := 1) rfl trivial (fun q => hn (hcl 9 _ 4 rfl rfl q))
              refine ⟨u10, W, ?_, Below.refl _ _, ?_⟩
              · clear hF hG hH hn hcl hw
                generalize a.eval = ρ at *
                go_simp
              · rfl
            · refine stepB rfl rfl (by decide) (by rw [hz]; decide) rfl rfl (by kernel_rfl) St SG fun d a W hF hG hH hn hcl hw => ?_
              have q7 := (hF.same 7 (by decide)).trans e7
              have z5 : W.cell? ⟨b7, 0, none⟩ = some (.int .i64 (Tr.total M')) := (hG.2.2.1.cell (p := ⟨b7, 0, none⟩) l7).trans F8.2.1.c0
              have z6 : W.cell? ⟨b7, 1, none⟩ = some (.slice A6 M'.length c6) := (hG.2.2.1.cell (p := ⟨b7, 1, none⟩) l7).trans F8.2.1.c1
              refine ⟨.agg #[.int .i64 (Tr.total M'), .slice A6 M'.length c6], W, ?_, Below.refl _ _, ?_⟩
              · clear hF hG hH hn hcl hw
                generalize a.eval = ρ at *
                go_simp
              · rfl
            · refine stepB rfl rfl (by decide) (by rw [hz]; decide) rfl rfl (by kernel_rfl) St SG fun d a W hF hG hH hn hcl hw => ?_
              have q1 : a.eval (.tmp 71) = .agg #[.int .i64 (Tr.total M'), .slice A6 M'.length c6] := hH.at_ (i := 7) rfl (hw 5 rfl) id
              refine ⟨.slice (some ⟨W.heap.size, 0, none⟩) 1 1, W.alloc (.cells #[.int .i64 (Tr.total M'), .slice A6 M'.length c6] 31), ?_, Below.alloc1 W _, ?_⟩
              · clear hF hG hH hn hcl hw
                generalize a.eval = ρ at *
                go_simp
              · exact ⟨_, rfl, BoxM.new W _ _⟩
            · refine ⟨rfl, fun d d' a W ⟨hF, hG, hH⟩ hn hcl hw hk hu hself => ?_⟩
              have q1 : a.eval (.tmp 70) = u10 := hH.at_ (i := 6) rfl (hw 4 rfl) id
              obtain ⟨g, q2, hb⟩ : ∃ g, a.eval (.tmp 72) = .slice (some ⟨g, 0, none⟩) 1 1 ∧ BoxM W g (Tr.total M') (.slice A6 M'.length c6) := hH.at_ (i := 8) rfl (hw 6 rfl) hn
              obtain ⟨g1, g2, g3, g4⟩ := hG
              have g0 := g2.resolve_left hn
              refine wp_append_m W (.tmp 70) (.tmp 72) rfl u10 H ⟨p6, A6, c6, M'⟩ g q1 g0 q2 hb (by have := HP.out.len; have := HL.out; omega) (Nat.le_trans FZ8 g3.size) fun v' w' ho hg => ?_
              have hbl := below_row g0 hg (Nat.le_trans FZ8 g3.size)
              have hsf := Safe.grown g0 (by decide) (by decide) hg
              refine ⟨hF.put (by decide) _, ⟨g1.imp (hu _) (fun q => row_grown q g0 hg (by decide)), .inl hself, below_via g3 hbl (Nat.le_refl _), g4.trans hsf⟩, hH.put rfl rfl (by kernel_rfl) hcl hn hk hu hself (by rw [hF.size, hz]; decide) (AllC.mem ⟨fun _ _ _ _ q => q, fun _ _ _ _ q => q, fun _ _ _ _ q => q, fun _ _ _ _ q => q, fun _ _ h => (h (hu _ (hw 3 rfl))).elim, fun _ _ _ _ q => row_grown q g0 hg (by decide), fun _ _ _ _ q => q, fun _ _ _ _ q => q, fun _ _ h => (h hself).elim, fun h => (h rfl).elim, fun _ _ _ _ q => row_grown q g0 hg (by decide), fun _ h => (hn (hcl 9 _ 7 rfl rfl h)).elim, trivial⟩) ho⟩
            · refine stepB rfl rfl (by decide) (by rw [hz]; decide) rfl rfl (by kernel_rfl) St SG fun d a W hF hG hH hn hcl hw => ?_
              have q1 : OwnV W base (a.eval (.tmp 69)) (H ++ [⟨p6, A6, c6, M'⟩]) := hH.at_ (i := 5) rfl (hw 3 rfl) id
              refine ⟨a.eval (.tmp 69), W, ?_, Below.refl _ _, q1⟩
              clear hF hG hH hn hcl hw
              generalize a.eval = ρ at *
              go_simp
            · refine stepB rfl rfl (by decide) (by rw [hz]; decide) rfl rfl (by kernel_rfl) St SG fun d a W hF hG hH hn hcl hw => ?_
              have q1 : OwnM W base (a.eval (.tmp 73)) (H ++ [⟨p6, A6, c6, M'⟩]) := hH.at_ (i := 9) rfl (hw 7 rfl) id
              refine ⟨a.eval (.tmp 73), W, ?_, Below.refl _ _, q1⟩
              clear hF hG hH hn hcl hw
              generalize a.eval = ρ at *
              go_simp
          · intro d a W ⟨hF, hG, hH⟩ hall
            have k9 : OwnV W base (a.eval (.tmp 9)) (H ++ [⟨p6, A6, c6, M'⟩]) := hH.at_ (i := 10) rfl (hall 8 (by decide)) id
            have k10 : OwnM W base (a.eval (.tmp 10)) (H ++ [⟨p6, A6, c6, M'⟩]) := hH.at_ (i := 11) rfl (hall 9 (by decide)) id
            obtain ⟨-, -, hB9, hS9⟩ := hG
            clear hH hall
            rw [hF.shape (by rw [hz]; decide)]
            clear hF
            simp only [List.foldl]
            generalize a.eval (.tmp 9) = vV at *
            generalize a.eval (.tmp 10) = vR at *
            generalize a.eval (.tmp 66) = z66 at *
            generalize a.eval (.tmp 67) = z67 at *
            generalize a.eval (.tmp 68) = z68 at *
            generalize a.eval (.tmp 69) = z69 at *
            generalize a.eval (.tmp 70) = z70 at *
            generalize a.eval (.tmp 71) = z71 at *
            generalize a.eval (.tmp 72) = z72 at *
            generalize a.eval (.tmp 73) = z73 at *
            rw [HA0.out]
            simp only [Act.put, List.setIfInBounds_toArray, List.set_cons_zero, List.set_cons_succ]
            have F9 : Both W b5 b7 (moreL L0 (l.take (j + 1))) p6 A6 c6 := by rw [HMX.out]; exact F8.safe hS9 hB9 l5 l7
            have hI : PI w base b5 b7 m L0 l (H ++ [⟨p6, A6, c6, M'⟩]) (j + 1) p6 A6 c6 vV vR W := ⟨by omega, F9, k9, k10, fun x hx => by
              rcases List.mem_append.1 hx with hx | hx
              · exact (HP.out.hs x hx).safe (FS8.trans hS9)
              · obtain rfl := List.mem_singleton.1 hx
                exact HsOk.safe (h := ⟨p6, A6, c6, M'⟩) ⟨F8.2.2.1, F8.2.2.2.1, F8.2.2.2.2⟩ hS9, by simp [HP.out.len], below_via FB8 hB9 nb, Nat.le_trans FZ8 hS9.1⟩
            clear hz HA0 e5 e7 e9 e10 F8 F9 k9 k10 hB9 hS9 FB8 FV8 FM8 FS8 FZ8 HP SG
            clear a a0
            have hj60 : (j : Int) ≤ 60 := by have := HL.out; omega
            go_wp2_with (fail)
            go_roundw
            case rel => exact ⟨j + 1, _, p6, A6, c6, (by go_num), rfl, hI⟩
            case measure => simp [intOf]; omega
      · obtain rfl : j = m := by have := hP.hj; omega
        obtain ⟨wq, hwq⟩ : ∃ x, x = wr := ⟨wr, rfl⟩
        subst hwq
        have hne : H.length ≠ 0 := by rw [hP.len]; omega
        obtain ⟨gV, cV, rfl, hcV, lV, xV⟩ := hP.rv.at_ hne
        obtain ⟨gR, cR, rfl, hcR, lR, xR⟩ := hP.rm.at_ hne
        have hln : (H.length : Int) ≤ 61 := by have := hP.len; have := HL.out; omega
        have HS := Lib.hid hP.hs
        have hbq := hP.bl
        clear hP hT c8 c10 c11 f8 f10 f11 l8 l10
        go_wp2_with (fail)
        go_loopw [13] (fun i W => ∃ j2 : Nat, j2 ≤ H.length ∧ i = .int .i64 j2 ∧ Below wq.heap.size wq W) (fun i _ => H.length - (intOf i).toNat)
        case atStart => exact ⟨0, Nat.zero_le _, rfl, Below.refl _ _⟩
        case round =>
          obtain ⟨k, hk, rfl, hB2⟩ := hrel
          by_cases hkl : k < H.length
          · have k3 : (k : Int) < (H.length : Int) := by omega
            have z0 := (hB2.cell (p := ⟨gV, k, none⟩) lV).trans (xV k hkl)
            have z1 := (hB2.cell (p := ⟨gR, k * 2, none⟩) lR).trans (xR k hkl).1
            have z2 := (hB2.cell (p := ⟨gR, k * 2 + 1, none⟩) lR).trans (xR k hkl).2
            have ok := (HS.out H[k] (List.getElem_mem hkl))
            generalize H[k] = y at *
            have HSM := Lib.hid (fun W (hW : Below wq.heap.size wq W) => same_any W y.p y.L y.A y.c (ok.1.below hW) (ok.2.1.below hW).1 ok.2.2)
            clear ok xV xR
            go_upto_region 19 with (fail)
            go_region_with ((go_at_call 21; refine (HSM.out _ (Below.next hB2 (Quiet.below ⟨1, rfl⟩ _))).mono ?_; rintro e w9 ⟨rfl, b9'⟩; have b9 : Below wr.heap.size wr w9 := Below.of_drew b9'))
            all_goals
              go_wp2_with (fail)
              exact ⟨⟨k + 1, by omega, by go_num, Below.next hB2 b9⟩, by simp [intOf]; omega⟩
          · obtain rfl : k = H.length := by omega
            go_wp2_with (fail)
            go_at_call 18
            refine (awake_any _).mono ?_
            rintro e wz ⟨rfl, bz⟩
            go_wp2_with (fail)
            go_ret
            exact ⟨rfl, Below.next (Below.next hbq hB2) bz⟩
/-- SpanPlays answers true. -/
theorem spanPlays_any (w : World) (size : Int) (A : Option Addr) (l : List Ac) (c : Nat) (hA : Acts w A l) (hlc : l.length ≤ c) :
    Calls Try.prog 6 #[.int .i64 size, .slice A l.length c] w (FromsPost w) := by
  by_cases h : (l.length : Int) ≤ 60
  · exact plays_few w size A l _ c rfl hA hlc h
  · exact plays_many w size A _ c h
end Go.Proofs.Ytfmplibjhohpgaa
