/- The walk over SpanSides. -/
import Derived.Test.YtfmplibjhohpgaaSpSidesL
import Derived.Test.YtfmplibjhohpgaaSpMerge
import Derived.Test.YtfmplibjhohpgaaSpBuilt
import Derived.Deep.DeepCutAuto
import Derived.Deep.CutRange
namespace Go.Proofs.Ytfmplibjhohpgaa
open Go.RowKit Go.Shelf
attribute [local go_sem] Oper.semAt_some

set_option maxRecDepth 100000 in
set_option maxHeartbeats 400000 in
theorem sides_no (w : World) (size : Int) (A0 A B : Option Addr) (m0 c0 m c n d : Nat) (h : ¬ ((1 ≤ size ∧ size ≤ 1099511627776) ∧ (m0 : Int) ≤ 60)) :
    Calls Try.prog 16 #[.int .i64 size, .slice A0 m0 c0, .slice A m c, .slice B n d] w (FromsPost w) := by
  have H := Lib.hid h
  clear h
  go_enter Try.func16, Try.ntmps16
  go_wp2_with (fail)
  go_at_call 22
  refine (built_no _ size A0 m0 c0 H.out).mono ?_
  rintro e w1 ⟨q, M, rfl, _, b1⟩
  go_upto_region 2 with (fail)
  generalize hb : World.alloc w1 _ = w2
  have dw2 : Below w1.heap.size w1 w2 := hb ▸ Below.alloc1 w1 _
  have y : Boxed w2 w1.heap.size 26 (.pointer q) := hb ▸ Boxed.new w1 _ _
  clear hb
  have B2 := Below.next b1 dw2
  go_wp2_with (fail)
  go_at_call 18
  refine (awake_any _).mono ?_
  rintro e wz ⟨rfl, bz⟩
  go_wp2_with (fail)
  go_ret
  exact ⟨rfl, Below.next B2 bz⟩
set_option maxRecDepth 100000 in
set_option maxHeartbeats 400000 in
theorem sides_few_a (w : World) (size : Int) (A0 A B : Option Addr) (m0 c0 m c n d : Nat) (hm : ¬ (m : Int) ≤ 60) (h : Calls Try.prog 22 #[.int .i64 size, .slice A0 m0 c0] w fun e w' => ∃ q, e = .returned (.tuple #[.agg #[.pointer q], .bool true]) ∧ Below w.heap.size w w') :
    Calls Try.prog 16 #[.int .i64 size, .slice A0 m0 c0, .slice A m c, .slice B n d] w (FromsPost w) := by
  have H := Lib.hid h
  have HL := Lib.hid hm

  clear h hm
  go_enter Try.func16, Try.ntmps16
  go_wp2_with (fail)
  go_at_call 22
  refine H.out.mono ?_
  rintro e w1 ⟨q, rfl, b1⟩
  go_upto_region 2 with (fail)
  generalize hb : World.alloc w1 _ = w2
  have dw2 : Below w1.heap.size w1 w2 := hb ▸ Below.alloc1 w1 _
  have y : Boxed w2 w1.heap.size 26 (.pointer q) := hb ▸ Boxed.new w1 _ _
  clear hb
  have B2 := Below.next b1 dw2
  go_wp2_with (fail)
  go_at_call 29
  refine (lfew_no _ A m c (by have := HL.out; omega)).mono ?_
  rintro e w' ⟨rfl, rfl⟩
  go_wp2_with (fail)
  go_at_call 18
  refine (awake_any _).mono ?_
  rintro e wz ⟨rfl, bz⟩
  go_wp2_with (fail)
  go_ret
  exact ⟨rfl, Below.next B2 bz⟩
set_option maxRecDepth 100000 in
set_option maxHeartbeats 400000 in
theorem sides_few_b (w : World) (size : Int) (A0 A B : Option Addr) (m0 c0 m c n d : Nat) (hm0 : (m : Int) ≤ 60) (hm : ¬ (n : Int) ≤ 60) (h : Calls Try.prog 22 #[.int .i64 size, .slice A0 m0 c0] w fun e w' => ∃ q, e = .returned (.tuple #[.agg #[.pointer q], .bool true]) ∧ Below w.heap.size w w') :
    Calls Try.prog 16 #[.int .i64 size, .slice A0 m0 c0, .slice A m c, .slice B n d] w (FromsPost w) := by
  have H := Lib.hid h
  have HL := Lib.hid hm
  have HL0 := Lib.hid hm0
  clear h hm hm0
  go_enter Try.func16, Try.ntmps16
  go_wp2_with (fail)
  go_at_call 22
  refine H.out.mono ?_
  rintro e w1 ⟨q, rfl, b1⟩
  go_upto_region 2 with (fail)
  generalize hb : World.alloc w1 _ = w2
  have dw2 : Below w1.heap.size w1 w2 := hb ▸ Below.alloc1 w1 _
  have y : Boxed w2 w1.heap.size 26 (.pointer q) := hb ▸ Boxed.new w1 _ _
  clear hb
  have B2 := Below.next b1 dw2
  go_wp2_with (fail)
  go_at_call 29
  refine (lfew_yes _ A m c (by have := HL0.out; omega)).mono ?_
  rintro e w' ⟨rfl, rfl⟩
  go_wp2_with (fail)
  go_at_call 29
  refine (lfew_no _ B n d (by have := HL.out; omega)).mono ?_
  rintro e w' ⟨rfl, rfl⟩
  go_wp2_with (fail)
  go_at_call 18
  refine (awake_any _).mono ?_
  rintro e wz ⟨rfl, bz⟩
  go_wp2_with (fail)
  go_ret
  exact ⟨rfl, Below.next B2 bz⟩
/-- The boxes of three maps. -/
structure Trio (W : World) (i j k : Nat) (o p q : Option Addr) : Prop where
  x : Boxed W i 26 (.pointer o)
  y : Boxed W j 26 (.pointer p)
  z : Boxed W k 26 (.pointer q)
theorem Trio.next {W W' : World} {i j k : Nat} {o p q : Option Addr} (h : Trio W i j k o p q) (hB : Below W.heap.size W W') : Trio W' i j k o p q := ⟨bx_next h.x hB, bx_next h.y hB, bx_next h.z hB⟩
/-- The three boxes and their maps, wherever two of the boxes have been made. -/
def TF (w : World) (b9 : Nat) (o p q : Option Addr) (O M N : List (Int × Int)) (i j : Nat) (W : World) : Prop := Trio W b9 i j o p q ∧ Rep W o O ∧ Rep W p M ∧ Rep W q N ∧ Below w.heap.size w W
section
variable {w w4 : World} {b9 : Nat} {o p q : Option Addr} {O M N : List (Int × Int)} (y : Boxed w4 b9 26 (.pointer o)) (ho : Rep w4 o O) (hp : Rep w4 p M) (hq : Rep w4 q N) (B : Below w.heap.size w w4)
include y ho hp hq B
theorem tf1 : TF w b9 o p q O M N w4.heap.size (w4.heap.size + 1) ((w4.alloc (.cells #[.pointer p] 26)).alloc (.cells #[.pointer q] 26)) := by
  have d := Below.alloc2 w4 (.cells #[.pointer p] 26) (.cells #[.pointer q] 26)
  have t := Boxed.new (w4.alloc (.cells #[.pointer p] 26)) 26 (.pointer q)
  rw [World.size_alloc] at t
  exact ⟨⟨(y.alloc _).alloc _, (Boxed.new w4 _ _).alloc _, t⟩, ho.below d, hp.below d, hq.below d, Below.next B d⟩
theorem tf2 : TF w b9 o p q O M N (w4.heap.size + 1) w4.heap.size ((w4.alloc (.cells #[.pointer q] 26)).alloc (.cells #[.pointer p] 26)) := by
  have d := Below.alloc2 w4 (.cells #[.pointer q] 26) (.cells #[.pointer p] 26)
  have t := Boxed.new (w4.alloc (.cells #[.pointer q] 26)) 26 (.pointer p)
  rw [World.size_alloc] at t
  exact ⟨⟨(y.alloc _).alloc _, t, (Boxed.new w4 _ _).alloc _⟩, ho.below d, hp.below d, hq.below d, Below.next B d⟩
theorem tf3 {i : Nat} {v : Value} (bi : Boxed w4 i 26 v) (n1 : ¬ b9 = i) (n2 : w.heap.size ≤ i) : TF w b9 o p q O M N i w4.heap.size ((w4.setCell ⟨i, 0, none⟩ (.pointer p)).alloc (.cells #[.pointer q] 26)) := by
  have z : (w4.setCell ⟨i, 0, none⟩ (.pointer p)).heap.size = w4.heap.size := by simp [World.setCell]
  have d := Below.alloc1 (w4.setCell ⟨i, 0, none⟩ (.pointer p)) (.cells #[.pointer q] 26)
  have t := Boxed.new (w4.setCell ⟨i, 0, none⟩ (.pointer p)) 26 (.pointer q)
  rw [z] at t
  have oi : Other w4 i := ⟨_, _, _, bi, by decide⟩
  exact ⟨⟨(boxed_far y n1).alloc _, (bi.set _).alloc _, t⟩, (ho.set_ oi _ _ _).below d, (hp.set_ oi _ _ _).below d, (hq.set_ oi _ _ _).below d, Below.next (B.setCell (p := ⟨i, 0, none⟩) n2 _) d⟩
theorem tf4 {j : Nat} {v : Value} (bj : Boxed w4 j 26 v) (n1 : ¬ b9 = j) (n2 : w.heap.size ≤ j) : TF w b9 o p q O M N w4.heap.size j ((w4.setCell ⟨j, 0, none⟩ (.pointer q)).alloc (.cells #[.pointer p] 26)) := by
  have z : (w4.setCell ⟨j, 0, none⟩ (.pointer q)).heap.size = w4.heap.size := by simp [World.setCell]
  have d := Below.alloc1 (w4.setCell ⟨j, 0, none⟩ (.pointer q)) (.cells #[.pointer p] 26)
  have t := Boxed.new (w4.setCell ⟨j, 0, none⟩ (.pointer q)) 26 (.pointer p)
  rw [z] at t
  have oj : Other w4 j := ⟨_, _, _, bj, by decide⟩
  exact ⟨⟨(boxed_far y n1).alloc _, t, (bj.set _).alloc _⟩, (ho.set_ oj _ _ _).below d, (hp.set_ oj _ _ _).below d, (hq.set_ oj _ _ _).below d, Below.next (B.setCell (p := ⟨j, 0, none⟩) n2 _) d⟩
theorem tf5 {i j : Nat} {u v : Value} (bi : Boxed w4 i 26 u) (bj : Boxed w4 j 26 v) (n0 : ¬ i = j) (n1 : ¬ b9 = i) (n2 : ¬ b9 = j) (n3 : w.heap.size ≤ i) (n4 : w.heap.size ≤ j) : TF w b9 o p q O M N i j ((w4.setCell ⟨i, 0, none⟩ (.pointer p)).setCell ⟨j, 0, none⟩ (.pointer q)) := by
  have oi : Other w4 i := ⟨_, _, _, bi, by decide⟩
  have bj' : Boxed (w4.setCell ⟨i, 0, none⟩ (.pointer p)) j 26 v := boxed_far bj (fun e => n0 e.symm)
  have oj : Other (w4.setCell ⟨i, 0, none⟩ (.pointer p)) j := ⟨_, _, _, bj', by decide⟩
  exact ⟨⟨boxed_far (boxed_far y n1) n2, boxed_far (bi.set _) n0, bj'.set _⟩, (ho.set_ oi _ _ _).set_ oj _ _ _, (hp.set_ oi _ _ _).set_ oj _ _ _, (hq.set_ oi _ _ _).set_ oj _ _ _, (B.setCell (p := ⟨i, 0, none⟩) n3 _).setCell (p := ⟨j, 0, none⟩) n4 _⟩
end
set_option maxRecDepth 100000 in
set_option maxHeartbeats 4000000 in
theorem sides_main (w : World) (size : Int) (A0 A B : Option Addr) (m0 c0 m c n d : Nat) (l0 l k : List Ac) (hm0 : l0.length = m0) (hm : l.length = m) (hn : k.length = n) (hA0 : Acts w A0 l0) (hA : Acts w A l) (hB : Acts w B k) (hc0 : m0 ≤ c0) (hmc : m ≤ c) (hnd : n ≤ d) (h1 : 1 ≤ size) (h2 : size ≤ 1099511627776) (hl0 : (m0 : Int) ≤ 60) (hl : (m : Int) ≤ 60) (hk : (n : Int) ≤ 60) :
    Calls Try.prog 16 #[.int .i64 size, .slice A0 m0 c0, .slice A m c, .slice B n d] w (FromsPost w) := by
  obtain ⟨gO, tO⟩ := bltL_facts h1 h2 l0
  have g0 : Good [(size, 0)] := ⟨by simp, Tr.OkL.cons.2 ⟨⟨h1, by simp, by simp⟩, by simp [Tr.OkL]⟩, ⟨by simp, trivial⟩, by simp [Tr.total_cons, Tr.total_nil]; omega, by simp⟩
  have lO := moreL_length l0 g0
  have hpl : Calls Try.prog 22 #[.int .i64 size, .slice A0 m0 c0] w fun e w' => ∃ q, e = .returned (.tuple #[.agg #[.pointer q], .bool true]) ∧ Rep w' q (moreL [(size, 0)] l0) ∧ Below w.heap.size w w' := by
    have := built_yes w size A0 l0 c0 h1 h2 hA0 (by omega) (by omega)
    rwa [hm0] at this
  simp only [List.length_cons, List.length_nil] at lO
  generalize moreL [(size, 0)] l0 = O at *
  obtain ⟨gM, tM⟩ := moreL_facts l gO
  obtain ⟨gN, tN⟩ := moreL_facts k gO
  have lM := moreL_length l gO
  have lN := moreL_length k gO
  have hma : ∀ W p, Below w.heap.size w W → Rep W p O → Calls Try.prog 50 #[.agg #[.pointer p], .slice A m c] W fun e w' => ∃ q, e = .returned (.agg #[.pointer q]) ∧ Rep w' q (moreL O l) ∧ Below W.heap.size W w' := fun W p hW hp => by
    have := more_any W p O A l c hp (hA.below hW) (by omega) (by omega)
    rwa [hm] at this
  have hmb : ∀ W p, Below w.heap.size w W → Rep W p O → Calls Try.prog 50 #[.agg #[.pointer p], .slice B n d] W fun e w' => ∃ q, e = .returned (.agg #[.pointer q]) ∧ Rep w' q (moreL O k) ∧ Below W.heap.size W w' := fun W p hW hp => by
    have := more_any W p O B k d hp (hB.below hW) (by omega) (by omega)
    rwa [hn] at this
  generalize moreL O l = M at *
  generalize moreL O k = N at *
  have hlen : O.length + M.length + N.length ≤ 4096 := by omega
  have r1 := merge_base gO gM tM
  have r2 := merge_few gO gM gN tM tN hlen
  have r3 := merge_back gO gM gN tM tN hlen
  have gR : Good (segs (mergeL O (zipL M N)).1) := by
    have a := merge_count gO.2.1 gM.2.1 gN.2.1 tM tN (zipL M N) 0 ([], []) (Int.le_refl _) (zipL_ok gM.2.1 gN.2.1 tM tN)
    have b := clipL_length 0 (Tr.total O) 0 O
    have c : (zipL M N).length ≤ M.length + N.length := zipN_length _ _ _ _
    refine (mergeL_good gO gM gN tM tN ?_).1
    unfold mergeL
    simp only [List.length_nil] at a
    omega
  have dl : (mergeL O (zipL M N)).2.length ≤ 20000 := (mergeL_count (Z2 := []) gO.2.1 gM.2.1 gN.2.1 tM tN gO.2.2.2.2 gM.2.2.2.2 gN.2.2.2.2 (by rw [List.append_nil])).2
  rw [r2] at r3
  dsimp only at r3
  generalize segs (mergeL O (zipL M N)).1 = R at *
  generalize (mergeL O (zipL M N)).2 = D at *
  obtain ⟨nd, hnd'⟩ : ∃ nd, D.length = nd := ⟨_, rfl⟩
  rw [hnd'] at dl
  have dl2 : (nd : Int) ≤ 20000 := by omega
  have heq : ∀ (W : World) (a b : Option Addr) (X : List (Int × Int)), Rep W a X → Rep W b X → Good X → Calls Try.prog 36 #[.agg #[.pointer a], .agg #[.pointer b]] W fun e w' => e = .returned (.bool true) ∧ Below W.heap.size W w' := by
    intro W a b X h1 h2 h3
    have := equal_any W a b X X h1 h2 (.inr h3) (.inr h3)
    rw [decide_eq_true rfl] at this; exact this
  have HEQ := Lib.hid heq
  have HPL := Lib.hid hpl
  have HMA := Lib.hid hma
  have HMB := Lib.hid hmb
  have GO := Lib.hid gO
  have GM := Lib.hid gM
  have GN := Lib.hid gN
  have GR := Lib.hid gR
  have R1 := Lib.hid r1
  have R2 := Lib.hid r2
  have R3 := Lib.hid r3
  have HND := Lib.hid hnd'
  have L0 := Lib.hid hl
  have L1 := Lib.hid hk
  clear heq hpl hma hmb gO gM gN gR tM tN tO g0 lO lM lN hlen r1 r2 r3 hnd' hA0 hA hB hm0 hm hn dl hl hk
  go_enter Try.func16, Try.ntmps16
  go_wp2_with (fail)
  go_at_call 22
  refine HPL.out.mono ?_
  rintro e w1 ⟨o, rfl, ho, b1⟩
  go_upto_region 2 with (fail)
  generalize hb : World.alloc w1 _ = w2
  have dw2 : Below w1.heap.size w1 w2 := hb ▸ Below.alloc1 w1 _
  have x2 : Boxed w2 w1.heap.size 26 (.pointer o) := hb ▸ Boxed.new w1 _ _
  clear hb
  have B2 := Below.next b1 dw2
  have ho2 := ho.below dw2
  clear b1 ho dw2
  go_wp2_with (fail)
  go_at_call 29
  refine (lfew_yes _ A m c (by have := L0.out; omega)).mono ?_
  rintro e w' ⟨rfl, rfl⟩
  go_wp2_with (fail)
  go_at_call 29
  refine (lfew_yes _ B n d (by have := L1.out; omega)).mono ?_
  rintro e w' ⟨rfl, rfl⟩
  have c9 := x2.cell
  go_upto_region 4 with (fail)
  go_cut [11, 12] from 42 to 47 (fun u v W => ∃ i j p q, u = .pointer (some ⟨i, 0, none⟩) ∧ v = .pointer (some ⟨j, 0, none⟩) ∧ TF w w1.heap.size o p q O M N i j W)
  case first =>
    have tk1 : True := trivial
    have x2l := x2.lt
    have zz := B2.size
    have s0 := B2.drew
    have s1 := (Below.next B2 (Below.alloc1 w2 (.cells #[.pointer none] 26))).drew
    have s2 := (Below.next B2 (Below.alloc2 w2 (.cells #[.pointer none] 26) (.cells #[.pointer none] 26))).drew
    have r0 : Rep w2.drew o O := ho2.below (Quiet.below ⟨1, rfl⟩ _)
    have r1 : Rep (w2.alloc (.cells #[.pointer none] 26)).drew o O := (ho2.below (Below.alloc1 w2 (.cells #[.pointer none] 26))).below (Quiet.below ⟨1, rfl⟩ _)
    have r2 : Rep ((w2.alloc (.cells #[.pointer none] 26)).alloc (.cells #[.pointer none] 26)).drew o O := (ho2.below (Below.alloc2 w2 (.cells #[.pointer none] 26) (.cells #[.pointer none] 26))).below (Quiet.below ⟨1, rfl⟩ _)
    have n2p : Boxed ((w2.alloc (.cells #[.pointer none] 26)).alloc (.cells #[.pointer none] 26)) (w2.heap.size + 1) 26 (.pointer none) := by
      have t := Boxed.new (w2.alloc (.cells #[.pointer none] 26)) 26 (.pointer none)
      rw [World.size_alloc] at t; exact t
    have k2p : ∀ w3 : World, Boxed ((w3.alloc (.cells #[.pointer none] 26)).alloc (.cells #[.pointer none] 26)) (w3.heap.size + 1) 26 (.pointer none) := fun w3 => by
      have t := Boxed.new (w3.alloc (.cells #[.pointer none] 26)) 26 (.pointer none)
      rw [World.size_alloc] at t; exact t
    have S0 := Lib.hid s0
    have S1 := Lib.hid s1
    have S2 := Lib.hid s2
    have R0 := Lib.hid r0
    have R1x := Lib.hid r1
    have R2x := Lib.hid r2
    have N2P := Lib.hid n2p
    have K2P := Lib.hid k2p
    clear s0 s1 s2 r0 r1 r2 n2p k2p
    go_region_held3 (fun W => W.cell? ⟨w1.heap.size, 0, none⟩ = some (.pointer o))
      (first | (exact x2.cell) | (exact (x2.alloc _).cell) | (exact ((x2.alloc _).alloc _).cell) | (exact y9.cell) | (exact (y9.alloc _).cell) | (exact ((y9.alloc _).alloc _).cell) | (exact y9p.cell) | (exact (y9p.alloc _).cell) | (exact ((y9p.alloc _).alloc _).cell) | (exact (boxed_far y9p (by omega)).cell) | (exact ((boxed_far y9p (by omega)).alloc _).cell) | (exact (((boxed_far y9p (by omega)).alloc _).alloc _).cell) | (exact (boxed_far (boxed_far y9p (by omega)) (by omega)).cell) | (exact ((boxed_far (boxed_far y9p (by omega)) (by omega)).alloc _).cell) | (exact (((boxed_far (boxed_far y9p (by omega)) (by omega)).alloc _).alloc _).cell))
      ((first
      | (go_at_call 50; have _t := tk1; (with_reducible refine (HMA.out _ o S0.out R0.out).mono ?_); clear tk1; rintro e w3 ⟨p, rfl, hp, b3q⟩; have b3 : Below w2.heap.size w2 w3 := Below.of_drew b3q; have y9 := bx_next x2 b3; have B3 := Below.next B2 b3; have ho3 := ho2.below b3; have c9p := y9.cell; have z3s := B3.size; have y9l := y9.lt; have s1p := Below.next B3 (Below.alloc1 w3 (.cells #[.pointer none] 26)); have s2p := Below.next B3 (Below.alloc2 w3 (.cells #[.pointer none] 26) (.cells #[.pointer none] 26)); have r1p := ho3.below (Below.alloc1 w3 (.cells #[.pointer none] 26)); have r2p := ho3.below (Below.alloc2 w3 (.cells #[.pointer none] 26) (.cells #[.pointer none] 26)))
      | (go_at_call 50; have _t := tk1; (with_reducible refine (HMA.out _ o S1.out R1x.out).mono ?_); clear tk1; rintro e w3 ⟨p, rfl, hp, b3q⟩; have b3a : Below (w2.alloc (.cells #[.pointer none] 26)).heap.size (w2.alloc (.cells #[.pointer none] 26)) w3 := Below.of_drew b3q; have b3 : Below w2.heap.size w2 w3 := Below.next (Below.alloc1 w2 (.cells #[.pointer none] 26)) b3a; have n1 := bx_next (Boxed.new w2 26 (.pointer none)) b3a; have n1c := n1.cell; have n1f := n1.frozen; have n1l := n1.lt; have y9 := bx_next x2 b3; have B3 := Below.next B2 b3; have ho3 := ho2.below b3; have c9p := y9.cell; have z3s := B3.size; have y9l := y9.lt; have s1p := Below.next B3 (Below.alloc1 w3 (.cells #[.pointer none] 26)); have s2p := Below.next B3 (Below.alloc2 w3 (.cells #[.pointer none] 26) (.cells #[.pointer none] 26)); have r1p := ho3.below (Below.alloc1 w3 (.cells #[.pointer none] 26)); have r2p := ho3.below (Below.alloc2 w3 (.cells #[.pointer none] 26) (.cells #[.pointer none] 26)))
      | (go_at_call 50; have _t := tk1; (with_reducible refine (HMA.out _ o S2.out R2x.out).mono ?_); clear tk1; rintro e w3 ⟨p, rfl, hp, b3q⟩; have b3a : Below ((w2.alloc (.cells #[.pointer none] 26)).alloc (.cells #[.pointer none] 26)).heap.size ((w2.alloc (.cells #[.pointer none] 26)).alloc (.cells #[.pointer none] 26)) w3 := Below.of_drew b3q; have b3 : Below w2.heap.size w2 w3 := Below.next (Below.alloc2 w2 (.cells #[.pointer none] 26) (.cells #[.pointer none] 26)) b3a; have n1 := bx_next ((Boxed.new w2 26 (.pointer none)).alloc _) b3a; have n1c := n1.cell; have n1f := n1.frozen; have n1l := n1.lt; have n2 := bx_next N2P.out b3a; have n2c := n2.cell; have n2f := n2.frozen; have n2l := n2.lt; have y9 := bx_next x2 b3; have B3 := Below.next B2 b3; have ho3 := ho2.below b3; have c9p := y9.cell; have z3s := B3.size; have y9l := y9.lt; have s1p := Below.next B3 (Below.alloc1 w3 (.cells #[.pointer none] 26)); have s2p := Below.next B3 (Below.alloc2 w3 (.cells #[.pointer none] 26) (.cells #[.pointer none] 26)); have r1p := ho3.below (Below.alloc1 w3 (.cells #[.pointer none] 26)); have r2p := ho3.below (Below.alloc2 w3 (.cells #[.pointer none] 26) (.cells #[.pointer none] 26)))
      | (go_at_call 50; (with_reducible refine (HMB.out _ o B3 ho3).mono ?_); rintro e w4 ⟨q, rfl, hq, b34⟩; have y9p := bx_next y9 b34; have c9q := y9p.cell; have y9m := y9p.lt; have B4 := Below.next B3 b34; have ho4 := ho3.below b34; have hp4 := hp.below b34; (try (have m1 := bx_next n1 b34; have m1c := m1.cell; have m1f := m1.frozen; have m1l := m1.lt)); (try (have m2 := bx_next n2 b34; have m2c := m2.cell; have m2f := m2.frozen; have m2l := m2.lt)))
      | (go_at_call 50; (with_reducible refine (HMB.out _ o s1p r1p).mono ?_); rintro e w4 ⟨q, rfl, hq, b4a⟩; have b34 : Below w3.heap.size w3 w4 := Below.next (Below.alloc1 w3 (.cells #[.pointer none] 26)) b4a; have k1 := bx_next (Boxed.new w3 26 (.pointer none)) b4a; have k1c := k1.cell; have k1f := k1.frozen; have k1l := k1.lt; have y9p := bx_next y9 b34; have c9q := y9p.cell; have y9m := y9p.lt; have B4 := Below.next B3 b34; have ho4 := ho3.below b34; have hp4 := hp.below b34; (try (have m1 := bx_next n1 b34; have m1c := m1.cell; have m1f := m1.frozen; have m1l := m1.lt)); (try (have m2 := bx_next n2 b34; have m2c := m2.cell; have m2f := m2.frozen; have m2l := m2.lt)))
      | (go_at_call 50; (with_reducible refine (HMB.out _ o s2p r2p).mono ?_); rintro e w4 ⟨q, rfl, hq, b4a⟩; have b34 : Below w3.heap.size w3 w4 := Below.next (Below.alloc2 w3 (.cells #[.pointer none] 26) (.cells #[.pointer none] 26)) b4a; have k1 := bx_next ((Boxed.new w3 26 (.pointer none)).alloc _) b4a; have k1c := k1.cell; have k1f := k1.frozen; have k1l := k1.lt; have k2 := bx_next (K2P.out w3) b4a; have k2c := k2.cell; have k2f := k2.frozen; have k2l := k2.lt; have y9p := bx_next y9 b34; have c9q := y9p.cell; have y9m := y9p.lt; have B4 := Below.next B3 b34; have ho4 := ho3.below b34; have hp4 := hp.below b34; (try (have m1 := bx_next n1 b34; have m1c := m1.cell; have m1f := m1.frozen; have m1l := m1.lt)); (try (have m2 := bx_next n2 b34; have m2c := m2.cell; have m2f := m2.frozen; have m2l := m2.lt)))))
    all_goals
      go_wp2_with (fail)
      go_meet
      first
        | ((with_reducible refine ⟨_, _, p, q, rfl, rfl, ?_⟩); (with_reducible refine tf1 y9p ho4 hp4 hq B4) <;> omega)
        | ((with_reducible refine ⟨_, _, p, q, rfl, rfl, ?_⟩); (with_reducible refine tf2 y9p ho4 hp4 hq B4) <;> omega)
        | ((with_reducible refine ⟨_, _, p, q, rfl, rfl, ?_⟩); (with_reducible refine tf3 y9p ho4 hp4 hq B4 m1 ?_ ?_) <;> omega)
        | ((with_reducible refine ⟨_, _, p, q, rfl, rfl, ?_⟩); (with_reducible refine tf4 y9p ho4 hp4 hq B4 m1 ?_ ?_) <;> omega)
        | ((with_reducible refine ⟨_, _, p, q, rfl, rfl, ?_⟩); (with_reducible refine tf3 y9p ho4 hp4 hq B4 k1 ?_ ?_) <;> omega)
        | ((with_reducible refine ⟨_, _, p, q, rfl, rfl, ?_⟩); (with_reducible refine tf4 y9p ho4 hp4 hq B4 k1 ?_ ?_) <;> omega)
        | ((with_reducible refine ⟨_, _, p, q, rfl, rfl, ?_⟩); (with_reducible refine tf5 y9p ho4 hp4 hq B4 m1 m2 ?_ ?_ ?_ ?_ ?_) <;> omega)
        | ((with_reducible refine ⟨_, _, p, q, rfl, rfl, ?_⟩); (with_reducible refine tf5 y9p ho4 hp4 hq B4 m2 m1 ?_ ?_ ?_ ?_ ?_) <;> omega)
        | ((with_reducible refine ⟨_, _, p, q, rfl, rfl, ?_⟩); (with_reducible refine tf5 y9p ho4 hp4 hq B4 k1 k2 ?_ ?_ ?_ ?_ ?_) <;> omega)
        | ((with_reducible refine ⟨_, _, p, q, rfl, rfl, ?_⟩); (with_reducible refine tf5 y9p ho4 hp4 hq B4 k2 k1 ?_ ?_ ?_ ?_ ?_) <;> omega)
        | ((with_reducible refine ⟨_, _, p, q, rfl, rfl, ?_⟩); (with_reducible refine tf5 y9p ho4 hp4 hq B4 m1 k1 ?_ ?_ ?_ ?_ ?_) <;> omega)
        | ((with_reducible refine ⟨_, _, p, q, rfl, rfl, ?_⟩); (with_reducible refine tf5 y9p ho4 hp4 hq B4 k1 m1 ?_ ?_ ?_ ?_ ?_) <;> omega)
  case rest =>
    obtain ⟨i, j, p, q, rfl, rfl, T4, hO4, hp4, hq4, B4⟩ := hcut
    clear c9 x2 B2 ho2
    have hmg := merge_any wc o p o O M O hO4 hp4 hO4 (.inr GO.out) (.inr GM.out) (.inr GO.out)
    unfold MergePost at hmg
    rw [R1.out] at hmg
    have HMG := Lib.hid hmg
    clear hmg
    have c9 := T4.x.cell
    have c11 := T4.y.cell
    have c12 := T4.z.cell
    go_wp2_with (fail)
    go_at_call 44
    refine HMG.out.mono ?_
    rintro e w5 ⟨p5, v5, rfl, hr5, ho5, b5⟩
    obtain ⟨I5, k5, rfl⟩ := ho5.sliced
    clear HMG ho5 c9 c11 c12
    go_upto_region 6 with (fail)
    generalize hb : World.alloc w5 _ = w6
    have dw6 : Below w5.heap.size w5 w6 := hb ▸ Below.alloc1 w5 _
    have y6 : Boxed w6 w5.heap.size 26 (.pointer p5) := hb ▸ Boxed.new w5 _ _
    clear hb
    have b56 := Below.next b5 dw6
    have T6 := T4.next b56
    have B6 := Below.next B4 b56
    have hO6 := hO4.below b56
    have hp6 := hp4.below b56
    have hq6 := hq4.below b56
    have hr6 := hr5.below dw6
    have hmg := merge_any w6 o p q O M N hO6 hp6 hq6 (.inr GO.out) (.inr GM.out) (.inr GN.out)
    unfold MergePost at hmg
    rw [R2.out] at hmg
    have HMG := Lib.hid hmg
    clear hmg T4 B4 hO4 hp4 hq4 hr5 b5 b56 dw6
    have c9 := T6.x.cell
    have c11 := T6.y.cell
    have c12 := T6.z.cell
    go_wp2_with (fail)
    go_at_call 44
    refine HMG.out.mono ?_
    rintro e w7 ⟨p7, v7, rfl, hr7, ho7, b7⟩
    obtain ⟨I, cI, rfl, hcI, hI⟩ := ho7.chs
    clear HMG ho7 c9 c11 c12
    go_upto_region 7 with (fail)
    generalize hb : World.alloc w7 _ = w8
    have dw8 : Below w7.heap.size w7 w8 := hb ▸ Below.alloc1 w7 _
    have y8 : Boxed w8 w7.heap.size 26 (.pointer p7) := hb ▸ Boxed.new w7 _ _
    clear hb
    have b78 := Below.next b7 dw8
    have T8 := T6.next b78
    have x8 := bx_next y6 b78
    have B8 := Below.next B6 b78
    have hO8 := hO6.below b78
    have hp8 := hp6.below b78
    have hq8 := hq6.below b78
    have hr8 := hr6.below b78
    have hs8 := hr7.below dw8
    have hI8 := hI.below dw8
    have hmg := merge_any w8 o q p O N M hO8 hq8 hp8 (.inr GO.out) (.inr GN.out) (.inr GM.out)
    unfold MergePost at hmg
    rw [R3.out] at hmg
    have HMG := Lib.hid hmg
    try dsimp only at hcI hI8
    rw [HND.out] at hcI
    try dsimp only
    rw [HND.out]
    clear hmg T6 B6 y6 hO6 hp6 hq6 hr6 hr7 hI b7 b78 dw8
    have c9 := T8.x.cell
    have c11 := T8.y.cell
    have c12 := T8.z.cell
    go_wp2_with (fail)
    go_at_call 44
    refine HMG.out.mono ?_
    rintro e w9 ⟨p9, v9, rfl, hr9, ho9, b9⟩
    obtain ⟨J, cJ, rfl, hcJ, hJ⟩ := ho9.chs
    try dsimp only at hcJ hJ
    rw [List.length_map, HND.out] at hcJ
    clear HMG ho9 c9 c11 c12
    try dsimp only
    rw [List.length_map, HND.out]
    go_upto_region 8 with (fail)
    generalize hb : World.alloc w9 _ = wA
    have dwA : Below w9.heap.size w9 wA := hb ▸ Below.alloc1 w9 _
    have yA : Boxed wA w9.heap.size 26 (.pointer p9) := hb ▸ Boxed.new w9 _ _
    clear hb
    have b9A := Below.next b9 dwA
    have TA := T8.next b9A
    have xA := bx_next x8 b9A
    have zA := bx_next y8 b9A
    have BA := Below.next B8 b9A
    have hpA := hp8.below b9A
    have hrA := hr8.below b9A
    have hsA := hs8.below b9A
    have htA := hr9.below dwA
    have hIA := hI8.below b9A
    have hJA := hJ.below dwA
    try dsimp only at hsA htA hrA
    clear T8 x8 y8 B8 hO8 hp8 hq8 hr8 hs8 hI8 hJ hr9 b9 b9A dwA
    have c11 := TA.y.cell
    have c13 := xA.cell
    have c16 := zA.cell
    have c19 := yA.cell
    go_wp2_with (fail)
    go_at_call 36
    refine (HEQ.out wA p5 p M hrA hpA GM.out).mono ?_
    rintro e wB ⟨rfl, bB⟩
    have zB := bx_next zA bB
    have yB := bx_next yA bB
    have BB := Below.next BA bB
    have hsB := hsA.below bB
    have htB := htA.below bB
    have hIB := hIA.below bB
    have hJB := hJA.below bB
    clear TA xA zA yA BA hpA hrA hsA htA hIA hJA bB c11 c13 c16 c19
    have c16 := zB.cell
    have c19 := yB.cell
    go_wp2_with (fail)
    go_at_call 36
    refine (HEQ.out wB p7 p9 R hsB htB GR.out).mono ?_
    rintro e wC ⟨rfl, bC⟩
    have BC := Below.next BB bC
    have hIC := Lib.hid (hIB.below bC)
    have hJC := Lib.hid (hJB.below bC)
    clear zB yB BB hsB htB hIB hJB bC c16 c19
    go_wp2_with (fail)
    go_loopw [22] (fun i W => ∃ j : Nat, j ≤ nd ∧ i = .int .i64 j ∧ Quiet wC W) (fun i _ => nd - (intOf i).toNat)
    case atStart => exact ⟨0, Nat.zero_le _, rfl, Quiet.refl _⟩
    case round =>
      obtain ⟨jj, hj, rfl, qq, rfl⟩ := hrel
      by_cases hlt : jj < nd
      · have hj1 : jj < D.length := by have := HND.out; omega
        have hj2 : jj < (D.map swCh).length := by rw [List.length_map]; exact hj1
        obtain ⟨a, rfl⟩ := hIC.out.some_ hj1
        obtain ⟨b, rfl⟩ := hJC.out.some_ hj2
        obtain ⟨_, f0, f1, f2, f3⟩ := hIC.out.at_ hj1
        obtain ⟨_, g0, g1, g2, g3⟩ := hJC.out.at_ hj2
        rw [List.getElem_map] at g0 g1 g2 g3
        generalize D[jj] = X at *
        dsimp only [swCh] at g0 g1 g2 g3
        have k0 : (0 : Int) ≤ (jj : Int) := by omega
        have k1 : (jj : Int) < (nd : Int) := by omega
        go_wp2_with (fail)
        go_quiet (fail)
        go_wp2_with (fail)
        go_roundw
        case rel => exact ⟨jj + 1, by omega, by go_num, _, rfl⟩
        case measure => simp [intOf]; omega
      · obtain rfl : jj = nd := by omega
        have dq : Below wC.heap.size wC (wC.drewN qq) := Quiet.below ⟨_, rfl⟩ _
        have BD := Below.next BC dq
        go_wp2_with (fail)
        go_at_call 18
        refine (awake_any _).mono ?_
        rintro e wz ⟨rfl, bz⟩
        go_wp2_with (fail)
        go_ret
        exact ⟨rfl, Below.next BD bz⟩
/-- SpanSides answers true. -/
theorem spanSides_any (w : World) (size : Int) (A0 A B : Option Addr) (l0 l k : List Ac) (c0 c d : Nat) (hA0 : Acts w A0 l0) (hA : Acts w A l) (hB : Acts w B k) (hc0 : l0.length ≤ c0) (hmc : l.length ≤ c) (hnd : k.length ≤ d) :
    Calls Try.prog 16 #[.int .i64 size, .slice A0 l0.length c0, .slice A l.length c, .slice B k.length d] w (FromsPost w) := by
  by_cases h : (1 ≤ size ∧ size ≤ 1099511627776) ∧ (l0.length : Int) ≤ 60
  · have hb : Calls Try.prog 22 #[.int .i64 size, .slice A0 l0.length c0] w fun e w' => ∃ q, e = .returned (.tuple #[.agg #[.pointer q], .bool true]) ∧ Below w.heap.size w w' :=
      (built_yes w size A0 l0 c0 h.1.1 h.1.2 hA0 hc0 h.2).mono fun e w' ⟨q, h1, _, h3⟩ => ⟨q, h1, h3⟩
    by_cases h1 : (l.length : Int) ≤ 60
    · by_cases h2 : (k.length : Int) ≤ 60
      · exact sides_main w size A0 A B _ c0 _ c _ d l0 l k rfl rfl rfl hA0 hA hB hc0 hmc hnd h.1.1 h.1.2 h.2 h1 h2
      · exact sides_few_b w size A0 A B _ c0 _ c _ d h1 h2 hb
    · exact sides_few_a w size A0 A B _ c0 _ c _ d h1 hb
  · exact sides_no w size A0 A B _ c0 _ c _ d h
end Go.Proofs.Ytfmplibjhohpgaa
