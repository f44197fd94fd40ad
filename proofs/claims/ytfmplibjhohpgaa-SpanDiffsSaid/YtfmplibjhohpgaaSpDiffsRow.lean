/- The walk over SpanDiffs. SpanDiffs answers true, whatever its arguments, which read as they did. No condition. -/
import Derived.Test.YtfmplibjhohpgaaSpRefDiff
import Derived.Test.YtfmplibjhohpgaaSpPlayed
import Derived.Test.YtfmplibjhohpgaaSpBuilt
import Derived.Test.YtfmplibjhohpgaaRows
import Derived.Test.YtfmplibjhohpgaaSpOpenA
import Derived.Carry
namespace Go.Proofs.Ytfmplibjhohpgaa
section
open Go.RowKit Go.Shelf

/-- The boxes of two maps of the program and of two of the document. -/
structure Four (W : World) (a b c d : Nat) (p q : Option Addr) (x y : Int) (u v : Value) : Prop where
  a1 : Boxed W a 26 (.pointer p)
  b1 : BoxM W b x u
  c1 : Boxed W c 26 (.pointer q)
  d1 : BoxM W d y v
theorem Four.next {W W' : World} {a b c d : Nat} {p q : Option Addr} {x y : Int} {u v : Value} (h : Four W a b c d p q x y u v) (hB : Below W.heap.size W W') : Four W' a b c d p q x y u v :=
  ⟨bx_next h.a1 hB, h.b1.next hB, bx_next h.c1 hB, h.d1.next hB⟩
theorem Four.cells {W : World} {a b c d : Nat} {p q : Option Addr} {x y : Int} {u v : Value} (h : Four W a b c d p q x y u v) :
    W.cell? ⟨a, 0, none⟩ = some (.pointer p) ∧ W.cell? ⟨b, 0, none⟩ = some (.int .i64 x) ∧ W.cell? ⟨b, 1, none⟩ = some u ∧ W.cell? ⟨c, 0, none⟩ = some (.pointer q) ∧ W.cell? ⟨d, 0, none⟩ = some (.int .i64 y) ∧ W.cell? ⟨d, 1, none⟩ = some v :=
  ⟨h.a1.cell, h.b1.c0, h.b1.c1, h.c1.cell, h.d1.c0, h.d1.c1⟩
set_option maxRecDepth 100000 in
set_option maxHeartbeats 400000 in
theorem diffs_many (w : World) (size other : Int) (A B : Option Addr) (m c n d : Nat) (hl : ¬ (m : Int) ≤ 60) :
    Calls Try.prog 14 #[.int .i64 size, .int .i64 other, .slice A m c, .slice B n d] w (FromsPost w) := by
  go_enter Try.func14, Try.ntmps14
  go_wp2_with (fail)
  go_at_call 29
  refine (lfew_no _ A m c (by omega)).mono ?_
  rintro e w' ⟨rfl, rfl⟩
  go_wp2_with (fail)
  go_at_call 18
  refine (awake_any _).mono ?_
  rintro e wz ⟨rfl, bz⟩
  go_wp2_with (fail)
  go_ret
  exact ⟨rfl, bz⟩
set_option maxRecDepth 100000 in
set_option maxHeartbeats 400000 in
theorem diffs_many2 (w : World) (size other : Int) (A B : Option Addr) (m c n d : Nat) (hl : (m : Int) ≤ 60) (hk : ¬ (n : Int) ≤ 60) :
    Calls Try.prog 14 #[.int .i64 size, .int .i64 other, .slice A m c, .slice B n d] w (FromsPost w) := by
  go_enter Try.func14, Try.ntmps14
  go_wp2_with (fail)
  go_at_call 29
  refine (lfew_yes _ A m c (by omega)).mono ?_
  rintro e w' ⟨rfl, rfl⟩
  go_wp2_with (fail)
  go_at_call 29
  refine (lfew_no _ B n d (by omega)).mono ?_
  rintro e w' ⟨rfl, rfl⟩
  go_wp2_with (fail)
  go_at_call 18
  refine (awake_any _).mono ?_
  rintro e wz ⟨rfl, bz⟩
  go_wp2_with (fail)
  go_ret
  exact ⟨rfl, bz⟩
theorem diffR_length {A B : List (Int × Int)} (gA : A = [] ∨ Good A) (gB : B = [] ∨ Good B) : ((diffR A B).2.length : Int) ≤ 8192 := by
  unfold diffR
  by_cases h : A = [] ∨ B = []
  · rw [if_pos h]; simp
  · rw [if_neg h]
    by_cases h2 : Tr.total A ≠ Tr.total B
    · rw [if_pos h2]; simp
    · rw [if_neg h2]
      have g1 := gA.resolve_left (fun e => h (.inl e))
      have g2 := gB.resolve_left (fun e => h (.inr e))
      have a := diffL_length (zipL A B)
      have b := zipL_length A B
      have := g1.2.2.2.2
      have := g2.2.2.2.2
      dsimp only; omega
set_option maxRecDepth 100000 in
set_option maxHeartbeats 8000000 in
theorem diffs_main (w : World) (size other : Int) (A B : Option Addr) (l k : List Ac) (m c n d : Nat) (hm : l.length = m) (hn : k.length = n) (hA : Acts w A l) (hB : Acts w B k) (hmc : m ≤ c) (hnd : n ≤ d) (hl : (m : Int) ≤ 60) (hk : (n : Int) ≤ 60) :
    Calls Try.prog 14 #[.int .i64 size, .int .i64 other, .slice A m c, .slice B n d] w (FromsPost w) := by
  have hM := moreL_good l (newR_good size)
  have hN := moreL_good k (newR_good other)
  have hpl : ∀ W, Below w.heap.size w W → Calls Try.prog 37 #[.int .i64 size, .slice A m c] W (DoPost W (moreL (newR size).2 l)) := fun W hW => played_any W size A l m c hm (hA.below hW) hmc (by omega)
  have hpk : ∀ W, Below w.heap.size w W → Calls Try.prog 37 #[.int .i64 other, .slice B n d] W (DoPost W (moreL (newR other).2 k)) := fun W hW => played_any W other B k n d hn (hB.below hW) hnd (by omega)
  generalize moreL (newR size).2 l = M at *
  generalize moreL (newR other).2 k = N at *
  obtain ⟨x, D, hD⟩ : ∃ x D, diffR M N = (x, D) := ⟨_, _, rfl⟩
  have hDl := diffR_length hM hN
  rw [hD] at hDl
  have HPL := Lib.hid hpl
  have HPK := Lib.hid hpk
  have HM := Lib.hid hM
  have HN := Lib.hid hN
  have HD := Lib.hid hD
  have HDL := Lib.hid hDl
  clear hpl hpk hM hN hA hB hm hn hD hDl
  go_enter Try.func14, Try.ntmps14
  go_wp2_with (fail)
  go_at_call 29
  refine (lfew_yes _ A m c (by omega)).mono ?_
  rintro e w' ⟨rfl, rfl⟩
  go_wp2_with (fail)
  go_at_call 29
  refine (lfew_yes _ B n d (by omega)).mono ?_
  rintro e w' ⟨rfl, rfl⟩
  go_wp2_with (fail)
  go_at_call 37
  refine (HPL.out _ (Below.refl _ _)).mono ?_
  rintro e w1 ⟨p, P, f, rfl, hp, hP, hf, b1⟩
  go_upto_region 4 with (fail)
  obtain ⟨wb, hwb⟩ : ∃ wb, (w1.alloc (.cells #[.pointer p] 26)).alloc (.cells #[.int .i64 (Tr.total M), .slice P M.length f] 31) = wb := ⟨_, rfl⟩
  have y0 : Boxed wb w1.heap.size 26 (.pointer p) := hwb ▸ bx_next (Boxed.new w1 _ _) (Below.alloc1 _ _)
  have z0 : BoxM wb (w1.heap.size + 1) (Tr.total M) (.slice P M.length f) := by
    have := BoxM.new (w1.alloc (.cells #[.pointer p] 26)) (Tr.total M) (.slice P M.length f)
    rw [World.size_alloc] at this; exact hwb ▸ this
  have db : Below w1.heap.size w1 wb := hwb ▸ Below.alloc2 w1 _ _
  have B1 := Below.next b1 db
  have hp1 := hp.below db
  have hP1 := hP.1.below db
  rw [hwb]
  clear hwb db b1 hp hP
  go_wp2_with (fail)
  go_at_call 37
  refine (HPK.out _ B1).mono ?_
  rintro e w2 ⟨q, Q, g, rfl, hq, hQ, hg, b2⟩
  go_upto_region 5 with (fail)
  obtain ⟨wc, hwc⟩ : ∃ wc, (w2.alloc (.cells #[.pointer q] 26)).alloc (.cells #[.int .i64 (Tr.total N), .slice Q N.length g] 31) = wc := ⟨_, rfl⟩
  have y2 : Boxed wc w2.heap.size 26 (.pointer q) := hwc ▸ bx_next (Boxed.new w2 _ _) (Below.alloc1 _ _)
  have z2 : BoxM wc (w2.heap.size + 1) (Tr.total N) (.slice Q N.length g) := by
    have := BoxM.new (w2.alloc (.cells #[.pointer q] 26)) (Tr.total N) (.slice Q N.length g)
    rw [World.size_alloc] at this; exact hwc ▸ this
  have dc : Below w2.heap.size w2 wc := hwc ▸ Below.alloc2 w2 _ _
  have bc : Below wb.heap.size wb wc := Below.next b2 dc
  have F0 : Four wc w1.heap.size (w1.heap.size + 1) w2.heap.size (w2.heap.size + 1) p q (Tr.total M) (Tr.total N) (.slice P M.length f) (.slice Q N.length g) := ⟨bx_next y0 bc, z0.next bc, y2, z2⟩
  have B2 := Below.next B1 bc
  have hp2 := hp1.below bc
  have hP2 := hP1.below bc
  have hq2 := hq.below dc
  have hQ2 := hQ.1.below dc
  rw [hwc]
  clear hwc dc b2 bc hq hQ y0 z0 y2 z2 B1 hp1 hP1
  have hdf := diff_any wc p q M N hp2 hq2 HM.out HN.out
  unfold DiffPost at hdf
  rw [HD.out] at hdf
  have HDF := Lib.hid hdf
  clear hdf
  obtain ⟨c9, c100, c101, c12, c130, c131⟩ := F0.cells
  go_wp2_with (fail)
  go_at_call 34
  refine HDF.out.mono ?_
  rintro e w3 ⟨v, rfl, hv, b3⟩
  obtain ⟨I, cI, rfl, hcI, hI⟩ := hv.chs
  have F1 := F0.next b3
  have B3 := Below.next B2 b3
  have hp3 := hp2.below b3
  have hP3 := hP2.below b3
  have hq3 := hq2.below b3
  have hQ3 := hQ2.below b3
  have hrd := rdiff_any w3 P Q M N f g HM.out HN.out hP3 hQ3 hf hg
  unfold DiffPost at hrd
  rw [HD.out] at hrd
  have HRD := Lib.hid hrd
  clear hrd hv b3 F0 B2 hp2 hP2 hq2 hQ2 c9 c100 c101 c12 c130 c131 HDF
  obtain ⟨c9, c100, c101, c12, c130, c131⟩ := F1.cells
  go_wp2_with (fail)
  go_at_call 48
  refine HRD.out.mono ?_
  rintro e w4 ⟨v', rfl, hv', b4⟩
  obtain ⟨K, cK, rfl, hcK, hK⟩ := hv'.chs
  have F2 := F1.next b4
  have B4 := Below.next B3 b4
  have hp4 := hp3.below b4
  have hP4 := hP3.below b4
  have hq4 := hq3.below b4
  have hQ4 := hQ3.below b4
  have hI4 := hI.below b4
  clear hv' b4 F1 B3 hp3 hP3 hq3 hQ3 hI c9 c100 c101 c12 c130 c131 HRD
  obtain ⟨bb, hbb⟩ : ∃ bb, decide (M = N) = bb := ⟨_, rfl⟩
  have hbb2 : decide (N = M) = bb := by rw [← hbb]; exact decide_eq_decide.2 ⟨Eq.symm, Eq.symm⟩
  have hch : ∀ W, Below w4.heap.size w4 W → Calls Try.prog 46 #[.slice I D.length cI, .slice K D.length cK] W fun e w' => e = .returned (.bool true) ∧ Below W.heap.size W w' := fun W hW =>
    (changed_same D I K cI cK W (hI4.below hW) (hK.below hW) hcI hcK (by have := HDL.out; (try dsimp only at this); omega)).mono fun e w' ⟨h1, h2⟩ => ⟨h1, h2.below _⟩
  have he1 : ∀ W, Below w4.heap.size w4 W → Calls Try.prog 36 #[.agg #[.pointer p], .agg #[.pointer q]] W fun e w' => e = .returned (.bool bb) ∧ Below W.heap.size W w' := fun W hW => by
    have := equal_any W p q M N (hp4.below hW) (hq4.below hW) HM.out HN.out
    rw [hbb] at this; exact this
  have he2 : ∀ W, Below w4.heap.size w4 W → Calls Try.prog 36 #[.agg #[.pointer q], .agg #[.pointer p]] W fun e w' => e = .returned (.bool bb) ∧ Below W.heap.size W w' := fun W hW => by
    have := equal_any W q p N M (hq4.below hW) (hp4.below hW) HN.out HM.out
    rw [hbb2] at this; exact this
  have he3 : ∀ W, Below w4.heap.size w4 W → Calls Try.prog 36 #[.agg #[.pointer p], .agg #[.pointer p]] W fun e w' => e = .returned (.bool true) ∧ Below W.heap.size W w' := fun W hW => by
    have := equal_any W p p M M (hp4.below hW) (hp4.below hW) HM.out HM.out
    rw [decide_eq_true rfl] at this; exact this
  have hsm : ∀ W, Below w4.heap.size w4 W → Calls Try.prog 49 #[.agg #[.int .i64 (Tr.total M), .slice P M.length f], .agg #[.int .i64 (Tr.total N), .slice Q N.length g]] W fun e w' => e = .returned (.bool bb) ∧ Below W.heap.size W w' := fun W hW => by
    have := rsame_any W P Q M N f g HM.out HN.out (hP4.below hW) (hQ4.below hW) hf hg
    rw [hbb] at this; exact this
  have HCH := Lib.hid hch
  have HE1 := Lib.hid he1
  have HE2 := Lib.hid he2
  have HE3 := Lib.hid he3
  have HSM := Lib.hid hsm
  clear hch he1 he2 he3 hsm hbb hbb2 hp4 hP4 hq4 hQ4 hI4 hK HPL HPK
  have tk1 : True := trivial
  have tk2 : True := trivial
  have tk3 : True := trivial
  obtain ⟨c9, c100, c101, c12, c130, c131⟩ := F2.cells
  go_wp2_with (fail)
  go_region_held3 (fun W => W.cell? ⟨w1.heap.size, 0, none⟩ = some (.pointer p) ∧ W.cell? ⟨w1.heap.size + 1, 0, none⟩ = some (.int .i64 (Tr.total M)) ∧ W.cell? ⟨w1.heap.size + 1, 1, none⟩ = some (.slice P M.length f) ∧ W.cell? ⟨w2.heap.size, 0, none⟩ = some (.pointer q) ∧ W.cell? ⟨w2.heap.size + 1, 0, none⟩ = some (.int .i64 (Tr.total N)) ∧ W.cell? ⟨w2.heap.size + 1, 1, none⟩ = some (.slice Q N.length g))
    (first | (exact F2.cells) | (exact F3.cells) | (exact F4.cells) | (exact F5.cells) | (exact F6.cells) | (exact F7.cells) | (exact F8.cells) | (exact F9.cells))
    ((first
      | (go_at_call 46; refine (HCH.out _ (by exact (Below.refl _ _).drew)).mono ?_; rintro e w5 ⟨rfl, b5'⟩; have b5 : Below w4.heap.size w4 w5 := Below.of_drew b5'; have F3 := F2.next b5)
      | (go_at_call 36; have _t := tk1; clear tk1; refine (HE1.out _ b5).mono ?_; rintro e w6 ⟨rfl, b6'⟩; have b6 := Below.next b5 b6'; have F4 := F3.next b6')
      | (go_at_call 49; have _t := tk2; clear tk2; refine (HSM.out _ b6).mono ?_; rintro e w7 ⟨rfl, b7'⟩; have b7 := Below.next b6 b7'; have F5 := F4.next b7')
      | (go_at_call 36; have _t := tk3; clear tk3; refine (HE2.out _ b7).mono ?_; rintro e w8 ⟨rfl, b8'⟩; have b8 := Below.next b7 b8'; have F6 := F5.next b8')
      | (go_at_call 49; refine (HSM.out _ b8).mono ?_; rintro e w9 ⟨rfl, b9'⟩; have b9 := Below.next b8 b9'; have F7 := F6.next b9')
      | (go_at_call 36; refine (HE3.out _ b9).mono ?_; rintro e w10 ⟨rfl, b10'⟩; have b10 := Below.next b9 b10'; have F8 := F7.next b10')
      | (go_at_call 18; refine (awake_any _).mono ?_; rintro e w11 ⟨rfl, b11'⟩; have b11 := Below.next b10 b11'; have F9 := F8.next b11')))
  go_wp2_with (fail)
  go_ret
  exact ⟨rfl, Below.next B4 b11⟩
/-- SpanDiffs answers true. -/
theorem spanDiffs_any (w : World) (size other : Int) (A B : Option Addr) (l k : List Ac) (c d : Nat) (hA : Acts w A l) (hB : Acts w B k) (hmc : l.length ≤ c) (hnd : k.length ≤ d) :
    Calls Try.prog 14 #[.int .i64 size, .int .i64 other, .slice A l.length c, .slice B k.length d] w (FromsPost w) := by
  by_cases h : (l.length : Int) ≤ 60
  · by_cases h2 : (k.length : Int) ≤ 60
    · exact diffs_main w size other A B l k _ c _ d rfl rfl hA hB hmc hnd h h2
    · exact diffs_many2 w size other A B _ c _ d h h2
  · exact diffs_many w size other A B _ c _ d h
end
section
open Go.ChangeShapes Go.WideShapes Go.ChangeAt Go.RowKit Go.Deep

set_option maxRecDepth 100000 in
theorem spanDiffs_lifted (os : Os) (started : os.Started) (H : Type) (enc : TypeId × Value → H) :
    ReturnsInHanded {} Try.checked os 14 .any (Rows.spanDiffsSpec.pre6 enc Try.prog Try.f14 Rows.spanDiffsRow.domain false) (Rows.spanDiffsSpec.post enc Try.prog Try.f14 false true false false) := by
  refine returnsInHanded_of_change (C := Try.checked) Try.own started (by kernel_rfl) Try.func14
    (ChangeSpec.witness6 (enc := enc) (C := Try.checked) false ⟨#[], #[.int .i64 0, .int .i64 0, .slice none 0 0, .slice none 0 0], []⟩ 8 (by kernel_rfl) (by kernel_rfl) (by kernel_rfl) (by kernel_rfl)) ?_
  intro W base args ds gs before hval0 hW _ _
  have hval : ∀ (j : Nat) t v, Try.f14.params[j]? = some t → args[j]? = some v → Value.okWide Try.prog W .any base t v := hval0
  have hW' := hW
  obtain ⟨p, q, hA0, hV, rfl, _, _⟩ := hW
  have hA : DataW.TrodAll enc Try.prog W 0 (fun _ => true) true Try.f14.params.toList args.toList ds p := hA0
  rw [Try.params14] at hA hval
  obtain ⟨v0, v1, v2, v3, d0, d1, d2, d3, p0, p1, p2, p3, rfl, rfl, rfl, h0, h1, h2, h3⟩ := trodAll_four hA
  obtain ⟨rfl, rfl⟩ := trodVars_none hV
  obtain ⟨z0, rfl, rfl, rfl, wa0⟩ := open_int Try.underlying3 (hval 0 3 v0 rfl rfl) h0
  obtain ⟨z1, rfl, rfl, rfl, wa1⟩ := open_int Try.underlying3 (hval 1 3 v1 rfl rfl) h1
  obtain ⟨A2, len2, c2, rfl⟩ := okWide_slice Try.underlying38 (hval 2 38 v2 rfl rfl)
  obtain ⟨A3, len3, c3, rfl⟩ := okWide_slice Try.underlying38 (hval 3 38 v3 rfl rfl)
  clear hA0 hval0
  have hlt2 : ∀ x ∈ p2, x.block < W.heap.size := fun x hx => hW'.lt x (by simp [hx])
  have hlt3 : ∀ x ∈ p3, x.block < W.heap.size := fun x hx => hW'.lt x (by simp [hx])
  obtain ⟨L2, rfl, hR2, hlc2, hn2⟩ := open_acts h2
  obtain ⟨L3, rfl, hR3, hlc3, hn3⟩ := open_acts h3
  simp only [List.append_nil, List.nil_append, List.append_assoc] at hW'
  refine (spanDiffs_any W z0 z1 A2 A3 L2 L3 c2 c3 hR2 hR3 hlc2 hlc3).mono fun e W' ⟨he, hb⟩ => ?_
  subst he
  have hT := trodAll_mk4 (enc := enc) (base := 0) (spare := fun b => decide (b < W.heap.size)) (held := true) (shut_int Try.underlying3 wa0) (shut_int Try.underlying3 wa1) (Below.trod Try.laidOut (by kernel_rfl) (of_decide_eq_true (by kernel_rfl)) h2 hb hlt2) (Below.trod Try.laidOut (by kernel_rfl) (of_decide_eq_true (by kernel_rfl)) h3 hb hlt3)
  simp only [List.append_nil, List.nil_append, List.append_assoc] at hT
  exact ⟨_, rfl, _, _, _, [], _, [], hW', trodAll_mk1 (shut_bool Try.underlying4 true), hT, rfl, hb.frame _, fun h => by cases h⟩

theorem spanDiffs_holds : Rows.SpanDiffsSaid :=
  OpenClaim.holds_of_wide 14 Try.f14 rfl rfl rfl rfl rfl rfl rfl ⟨rfl, rfl, rfl, rfl, rfl⟩ rfl rfl rfl rfl rfl (by kernel_rfl) Try.func14 (by kernel_rfl)
    (of_decide_eq_true (by kernel_rfl)) (by unfold Func.isWrapper; rw [if_neg (by decide +kernel)]; exact ⟨rfl, rfl⟩)
    (fun os started H enc _ => spanDiffs_lifted os started H enc)
#print axioms spanDiffs_holds
end
end Go.Proofs.Ytfmplibjhohpgaa
