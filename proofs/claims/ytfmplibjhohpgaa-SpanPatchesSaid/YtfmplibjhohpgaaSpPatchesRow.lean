/- The walk over SpanPatches. SpanPatches answers true, whatever its arguments, which read as they did. No condition. -/
import Derived.Test.YtfmplibjhohpgaaSpZipL
import Derived.Test.YtfmplibjhohpgaaSpDiff
import Derived.Test.YtfmplibjhohpgaaSpApply
import Derived.Test.YtfmplibjhohpgaaSpBuilt
import Derived.Test.YtfmplibjhohpgaaRows
import Derived.Test.YtfmplibjhohpgaaSpOpenA
import Derived.Carry
namespace Go.Proofs.Ytfmplibjhohpgaa
section
open Go.RowKit Go.Shelf
attribute [local go_sem] Oper.semAt_some

theorem built_some (w : World) (size : Int) (A : Option Addr) (l : List Ac) (c : Nat) (hA : Acts w A l) (hlc : l.length ≤ c) :
    Calls Try.prog 22 #[.int .i64 size, .slice A l.length c] w fun e w' => ∃ q b, e = .returned (.tuple #[.agg #[.pointer q], .bool b]) ∧ Below w.heap.size w w' := by
  by_cases h : (1 ≤ size ∧ size ≤ 1099511627776) ∧ (l.length : Int) ≤ 60
  · exact (built_yes w size A l c h.1.1 h.1.2 hA hlc h.2).mono fun e w' ⟨q, h1, h2, h3⟩ => ⟨q, true, h1, h3⟩
  · exact (built_no w size A _ c h).mono fun e w' ⟨q, M, h1, h2, h3⟩ => ⟨q, false, h1, h3⟩
set_option maxRecDepth 100000 in
set_option maxHeartbeats 400000 in
theorem patches_no (w : World) (size : Int) (A B : Option Addr) (l k : List Ac) (m c n d : Nat) (hm : l.length = m) (hn : k.length = n) (hA : Acts w A l) (hB : Acts w B k) (hmc : m ≤ c) (hnd : n ≤ d) (h : ¬ ((1 ≤ size ∧ size ≤ 1099511627776) ∧ (m : Int) ≤ 60)) :
    Calls Try.prog 8 #[.int .i64 size, .slice A m c, .slice B n d] w (FromsPost w) := by
  have hb2 : ∀ W, Below w.heap.size w W → Calls Try.prog 22 #[.int .i64 size, .slice B n d] W fun e w' => ∃ q b, e = .returned (.tuple #[.agg #[.pointer q], .bool b]) ∧ Below W.heap.size W w' := fun W hW => by
    have := built_some W size B k d (hB.below hW) (by omega)
    rwa [hn] at this
  have H2 := Lib.hid hb2
  have H := Lib.hid h
  clear hb2 h hA hB hm hn
  go_enter Try.func8, Try.ntmps8
  go_wp2_with (fail)
  go_at_call 22
  refine (built_no _ size A m c H.out).mono ?_
  rintro e w1 ⟨q, M, rfl, _, b1⟩
  go_upto_region 2 with (fail)
  generalize hb : World.alloc w1 _ = w2
  have dw2 : Below w1.heap.size w1 w2 := hb ▸ Below.alloc1 w1 _
  have y : Boxed w2 w1.heap.size 26 (.pointer q) := hb ▸ Boxed.new w1 _ _
  clear hb
  have B2 := Below.next b1 dw2
  go_wp2_with (fail)
  go_at_call 22
  refine (H2.out _ B2).mono ?_
  rintro e w3 ⟨q3, b, rfl, b3⟩
  have B3 := Below.next B2 b3
  go_upto_region 3 with (fail)
  generalize hb : World.alloc w3 _ = w4
  have dw4 : Below w3.heap.size w3 w4 := hb ▸ Below.alloc1 w3 _
  have y4 : Boxed w4 w3.heap.size 26 (.pointer q3) := hb ▸ Boxed.new w3 _ _
  clear hb
  have B4 := Below.next B3 dw4
  go_wp2_with (fail)
  go_at_call 18
  refine (awake_any _).mono ?_
  rintro e wz ⟨rfl, bz⟩
  go_wp2_with (fail)
  go_ret
  exact ⟨rfl, Below.next B4 bz⟩
set_option maxRecDepth 100000 in
set_option maxHeartbeats 400000 in
theorem patches_no2 (w : World) (size : Int) (A B : Option Addr) (l : List Ac) (m c n d : Nat) (hm : l.length = m) (hA : Acts w A l) (hmc : m ≤ c) (h : ¬ ((1 ≤ size ∧ size ≤ 1099511627776) ∧ (n : Int) ≤ 60)) (h1 : 1 ≤ size) (h2 : size ≤ 1099511627776) (hl : (m : Int) ≤ 60) :
    Calls Try.prog 8 #[.int .i64 size, .slice A m c, .slice B n d] w (FromsPost w) := by
  have hb1 : Calls Try.prog 22 #[.int .i64 size, .slice A m c] w fun e w' => ∃ q, e = .returned (.tuple #[.agg #[.pointer q], .bool true]) ∧ Below w.heap.size w w' := by
    have := built_yes w size A l c h1 h2 hA (by omega) (by omega)
    rw [hm] at this
    exact this.mono fun e w' ⟨q, h1, _, h3⟩ => ⟨q, h1, h3⟩
  have H1 := Lib.hid hb1
  have H := Lib.hid h
  clear hb1 h hA hm
  go_enter Try.func8, Try.ntmps8
  go_wp2_with (fail)
  go_at_call 22
  refine H1.out.mono ?_
  rintro e w1 ⟨q, rfl, b1⟩
  go_upto_region 2 with (fail)
  generalize hb : World.alloc w1 _ = w2
  have dw2 : Below w1.heap.size w1 w2 := hb ▸ Below.alloc1 w1 _
  have y : Boxed w2 w1.heap.size 26 (.pointer q) := hb ▸ Boxed.new w1 _ _
  clear hb
  have B2 := Below.next b1 dw2
  go_wp2_with (fail)
  go_at_call 22
  refine (built_no _ size B n d H.out).mono ?_
  rintro e w3 ⟨q3, M, rfl, _, b3⟩
  have B3 := Below.next B2 b3
  go_upto_region 3 with (fail)
  generalize hb : World.alloc w3 _ = w4
  have dw4 : Below w3.heap.size w3 w4 := hb ▸ Below.alloc1 w3 _
  have y4 : Boxed w4 w3.heap.size 26 (.pointer q3) := hb ▸ Boxed.new w3 _ _
  clear hb
  have B4 := Below.next B3 dw4
  go_wp2_with (fail)
  go_at_call 18
  refine (awake_any _).mono ?_
  rintro e wz ⟨rfl, bz⟩
  go_wp2_with (fail)
  go_ret
  exact ⟨rfl, Below.next B4 bz⟩
theorem diffR_good {A B : List (Int × Int)} (gA : Good A) (gB : Good B) (ht : Tr.total A = Tr.total B) : diffR A B = (0, diffL (zipL A B)) := by
  unfold diffR; rw [if_neg (by simp [gA.1, gB.1]), if_neg (by simp [ht])]
set_option maxRecDepth 100000 in
set_option maxHeartbeats 4000000 in
theorem patches_main (w : World) (size : Int) (A B : Option Addr) (l k : List Ac) (m c n d : Nat) (hm : l.length = m) (hn : k.length = n) (hA : Acts w A l) (hB : Acts w B k) (hmc : m ≤ c) (hnd : n ≤ d) (h1 : 1 ≤ size) (h2 : size ≤ 1099511627776) (hl : (m : Int) ≤ 60) (hk : (n : Int) ≤ 60) :
    Calls Try.prog 8 #[.int .i64 size, .slice A m c, .slice B n d] w (FromsPost w) := by
  obtain ⟨gM, tM⟩ := bltL_facts h1 h2 l
  obtain ⟨gN, tN⟩ := bltL_facts h1 h2 k
  have g0 : Good [(size, 0)] := ⟨by simp, Tr.OkL.cons.2 ⟨⟨h1, by simp, by simp⟩, by simp [Tr.OkL]⟩, ⟨by simp, trivial⟩, by simp [Tr.total_cons, Tr.total_nil]; omega, by simp⟩
  have lM := moreL_length l g0
  have lN := moreL_length k g0
  have hpl : Calls Try.prog 22 #[.int .i64 size, .slice A m c] w fun e w' => ∃ q, e = .returned (.tuple #[.agg #[.pointer q], .bool true]) ∧ Rep w' q (moreL [(size, 0)] l) ∧ Below w.heap.size w w' := by
    have := built_yes w size A l c h1 h2 hA (by omega) (by omega)
    rwa [hm] at this
  have hpk : ∀ W, Below w.heap.size w W → Calls Try.prog 22 #[.int .i64 size, .slice B n d] W fun e w' => ∃ q, e = .returned (.tuple #[.agg #[.pointer q], .bool true]) ∧ Rep w' q (moreL [(size, 0)] k) ∧ Below W.heap.size W w' := fun W hW => by
    have := built_yes W size B k d h1 h2 (hB.below hW) (by omega) (by omega)
    rwa [hn] at this
  simp only [List.length_cons, List.length_nil] at lM lN
  generalize moreL [(size, 0)] l = M at *
  generalize moreL [(size, 0)] k = N at *
  have ht : Tr.total M = Tr.total N := by omega
  have hlen : M.length + N.length ≤ 4096 := by omega
  obtain ⟨D, hD⟩ : ∃ D, diffL (zipL M N) = D := ⟨_, rfl⟩
  have hE : diffL (zipL N M) = D.map swCh := by rw [← hD]; exact diff_back M N
  have r1 : diffR M N = (0, D) := by rw [← hD]; exact diffR_good gM gN ht
  have r2 : diffR N M = (0, D.map swCh) := by rw [← hE]; exact diffR_good gN gM ht.symm
  have a1 : applyTop M D = (0, N) := by rw [← hD]; exact patch_law gM gN ht hlen
  have a2 : applyTop N (D.map swCh) = (0, M) := by rw [← hE]; exact patch_law gN gM ht.symm (by omega)
  have dl : D.length ≤ 8192 := by rw [← hD]; have := diffL_length (zipL M N); have := zipL_length M N; omega
  obtain ⟨nd, hnd'⟩ : ∃ nd, D.length = nd := ⟨_, rfl⟩
  obtain ⟨bb, hbb⟩ : ∃ bb, decide (M = N) = bb := ⟨_, rfl⟩
  have hz : ((nd : Int) == 0) = bb := by
    rw [← hbb]
    have i1 := diffL_nil (zipL M N)
    rw [hD, allEq_iff gM gN ht] at i1
    by_cases e : M = N
    · have : D.length = 0 := by rw [i1.2 e]; rfl
      rw [decide_eq_true e]; simp; omega
    · have : D.length ≠ 0 := fun h => e (i1.1 (List.eq_nil_of_length_eq_zero h))
      rw [decide_eq_false e]; simp; omega
  rw [hnd'] at dl
  have dl2 : (nd : Int) ≤ 8192 := by omega
  have HPL := Lib.hid hpl
  have HPK := Lib.hid hpk
  have GM := Lib.hid gM
  have GN := Lib.hid gN
  have R1 := Lib.hid r1
  have R2 := Lib.hid r2
  have A1 := Lib.hid a1
  have A2 := Lib.hid a2
  have HND := Lib.hid hnd'
  have HBB := Lib.hid hbb
  clear hpl hpk gM gN tM tN g0 lM lN ht hlen hD hE r1 r2 a1 a2 hnd' hbb hA hB hm hn dl
  go_enter Try.func8, Try.ntmps8
  go_wp2_with (fail)
  go_at_call 22
  refine HPL.out.mono ?_
  rintro e w1 ⟨q, rfl, hq, b1⟩
  go_upto_region 2 with (fail)
  generalize hb : World.alloc w1 _ = w2
  have dw2 : Below w1.heap.size w1 w2 := hb ▸ Below.alloc1 w1 _
  have y2 : Boxed w2 w1.heap.size 26 (.pointer q) := hb ▸ Boxed.new w1 _ _
  clear hb
  have B2 := Below.next b1 dw2
  have hq2 := hq.below dw2
  clear b1 hq
  go_wp2_with (fail)
  go_at_call 22
  refine (HPK.out _ B2).mono ?_
  rintro e w3 ⟨p, rfl, hp, b3⟩
  go_upto_region 3 with (fail)
  generalize hb : World.alloc w3 _ = w4
  have dw4 : Below w3.heap.size w3 w4 := hb ▸ Below.alloc1 w3 _
  have x4 : Boxed w4 w3.heap.size 26 (.pointer p) := hb ▸ Boxed.new w3 _ _
  clear hb
  have b34 := Below.next b3 dw4
  have y4 := bx_next y2 b34
  have B4 := Below.next B2 b34
  have hq4 := hq2.below b34
  have hp4 := hp.below dw4
  clear y2 B2 hq2 hp b3 b34
  have hdf := diff_any w4 q p M N hq4 hp4 (.inr GM.out) (.inr GN.out)
  unfold DiffPost at hdf
  rw [R1.out] at hdf
  have HDF := Lib.hid hdf
  clear hdf
  have c7 := y4.cell
  have c9 := x4.cell
  go_wp2_with (fail)
  go_at_call 34
  refine HDF.out.mono ?_
  rintro e w5 ⟨v, rfl, hv, b5⟩
  obtain ⟨I, cI, rfl, hcI, hI⟩ := hv.chs
  try dsimp only at hcI hI
  have y5 := bx_next y4 b5
  have x5 := bx_next x4 b5
  have B5 := Below.next B4 b5
  have hq5 := hq4.below b5
  have hp5 := hp4.below b5
  have hap := apply_any w5 q I D cI M (.inr GM.out) hq5 hI hcI (by rw [HND.out]; omega)
  unfold ApplyPost at hap
  rw [A1.out, HND.out] at hap
  have HAP := Lib.hid hap
  clear hap hv b5 y4 x4 B4 hq4 hp4 c7 c9 HDF
  have c7 := y5.cell
  have c9 := x5.cell
  try dsimp only
  rw [HND.out]
  rw [HND.out] at hcI
  go_wp2_with (fail)
  go_at_call 35
  refine HAP.out.mono ?_
  rintro e w6 ⟨p3, rfl, hp3, b6⟩
  try dsimp only at hp3
  go_upto_region 7 with (fail)
  generalize hb : World.alloc w6 _ = w7
  have dw7 : Below w6.heap.size w6 w7 := hb ▸ Below.alloc1 w6 _
  have u7 : Boxed w7 w6.heap.size 26 (.pointer p3) := hb ▸ Boxed.new w6 _ _
  clear hb
  have b67 := Below.next b6 dw7
  have y7 := bx_next y5 b67
  have x7 := bx_next x5 b67
  have B7 := Below.next B5 b67
  have hq7 := hq5.below b67
  have hp7 := hp5.below b67
  have hI7 := hI.below b67
  have hr7 := hp3.below dw7
  clear y5 x5 B5 hq5 hp5 hI hp3 b6 b67 c7 c9 HAP
  have hdf := diff_any w7 p q N M hp7 hq7 (.inr GN.out) (.inr GM.out)
  unfold DiffPost at hdf
  rw [R2.out] at hdf
  have HDF := Lib.hid hdf
  clear hdf
  have c7 := y7.cell
  have c9 := x7.cell
  go_wp2_with (fail)
  go_at_call 34
  refine HDF.out.mono ?_
  rintro e w8 ⟨v, rfl, hv, b8⟩
  obtain ⟨J, cJ, rfl, hcJ, hJ⟩ := hv.chs
  try dsimp only at hcJ hJ
  have y8 := bx_next y7 b8
  have x8 := bx_next x7 b8
  have u8 := bx_next u7 b8
  have B8 := Below.next B7 b8
  have hq8 := hq7.below b8
  have hp8 := hp7.below b8
  have hI8 := hI7.below b8
  have hr8 := hr7.below b8
  have hap := apply_any w8 p J (D.map swCh) cJ N (.inr GN.out) hp8 hJ hcJ (by rw [List.length_map, HND.out]; omega)
  unfold ApplyPost at hap
  rw [A2.out, List.length_map, HND.out] at hap
  have HAP := Lib.hid hap
  rw [List.length_map, HND.out] at hcJ
  clear hap hv b8 y7 x7 u7 B7 hq7 hp7 hI7 hr7 c7 c9 HDF
  have c7 := y8.cell
  have c9 := x8.cell
  try dsimp only
  rw [List.length_map, HND.out]
  go_wp2_with (fail)
  go_at_call 35
  refine HAP.out.mono ?_
  rintro e w9 ⟨p4, rfl, hp4, b9⟩
  try dsimp only at hp4
  go_upto_region 9 with (fail)
  generalize hb : World.alloc w9 _ = wA
  have dwA : Below w9.heap.size w9 wA := hb ▸ Below.alloc1 w9 _
  have tA : Boxed wA w9.heap.size 26 (.pointer p4) := hb ▸ Boxed.new w9 _ _
  clear hb
  have b9A := Below.next b9 dwA
  have yA := bx_next y8 b9A
  have xA := bx_next x8 b9A
  have uA := bx_next u8 b9A
  have BA := Below.next B8 b9A
  have hqA := hq8.below b9A
  have hpA := hp8.below b9A
  have hIA := hI8.below b9A
  have hJA := hJ.below b9A
  have hrA := hr8.below b9A
  have hsA := hp4.below dwA
  clear y8 x8 u8 B8 hq8 hp8 hI8 hJ hr8 hp4 b9 b9A c7 c9 HAP
  have heq : ∀ (W : World) (a b : Option Addr) (X Y : List (Int × Int)), Rep W a X → Rep W b Y → Good X → Good Y → ∀ z, decide (X = Y) = z → Calls Try.prog 36 #[.agg #[.pointer a], .agg #[.pointer b]] W fun e w' => e = .returned (.bool z) ∧ Below W.heap.size W w' := by
    intro W a b X Y h1 h2 h3 h4 z hz
    have := equal_any W a b X Y h1 h2 (.inr h3) (.inr h4)
    rw [hz] at this; exact this
  have c7 := yA.cell
  have c9 := xA.cell
  have c13 := uA.cell
  have c17 := tA.cell
  have HEQ := Lib.hid heq
  clear heq
  go_wp2_with (fail)
  go_at_call 36
  refine (HEQ.out wA p3 p N N hrA hpA GN.out GN.out true (decide_eq_true rfl)).mono ?_
  rintro e wB ⟨rfl, bB⟩
  have yB := bx_next yA bB
  have xB := bx_next xA bB
  have uB := bx_next uA bB
  have tB := bx_next tA bB
  have BB := Below.next BA bB
  have hqB := hqA.below bB
  have hpB := hpA.below bB
  have hIB := hIA.below bB
  have hJB := hJA.below bB
  have hsB := hsA.below bB
  clear yA xA uA tA BA hqA hpA hIA hJA hrA hsA bB c7 c9 c13 c17
  have c7 := yB.cell
  have c9 := xB.cell
  have c13 := uB.cell
  have c17 := tB.cell
  go_wp2_with (fail)
  go_at_call 36
  refine (HEQ.out wB p4 q M M hsB hqB GM.out GM.out true (decide_eq_true rfl)).mono ?_
  rintro e wC ⟨rfl, bC⟩
  have yC := bx_next yB bC
  have xC := bx_next xB bC
  have BC := Below.next BB bC
  have hqC := hqB.below bC
  have hpC := hpB.below bC
  have hIC := Lib.hid (hIB.below bC)
  have hJC := Lib.hid (hJB.below bC)
  clear yB xB uB tB BB hqB hpB hIB hJB hsB bC c7 c9 c13 c17
  go_wp2_with (fail)
  go_loopw [19] (fun i W => ∃ j : Nat, j ≤ nd ∧ i = .int .i64 j ∧ Quiet wC W) (fun i _ => nd - (intOf i).toNat)
  case atStart => exact ⟨0, Nat.zero_le _, rfl, Quiet.refl _⟩
  case round =>
    obtain ⟨j, hj, rfl, qq, rfl⟩ := hrel
    by_cases hlt : j < nd
    · have hj1 : j < D.length := by have := HND.out; omega
      have hj2 : j < (D.map swCh).length := by rw [List.length_map]; exact hj1
      obtain ⟨a, rfl⟩ := hIC.out.some_ hj1
      obtain ⟨b, rfl⟩ := hJC.out.some_ hj2
      obtain ⟨_, f0, f1, f2, f3⟩ := hIC.out.at_ hj1
      obtain ⟨_, g0, g1, g2, g3⟩ := hJC.out.at_ hj2
      rw [List.getElem_map] at g0 g1 g2 g3
      generalize D[j] = X at *
      dsimp only [swCh] at g0 g1 g2 g3
      have k0 : (0 : Int) ≤ (j : Int) := by omega
      have k1 : (j : Int) < (nd : Int) := by omega
      go_wp2_with (fail)
      go_quiet (fail)
      go_wp2_with (fail)
      go_roundw
      case rel => exact ⟨j + 1, by omega, by go_num, _, rfl⟩
      case measure => simp [intOf]; omega
    · obtain rfl : j = nd := by omega
      have dq : Below wC.heap.size wC (wC.drewN qq) := Quiet.below ⟨_, rfl⟩ _
      have BD := Below.next BC dq
      have c7 := (bx_next yC dq).cell
      have c9 := (bx_next xC dq).cell
      have HQ := Lib.hid (hqC.below dq)
      have HP := Lib.hid (hpC.below dq)
      go_wp2_with (fail)
      go_at_call 36
      refine (HEQ.out _ q p M N HQ.out HP.out GM.out GN.out bb HBB.out).mono ?_
      rintro e wE ⟨rfl, bE⟩
      have BE := Below.next BD bE
      go_wp2_with (fail)
      go_at_call 18
      refine (awake_any _).mono ?_
      rintro e wz ⟨rfl, bz⟩
      go_wp2_with (fail)
      go_ret
      exact ⟨rfl, Below.next BE bz⟩
/-- SpanPatches answers true. -/
theorem spanPatches_any (w : World) (size : Int) (A B : Option Addr) (l k : List Ac) (c d : Nat) (hA : Acts w A l) (hB : Acts w B k) (hmc : l.length ≤ c) (hnd : k.length ≤ d) :
    Calls Try.prog 8 #[.int .i64 size, .slice A l.length c, .slice B k.length d] w (FromsPost w) := by
  by_cases h : (1 ≤ size ∧ size ≤ 1099511627776) ∧ (l.length : Int) ≤ 60
  · by_cases h2 : (1 ≤ size ∧ size ≤ 1099511627776) ∧ (k.length : Int) ≤ 60
    · exact patches_main w size A B l k _ c _ d rfl rfl hA hB hmc hnd h.1.1 h.1.2 h.2 h2.2
    · exact patches_no2 w size A B l _ c _ d rfl hA hmc h2 h.1.1 h.1.2 h.2
  · exact patches_no w size A B l k _ c _ d rfl rfl hA hB hmc hnd h
end
section
open Go.ChangeShapes Go.WideShapes Go.ChangeAt Go.RowKit Go.Deep

set_option maxRecDepth 100000 in
theorem spanPatches_lifted (os : Os) (started : os.Started) (H : Type) (enc : TypeId × Value → H) :
    ReturnsInHanded {} Try.checked os 8 .any (Rows.spanPatchesSpec.pre6 enc Try.prog Try.f8 Rows.spanPatchesRow.domain false) (Rows.spanPatchesSpec.post enc Try.prog Try.f8 false true false false) := by
  refine returnsInHanded_of_change (C := Try.checked) Try.own started (by kernel_rfl) Try.func8
    (ChangeSpec.witness6 (enc := enc) (C := Try.checked) false ⟨#[], #[.int .i64 0, .slice none 0 0, .slice none 0 0], []⟩ 8 (by kernel_rfl) (by kernel_rfl) (by kernel_rfl) (by kernel_rfl)) ?_
  intro W base args ds gs before hval0 hW _ _
  have hval : ∀ (j : Nat) t v, Try.f8.params[j]? = some t → args[j]? = some v → Value.okWide Try.prog W .any base t v := hval0
  have hW' := hW
  obtain ⟨p, q, hA0, hV, rfl, _, _⟩ := hW
  have hA : DataW.TrodAll enc Try.prog W 0 (fun _ => true) true Try.f8.params.toList args.toList ds p := hA0
  rw [Try.params8] at hA hval
  obtain ⟨v0, v1, v2, d0, d1, d2, p0, p1, p2, rfl, rfl, rfl, h0, h1, h2⟩ := trodAll_three hA
  obtain ⟨rfl, rfl⟩ := trodVars_none hV
  obtain ⟨z0, rfl, rfl, rfl, wa0⟩ := open_int Try.underlying3 (hval 0 3 v0 rfl rfl) h0
  obtain ⟨A1, len1, c1, rfl⟩ := okWide_slice Try.underlying38 (hval 1 38 v1 rfl rfl)
  obtain ⟨A2, len2, c2, rfl⟩ := okWide_slice Try.underlying38 (hval 2 38 v2 rfl rfl)
  clear hA0 hval0
  have hlt1 : ∀ x ∈ p1, x.block < W.heap.size := fun x hx => hW'.lt x (by simp [hx])
  have hlt2 : ∀ x ∈ p2, x.block < W.heap.size := fun x hx => hW'.lt x (by simp [hx])
  obtain ⟨L1, rfl, hR1, hlc1, hn1⟩ := open_acts h1
  obtain ⟨L2, rfl, hR2, hlc2, hn2⟩ := open_acts h2
  simp only [List.append_nil, List.nil_append, List.append_assoc] at hW'
  refine (spanPatches_any W z0 A1 A2 L1 L2 c1 c2 hR1 hR2 hlc1 hlc2).mono fun e W' ⟨he, hb⟩ => ?_
  subst he
  have hT := trodAll_mk3 (enc := enc) (base := 0) (spare := fun b => decide (b < W.heap.size)) (held := true) (shut_int Try.underlying3 wa0) (Below.trod Try.laidOut (by kernel_rfl) (of_decide_eq_true (by kernel_rfl)) h1 hb hlt1) (Below.trod Try.laidOut (by kernel_rfl) (of_decide_eq_true (by kernel_rfl)) h2 hb hlt2)
  simp only [List.append_nil, List.nil_append, List.append_assoc] at hT
  exact ⟨_, rfl, _, _, _, [], _, [], hW', trodAll_mk1 (shut_bool Try.underlying4 true), hT, rfl, hb.frame _, fun h => by cases h⟩

theorem spanPatches_holds : Rows.SpanPatchesSaid :=
  OpenClaim.holds_of_wide 8 Try.f8 rfl rfl rfl rfl rfl rfl rfl ⟨rfl, rfl, rfl, rfl, rfl⟩ rfl rfl rfl rfl rfl (by kernel_rfl) Try.func8 (by kernel_rfl)
    (of_decide_eq_true (by kernel_rfl)) (by unfold Func.isWrapper; rw [if_neg (by decide +kernel)]; exact ⟨rfl, rfl⟩)
    (fun os started H enc _ => spanPatches_lifted os started H enc)
#print axioms spanPatches_holds
end
end Go.Proofs.Ytfmplibjhohpgaa
