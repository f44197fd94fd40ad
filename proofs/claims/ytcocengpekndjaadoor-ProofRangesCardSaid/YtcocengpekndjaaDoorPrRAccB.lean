/- The walk over the reference's Accept: what it takes. -/
import Derived.Test.YtcocengpekndjaaDoorPrRAccA
import Derived.Test.YtcocengpekndjaaDoorPrRVer
namespace Go.Proofs.YtcocengpekndjaaDoor
open Go.RowKit
set_option maxRecDepth 100000 in
set_option maxHeartbeats 4000000 in
theorem racc_yes (root : Bs) (at_ : Int) (X : Rn) (index count : Nat) (size : Int) (path : List Bs) (PA : Option Addr) (pn pc : Nat) (w : World) (h0 : 0 ≤ X.lo) (h1 : X.lo ≤ at_) (h2 : at_ < X.hi) (h3 : X.hi ≤ size) (h4 : size ≤ 1099511627776) (h5 : ¬ X.tag < 0) (h6 : ¬ 16 ≤ X.tag) (h7 : 0 ≤ (index : Int)) (h8 : (index : Int) < (count : Int)) (h9 : (count : Int) ≤ 4096) (b1 b2 : Bool) (ha : (X.lo == 0) = b1) (hb : ((index : Int) == 0) = b1) (hc : (X.hi == size) = b2) (hd : ((index : Int) == (count : Int) - 1) = b2) (hr : root.length = 32) (hs : Hs w PA path) (hpn : path.length = pn) (hpc : pn ≤ pc) (hp5 : pn ≤ 5000)
    (R : Bs × Nat × Bool) (hR : foldR count index [textM X] path = R) : Calls Tryd.prog 22 #[wordsV, hashV root, .int .i64 at_, claim1V X index count size PA pn pc] w fun e w' => e = .returned (if (R.2.2 && R.2.1 == pn && root == sealM size count R.1) = true then .tuple #[.int .i64 X.tag, .bool true] else .tuple #[.int .i64 0, .bool false]) ∧ Below w.heap.size w w' := by
  have r32 := foldR_32 count count index [textM X] path (Nat.le_refl _) hs.1
  have txl : (textM X).length ≤ 90000 := by rw [textM_length]; omega
  have p1 := fun g W (hS : Strs W (some ⟨g, 0, none⟩) [textM X]) (hs : Hs W PA path) => rfold_any count index [textM X] path (some ⟨g, 0, none⟩) PA 1 1 pn pc W (by omega) (by omega) (by omega) (by omega) rfl (by omega) (by omega) hpn hpc hp5 (by simpa using txl) hS hs
  rw [hR] at r32 p1
  have hlf := fun W => rleaf_any X W (by omega) (by omega) (by omega) (by omega) (by omega) (by omega)
  unfold encR at hlf
  obtain ⟨x1, u, ok⟩ := R
  obtain ⟨la, lu⟩ := r32
  simp only at la lu ⊢
  have hmp := fun W => rmap_any size count x1 W (by omega) (by omega) (by omega) (by omega) la
  have sl : (sealM size count x1).length = 32 := sha_length _
  generalize sealM size count x1 = y at *
  obtain ⟨b3, hb3⟩ : ∃ b, (root == y) = b := ⟨_, rfl⟩
  rw [hb3]
  have he := fun W => eq_hash hr sl b3 hb3 W
  generalize textM X = tx at *
  have hw : IntKind.i64.wrap ((count : Int) - 1) = count - 1 := IntWalk.i64_in _ (by omega)
  obtain ⟨w0, hW0⟩ : ∃ w0, World.alloc (World.alloc (w.alloc (.cells (ints .u32 wordsL) 27)) (.cells (cellsB root).toArray 30)) (.cells #[.int .i64 X.lo, .int .i64 X.hi, .int .i64 X.tag, .int .i64 (index : Int), .int .i64 (count : Int), .int .i64 size, .slice PA pn pc] 37) = w0 := ⟨_, rfl⟩
  have B0 : Below w.heap.size w w0 := hW0 ▸ Below.on (Below.on (Below.new1 _ _) (Below.new1 _ _)) (Below.new1 _ _)
  have y4 : BoxW w0 w.heap.size := hW0 ▸ ((BoxW.new w).next (Below.new1 _ _)).next (Below.new1 _ _)
  have y5 : BoxH w0 (w.heap.size + 1) root := by
    have := (BoxH.new (w.alloc (.cells (ints .u32 wordsL) 27)) root).next (Below.new1 _ (.cells #[.int .i64 X.lo, .int .i64 X.hi, .int .i64 X.tag, .int .i64 (index : Int), .int .i64 (count : Int), .int .i64 size, .slice PA pn pc] 37))
    rw [World.size_alloc] at this; exact hW0 ▸ this
  have x7 : w0.heap[w.heap.size + 1 + 1]? = some (.cells #[.int .i64 X.lo, .int .i64 X.hi, .int .i64 X.tag, .int .i64 (index : Int), .int .i64 (count : Int), .int .i64 size, .slice PA pn pc] 37 (0, 0)) := by
    have := heap_alloc_new ((w.alloc (.cells (ints .u32 wordsL) 27)).alloc (.cells (cellsB root).toArray 30)) (.cells #[.int .i64 X.lo, .int .i64 X.hi, .int .i64 X.tag, .int .i64 (index : Int), .int .i64 (count : Int), .int .i64 size, .slice PA pn pc] 37)
    rw [World.size_alloc, World.size_alloc] at this; exact hW0 ▸ this
  have z0 : w.heap.size + 1 + 1 < w0.heap.size := (Array.getElem?_eq_some_iff.1 x7).1
  have c0 : w0.cell? ⟨w.heap.size + 1 + 1, 0, none⟩ = some (.int .i64 X.lo) := (cell_of_row w0 _ 0 _ _ _ x7).trans rfl
  have c1 : w0.cell? ⟨w.heap.size + 1 + 1, 1, none⟩ = some (.int .i64 X.hi) := (cell_of_row w0 _ 1 _ _ _ x7).trans rfl
  have c2 : w0.cell? ⟨w.heap.size + 1 + 1, 2, none⟩ = some (.int .i64 X.tag) := (cell_of_row w0 _ 2 _ _ _ x7).trans rfl
  have c3 : w0.cell? ⟨w.heap.size + 1 + 1, 3, none⟩ = some (.int .i64 (index : Int)) := (cell_of_row w0 _ 3 _ _ _ x7).trans rfl
  have c4 : w0.cell? ⟨w.heap.size + 1 + 1, 4, none⟩ = some (.int .i64 (count : Int)) := (cell_of_row w0 _ 4 _ _ _ x7).trans rfl
  have c5 : w0.cell? ⟨w.heap.size + 1 + 1, 5, none⟩ = some (.int .i64 size) := (cell_of_row w0 _ 5 _ _ _ x7).trans rfl
  have c6 : w0.cell? ⟨w.heap.size + 1 + 1, 6, none⟩ = some (.slice PA pn pc) := (cell_of_row w0 _ 6 _ _ _ x7).trans rfl
  have hs0 := hs.next B0
  have P1 := Lib.hid p1
  have HLf := Lib.hid hlf
  have HMp := Lib.hid hmp
  have HE := Lib.hid he
  have HO := Lib.hid hW0
  clear p1 hlf hmp he hW0 x7 hs hR hb3 hpn
  have hbb1 : (b1 != b1) = false := by cases b1 <;> rfl
  have hbb2 : (b2 != b2) = false := by cases b2 <;> rfl
  all_goals
    go_enter Tryd.func22, Tryd.ntmps22
    go_upto_region 1 with (fail)
    change Code.wp _ _ _ _ (World.alloc (World.alloc (w.alloc (.cells (ints .u32 wordsL) 27)) (.cells (cellsB root).toArray 30)) (.cells #[.int .i64 X.lo, .int .i64 X.hi, .int .i64 X.tag, .int .i64 (index : Int), .int .i64 (count : Int), .int .i64 size, .slice PA pn pc] 37))
    rw [HO.out]
    clear HO
    go_upto_region 2 with (fail)
    simp only [List.append_eq, List.cons_append, List.nil_append]
    go_upto_region 4 with (fail)
    have d0 : (w0.alloc (.cells #[.int .i64 X.lo, .int .i64 X.hi, .int .i64 X.tag] 34)).cell? ⟨w0.heap.size, 0, none⟩ = some (.int .i64 X.lo) := (cell_of_row _ _ 0 _ _ _ (heap_alloc_new w0 _)).trans rfl
    have d1 : (w0.alloc (.cells #[.int .i64 X.lo, .int .i64 X.hi, .int .i64 X.tag] 34)).cell? ⟨w0.heap.size, 1, none⟩ = some (.int .i64 X.hi) := (cell_of_row _ _ 1 _ _ _ (heap_alloc_new w0 _)).trans rfl
    have d2 : (w0.alloc (.cells #[.int .i64 X.lo, .int .i64 X.hi, .int .i64 X.tag] 34)).cell? ⟨w0.heap.size, 2, none⟩ = some (.int .i64 X.tag) := (cell_of_row _ _ 2 _ _ _ (heap_alloc_new w0 _)).trans rfl
    have Bq : Below w0.heap.size w0 (w0.alloc (.cells #[.int .i64 X.lo, .int .i64 X.hi, .int .i64 X.tag] 34)) := Below.new1 _ _
    change Code.wp _ _ _ _ (w0.alloc (.cells #[.int .i64 X.lo, .int .i64 X.hi, .int .i64 X.tag] 34))
    have qz : w0.heap.size < (w0.alloc (.cells #[.int .i64 X.lo, .int .i64 X.hi, .int .i64 X.tag] 34)).heap.size := by rw [World.size_alloc]; omega
    generalize w0.alloc (.cells #[.int .i64 X.lo, .int .i64 X.hi, .int .i64 X.tag] 34) = w1 at *
    replace c0 := cell_kept Bq c0
    replace c3 := cell_kept Bq c3
    replace c4 := cell_kept Bq c4
    replace c5 := cell_kept Bq c5
    replace c6 := cell_kept Bq c6
    replace y4 := BoxA.next y4 Bq
    replace y5 := BoxA.next y5 Bq
    replace hs0 := hs0.next Bq
    replace B0 := Below.on B0 Bq
    clear Bq c1 c2 ha hb hc hd hw c0
    obtain ⟨g0, hg0⟩ : ∃ g, w0.heap.size = g := ⟨_, rfl⟩
    rw [hg0] at d0 d1 d2 qz ⊢
    refine wp_name fun a0 ha0 => ?_
    have e4 : a0.eval (.tmp 4) = .pointer (some ⟨w.heap.size, 0, none⟩) := by rw [ha0]; rfl
    have e7 : a0.eval (.tmp 7) = .pointer (some ⟨(w.heap.size + 1 + 1), 0, none⟩) := by rw [ha0]; rfl
    have e10 : a0.eval (.tmp 10) = .pointer (some ⟨g0, 0, none⟩) := by rw [ha0]; rfl
    have hz : a0.tmps.size = 132 := by rw [ha0]; rfl
    have HA0 := Lib.hid ha0
    clear ha0
    have SG : ∀ (d d' : Nat → Prop) (W W' : World), (fun (_ : Nat → Prop) (W : World) => Below w1.heap.size w1 W) d W → (∀ j, d j → d' j) → Below W.heap.size W W' → (fun (_ : Nat → Prop) (W : World) => Below w1.heap.size w1 W) d' W' := fun _ _ _ _ h _ b => Below.next h b
    refine wp_region_steps (Inv [96, 97, 98, 99, 100, 101, 102, 103, 104, 105, 106, 95, 107, 108, 109, 11, 12, 13] a0 (fun (_ : Nat → Prop) (W : World) => Below w1.heap.size w1 W) [(⟨some 0, 96, none, fun v _ => v = wordsV⟩ : Cl), ⟨some 1, 97, none, fun v _ => v = .pointer (some ⟨w.heap.size + 1 + 1, 4, none⟩)⟩, ⟨some 2, 98, none, fun v _ => v = .int .i64 (count : Int)⟩, ⟨some 3, 99, none, fun v _ => v = .pointer (some ⟨w.heap.size + 1 + 1, 3, none⟩)⟩, ⟨some 4, 100, none, fun v _ => v = .int .i64 (index : Int)⟩, ⟨some 5, 101, none, fun v _ => v = .agg #[.int .i64 X.lo, .int .i64 X.hi, .int .i64 X.tag]⟩, ⟨some 6, 102, none, fun v _ => v = .string ⟨tx.toArray⟩⟩, ⟨some 7, 103, some 16, fun v W => ∃ g, v = .slice (some ⟨g, 0, none⟩) 1 1 ∧ Strs W (some ⟨g, 0, none⟩) [tx]⟩, ⟨some 8, 104, none, fun v _ => v = .pointer (some ⟨w.heap.size + 1 + 1, 6, none⟩)⟩, ⟨some 9, 105, none, fun v _ => v = .slice PA pn pc⟩, ⟨some 10, 106, none, fun v _ => v = foldV (x1, u, ok)⟩, ⟨some 11, 95, none, fun v _ => v = foldV (x1, u, ok)⟩, ⟨some 12, 107, none, fun v _ => v = hashV x1⟩, ⟨some 13, 108, none, fun v _ => v = .int .i64 (u : Int)⟩, ⟨some 14, 109, none, fun v _ => v = .bool ok⟩, ⟨some 15, 11, some 16, fun v W => ∃ g, v = .pointer (some ⟨g, 0, none⟩) ∧ w1.heap.size ≤ g ∧ ∃ m, BoxA W g 30 .u8 m ∧ m.length = 32⟩, ⟨some 16, 11, none, fun v W => ∃ g, v = .pointer (some ⟨g, 0, none⟩) ∧ w1.heap.size ≤ g ∧ BoxH W g x1⟩, ⟨some 17, 12, none, fun v _ => v = .int .i64 (u : Int)⟩, ⟨some 18, 13, none, fun v _ => v = .bool ok⟩]) (by kernel_rfl) (by kernel_rfl) (Inv.start (Below.refl _ _).drew ⟨nofun, nofun, nofun, nofun, nofun, nofun, nofun, nofun, nofun, nofun, nofun, nofun, nofun, nofun, nofun, nofun, nofun, nofun, nofun, trivial⟩) ?_ ?_
    · have St : ∀ xc ∈ [(⟨some 0, 96, none, fun v _ => v = wordsV⟩ : Cl), ⟨some 1, 97, none, fun v _ => v = .pointer (some ⟨w.heap.size + 1 + 1, 4, none⟩)⟩, ⟨some 2, 98, none, fun v _ => v = .int .i64 (count : Int)⟩, ⟨some 3, 99, none, fun v _ => v = .pointer (some ⟨w.heap.size + 1 + 1, 3, none⟩)⟩, ⟨some 4, 100, none, fun v _ => v = .int .i64 (index : Int)⟩, ⟨some 5, 101, none, fun v _ => v = .agg #[.int .i64 X.lo, .int .i64 X.hi, .int .i64 X.tag]⟩, ⟨some 6, 102, none, fun v _ => v = .string ⟨tx.toArray⟩⟩, ⟨some 7, 103, some 16, fun v W => ∃ g, v = .slice (some ⟨g, 0, none⟩) 1 1 ∧ Strs W (some ⟨g, 0, none⟩) [tx]⟩, ⟨some 8, 104, none, fun v _ => v = .pointer (some ⟨w.heap.size + 1 + 1, 6, none⟩)⟩, ⟨some 9, 105, none, fun v _ => v = .slice PA pn pc⟩, ⟨some 10, 106, none, fun v _ => v = foldV (x1, u, ok)⟩, ⟨some 11, 95, none, fun v _ => v = foldV (x1, u, ok)⟩, ⟨some 12, 107, none, fun v _ => v = hashV x1⟩, ⟨some 13, 108, none, fun v _ => v = .int .i64 (u : Int)⟩, ⟨some 14, 109, none, fun v _ => v = .bool ok⟩, ⟨some 15, 11, some 16, fun v W => ∃ g, v = .pointer (some ⟨g, 0, none⟩) ∧ w1.heap.size ≤ g ∧ ∃ m, BoxA W g 30 .u8 m ∧ m.length = 32⟩, ⟨some 16, 11, none, fun v W => ∃ g, v = .pointer (some ⟨g, 0, none⟩) ∧ w1.heap.size ≤ g ∧ BoxH W g x1⟩, ⟨some 17, 12, none, fun v _ => v = .int .i64 (u : Int)⟩, ⟨some 18, 13, none, fun v _ => v = .bool ok⟩], Lasts xc := AllC.mem ⟨lastsV0 _ _ _ _, lastsV0 _ _ _ _, lastsV0 _ _ _ _, lastsV0 _ _ _ _, lastsV0 _ _ _ _, lastsV0 _ _ _ _, lastsV0 _ _ _ _, (fun _ _ _ h b => by obtain ⟨g, e, h1⟩ := h; exact ⟨g, e, h1.next b⟩), lastsV0 _ _ _ _, lastsV0 _ _ _ _, lastsV0 _ _ _ _, lastsV0 _ _ _ _, lastsV0 _ _ _ _, lastsV0 _ _ _ _, lastsV0 _ _ _ _, (fun _ _ _ h b => by obtain ⟨g, e, h1, m, h2, h3⟩ := h; exact ⟨g, e, h1, m, h2.next b, h3⟩), (fun _ _ _ h b => by obtain ⟨g, e, h1, h2⟩ := h; exact ⟨g, e, h1, BoxA.next h2 b⟩), lastsV0 _ _ _ _, lastsV0 _ _ _ _, trivial⟩
      clear HA0
      refine ⟨?_, ?_, ?_, ?_, ?_, ?_, ?_, ?_, ?_, ?_, ?_, ?_, ?_, ?_, ?_, ?_, ?_, ?_, ?_, trivial⟩
      · refine stepB rfl rfl (by decide) (by rw [hz]; decide) rfl rfl (by kernel_rfl) St SG fun d a W hF hG hH hn hcl hw => ?_
        have q4 := (hF.same 4 (by decide)).trans e4
        refine ⟨wordsV, W, ?_, Below.refl _ _, ?_⟩
        · exact exec_load rfl (by rw [q4]; exact BoxW.load (BoxA.next y4 hG))
        · rfl
      · refine stepB rfl rfl (by decide) (by rw [hz]; decide) rfl rfl (by kernel_rfl) St SG fun d a W hF hG hH hn hcl hw => ?_
        have q7 := (hF.same 7 (by decide)).trans e7
        refine ⟨.pointer (some ⟨w.heap.size + 1 + 1, 4, none⟩), W, ?_, Below.refl _ _, ?_⟩
        · clear hF hG hH hn hcl hw
          generalize a.eval = ρ at *
          go_simp
        · rfl
      · refine stepB rfl rfl (by decide) (by rw [hz]; decide) rfl rfl (by kernel_rfl) St SG fun d a W hF hG hH hn hcl hw => ?_
        have q97 : a.eval (.tmp 97) = .pointer (some ⟨w.heap.size + 1 + 1, 4, none⟩) := hH.at_ (i := 1) rfl (hw 1 rfl) id
        have c := cell_kept hG c4
        clear c3 c4 c5 c6 d0 d1 d2
        refine ⟨.int .i64 (count : Int), W, ?_, Below.refl _ _, ?_⟩
        · clear hF hG hH hn hcl hw
          generalize a.eval = ρ at *
          go_simp
        · rfl
      · refine stepB rfl rfl (by decide) (by rw [hz]; decide) rfl rfl (by kernel_rfl) St SG fun d a W hF hG hH hn hcl hw => ?_
        have q7 := (hF.same 7 (by decide)).trans e7
        refine ⟨.pointer (some ⟨w.heap.size + 1 + 1, 3, none⟩), W, ?_, Below.refl _ _, ?_⟩
        · clear hF hG hH hn hcl hw
          generalize a.eval = ρ at *
          go_simp
        · rfl
      · refine stepB rfl rfl (by decide) (by rw [hz]; decide) rfl rfl (by kernel_rfl) St SG fun d a W hF hG hH hn hcl hw => ?_
        have q99 : a.eval (.tmp 99) = .pointer (some ⟨w.heap.size + 1 + 1, 3, none⟩) := hH.at_ (i := 3) rfl (hw 3 rfl) id
        have c := cell_kept hG c3
        clear c3 c4 c5 c6 d0 d1 d2
        refine ⟨.int .i64 (index : Int), W, ?_, Below.refl _ _, ?_⟩
        · clear hF hG hH hn hcl hw
          generalize a.eval = ρ at *
          go_simp
        · rfl
      · refine stepB rfl rfl (by decide) (by rw [hz]; decide) rfl rfl (by kernel_rfl) St SG fun d a W hF hG hH hn hcl hw => ?_
        have q10 := (hF.same 10 (by decide)).trans e10
        have f0 := cell_kept hG d0
        have f1 := cell_kept hG d1
        have f2 := cell_kept hG d2
        clear c3 c4 c5 c6 d0 d1 d2
        refine ⟨.agg #[.int .i64 X.lo, .int .i64 X.hi, .int .i64 X.tag], W, ?_, Below.refl _ _, ?_⟩
        · clear hF hG hH hn hcl hw
          generalize a.eval = ρ at *
          go_simp
        · rfl
      · refine stepC rfl rfl (by decide) (by rw [hz]; decide) rfl rfl (by kernel_rfl) St SG fun d a W hF hG hH hn hcl hw => ?_
        have q101 : a.eval (.tmp 101) = .agg #[.int .i64 X.lo, .int .i64 X.hi, .int .i64 X.tag] := hH.at_ (i := 5) rfl (hw 5 rfl) id
        have qf : a.eval (.func 43) = .func (.func 43) #[] #[] := rfl
        refine ⟨43, #[.agg #[.int .i64 X.lo, .int .i64 X.hi, .int .i64 X.tag]], ?_, ?_⟩
        · clear hF hG hH hn hcl hw
          generalize a.eval = ρ at *
          go_simp
        · refine (HLf.out W).mono ?_; rintro e W' ⟨rfl, b⟩; exact ⟨_, rfl, b, rfl⟩
      · refine stepB rfl rfl (by decide) (by rw [hz]; decide) rfl rfl (by kernel_rfl) St SG fun d a W hF hG hH hn hcl hw => ?_
        have q102 : a.eval (.tmp 102) = .string ⟨tx.toArray⟩ := hH.at_ (i := 6) rfl (hw 6 rfl) id
        refine ⟨.slice (some ⟨W.heap.size, 0, none⟩) 1 1, W.alloc (.cells #[.string ⟨tx.toArray⟩] 9), ?_, Below.new1 W _, ?_⟩
        · clear hF hG hH hn hcl hw
          generalize a.eval = ρ at *
          go_simp
        · exact ⟨_, rfl, strs_one W tx⟩
      · refine stepB rfl rfl (by decide) (by rw [hz]; decide) rfl rfl (by kernel_rfl) St SG fun d a W hF hG hH hn hcl hw => ?_
        have q7 := (hF.same 7 (by decide)).trans e7
        refine ⟨.pointer (some ⟨w.heap.size + 1 + 1, 6, none⟩), W, ?_, Below.refl _ _, ?_⟩
        · clear hF hG hH hn hcl hw
          generalize a.eval = ρ at *
          go_simp
        · rfl
      · refine stepB rfl rfl (by decide) (by rw [hz]; decide) rfl rfl (by kernel_rfl) St SG fun d a W hF hG hH hn hcl hw => ?_
        have q104 : a.eval (.tmp 104) = .pointer (some ⟨w.heap.size + 1 + 1, 6, none⟩) := hH.at_ (i := 8) rfl (hw 8 rfl) id
        have c := cell_kept hG c6
        clear c3 c4 c5 c6 d0 d1 d2
        refine ⟨.slice PA pn pc, W, ?_, Below.refl _ _, ?_⟩
        · clear hF hG hH hn hcl hw
          generalize a.eval = ρ at *
          go_simp
        · rfl
      · refine stepC rfl rfl (by decide) (by rw [hz]; decide) rfl rfl (by kernel_rfl) St SG fun d a W hF hG hH hn hcl hw => ?_
        have q96 : a.eval (.tmp 96) = wordsV := hH.at_ (i := 0) rfl (hw 0 rfl) id
        have q98 : a.eval (.tmp 98) = .int .i64 (count : Int) := hH.at_ (i := 2) rfl (hw 2 rfl) id
        have q100 : a.eval (.tmp 100) = .int .i64 (index : Int) := hH.at_ (i := 4) rfl (hw 4 rfl) id
        have q103 : ∃ g, a.eval (.tmp 103) = .slice (some ⟨g, 0, none⟩) 1 1 ∧ Strs W (some ⟨g, 0, none⟩) [tx] := hH.at_ (i := 7) rfl (hw 7 rfl) (fun h => hn (hcl 11 _ 10 rfl rfl (hcl 12 _ 11 rfl rfl (hcl 16 _ 12 rfl rfl h))))
        have q105 : a.eval (.tmp 105) = .slice PA pn pc := hH.at_ (i := 9) rfl (hw 9 rfl) id
        have qf : a.eval (.func 42) = .func (.func 42) #[] #[] := rfl
        obtain ⟨g1, q103, hS1⟩ := q103
        refine ⟨42, #[wordsV, .int .i64 (count : Int), .int .i64 (index : Int), .slice (some ⟨g1, 0, none⟩) 1 1, .slice PA pn pc], ?_, ?_⟩
        · clear hF hG hH hn hcl hw
          generalize a.eval = ρ at *
          go_simp
        · refine (P1.out g1 W hS1 (hs0.next hG)).mono ?_; rintro e W' ⟨rfl, b⟩; exact ⟨_, rfl, b, rfl⟩
      · refine stepB rfl rfl (by decide) (by rw [hz]; decide) rfl rfl (by kernel_rfl) St SG fun d a W hF hG hH hn hcl hw => ?_
        have q106 : a.eval (.tmp 106) = foldV (x1, u, ok) := hH.at_ (i := 10) rfl (hw 10 rfl) id
        refine ⟨foldV (x1, u, ok), W, ?_, Below.refl _ _, ?_⟩
        · clear hF hG hH hn hcl hw
          generalize a.eval = ρ at *
          go_simp
        · rfl
      · refine stepB rfl rfl (by decide) (by rw [hz]; decide) rfl rfl (by kernel_rfl) St SG fun d a W hF hG hH hn hcl hw => ?_
        have q95 : a.eval (.tmp 95) = foldV (x1, u, ok) := hH.at_ (i := 11) rfl (hw 11 rfl) id
        refine ⟨hashV x1, W, ?_, Below.refl _ _, ?_⟩
        · clear hF hG hH hn hcl hw
          generalize a.eval = ρ at *
          go_simp
        · rfl
      · refine stepB rfl rfl (by decide) (by rw [hz]; decide) rfl rfl (by kernel_rfl) St SG fun d a W hF hG hH hn hcl hw => ?_
        have q95 : a.eval (.tmp 95) = foldV (x1, u, ok) := hH.at_ (i := 11) rfl (hw 11 rfl) id
        refine ⟨.int .i64 (u : Int), W, ?_, Below.refl _ _, ?_⟩
        · clear hF hG hH hn hcl hw
          generalize a.eval = ρ at *
          go_simp
        · rfl
      · refine stepB rfl rfl (by decide) (by rw [hz]; decide) rfl rfl (by kernel_rfl) St SG fun d a W hF hG hH hn hcl hw => ?_
        have q95 : a.eval (.tmp 95) = foldV (x1, u, ok) := hH.at_ (i := 11) rfl (hw 11 rfl) id
        refine ⟨.bool ok, W, ?_, Below.refl _ _, ?_⟩
        · clear hF hG hH hn hcl hw
          generalize a.eval = ρ at *
          go_simp
        · rfl
      · refine stepB rfl rfl (by decide) (by rw [hz]; decide) rfl rfl (by kernel_rfl) St SG fun d a W hF hG hH hn hcl hw => ?_
        refine ⟨.pointer (some ⟨W.heap.size, 0, none⟩), W.alloc (.cells (ints .u8 (List.replicate 32 0)) 30), ?_, Below.new1 W _, ?_⟩
        · (clear hF hG hH hn hcl hw; generalize a.eval = ρ at *; go_simp; rfl)
        · exact ⟨_, rfl, hG.size, _, BoxA.new W _ _ _ _ rfl, by simp⟩
      · refine stepN 11 (.tmp 107) rfl rfl rfl rfl rfl x1 la (w1.heap.size) (fun g W hg h => ⟨g, rfl, hg, h⟩) (AllC.mem ⟨.inr (.inr fun _ _ _ _ h => h), .inr (.inr fun _ _ _ _ h => h), .inr (.inr fun _ _ _ _ h => h), .inr (.inr fun _ _ _ _ h => h), .inr (.inr fun _ _ _ _ h => h), .inr (.inr fun _ _ _ _ h => h), .inr (.inr fun _ _ _ _ h => h), .inr (.inl rfl), .inr (.inr fun _ _ _ _ h => h), .inr (.inr fun _ _ _ _ h => h), .inr (.inr fun _ _ _ _ h => h), .inr (.inr fun _ _ _ _ h => h), .inr (.inr fun _ _ _ _ h => h), .inr (.inr fun _ _ _ _ h => h), .inr (.inr fun _ _ _ _ h => h), .inr (.inl rfl), .inl rfl, .inr (.inr fun _ _ _ _ h => h), .inr (.inr fun _ _ _ _ h => h), trivial⟩) (fun d d' W g hg h _ => below_setRow h hg _) fun d a W hF hG hH hn hcl hw => ?_
        have qy : a.eval (.tmp 107) = hashV x1 := hH.at_ (i := 12) rfl (hw 12 rfl) id
        exact ⟨qy, hH.at_ (i := 15) rfl (hw 15 rfl) hn⟩
      · refine stepB rfl rfl (by decide) (by rw [hz]; decide) rfl rfl (by kernel_rfl) St SG fun d a W hF hG hH hn hcl hw => ?_
        have q108 : a.eval (.tmp 108) = .int .i64 (u : Int) := hH.at_ (i := 13) rfl (hw 13 rfl) id
        refine ⟨.int .i64 (u : Int), W, ?_, Below.refl _ _, ?_⟩
        · clear hF hG hH hn hcl hw
          generalize a.eval = ρ at *
          go_simp
        · rfl
      · refine stepB rfl rfl (by decide) (by rw [hz]; decide) rfl rfl (by kernel_rfl) St SG fun d a W hF hG hH hn hcl hw => ?_
        have q109 : a.eval (.tmp 109) = .bool ok := hH.at_ (i := 14) rfl (hw 14 rfl) id
        refine ⟨.bool ok, W, ?_, Below.refl _ _, ?_⟩
        · clear hF hG hH hn hcl hw
          generalize a.eval = ρ at *
          go_simp
        · rfl
    · intro d a W ⟨hF, hB, hH⟩ hall
      have k12 : a.eval (.tmp 12) = .int .i64 (u : Int) := hH.at_ (i := 17) rfl (hall 17 (by decide)) id
      have k13 : a.eval (.tmp 13) = .bool ok := hH.at_ (i := 18) rfl (hall 18 (by decide)) id
      have s16 : ∃ g, a.eval (.tmp 11) = .pointer (some ⟨g, 0, none⟩) ∧ w1.heap.size ≤ g ∧ BoxH W g x1 := hH.at_ (i := 16) rfl (hall 16 (by decide)) id
      clear hH hall
      rw [hF.shape (by rw [hz]; decide)]
      clear hF
      simp only [List.foldl]
      generalize a.eval (.tmp 96) = z96 at *
      generalize a.eval (.tmp 97) = z97 at *
      generalize a.eval (.tmp 98) = z98 at *
      generalize a.eval (.tmp 99) = z99 at *
      generalize a.eval (.tmp 100) = z100 at *
      generalize a.eval (.tmp 101) = z101 at *
      generalize a.eval (.tmp 102) = z102 at *
      generalize a.eval (.tmp 103) = z103 at *
      generalize a.eval (.tmp 104) = z104 at *
      generalize a.eval (.tmp 105) = z105 at *
      generalize a.eval (.tmp 106) = z106 at *
      generalize a.eval (.tmp 95) = z95 at *
      generalize a.eval (.tmp 107) = z107 at *
      generalize a.eval (.tmp 108) = z108 at *
      generalize a.eval (.tmp 109) = z109 at *
      generalize a.eval (.tmp 11) = z11 at *
      generalize a.eval (.tmp 12) = z12 at *
      generalize a.eval (.tmp 13) = z13 at *
      subst k12
      subst k13
      rw [HA0.out]
      simp only [Act.put, List.setIfInBounds_toArray, List.set_cons_zero, List.set_cons_succ]
      clear hz HA0 SG e4 e7 e10
      clear a a0
      obtain ⟨g, rfl, hg, y11⟩ := s16
      have B2 := Below.on B0 hB
      replace c4 := cell_kept hB c4
      replace c5 := cell_kept hB c5
      replace c6 := cell_kept hB c6
      replace d2 := cell_kept hB d2
      replace y4 := BoxA.next y4 hB
      replace y5 := BoxA.next y5 hB
      clear hB d0 d1 c3 hs0 P1 HLf B0
      have he := HE.out
      clear HE
      generalize W = w5 at *
      have hcc : ok = false ∨ (ok = true ∧ ¬ u = pn) ∨ (ok = true ∧ u = pn ∧ b3 = false) ∨ (ok = true ∧ u = pn ∧ b3 = true) := by
        cases ok <;> cases b3 <;> simp <;> omega
      rcases hcc with rfl | ⟨rfl, hu⟩ | ⟨rfl, rfl, rfl⟩ | ⟨rfl, rfl, rfl⟩
      · go_upto_region 5 with (fail)
        refine wp_name fun a0 ha0 => ?_
        have e4 : a0.eval (.tmp 4) = .pointer (some ⟨w.heap.size, 0, none⟩) := by rw [ha0]; rfl
        have e5 : a0.eval (.tmp 5) = .pointer (some ⟨(w.heap.size + 1), 0, none⟩) := by rw [ha0]; rfl
        have e7 : a0.eval (.tmp 7) = .pointer (some ⟨(w.heap.size + 1 + 1), 0, none⟩) := by rw [ha0]; rfl
        have e11 : a0.eval (.tmp 11) = .pointer (some ⟨g, 0, none⟩) := by rw [ha0]; rfl
        have e12 : a0.eval (.tmp 12) = .int .i64 (u : Int) := by rw [ha0]; rfl
        have e13 : a0.eval (.tmp 13) = .bool false := by rw [ha0]; rfl
        have hz : a0.tmps.size = 132 := by rw [ha0]; rfl
        have HA0 := Lib.hid ha0
        clear ha0
        have SG : ∀ (d d' : Nat → Prop) (W W' : World), (fun (_ : Nat → Prop) (W : World) => Below w5.heap.size w5 W) d W → (∀ j, d j → d' j) → Below W.heap.size W W' → (fun (_ : Nat → Prop) (W : World) => Below w5.heap.size w5 W) d' W' := fun _ _ _ _ h _ b => Below.next h b
        refine wp_region_guards (Inv [110, 111, 112, 113, 114, 115, 116, 117, 118, 119, 120, 121, 122, 123, 124, 125, 126, 127, 128, 129] a0 (fun (_ : Nat → Prop) (W : World) => Below w5.heap.size w5 W) [(⟨some 0, 110, none, fun v _ => v = .bool false⟩ : Cl), ⟨some 1, 111, none, fun v _ => v = .bool true⟩, ⟨some 2, 112, none, fun v _ => v = .bool true⟩, ⟨some 3, 113, none, fun v _ => v = undef⟩, ⟨some 4, 114, none, fun v _ => v = undef⟩, ⟨some 5, 115, none, fun v _ => v = undef⟩, ⟨some 6, 116, none, fun v _ => v = undef⟩, ⟨some 7, 117, none, fun v _ => v = undef⟩, ⟨some 8, 118, none, fun v _ => v = .bool true⟩, ⟨some 9, 119, none, fun v _ => v = .bool true⟩, ⟨some 10, 120, none, fun v _ => v = undef⟩, ⟨some 11, 121, none, fun v _ => v = undef⟩, ⟨some 12, 122, none, fun v _ => v = undef⟩, ⟨some 13, 123, none, fun v _ => v = undef⟩, ⟨some 14, 124, none, fun v _ => v = undef⟩, ⟨some 15, 125, none, fun v _ => v = undef⟩, ⟨some 16, 126, none, fun v _ => v = undef⟩, ⟨some 17, 127, none, fun v _ => v = undef⟩, ⟨some 18, 128, none, fun v _ => v = undef⟩, ⟨some 19, 129, none, fun v _ => v = .bool true⟩]) (by kernel_rfl) (by kernel_rfl) (Inv.start (Below.refl _ _).drew ⟨nofun, nofun, nofun, nofun, nofun, nofun, nofun, nofun, nofun, nofun, nofun, nofun, nofun, nofun, nofun, nofun, nofun, nofun, nofun, nofun, trivial⟩) ?_ ?_
        · have St : ∀ xc ∈ [(⟨some 0, 110, none, fun v _ => v = .bool false⟩ : Cl), ⟨some 1, 111, none, fun v _ => v = .bool true⟩, ⟨some 2, 112, none, fun v _ => v = .bool true⟩, ⟨some 3, 113, none, fun v _ => v = undef⟩, ⟨some 4, 114, none, fun v _ => v = undef⟩, ⟨some 5, 115, none, fun v _ => v = undef⟩, ⟨some 6, 116, none, fun v _ => v = undef⟩, ⟨some 7, 117, none, fun v _ => v = undef⟩, ⟨some 8, 118, none, fun v _ => v = .bool true⟩, ⟨some 9, 119, none, fun v _ => v = .bool true⟩, ⟨some 10, 120, none, fun v _ => v = undef⟩, ⟨some 11, 121, none, fun v _ => v = undef⟩, ⟨some 12, 122, none, fun v _ => v = undef⟩, ⟨some 13, 123, none, fun v _ => v = undef⟩, ⟨some 14, 124, none, fun v _ => v = undef⟩, ⟨some 15, 125, none, fun v _ => v = undef⟩, ⟨some 16, 126, none, fun v _ => v = undef⟩, ⟨some 17, 127, none, fun v _ => v = undef⟩, ⟨some 18, 128, none, fun v _ => v = undef⟩, ⟨some 19, 129, none, fun v _ => v = .bool true⟩], Lasts xc := AllC.mem ⟨lastsV0 _ _ _ _, lastsV0 _ _ _ _, lastsV0 _ _ _ _, lastsV0 _ _ _ _, lastsV0 _ _ _ _, lastsV0 _ _ _ _, lastsV0 _ _ _ _, lastsV0 _ _ _ _, lastsV0 _ _ _ _, lastsV0 _ _ _ _, lastsV0 _ _ _ _, lastsV0 _ _ _ _, lastsV0 _ _ _ _, lastsV0 _ _ _ _, lastsV0 _ _ _ _, lastsV0 _ _ _ _, lastsV0 _ _ _ _, lastsV0 _ _ _ _, lastsV0 _ _ _ _, lastsV0 _ _ _ _, trivial⟩
          clear HA0
          refine ⟨?_, ?_, ?_, ?_, ?_, ?_, ?_, ?_, ?_, ?_, ?_, ?_, ?_, ?_, ?_, ?_, ?_, ?_, ?_, ?_, trivial⟩
          · refine StepG.of ?_
            refine stepB rfl rfl (by decide) (by rw [hz]; decide) rfl rfl (by kernel_rfl) St SG fun d a W hF hG hH hn hcl hw => ?_
            have q13 := (hF.same 13 (by decide)).trans e13
            refine ⟨.bool false, W, ?_, Below.refl _ _, ?_⟩
            · clear hF hG hH hn hcl hw
              generalize a.eval = ρ at *
              go_simp
            · rfl
          · refine StepG.of ?_
            refine stepB rfl rfl (by decide) (by rw [hz]; decide) rfl rfl (by kernel_rfl) St SG fun d a W hF hG hH hn hcl hw => ?_
            have q110 : a.eval (.tmp 110) = .bool false := hH.at_ (i := 0) rfl (hw 0 rfl) id
            refine ⟨.bool true, W, ?_, Below.refl _ _, ?_⟩
            · clear hF hG hH hn hcl hw
              generalize a.eval = ρ at *
              go_simp
            · rfl
          · refine StepG.of ?_
            refine stepB rfl rfl (by decide) (by rw [hz]; decide) rfl rfl (by kernel_rfl) St SG fun d a W hF hG hH hn hcl hw => ?_
            have q111 : a.eval (.tmp 111) = .bool true := hH.at_ (i := 1) rfl (hw 1 rfl) id
            refine ⟨.bool true, W, ?_, Below.refl _ _, ?_⟩
            · clear hF hG hH hn hcl hw
              generalize a.eval = ρ at *
              go_simp
            · rfl
          · exact step_off rfl rfl (by decide) (by rw [hz]; decide) rfl rfl (by kernel_rfl) (fun _ => rfl) SG (fun d a W hI hw => yielded_of rfl (hI.2.2.at_ (i := 2) rfl (hw 2 rfl) id))
          · exact step_off rfl rfl (by decide) (by rw [hz]; decide) rfl rfl (by kernel_rfl) (fun _ => rfl) SG (fun d a W hI hw => yielded_of rfl (hI.2.2.at_ (i := 2) rfl (hw 2 rfl) id))
          · exact step_off rfl rfl (by decide) (by rw [hz]; decide) rfl rfl (by kernel_rfl) (fun _ => rfl) SG (fun d a W hI hw => yielded_of rfl (hI.2.2.at_ (i := 2) rfl (hw 2 rfl) id))
          · exact step_off rfl rfl (by decide) (by rw [hz]; decide) rfl rfl (by kernel_rfl) (fun _ => rfl) SG (fun d a W hI hw => yielded_of rfl (hI.2.2.at_ (i := 2) rfl (hw 2 rfl) id))
          · exact step_off rfl rfl (by decide) (by rw [hz]; decide) rfl rfl (by kernel_rfl) (fun _ => rfl) SG (fun d a W hI hw => yielded_of rfl (hI.2.2.at_ (i := 2) rfl (hw 2 rfl) id))
          · refine StepG.of ?_
            refine stepB rfl rfl (by decide) (by rw [hz]; decide) rfl rfl (by kernel_rfl) St SG fun d a W hF hG hH hn hcl hw => ?_
            have q112 : a.eval (.tmp 112) = .bool true := hH.at_ (i := 2) rfl (hw 2 rfl) id
            have q117 : a.eval (.tmp 117) = undef := hH.at_ (i := 7) rfl (hw 7 rfl) id
            have qk0 : a.eval (.const (.bool true)) = .bool true := rfl
            refine ⟨.bool true, W, ?_, Below.refl _ _, ?_⟩
            · clear hF hG hH hn hcl hw
              generalize a.eval = ρ at *
              go_simp
            · rfl
          · refine StepG.of ?_
            refine stepB rfl rfl (by decide) (by rw [hz]; decide) rfl rfl (by kernel_rfl) St SG fun d a W hF hG hH hn hcl hw => ?_
            have q118 : a.eval (.tmp 118) = .bool true := hH.at_ (i := 8) rfl (hw 8 rfl) id
            refine ⟨.bool true, W, ?_, Below.refl _ _, ?_⟩
            · clear hF hG hH hn hcl hw
              generalize a.eval = ρ at *
              go_simp
            · rfl
          · exact step_off rfl rfl (by decide) (by rw [hz]; decide) rfl rfl (by kernel_rfl) (fun _ => rfl) SG (fun d a W hI hw => yielded_of rfl (hI.2.2.at_ (i := 9) rfl (hw 9 rfl) id))
          · exact step_off rfl rfl (by decide) (by rw [hz]; decide) rfl rfl (by kernel_rfl) (fun _ => rfl) SG (fun d a W hI hw => yielded_of rfl (hI.2.2.at_ (i := 9) rfl (hw 9 rfl) id))
          · exact step_off rfl rfl (by decide) (by rw [hz]; decide) rfl rfl (by kernel_rfl) (fun _ => rfl) SG (fun d a W hI hw => yielded_of rfl (hI.2.2.at_ (i := 9) rfl (hw 9 rfl) id))
          · exact step_off rfl rfl (by decide) (by rw [hz]; decide) rfl rfl (by kernel_rfl) (fun _ => rfl) SG (fun d a W hI hw => yielded_of rfl (hI.2.2.at_ (i := 9) rfl (hw 9 rfl) id))
          · exact step_off rfl rfl (by decide) (by rw [hz]; decide) rfl rfl (by kernel_rfl) (fun _ => rfl) SG (fun d a W hI hw => yielded_of rfl (hI.2.2.at_ (i := 9) rfl (hw 9 rfl) id))
          · exact step_off rfl rfl (by decide) (by rw [hz]; decide) rfl rfl (by kernel_rfl) (fun _ => rfl) SG (fun d a W hI hw => yielded_of rfl (hI.2.2.at_ (i := 9) rfl (hw 9 rfl) id))
          · exact step_off rfl rfl (by decide) (by rw [hz]; decide) rfl rfl (by kernel_rfl) (fun _ => rfl) SG (fun d a W hI hw => yielded_of rfl (hI.2.2.at_ (i := 9) rfl (hw 9 rfl) id))
          · exact step_off rfl rfl (by decide) (by rw [hz]; decide) rfl rfl (by kernel_rfl) (fun _ => rfl) SG (fun d a W hI hw => yielded_of rfl (hI.2.2.at_ (i := 9) rfl (hw 9 rfl) id))
          · exact step_off rfl rfl (by decide) (by rw [hz]; decide) rfl rfl (by kernel_rfl) (fun _ => rfl) SG (fun d a W hI hw => yielded_of rfl (hI.2.2.at_ (i := 9) rfl (hw 9 rfl) id))
          · refine StepG.of ?_
            refine stepB rfl rfl (by decide) (by rw [hz]; decide) rfl rfl (by kernel_rfl) St SG fun d a W hF hG hH hn hcl hw => ?_
            have q119 : a.eval (.tmp 119) = .bool true := hH.at_ (i := 9) rfl (hw 9 rfl) id
            have q128 : a.eval (.tmp 128) = undef := hH.at_ (i := 18) rfl (hw 18 rfl) id
            have qk0 : a.eval (.const (.bool true)) = .bool true := rfl
            refine ⟨.bool true, W, ?_, Below.refl _ _, ?_⟩
            · clear hF hG hH hn hcl hw
              generalize a.eval = ρ at *
              go_simp
            · rfl
        · intro d a W ⟨hF, hB, hH⟩ hall
          have k129 : a.eval (.tmp 129) = .bool true := hH.at_ (i := 19) rfl (hall 19 (by decide)) id
          clear hH hall
          rw [hF.shape (by rw [hz]; decide)]
          clear hF
          simp only [List.foldl]
          generalize a.eval (.tmp 110) = z110 at *
          generalize a.eval (.tmp 111) = z111 at *
          generalize a.eval (.tmp 112) = z112 at *
          generalize a.eval (.tmp 113) = z113 at *
          generalize a.eval (.tmp 114) = z114 at *
          generalize a.eval (.tmp 115) = z115 at *
          generalize a.eval (.tmp 116) = z116 at *
          generalize a.eval (.tmp 117) = z117 at *
          generalize a.eval (.tmp 118) = z118 at *
          generalize a.eval (.tmp 119) = z119 at *
          generalize a.eval (.tmp 120) = z120 at *
          generalize a.eval (.tmp 121) = z121 at *
          generalize a.eval (.tmp 122) = z122 at *
          generalize a.eval (.tmp 123) = z123 at *
          generalize a.eval (.tmp 124) = z124 at *
          generalize a.eval (.tmp 125) = z125 at *
          generalize a.eval (.tmp 126) = z126 at *
          generalize a.eval (.tmp 127) = z127 at *
          generalize a.eval (.tmp 128) = z128 at *
          generalize a.eval (.tmp 129) = z129 at *
          subst k129
          rw [HA0.out]
          simp only [Act.put, List.setIfInBounds_toArray, List.set_cons_zero, List.set_cons_succ]
          clear hz HA0 SG e4 e5 e7 e11 e12 e13
          clear a a0
          replace d2 := cell_kept hB d2
          go_wp2_with (fail)
          go_ret2
          exact ⟨by simp, Below.on B2 hB⟩
      · go_upto_region 5 with (fail)
        refine wp_name fun a0 ha0 => ?_
        have e4 : a0.eval (.tmp 4) = .pointer (some ⟨w.heap.size, 0, none⟩) := by rw [ha0]; rfl
        have e5 : a0.eval (.tmp 5) = .pointer (some ⟨(w.heap.size + 1), 0, none⟩) := by rw [ha0]; rfl
        have e7 : a0.eval (.tmp 7) = .pointer (some ⟨(w.heap.size + 1 + 1), 0, none⟩) := by rw [ha0]; rfl
        have e11 : a0.eval (.tmp 11) = .pointer (some ⟨g, 0, none⟩) := by rw [ha0]; rfl
        have e12 : a0.eval (.tmp 12) = .int .i64 (u : Int) := by rw [ha0]; rfl
        have e13 : a0.eval (.tmp 13) = .bool true := by rw [ha0]; rfl
        have hz : a0.tmps.size = 132 := by rw [ha0]; rfl
        have HA0 := Lib.hid ha0
        clear ha0
        have SG : ∀ (d d' : Nat → Prop) (W W' : World), (fun (_ : Nat → Prop) (W : World) => Below w5.heap.size w5 W) d W → (∀ j, d j → d' j) → Below W.heap.size W W' → (fun (_ : Nat → Prop) (W : World) => Below w5.heap.size w5 W) d' W' := fun _ _ _ _ h _ b => Below.next h b
        refine wp_region_guards (Inv [110, 111, 112, 113, 114, 115, 116, 117, 118, 119, 120, 121, 122, 123, 124, 125, 126, 127, 128, 129] a0 (fun (_ : Nat → Prop) (W : World) => Below w5.heap.size w5 W) [(⟨some 0, 110, none, fun v _ => v = .bool true⟩ : Cl), ⟨some 1, 111, none, fun v _ => v = .bool false⟩, ⟨some 2, 112, none, fun v _ => v = .bool false⟩, ⟨some 3, 113, none, fun v _ => v = .int .i64 (u : Int)⟩, ⟨some 4, 114, none, fun v _ => v = .pointer (some ⟨w.heap.size + 1 + 1, 6, none⟩)⟩, ⟨some 5, 115, none, fun v _ => v = .slice PA pn pc⟩, ⟨some 6, 116, none, fun v _ => v = .int .i64 (pn : Int)⟩, ⟨some 7, 117, none, fun v _ => v = .bool true⟩, ⟨some 8, 118, none, fun v _ => v = .bool true⟩, ⟨some 9, 119, none, fun v _ => v = .bool true⟩, ⟨some 10, 120, none, fun v _ => v = undef⟩, ⟨some 11, 121, none, fun v _ => v = undef⟩, ⟨some 12, 122, none, fun v _ => v = undef⟩, ⟨some 13, 123, none, fun v _ => v = undef⟩, ⟨some 14, 124, none, fun v _ => v = undef⟩, ⟨some 15, 125, none, fun v _ => v = undef⟩, ⟨some 16, 126, none, fun v _ => v = undef⟩, ⟨some 17, 127, none, fun v _ => v = undef⟩, ⟨some 18, 128, none, fun v _ => v = undef⟩, ⟨some 19, 129, none, fun v _ => v = .bool true⟩]) (by kernel_rfl) (by kernel_rfl) (Inv.start (Below.refl _ _).drew ⟨nofun, nofun, nofun, nofun, nofun, nofun, nofun, nofun, nofun, nofun, nofun, nofun, nofun, nofun, nofun, nofun, nofun, nofun, nofun, nofun, trivial⟩) ?_ ?_
        · have St : ∀ xc ∈ [(⟨some 0, 110, none, fun v _ => v = .bool true⟩ : Cl), ⟨some 1, 111, none, fun v _ => v = .bool false⟩, ⟨some 2, 112, none, fun v _ => v = .bool false⟩, ⟨some 3, 113, none, fun v _ => v = .int .i64 (u : Int)⟩, ⟨some 4, 114, none, fun v _ => v = .pointer (some ⟨w.heap.size + 1 + 1, 6, none⟩)⟩, ⟨some 5, 115, none, fun v _ => v = .slice PA pn pc⟩, ⟨some 6, 116, none, fun v _ => v = .int .i64 (pn : Int)⟩, ⟨some 7, 117, none, fun v _ => v = .bool true⟩, ⟨some 8, 118, none, fun v _ => v = .bool true⟩, ⟨some 9, 119, none, fun v _ => v = .bool true⟩, ⟨some 10, 120, none, fun v _ => v = undef⟩, ⟨some 11, 121, none, fun v _ => v = undef⟩, ⟨some 12, 122, none, fun v _ => v = undef⟩, ⟨some 13, 123, none, fun v _ => v = undef⟩, ⟨some 14, 124, none, fun v _ => v = undef⟩, ⟨some 15, 125, none, fun v _ => v = undef⟩, ⟨some 16, 126, none, fun v _ => v = undef⟩, ⟨some 17, 127, none, fun v _ => v = undef⟩, ⟨some 18, 128, none, fun v _ => v = undef⟩, ⟨some 19, 129, none, fun v _ => v = .bool true⟩], Lasts xc := AllC.mem ⟨lastsV0 _ _ _ _, lastsV0 _ _ _ _, lastsV0 _ _ _ _, lastsV0 _ _ _ _, lastsV0 _ _ _ _, lastsV0 _ _ _ _, lastsV0 _ _ _ _, lastsV0 _ _ _ _, lastsV0 _ _ _ _, lastsV0 _ _ _ _, lastsV0 _ _ _ _, lastsV0 _ _ _ _, lastsV0 _ _ _ _, lastsV0 _ _ _ _, lastsV0 _ _ _ _, lastsV0 _ _ _ _, lastsV0 _ _ _ _, lastsV0 _ _ _ _, lastsV0 _ _ _ _, lastsV0 _ _ _ _, trivial⟩
          clear HA0
          refine ⟨?_, ?_, ?_, ?_, ?_, ?_, ?_, ?_, ?_, ?_, ?_, ?_, ?_, ?_, ?_, ?_, ?_, ?_, ?_, ?_, trivial⟩
          · refine StepG.of ?_
            refine stepB rfl rfl (by decide) (by rw [hz]; decide) rfl rfl (by kernel_rfl) St SG fun d a W hF hG hH hn hcl hw => ?_
            have q13 := (hF.same 13 (by decide)).trans e13
            refine ⟨.bool true, W, ?_, Below.refl _ _, ?_⟩
            · clear hF hG hH hn hcl hw
              generalize a.eval = ρ at *
              go_simp
            · rfl
          · refine StepG.of ?_
            refine stepB rfl rfl (by decide) (by rw [hz]; decide) rfl rfl (by kernel_rfl) St SG fun d a W hF hG hH hn hcl hw => ?_
            have q110 : a.eval (.tmp 110) = .bool true := hH.at_ (i := 0) rfl (hw 0 rfl) id
            refine ⟨.bool false, W, ?_, Below.refl _ _, ?_⟩
            · clear hF hG hH hn hcl hw
              generalize a.eval = ρ at *
              go_simp
            · rfl
          · refine StepG.of ?_
            refine stepB rfl rfl (by decide) (by rw [hz]; decide) rfl rfl (by kernel_rfl) St SG fun d a W hF hG hH hn hcl hw => ?_
            have q111 : a.eval (.tmp 111) = .bool false := hH.at_ (i := 1) rfl (hw 1 rfl) id
            refine ⟨.bool false, W, ?_, Below.refl _ _, ?_⟩
            · clear hF hG hH hn hcl hw
              generalize a.eval = ρ at *
              go_simp
            · rfl
          · refine StepG.on rfl (fun d a W hI hw => yielded_of rfl (hI.2.2.at_ (i := 2) rfl (hw 2 rfl) id)) ?_
            refine stepB rfl rfl (by decide) (by rw [hz]; decide) rfl rfl (by kernel_rfl) St SG fun d a W hF hG hH hn hcl hw => ?_
            have q12 := (hF.same 12 (by decide)).trans e12
            refine ⟨.int .i64 (u : Int), W, ?_, Below.refl _ _, ?_⟩
            · clear hF hG hH hn hcl hw
              generalize a.eval = ρ at *
              go_simp
            · rfl
          · refine StepG.on rfl (fun d a W hI hw => yielded_of rfl (hI.2.2.at_ (i := 2) rfl (hw 2 rfl) id)) ?_
            refine stepB rfl rfl (by decide) (by rw [hz]; decide) rfl rfl (by kernel_rfl) St SG fun d a W hF hG hH hn hcl hw => ?_
            have q7 := (hF.same 7 (by decide)).trans e7
            refine ⟨.pointer (some ⟨w.heap.size + 1 + 1, 6, none⟩), W, ?_, Below.refl _ _, ?_⟩
            · clear hF hG hH hn hcl hw
              generalize a.eval = ρ at *
              go_simp
            · rfl
          · refine StepG.on rfl (fun d a W hI hw => yielded_of rfl (hI.2.2.at_ (i := 2) rfl (hw 2 rfl) id)) ?_
            refine stepB rfl rfl (by decide) (by rw [hz]; decide) rfl rfl (by kernel_rfl) St SG fun d a W hF hG hH hn hcl hw => ?_
            have q114 : a.eval (.tmp 114) = .pointer (some ⟨w.heap.size + 1 + 1, 6, none⟩) := hH.at_ (i := 4) rfl (hw 4 rfl) id
            have c := cell_kept hG c6
            clear c4 c5 c6 d2
            refine ⟨.slice PA pn pc, W, ?_, Below.refl _ _, ?_⟩
            · clear hF hG hH hn hcl hw
              generalize a.eval = ρ at *
              go_simp
            · rfl
          · refine StepG.on rfl (fun d a W hI hw => yielded_of rfl (hI.2.2.at_ (i := 2) rfl (hw 2 rfl) id)) ?_
            refine stepB rfl rfl (by decide) (by rw [hz]; decide) rfl rfl (by kernel_rfl) St SG fun d a W hF hG hH hn hcl hw => ?_
            have q115 : a.eval (.tmp 115) = .slice PA pn pc := hH.at_ (i := 5) rfl (hw 5 rfl) id
            refine ⟨.int .i64 (pn : Int), W, ?_, Below.refl _ _, ?_⟩
            · clear hF hG hH hn hcl hw
              generalize a.eval = ρ at *
              go_simp
            · rfl
          · refine StepG.on rfl (fun d a W hI hw => yielded_of rfl (hI.2.2.at_ (i := 2) rfl (hw 2 rfl) id)) ?_
            refine stepB rfl rfl (by decide) (by rw [hz]; decide) rfl rfl (by kernel_rfl) St SG fun d a W hF hG hH hn hcl hw => ?_
            have q113 : a.eval (.tmp 113) = .int .i64 (u : Int) := hH.at_ (i := 3) rfl (hw 3 rfl) id
            have q116 : a.eval (.tmp 116) = .int .i64 (pn : Int) := hH.at_ (i := 6) rfl (hw 6 rfl) id
            have e : ((u : Int) != pn) = true := by simp; omega
            refine ⟨.bool true, W, ?_, Below.refl _ _, ?_⟩
            · clear hF hG hH hn hcl hw
              generalize a.eval = ρ at *
              go_simp
            · rfl
          · refine StepG.of ?_
            refine stepB rfl rfl (by decide) (by rw [hz]; decide) rfl rfl (by kernel_rfl) St SG fun d a W hF hG hH hn hcl hw => ?_
            have q112 : a.eval (.tmp 112) = .bool false := hH.at_ (i := 2) rfl (hw 2 rfl) id
            have q117 : a.eval (.tmp 117) = .bool true := hH.at_ (i := 7) rfl (hw 7 rfl) id
            have qk0 : a.eval (.const (.bool true)) = .bool true := rfl
            refine ⟨.bool true, W, ?_, Below.refl _ _, ?_⟩
            · clear hF hG hH hn hcl hw
              generalize a.eval = ρ at *
              go_simp
            · rfl
          · refine StepG.of ?_
            refine stepB rfl rfl (by decide) (by rw [hz]; decide) rfl rfl (by kernel_rfl) St SG fun d a W hF hG hH hn hcl hw => ?_
            have q118 : a.eval (.tmp 118) = .bool true := hH.at_ (i := 8) rfl (hw 8 rfl) id
            refine ⟨.bool true, W, ?_, Below.refl _ _, ?_⟩
            · clear hF hG hH hn hcl hw
              generalize a.eval = ρ at *
              go_simp
            · rfl
          · exact step_off rfl rfl (by decide) (by rw [hz]; decide) rfl rfl (by kernel_rfl) (fun _ => rfl) SG (fun d a W hI hw => yielded_of rfl (hI.2.2.at_ (i := 9) rfl (hw 9 rfl) id))
          · exact step_off rfl rfl (by decide) (by rw [hz]; decide) rfl rfl (by kernel_rfl) (fun _ => rfl) SG (fun d a W hI hw => yielded_of rfl (hI.2.2.at_ (i := 9) rfl (hw 9 rfl) id))
          · exact step_off rfl rfl (by decide) (by rw [hz]; decide) rfl rfl (by kernel_rfl) (fun _ => rfl) SG (fun d a W hI hw => yielded_of rfl (hI.2.2.at_ (i := 9) rfl (hw 9 rfl) id))
          · exact step_off rfl rfl (by decide) (by rw [hz]; decide) rfl rfl (by kernel_rfl) (fun _ => rfl) SG (fun d a W hI hw => yielded_of rfl (hI.2.2.at_ (i := 9) rfl (hw 9 rfl) id))
          · exact step_off rfl rfl (by decide) (by rw [hz]; decide) rfl rfl (by kernel_rfl) (fun _ => rfl) SG (fun d a W hI hw => yielded_of rfl (hI.2.2.at_ (i := 9) rfl (hw 9 rfl) id))
          · exact step_off rfl rfl (by decide) (by rw [hz]; decide) rfl rfl (by kernel_rfl) (fun _ => rfl) SG (fun d a W hI hw => yielded_of rfl (hI.2.2.at_ (i := 9) rfl (hw 9 rfl) id))
          · exact step_off rfl rfl (by decide) (by rw [hz]; decide) rfl rfl (by kernel_rfl) (fun _ => rfl) SG (fun d a W hI hw => yielded_of rfl (hI.2.2.at_ (i := 9) rfl (hw 9 rfl) id))
          · exact step_off rfl rfl (by decide) (by rw [hz]; decide) rfl rfl (by kernel_rfl) (fun _ => rfl) SG (fun d a W hI hw => yielded_of rfl (hI.2.2.at_ (i := 9) rfl (hw 9 rfl) id))
          · exact step_off rfl rfl (by decide) (by rw [hz]; decide) rfl rfl (by kernel_rfl) (fun _ => rfl) SG (fun d a W hI hw => yielded_of rfl (hI.2.2.at_ (i := 9) rfl (hw 9 rfl) id))
          · refine StepG.of ?_
            refine stepB rfl rfl (by decide) (by rw [hz]; decide) rfl rfl (by kernel_rfl) St SG fun d a W hF hG hH hn hcl hw => ?_
            have q119 : a.eval (.tmp 119) = .bool true := hH.at_ (i := 9) rfl (hw 9 rfl) id
            have q128 : a.eval (.tmp 128) = undef := hH.at_ (i := 18) rfl (hw 18 rfl) id
            have qk0 : a.eval (.const (.bool true)) = .bool true := rfl
            refine ⟨.bool true, W, ?_, Below.refl _ _, ?_⟩
            · clear hF hG hH hn hcl hw
              generalize a.eval = ρ at *
              go_simp
            · rfl
        · intro d a W ⟨hF, hB, hH⟩ hall
          have k129 : a.eval (.tmp 129) = .bool true := hH.at_ (i := 19) rfl (hall 19 (by decide)) id
          clear hH hall
          rw [hF.shape (by rw [hz]; decide)]
          clear hF
          simp only [List.foldl]
          generalize a.eval (.tmp 110) = z110 at *
          generalize a.eval (.tmp 111) = z111 at *
          generalize a.eval (.tmp 112) = z112 at *
          generalize a.eval (.tmp 113) = z113 at *
          generalize a.eval (.tmp 114) = z114 at *
          generalize a.eval (.tmp 115) = z115 at *
          generalize a.eval (.tmp 116) = z116 at *
          generalize a.eval (.tmp 117) = z117 at *
          generalize a.eval (.tmp 118) = z118 at *
          generalize a.eval (.tmp 119) = z119 at *
          generalize a.eval (.tmp 120) = z120 at *
          generalize a.eval (.tmp 121) = z121 at *
          generalize a.eval (.tmp 122) = z122 at *
          generalize a.eval (.tmp 123) = z123 at *
          generalize a.eval (.tmp 124) = z124 at *
          generalize a.eval (.tmp 125) = z125 at *
          generalize a.eval (.tmp 126) = z126 at *
          generalize a.eval (.tmp 127) = z127 at *
          generalize a.eval (.tmp 128) = z128 at *
          generalize a.eval (.tmp 129) = z129 at *
          subst k129
          rw [HA0.out]
          simp only [Act.put, List.setIfInBounds_toArray, List.set_cons_zero, List.set_cons_succ]
          clear hz HA0 SG e4 e5 e7 e11 e12 e13
          clear a a0
          replace d2 := cell_kept hB d2
          go_wp2_with (fail)
          go_ret2
          exact ⟨by simp, Below.on B2 hB⟩
      · go_upto_region 5 with (fail)
        refine wp_name fun a0 ha0 => ?_
        have e4 : a0.eval (.tmp 4) = .pointer (some ⟨w.heap.size, 0, none⟩) := by rw [ha0]; rfl
        have e5 : a0.eval (.tmp 5) = .pointer (some ⟨(w.heap.size + 1), 0, none⟩) := by rw [ha0]; rfl
        have e7 : a0.eval (.tmp 7) = .pointer (some ⟨(w.heap.size + 1 + 1), 0, none⟩) := by rw [ha0]; rfl
        have e11 : a0.eval (.tmp 11) = .pointer (some ⟨g, 0, none⟩) := by rw [ha0]; rfl
        have e12 : a0.eval (.tmp 12) = .int .i64 (u : Int) := by rw [ha0]; rfl
        have e13 : a0.eval (.tmp 13) = .bool true := by rw [ha0]; rfl
        have hz : a0.tmps.size = 132 := by rw [ha0]; rfl
        have HA0 := Lib.hid ha0
        clear ha0
        have SG : ∀ (d d' : Nat → Prop) (W W' : World), (fun (_ : Nat → Prop) (W : World) => Below w5.heap.size w5 W) d W → (∀ j, d j → d' j) → Below W.heap.size W W' → (fun (_ : Nat → Prop) (W : World) => Below w5.heap.size w5 W) d' W' := fun _ _ _ _ h _ b => Below.next h b
        refine wp_region_guards (Inv [110, 111, 112, 113, 114, 115, 116, 117, 118, 119, 120, 121, 122, 123, 124, 125, 126, 127, 128, 129] a0 (fun (_ : Nat → Prop) (W : World) => Below w5.heap.size w5 W) [(⟨some 0, 110, none, fun v _ => v = .bool true⟩ : Cl), ⟨some 1, 111, none, fun v _ => v = .bool false⟩, ⟨some 2, 112, none, fun v _ => v = .bool false⟩, ⟨some 3, 113, none, fun v _ => v = .int .i64 (u : Int)⟩, ⟨some 4, 114, none, fun v _ => v = .pointer (some ⟨w.heap.size + 1 + 1, 6, none⟩)⟩, ⟨some 5, 115, none, fun v _ => v = .slice PA u pc⟩, ⟨some 6, 116, none, fun v _ => v = .int .i64 (u : Int)⟩, ⟨some 7, 117, none, fun v _ => v = .bool false⟩, ⟨some 8, 118, none, fun v _ => v = .bool false⟩, ⟨some 9, 119, none, fun v _ => v = .bool false⟩, ⟨some 10, 120, none, fun v _ => v = hashV root⟩, ⟨some 11, 121, none, fun v _ => v = wordsV⟩, ⟨some 12, 122, none, fun v _ => v = .pointer (some ⟨w.heap.size + 1 + 1, 5, none⟩)⟩, ⟨some 13, 123, none, fun v _ => v = .int .i64 size⟩, ⟨some 14, 124, none, fun v _ => v = .pointer (some ⟨w.heap.size + 1 + 1, 4, none⟩)⟩, ⟨some 15, 125, none, fun v _ => v = .int .i64 (count : Int)⟩, ⟨some 16, 126, none, fun v _ => v = hashV x1⟩, ⟨some 17, 127, none, fun v _ => v = hashV y⟩, ⟨some 18, 128, none, fun v _ => v = .bool true⟩, ⟨some 19, 129, none, fun v _ => v = .bool true⟩]) (by kernel_rfl) (by kernel_rfl) (Inv.start (Below.refl _ _).drew ⟨nofun, nofun, nofun, nofun, nofun, nofun, nofun, nofun, nofun, nofun, nofun, nofun, nofun, nofun, nofun, nofun, nofun, nofun, nofun, nofun, trivial⟩) ?_ ?_
        · have St : ∀ xc ∈ [(⟨some 0, 110, none, fun v _ => v = .bool true⟩ : Cl), ⟨some 1, 111, none, fun v _ => v = .bool false⟩, ⟨some 2, 112, none, fun v _ => v = .bool false⟩, ⟨some 3, 113, none, fun v _ => v = .int .i64 (u : Int)⟩, ⟨some 4, 114, none, fun v _ => v = .pointer (some ⟨w.heap.size + 1 + 1, 6, none⟩)⟩, ⟨some 5, 115, none, fun v _ => v = .slice PA u pc⟩, ⟨some 6, 116, none, fun v _ => v = .int .i64 (u : Int)⟩, ⟨some 7, 117, none, fun v _ => v = .bool false⟩, ⟨some 8, 118, none, fun v _ => v = .bool false⟩, ⟨some 9, 119, none, fun v _ => v = .bool false⟩, ⟨some 10, 120, none, fun v _ => v = hashV root⟩, ⟨some 11, 121, none, fun v _ => v = wordsV⟩, ⟨some 12, 122, none, fun v _ => v = .pointer (some ⟨w.heap.size + 1 + 1, 5, none⟩)⟩, ⟨some 13, 123, none, fun v _ => v = .int .i64 size⟩, ⟨some 14, 124, none, fun v _ => v = .pointer (some ⟨w.heap.size + 1 + 1, 4, none⟩)⟩, ⟨some 15, 125, none, fun v _ => v = .int .i64 (count : Int)⟩, ⟨some 16, 126, none, fun v _ => v = hashV x1⟩, ⟨some 17, 127, none, fun v _ => v = hashV y⟩, ⟨some 18, 128, none, fun v _ => v = .bool true⟩, ⟨some 19, 129, none, fun v _ => v = .bool true⟩], Lasts xc := AllC.mem ⟨lastsV0 _ _ _ _, lastsV0 _ _ _ _, lastsV0 _ _ _ _, lastsV0 _ _ _ _, lastsV0 _ _ _ _, lastsV0 _ _ _ _, lastsV0 _ _ _ _, lastsV0 _ _ _ _, lastsV0 _ _ _ _, lastsV0 _ _ _ _, lastsV0 _ _ _ _, lastsV0 _ _ _ _, lastsV0 _ _ _ _, lastsV0 _ _ _ _, lastsV0 _ _ _ _, lastsV0 _ _ _ _, lastsV0 _ _ _ _, lastsV0 _ _ _ _, lastsV0 _ _ _ _, lastsV0 _ _ _ _, trivial⟩
          clear HA0
          refine ⟨?_, ?_, ?_, ?_, ?_, ?_, ?_, ?_, ?_, ?_, ?_, ?_, ?_, ?_, ?_, ?_, ?_, ?_, ?_, ?_, trivial⟩
          · refine StepG.of ?_
            refine stepB rfl rfl (by decide) (by rw [hz]; decide) rfl rfl (by kernel_rfl) St SG fun d a W hF hG hH hn hcl hw => ?_
            have q13 := (hF.same 13 (by decide)).trans e13
            refine ⟨.bool true, W, ?_, Below.refl _ _, ?_⟩
            · clear hF hG hH hn hcl hw
              generalize a.eval = ρ at *
              go_simp
            · rfl
          · refine StepG.of ?_
            refine stepB rfl rfl (by decide) (by rw [hz]; decide) rfl rfl (by kernel_rfl) St SG fun d a W hF hG hH hn hcl hw => ?_
            have q110 : a.eval (.tmp 110) = .bool true := hH.at_ (i := 0) rfl (hw 0 rfl) id
            refine ⟨.bool false, W, ?_, Below.refl _ _, ?_⟩
            · clear hF hG hH hn hcl hw
              generalize a.eval = ρ at *
              go_simp
            · rfl
          · refine StepG.of ?_
            refine stepB rfl rfl (by decide) (by rw [hz]; decide) rfl rfl (by kernel_rfl) St SG fun d a W hF hG hH hn hcl hw => ?_
            have q111 : a.eval (.tmp 111) = .bool false := hH.at_ (i := 1) rfl (hw 1 rfl) id
            refine ⟨.bool false, W, ?_, Below.refl _ _, ?_⟩
            · clear hF hG hH hn hcl hw
              generalize a.eval = ρ at *
              go_simp
            · rfl
          · refine StepG.on rfl (fun d a W hI hw => yielded_of rfl (hI.2.2.at_ (i := 2) rfl (hw 2 rfl) id)) ?_
            refine stepB rfl rfl (by decide) (by rw [hz]; decide) rfl rfl (by kernel_rfl) St SG fun d a W hF hG hH hn hcl hw => ?_
            have q12 := (hF.same 12 (by decide)).trans e12
            refine ⟨.int .i64 (u : Int), W, ?_, Below.refl _ _, ?_⟩
            · clear hF hG hH hn hcl hw
              generalize a.eval = ρ at *
              go_simp
            · rfl
          · refine StepG.on rfl (fun d a W hI hw => yielded_of rfl (hI.2.2.at_ (i := 2) rfl (hw 2 rfl) id)) ?_
            refine stepB rfl rfl (by decide) (by rw [hz]; decide) rfl rfl (by kernel_rfl) St SG fun d a W hF hG hH hn hcl hw => ?_
            have q7 := (hF.same 7 (by decide)).trans e7
            refine ⟨.pointer (some ⟨w.heap.size + 1 + 1, 6, none⟩), W, ?_, Below.refl _ _, ?_⟩
            · clear hF hG hH hn hcl hw
              generalize a.eval = ρ at *
              go_simp
            · rfl
          · refine StepG.on rfl (fun d a W hI hw => yielded_of rfl (hI.2.2.at_ (i := 2) rfl (hw 2 rfl) id)) ?_
            refine stepB rfl rfl (by decide) (by rw [hz]; decide) rfl rfl (by kernel_rfl) St SG fun d a W hF hG hH hn hcl hw => ?_
            have q114 : a.eval (.tmp 114) = .pointer (some ⟨w.heap.size + 1 + 1, 6, none⟩) := hH.at_ (i := 4) rfl (hw 4 rfl) id
            have c := cell_kept hG c6
            clear c4 c5 c6 d2
            refine ⟨.slice PA u pc, W, ?_, Below.refl _ _, ?_⟩
            · clear hF hG hH hn hcl hw
              generalize a.eval = ρ at *
              go_simp
            · rfl
          · refine StepG.on rfl (fun d a W hI hw => yielded_of rfl (hI.2.2.at_ (i := 2) rfl (hw 2 rfl) id)) ?_
            refine stepB rfl rfl (by decide) (by rw [hz]; decide) rfl rfl (by kernel_rfl) St SG fun d a W hF hG hH hn hcl hw => ?_
            have q115 : a.eval (.tmp 115) = .slice PA u pc := hH.at_ (i := 5) rfl (hw 5 rfl) id
            refine ⟨.int .i64 (u : Int), W, ?_, Below.refl _ _, ?_⟩
            · clear hF hG hH hn hcl hw
              generalize a.eval = ρ at *
              go_simp
            · rfl
          · refine StepG.on rfl (fun d a W hI hw => yielded_of rfl (hI.2.2.at_ (i := 2) rfl (hw 2 rfl) id)) ?_
            refine stepB rfl rfl (by decide) (by rw [hz]; decide) rfl rfl (by kernel_rfl) St SG fun d a W hF hG hH hn hcl hw => ?_
            have q113 : a.eval (.tmp 113) = .int .i64 (u : Int) := hH.at_ (i := 3) rfl (hw 3 rfl) id
            have q116 : a.eval (.tmp 116) = .int .i64 (u : Int) := hH.at_ (i := 6) rfl (hw 6 rfl) id
            refine ⟨.bool false, W, ?_, Below.refl _ _, ?_⟩
            · clear hF hG hH hn hcl hw
              generalize a.eval = ρ at *
              go_simp
            · rfl
          · refine StepG.of ?_
            refine stepB rfl rfl (by decide) (by rw [hz]; decide) rfl rfl (by kernel_rfl) St SG fun d a W hF hG hH hn hcl hw => ?_
            have q112 : a.eval (.tmp 112) = .bool false := hH.at_ (i := 2) rfl (hw 2 rfl) id
            have q117 : a.eval (.tmp 117) = .bool false := hH.at_ (i := 7) rfl (hw 7 rfl) id
            have qk0 : a.eval (.const (.bool true)) = .bool true := rfl
            refine ⟨.bool false, W, ?_, Below.refl _ _, ?_⟩
            · clear hF hG hH hn hcl hw
              generalize a.eval = ρ at *
              go_simp
            · rfl
          · refine StepG.of ?_
            refine stepB rfl rfl (by decide) (by rw [hz]; decide) rfl rfl (by kernel_rfl) St SG fun d a W hF hG hH hn hcl hw => ?_
            have q118 : a.eval (.tmp 118) = .bool false := hH.at_ (i := 8) rfl (hw 8 rfl) id
            refine ⟨.bool false, W, ?_, Below.refl _ _, ?_⟩
            · clear hF hG hH hn hcl hw
              generalize a.eval = ρ at *
              go_simp
            · rfl
          · refine StepG.on rfl (fun d a W hI hw => yielded_of rfl (hI.2.2.at_ (i := 9) rfl (hw 9 rfl) id)) ?_
            refine stepB rfl rfl (by decide) (by rw [hz]; decide) rfl rfl (by kernel_rfl) St SG fun d a W hF hG hH hn hcl hw => ?_
            have q5 := (hF.same 5 (by decide)).trans e5
            refine ⟨hashV root, W, ?_, Below.refl _ _, ?_⟩
            · exact exec_load rfl (by rw [q5]; exact BoxH.load_ (BoxA.next y5 hG) hr)
            · rfl
          · refine StepG.on rfl (fun d a W hI hw => yielded_of rfl (hI.2.2.at_ (i := 9) rfl (hw 9 rfl) id)) ?_
            refine stepB rfl rfl (by decide) (by rw [hz]; decide) rfl rfl (by kernel_rfl) St SG fun d a W hF hG hH hn hcl hw => ?_
            have q4 := (hF.same 4 (by decide)).trans e4
            refine ⟨wordsV, W, ?_, Below.refl _ _, ?_⟩
            · exact exec_load rfl (by rw [q4]; exact BoxW.load (BoxA.next y4 hG))
            · rfl
          · refine StepG.on rfl (fun d a W hI hw => yielded_of rfl (hI.2.2.at_ (i := 9) rfl (hw 9 rfl) id)) ?_
            refine stepB rfl rfl (by decide) (by rw [hz]; decide) rfl rfl (by kernel_rfl) St SG fun d a W hF hG hH hn hcl hw => ?_
            have q7 := (hF.same 7 (by decide)).trans e7
            refine ⟨.pointer (some ⟨w.heap.size + 1 + 1, 5, none⟩), W, ?_, Below.refl _ _, ?_⟩
            · clear hF hG hH hn hcl hw
              generalize a.eval = ρ at *
              go_simp
            · rfl
          · refine StepG.on rfl (fun d a W hI hw => yielded_of rfl (hI.2.2.at_ (i := 9) rfl (hw 9 rfl) id)) ?_
            refine stepB rfl rfl (by decide) (by rw [hz]; decide) rfl rfl (by kernel_rfl) St SG fun d a W hF hG hH hn hcl hw => ?_
            have q122 : a.eval (.tmp 122) = .pointer (some ⟨w.heap.size + 1 + 1, 5, none⟩) := hH.at_ (i := 12) rfl (hw 12 rfl) id
            have c := cell_kept hG c5
            clear c4 c5 c6 d2
            refine ⟨.int .i64 size, W, ?_, Below.refl _ _, ?_⟩
            · clear hF hG hH hn hcl hw
              generalize a.eval = ρ at *
              go_simp
            · rfl
          · refine StepG.on rfl (fun d a W hI hw => yielded_of rfl (hI.2.2.at_ (i := 9) rfl (hw 9 rfl) id)) ?_
            refine stepB rfl rfl (by decide) (by rw [hz]; decide) rfl rfl (by kernel_rfl) St SG fun d a W hF hG hH hn hcl hw => ?_
            have q7 := (hF.same 7 (by decide)).trans e7
            refine ⟨.pointer (some ⟨w.heap.size + 1 + 1, 4, none⟩), W, ?_, Below.refl _ _, ?_⟩
            · clear hF hG hH hn hcl hw
              generalize a.eval = ρ at *
              go_simp
            · rfl
          · refine StepG.on rfl (fun d a W hI hw => yielded_of rfl (hI.2.2.at_ (i := 9) rfl (hw 9 rfl) id)) ?_
            refine stepB rfl rfl (by decide) (by rw [hz]; decide) rfl rfl (by kernel_rfl) St SG fun d a W hF hG hH hn hcl hw => ?_
            have q124 : a.eval (.tmp 124) = .pointer (some ⟨w.heap.size + 1 + 1, 4, none⟩) := hH.at_ (i := 14) rfl (hw 14 rfl) id
            have c := cell_kept hG c4
            clear c4 c5 c6 d2
            refine ⟨.int .i64 (count : Int), W, ?_, Below.refl _ _, ?_⟩
            · clear hF hG hH hn hcl hw
              generalize a.eval = ρ at *
              go_simp
            · rfl
          · refine StepG.on rfl (fun d a W hI hw => yielded_of rfl (hI.2.2.at_ (i := 9) rfl (hw 9 rfl) id)) ?_
            refine stepB rfl rfl (by decide) (by rw [hz]; decide) rfl rfl (by kernel_rfl) St SG fun d a W hF hG hH hn hcl hw => ?_
            have q11 := (hF.same 11 (by decide)).trans e11
            refine ⟨hashV x1, W, ?_, Below.refl _ _, ?_⟩
            · exact exec_load rfl (by rw [q11]; exact BoxH.load_ (BoxA.next y11 hG) la)
            · rfl
          · refine StepG.on rfl (fun d a W hI hw => yielded_of rfl (hI.2.2.at_ (i := 9) rfl (hw 9 rfl) id)) ?_
            refine stepC rfl rfl (by decide) (by rw [hz]; decide) rfl rfl (by kernel_rfl) St SG fun d a W hF hG hH hn hcl hw => ?_
            have q121 : a.eval (.tmp 121) = wordsV := hH.at_ (i := 11) rfl (hw 11 rfl) id
            have q123 : a.eval (.tmp 123) = .int .i64 size := hH.at_ (i := 13) rfl (hw 13 rfl) id
            have q125 : a.eval (.tmp 125) = .int .i64 (count : Int) := hH.at_ (i := 15) rfl (hw 15 rfl) id
            have q126 : a.eval (.tmp 126) = hashV x1 := hH.at_ (i := 16) rfl (hw 16 rfl) id
            have qf : a.eval (.func 61) = .func (.func 61) #[] #[] := rfl
            refine ⟨61, #[wordsV, .int .i64 size, .int .i64 (count : Int), hashV x1], ?_, ?_⟩
            · clear hF hG hH hn hcl hw
              generalize a.eval = ρ at *
              go_simp
            · refine (HMp.out W).mono ?_; rintro e W' ⟨rfl, b⟩; exact ⟨_, rfl, b, rfl⟩
          · refine StepG.on rfl (fun d a W hI hw => yielded_of rfl (hI.2.2.at_ (i := 9) rfl (hw 9 rfl) id)) ?_
            refine stepB rfl rfl (by decide) (by rw [hz]; decide) rfl rfl (by kernel_rfl) St SG fun d a W hF hG hH hn hcl hw => ?_
            have q120 : a.eval (.tmp 120) = hashV root := hH.at_ (i := 10) rfl (hw 10 rfl) id
            have q127 : a.eval (.tmp 127) = hashV y := hH.at_ (i := 17) rfl (hw 17 rfl) id
            have r := he W
            refine ⟨.bool true, W, ?_, Below.refl _ _, ?_⟩
            · clear hF hG hH hn hcl hw
              generalize a.eval = ρ at *
              go_simp
            · rfl
          · refine StepG.of ?_
            refine stepB rfl rfl (by decide) (by rw [hz]; decide) rfl rfl (by kernel_rfl) St SG fun d a W hF hG hH hn hcl hw => ?_
            have q119 : a.eval (.tmp 119) = .bool false := hH.at_ (i := 9) rfl (hw 9 rfl) id
            have q128 : a.eval (.tmp 128) = .bool true := hH.at_ (i := 18) rfl (hw 18 rfl) id
            have qk0 : a.eval (.const (.bool true)) = .bool true := rfl
            refine ⟨.bool true, W, ?_, Below.refl _ _, ?_⟩
            · clear hF hG hH hn hcl hw
              generalize a.eval = ρ at *
              go_simp
            · rfl
        · intro d a W ⟨hF, hB, hH⟩ hall
          have k129 : a.eval (.tmp 129) = .bool true := hH.at_ (i := 19) rfl (hall 19 (by decide)) id
          clear hH hall
          rw [hF.shape (by rw [hz]; decide)]
          clear hF
          simp only [List.foldl]
          generalize a.eval (.tmp 110) = z110 at *
          generalize a.eval (.tmp 111) = z111 at *
          generalize a.eval (.tmp 112) = z112 at *
          generalize a.eval (.tmp 113) = z113 at *
          generalize a.eval (.tmp 114) = z114 at *
          generalize a.eval (.tmp 115) = z115 at *
          generalize a.eval (.tmp 116) = z116 at *
          generalize a.eval (.tmp 117) = z117 at *
          generalize a.eval (.tmp 118) = z118 at *
          generalize a.eval (.tmp 119) = z119 at *
          generalize a.eval (.tmp 120) = z120 at *
          generalize a.eval (.tmp 121) = z121 at *
          generalize a.eval (.tmp 122) = z122 at *
          generalize a.eval (.tmp 123) = z123 at *
          generalize a.eval (.tmp 124) = z124 at *
          generalize a.eval (.tmp 125) = z125 at *
          generalize a.eval (.tmp 126) = z126 at *
          generalize a.eval (.tmp 127) = z127 at *
          generalize a.eval (.tmp 128) = z128 at *
          generalize a.eval (.tmp 129) = z129 at *
          subst k129
          rw [HA0.out]
          simp only [Act.put, List.setIfInBounds_toArray, List.set_cons_zero, List.set_cons_succ]
          clear hz HA0 SG e4 e5 e7 e11 e12 e13
          clear a a0
          replace d2 := cell_kept hB d2
          go_wp2_with (fail)
          go_ret2
          exact ⟨by simp, Below.on B2 hB⟩
      · go_upto_region 5 with (fail)
        refine wp_name fun a0 ha0 => ?_
        have e4 : a0.eval (.tmp 4) = .pointer (some ⟨w.heap.size, 0, none⟩) := by rw [ha0]; rfl
        have e5 : a0.eval (.tmp 5) = .pointer (some ⟨(w.heap.size + 1), 0, none⟩) := by rw [ha0]; rfl
        have e7 : a0.eval (.tmp 7) = .pointer (some ⟨(w.heap.size + 1 + 1), 0, none⟩) := by rw [ha0]; rfl
        have e11 : a0.eval (.tmp 11) = .pointer (some ⟨g, 0, none⟩) := by rw [ha0]; rfl
        have e12 : a0.eval (.tmp 12) = .int .i64 (u : Int) := by rw [ha0]; rfl
        have e13 : a0.eval (.tmp 13) = .bool true := by rw [ha0]; rfl
        have hz : a0.tmps.size = 132 := by rw [ha0]; rfl
        have HA0 := Lib.hid ha0
        clear ha0
        have SG : ∀ (d d' : Nat → Prop) (W W' : World), (fun (_ : Nat → Prop) (W : World) => Below w5.heap.size w5 W) d W → (∀ j, d j → d' j) → Below W.heap.size W W' → (fun (_ : Nat → Prop) (W : World) => Below w5.heap.size w5 W) d' W' := fun _ _ _ _ h _ b => Below.next h b
        refine wp_region_guards (Inv [110, 111, 112, 113, 114, 115, 116, 117, 118, 119, 120, 121, 122, 123, 124, 125, 126, 127, 128, 129] a0 (fun (_ : Nat → Prop) (W : World) => Below w5.heap.size w5 W) [(⟨some 0, 110, none, fun v _ => v = .bool true⟩ : Cl), ⟨some 1, 111, none, fun v _ => v = .bool false⟩, ⟨some 2, 112, none, fun v _ => v = .bool false⟩, ⟨some 3, 113, none, fun v _ => v = .int .i64 (u : Int)⟩, ⟨some 4, 114, none, fun v _ => v = .pointer (some ⟨w.heap.size + 1 + 1, 6, none⟩)⟩, ⟨some 5, 115, none, fun v _ => v = .slice PA u pc⟩, ⟨some 6, 116, none, fun v _ => v = .int .i64 (u : Int)⟩, ⟨some 7, 117, none, fun v _ => v = .bool false⟩, ⟨some 8, 118, none, fun v _ => v = .bool false⟩, ⟨some 9, 119, none, fun v _ => v = .bool false⟩, ⟨some 10, 120, none, fun v _ => v = hashV root⟩, ⟨some 11, 121, none, fun v _ => v = wordsV⟩, ⟨some 12, 122, none, fun v _ => v = .pointer (some ⟨w.heap.size + 1 + 1, 5, none⟩)⟩, ⟨some 13, 123, none, fun v _ => v = .int .i64 size⟩, ⟨some 14, 124, none, fun v _ => v = .pointer (some ⟨w.heap.size + 1 + 1, 4, none⟩)⟩, ⟨some 15, 125, none, fun v _ => v = .int .i64 (count : Int)⟩, ⟨some 16, 126, none, fun v _ => v = hashV x1⟩, ⟨some 17, 127, none, fun v _ => v = hashV y⟩, ⟨some 18, 128, none, fun v _ => v = .bool false⟩, ⟨some 19, 129, none, fun v _ => v = .bool false⟩]) (by kernel_rfl) (by kernel_rfl) (Inv.start (Below.refl _ _).drew ⟨nofun, nofun, nofun, nofun, nofun, nofun, nofun, nofun, nofun, nofun, nofun, nofun, nofun, nofun, nofun, nofun, nofun, nofun, nofun, nofun, trivial⟩) ?_ ?_
        · have St : ∀ xc ∈ [(⟨some 0, 110, none, fun v _ => v = .bool true⟩ : Cl), ⟨some 1, 111, none, fun v _ => v = .bool false⟩, ⟨some 2, 112, none, fun v _ => v = .bool false⟩, ⟨some 3, 113, none, fun v _ => v = .int .i64 (u : Int)⟩, ⟨some 4, 114, none, fun v _ => v = .pointer (some ⟨w.heap.size + 1 + 1, 6, none⟩)⟩, ⟨some 5, 115, none, fun v _ => v = .slice PA u pc⟩, ⟨some 6, 116, none, fun v _ => v = .int .i64 (u : Int)⟩, ⟨some 7, 117, none, fun v _ => v = .bool false⟩, ⟨some 8, 118, none, fun v _ => v = .bool false⟩, ⟨some 9, 119, none, fun v _ => v = .bool false⟩, ⟨some 10, 120, none, fun v _ => v = hashV root⟩, ⟨some 11, 121, none, fun v _ => v = wordsV⟩, ⟨some 12, 122, none, fun v _ => v = .pointer (some ⟨w.heap.size + 1 + 1, 5, none⟩)⟩, ⟨some 13, 123, none, fun v _ => v = .int .i64 size⟩, ⟨some 14, 124, none, fun v _ => v = .pointer (some ⟨w.heap.size + 1 + 1, 4, none⟩)⟩, ⟨some 15, 125, none, fun v _ => v = .int .i64 (count : Int)⟩, ⟨some 16, 126, none, fun v _ => v = hashV x1⟩, ⟨some 17, 127, none, fun v _ => v = hashV y⟩, ⟨some 18, 128, none, fun v _ => v = .bool false⟩, ⟨some 19, 129, none, fun v _ => v = .bool false⟩], Lasts xc := AllC.mem ⟨lastsV0 _ _ _ _, lastsV0 _ _ _ _, lastsV0 _ _ _ _, lastsV0 _ _ _ _, lastsV0 _ _ _ _, lastsV0 _ _ _ _, lastsV0 _ _ _ _, lastsV0 _ _ _ _, lastsV0 _ _ _ _, lastsV0 _ _ _ _, lastsV0 _ _ _ _, lastsV0 _ _ _ _, lastsV0 _ _ _ _, lastsV0 _ _ _ _, lastsV0 _ _ _ _, lastsV0 _ _ _ _, lastsV0 _ _ _ _, lastsV0 _ _ _ _, lastsV0 _ _ _ _, lastsV0 _ _ _ _, trivial⟩
          clear HA0
          refine ⟨?_, ?_, ?_, ?_, ?_, ?_, ?_, ?_, ?_, ?_, ?_, ?_, ?_, ?_, ?_, ?_, ?_, ?_, ?_, ?_, trivial⟩
          · refine StepG.of ?_
            refine stepB rfl rfl (by decide) (by rw [hz]; decide) rfl rfl (by kernel_rfl) St SG fun d a W hF hG hH hn hcl hw => ?_
            have q13 := (hF.same 13 (by decide)).trans e13
            refine ⟨.bool true, W, ?_, Below.refl _ _, ?_⟩
            · clear hF hG hH hn hcl hw
              generalize a.eval = ρ at *
              go_simp
            · rfl
          · refine StepG.of ?_
            refine stepB rfl rfl (by decide) (by rw [hz]; decide) rfl rfl (by kernel_rfl) St SG fun d a W hF hG hH hn hcl hw => ?_
            have q110 : a.eval (.tmp 110) = .bool true := hH.at_ (i := 0) rfl (hw 0 rfl) id
            refine ⟨.bool false, W, ?_, Below.refl _ _, ?_⟩
            · clear hF hG hH hn hcl hw
              generalize a.eval = ρ at *
              go_simp
            · rfl
          · refine StepG.of ?_
            refine stepB rfl rfl (by decide) (by rw [hz]; decide) rfl rfl (by kernel_rfl) St SG fun d a W hF hG hH hn hcl hw => ?_
            have q111 : a.eval (.tmp 111) = .bool false := hH.at_ (i := 1) rfl (hw 1 rfl) id
            refine ⟨.bool false, W, ?_, Below.refl _ _, ?_⟩
            · clear hF hG hH hn hcl hw
              generalize a.eval = ρ at *
              go_simp
            · rfl
          · refine StepG.on rfl (fun d a W hI hw => yielded_of rfl (hI.2.2.at_ (i := 2) rfl (hw 2 rfl) id)) ?_
            refine stepB rfl rfl (by decide) (by rw [hz]; decide) rfl rfl (by kernel_rfl) St SG fun d a W hF hG hH hn hcl hw => ?_
            have q12 := (hF.same 12 (by decide)).trans e12
            refine ⟨.int .i64 (u : Int), W, ?_, Below.refl _ _, ?_⟩
            · clear hF hG hH hn hcl hw
              generalize a.eval = ρ at *
              go_simp
            · rfl
          · refine StepG.on rfl (fun d a W hI hw => yielded_of rfl (hI.2.2.at_ (i := 2) rfl (hw 2 rfl) id)) ?_
            refine stepB rfl rfl (by decide) (by rw [hz]; decide) rfl rfl (by kernel_rfl) St SG fun d a W hF hG hH hn hcl hw => ?_
            have q7 := (hF.same 7 (by decide)).trans e7
            refine ⟨.pointer (some ⟨w.heap.size + 1 + 1, 6, none⟩), W, ?_, Below.refl _ _, ?_⟩
            · clear hF hG hH hn hcl hw
              generalize a.eval = ρ at *
              go_simp
            · rfl
          · refine StepG.on rfl (fun d a W hI hw => yielded_of rfl (hI.2.2.at_ (i := 2) rfl (hw 2 rfl) id)) ?_
            refine stepB rfl rfl (by decide) (by rw [hz]; decide) rfl rfl (by kernel_rfl) St SG fun d a W hF hG hH hn hcl hw => ?_
            have q114 : a.eval (.tmp 114) = .pointer (some ⟨w.heap.size + 1 + 1, 6, none⟩) := hH.at_ (i := 4) rfl (hw 4 rfl) id
            have c := cell_kept hG c6
            clear c4 c5 c6 d2
            refine ⟨.slice PA u pc, W, ?_, Below.refl _ _, ?_⟩
            · clear hF hG hH hn hcl hw
              generalize a.eval = ρ at *
              go_simp
            · rfl
          · refine StepG.on rfl (fun d a W hI hw => yielded_of rfl (hI.2.2.at_ (i := 2) rfl (hw 2 rfl) id)) ?_
            refine stepB rfl rfl (by decide) (by rw [hz]; decide) rfl rfl (by kernel_rfl) St SG fun d a W hF hG hH hn hcl hw => ?_
            have q115 : a.eval (.tmp 115) = .slice PA u pc := hH.at_ (i := 5) rfl (hw 5 rfl) id
            refine ⟨.int .i64 (u : Int), W, ?_, Below.refl _ _, ?_⟩
            · clear hF hG hH hn hcl hw
              generalize a.eval = ρ at *
              go_simp
            · rfl
          · refine StepG.on rfl (fun d a W hI hw => yielded_of rfl (hI.2.2.at_ (i := 2) rfl (hw 2 rfl) id)) ?_
            refine stepB rfl rfl (by decide) (by rw [hz]; decide) rfl rfl (by kernel_rfl) St SG fun d a W hF hG hH hn hcl hw => ?_
            have q113 : a.eval (.tmp 113) = .int .i64 (u : Int) := hH.at_ (i := 3) rfl (hw 3 rfl) id
            have q116 : a.eval (.tmp 116) = .int .i64 (u : Int) := hH.at_ (i := 6) rfl (hw 6 rfl) id
            refine ⟨.bool false, W, ?_, Below.refl _ _, ?_⟩
            · clear hF hG hH hn hcl hw
              generalize a.eval = ρ at *
              go_simp
            · rfl
          · refine StepG.of ?_
            refine stepB rfl rfl (by decide) (by rw [hz]; decide) rfl rfl (by kernel_rfl) St SG fun d a W hF hG hH hn hcl hw => ?_
            have q112 : a.eval (.tmp 112) = .bool false := hH.at_ (i := 2) rfl (hw 2 rfl) id
            have q117 : a.eval (.tmp 117) = .bool false := hH.at_ (i := 7) rfl (hw 7 rfl) id
            have qk0 : a.eval (.const (.bool true)) = .bool true := rfl
            refine ⟨.bool false, W, ?_, Below.refl _ _, ?_⟩
            · clear hF hG hH hn hcl hw
              generalize a.eval = ρ at *
              go_simp
            · rfl
          · refine StepG.of ?_
            refine stepB rfl rfl (by decide) (by rw [hz]; decide) rfl rfl (by kernel_rfl) St SG fun d a W hF hG hH hn hcl hw => ?_
            have q118 : a.eval (.tmp 118) = .bool false := hH.at_ (i := 8) rfl (hw 8 rfl) id
            refine ⟨.bool false, W, ?_, Below.refl _ _, ?_⟩
            · clear hF hG hH hn hcl hw
              generalize a.eval = ρ at *
              go_simp
            · rfl
          · refine StepG.on rfl (fun d a W hI hw => yielded_of rfl (hI.2.2.at_ (i := 9) rfl (hw 9 rfl) id)) ?_
            refine stepB rfl rfl (by decide) (by rw [hz]; decide) rfl rfl (by kernel_rfl) St SG fun d a W hF hG hH hn hcl hw => ?_
            have q5 := (hF.same 5 (by decide)).trans e5
            refine ⟨hashV root, W, ?_, Below.refl _ _, ?_⟩
            · exact exec_load rfl (by rw [q5]; exact BoxH.load_ (BoxA.next y5 hG) hr)
            · rfl
          · refine StepG.on rfl (fun d a W hI hw => yielded_of rfl (hI.2.2.at_ (i := 9) rfl (hw 9 rfl) id)) ?_
            refine stepB rfl rfl (by decide) (by rw [hz]; decide) rfl rfl (by kernel_rfl) St SG fun d a W hF hG hH hn hcl hw => ?_
            have q4 := (hF.same 4 (by decide)).trans e4
            refine ⟨wordsV, W, ?_, Below.refl _ _, ?_⟩
            · exact exec_load rfl (by rw [q4]; exact BoxW.load (BoxA.next y4 hG))
            · rfl
          · refine StepG.on rfl (fun d a W hI hw => yielded_of rfl (hI.2.2.at_ (i := 9) rfl (hw 9 rfl) id)) ?_
            refine stepB rfl rfl (by decide) (by rw [hz]; decide) rfl rfl (by kernel_rfl) St SG fun d a W hF hG hH hn hcl hw => ?_
            have q7 := (hF.same 7 (by decide)).trans e7
            refine ⟨.pointer (some ⟨w.heap.size + 1 + 1, 5, none⟩), W, ?_, Below.refl _ _, ?_⟩
            · clear hF hG hH hn hcl hw
              generalize a.eval = ρ at *
              go_simp
            · rfl
          · refine StepG.on rfl (fun d a W hI hw => yielded_of rfl (hI.2.2.at_ (i := 9) rfl (hw 9 rfl) id)) ?_
            refine stepB rfl rfl (by decide) (by rw [hz]; decide) rfl rfl (by kernel_rfl) St SG fun d a W hF hG hH hn hcl hw => ?_
            have q122 : a.eval (.tmp 122) = .pointer (some ⟨w.heap.size + 1 + 1, 5, none⟩) := hH.at_ (i := 12) rfl (hw 12 rfl) id
            have c := cell_kept hG c5
            clear c4 c5 c6 d2
            refine ⟨.int .i64 size, W, ?_, Below.refl _ _, ?_⟩
            · clear hF hG hH hn hcl hw
              generalize a.eval = ρ at *
              go_simp
            · rfl
          · refine StepG.on rfl (fun d a W hI hw => yielded_of rfl (hI.2.2.at_ (i := 9) rfl (hw 9 rfl) id)) ?_
            refine stepB rfl rfl (by decide) (by rw [hz]; decide) rfl rfl (by kernel_rfl) St SG fun d a W hF hG hH hn hcl hw => ?_
            have q7 := (hF.same 7 (by decide)).trans e7
            refine ⟨.pointer (some ⟨w.heap.size + 1 + 1, 4, none⟩), W, ?_, Below.refl _ _, ?_⟩
            · clear hF hG hH hn hcl hw
              generalize a.eval = ρ at *
              go_simp
            · rfl
          · refine StepG.on rfl (fun d a W hI hw => yielded_of rfl (hI.2.2.at_ (i := 9) rfl (hw 9 rfl) id)) ?_
            refine stepB rfl rfl (by decide) (by rw [hz]; decide) rfl rfl (by kernel_rfl) St SG fun d a W hF hG hH hn hcl hw => ?_
            have q124 : a.eval (.tmp 124) = .pointer (some ⟨w.heap.size + 1 + 1, 4, none⟩) := hH.at_ (i := 14) rfl (hw 14 rfl) id
            have c := cell_kept hG c4
            clear c4 c5 c6 d2
            refine ⟨.int .i64 (count : Int), W, ?_, Below.refl _ _, ?_⟩
            · clear hF hG hH hn hcl hw
              generalize a.eval = ρ at *
              go_simp
            · rfl
          · refine StepG.on rfl (fun d a W hI hw => yielded_of rfl (hI.2.2.at_ (i := 9) rfl (hw 9 rfl) id)) ?_
            refine stepB rfl rfl (by decide) (by rw [hz]; decide) rfl rfl (by kernel_rfl) St SG fun d a W hF hG hH hn hcl hw => ?_
            have q11 := (hF.same 11 (by decide)).trans e11
            refine ⟨hashV x1, W, ?_, Below.refl _ _, ?_⟩
            · exact exec_load rfl (by rw [q11]; exact BoxH.load_ (BoxA.next y11 hG) la)
            · rfl
          · refine StepG.on rfl (fun d a W hI hw => yielded_of rfl (hI.2.2.at_ (i := 9) rfl (hw 9 rfl) id)) ?_
            refine stepC rfl rfl (by decide) (by rw [hz]; decide) rfl rfl (by kernel_rfl) St SG fun d a W hF hG hH hn hcl hw => ?_
            have q121 : a.eval (.tmp 121) = wordsV := hH.at_ (i := 11) rfl (hw 11 rfl) id
            have q123 : a.eval (.tmp 123) = .int .i64 size := hH.at_ (i := 13) rfl (hw 13 rfl) id
            have q125 : a.eval (.tmp 125) = .int .i64 (count : Int) := hH.at_ (i := 15) rfl (hw 15 rfl) id
            have q126 : a.eval (.tmp 126) = hashV x1 := hH.at_ (i := 16) rfl (hw 16 rfl) id
            have qf : a.eval (.func 61) = .func (.func 61) #[] #[] := rfl
            refine ⟨61, #[wordsV, .int .i64 size, .int .i64 (count : Int), hashV x1], ?_, ?_⟩
            · clear hF hG hH hn hcl hw
              generalize a.eval = ρ at *
              go_simp
            · refine (HMp.out W).mono ?_; rintro e W' ⟨rfl, b⟩; exact ⟨_, rfl, b, rfl⟩
          · refine StepG.on rfl (fun d a W hI hw => yielded_of rfl (hI.2.2.at_ (i := 9) rfl (hw 9 rfl) id)) ?_
            refine stepB rfl rfl (by decide) (by rw [hz]; decide) rfl rfl (by kernel_rfl) St SG fun d a W hF hG hH hn hcl hw => ?_
            have q120 : a.eval (.tmp 120) = hashV root := hH.at_ (i := 10) rfl (hw 10 rfl) id
            have q127 : a.eval (.tmp 127) = hashV y := hH.at_ (i := 17) rfl (hw 17 rfl) id
            have r := he W
            refine ⟨.bool false, W, ?_, Below.refl _ _, ?_⟩
            · clear hF hG hH hn hcl hw
              generalize a.eval = ρ at *
              go_simp
            · rfl
          · refine StepG.of ?_
            refine stepB rfl rfl (by decide) (by rw [hz]; decide) rfl rfl (by kernel_rfl) St SG fun d a W hF hG hH hn hcl hw => ?_
            have q119 : a.eval (.tmp 119) = .bool false := hH.at_ (i := 9) rfl (hw 9 rfl) id
            have q128 : a.eval (.tmp 128) = .bool false := hH.at_ (i := 18) rfl (hw 18 rfl) id
            have qk0 : a.eval (.const (.bool true)) = .bool true := rfl
            refine ⟨.bool false, W, ?_, Below.refl _ _, ?_⟩
            · clear hF hG hH hn hcl hw
              generalize a.eval = ρ at *
              go_simp
            · rfl
        · intro d a W ⟨hF, hB, hH⟩ hall
          have k129 : a.eval (.tmp 129) = .bool false := hH.at_ (i := 19) rfl (hall 19 (by decide)) id
          clear hH hall
          rw [hF.shape (by rw [hz]; decide)]
          clear hF
          simp only [List.foldl]
          generalize a.eval (.tmp 110) = z110 at *
          generalize a.eval (.tmp 111) = z111 at *
          generalize a.eval (.tmp 112) = z112 at *
          generalize a.eval (.tmp 113) = z113 at *
          generalize a.eval (.tmp 114) = z114 at *
          generalize a.eval (.tmp 115) = z115 at *
          generalize a.eval (.tmp 116) = z116 at *
          generalize a.eval (.tmp 117) = z117 at *
          generalize a.eval (.tmp 118) = z118 at *
          generalize a.eval (.tmp 119) = z119 at *
          generalize a.eval (.tmp 120) = z120 at *
          generalize a.eval (.tmp 121) = z121 at *
          generalize a.eval (.tmp 122) = z122 at *
          generalize a.eval (.tmp 123) = z123 at *
          generalize a.eval (.tmp 124) = z124 at *
          generalize a.eval (.tmp 125) = z125 at *
          generalize a.eval (.tmp 126) = z126 at *
          generalize a.eval (.tmp 127) = z127 at *
          generalize a.eval (.tmp 128) = z128 at *
          generalize a.eval (.tmp 129) = z129 at *
          subst k129
          rw [HA0.out]
          simp only [Act.put, List.setIfInBounds_toArray, List.set_cons_zero, List.set_cons_succ]
          clear hz HA0 SG e4 e5 e7 e11 e12 e13
          clear a a0
          replace d2 := cell_kept hB d2
          go_wp2_with (fail)
          go_ret2
          exact ⟨by simp, Below.on B2 hB⟩
end Go.Proofs.YtcocengpekndjaaDoor
