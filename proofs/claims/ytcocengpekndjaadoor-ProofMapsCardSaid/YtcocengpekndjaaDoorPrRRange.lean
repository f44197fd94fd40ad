/- The walk over the reference's Range. -/
import Derived.Test.YtcocengpekndjaaDoorPrCover
import Derived.Test.YtcocengpekndjaaDoorPrMadeA
import Derived.Test.YtcocengpekndjaaDoorPrRLeaves
import Derived.Test.YtcocengpekndjaaDoorPrOuter
import Derived.Test.YtcocengpekndjaaDoorPrFresh
namespace Go.Proofs.YtcocengpekndjaaDoor
open Go.RowKit
theorem exec_sliceR_mid {ev : Operand → Value} {o : Oper} {W : World} {x y z : Operand} {A : Option Addr} {n c i j : Nat} (ho : o.op = .slice 41 x (some y) (some z) none) (hx : ev x = .slice A n c) (hy : ev y = .int .i64 (i : Int)) (hz : ev z = .int .i64 (j : Int)) (h1 : i ≤ j) (h2 : j ≤ c) :
    (execOp ev o).run Tryd.prog W = .ok (.value (.slice (cutR A c i) (j - i) (c - i))) W := by
  have e := rs_mid A n c i j h1 h2 W
  rw [← run_sliceAt_slice W _ _ _ _ _ elemR] at e
  simp [execOp, ho, hx, hy, hz, e]
theorem results_claim1 {fn : Func} {p : Tmp} (hf : fn.results = #[.cell p 43]) (tmps : Array Value) (w : World) (g : Nat) (A : Option Addr) (n c : Nat) (first count size : Int) (PA : Option Addr) (pn pc : Nat)
    (hp : tmps.getD p undef = .pointer (some ⟨g, 0, none⟩)) (hg : BoxC w g A n c first count size PA pn pc) : (results fn tmps).run Tryd.prog w = .ok (claimV A n c first count size PA pn pc) w := by
  have hp' : tmps[p]?.getD undef = .pointer (some ⟨g, 0, none⟩) := by simpa using hp
  have l1 := run_loadVar_row w g 43 43 _ (0, 0) (.struct (Tryd.prog.fieldsOf 43)) hg.row (by kernel_rfl) rfl szClaim
  simp [results, hf, hp', asAddr, l1]
/-- What the reference's Range returns. -/
def RRangePost (w : World) (R : List Rn) (T : Int) (f t : Nat) (e : Ending) (w' : World) : Prop :=
  ∃ A k c PA pn pc, e = .returned (claimV A k c f R.length T PA pn pc) ∧ OwnRuns w' w.heap.size (.slice A k c) ((R.drop f).take (t - f)) ∧ OwnHs w' w.heap.size (.slice PA pn pc) (visitM sha (R.map lvM) f t) ∧ Below w.heap.size w w'
set_option maxRecDepth 100000 in
set_option maxHeartbeats 4000000 in
theorem rrange_any (T : Int) (R : List Rn) (ad : Addr) (m c : Nat) (lo hi : Int) (w : World) (f q : Nat) (hm : R.length = m) (hmc : m ≤ c) (hm5 : m ≤ 5000) (hR : Runs w (some ad) R) (hfit : ∀ x ∈ R, Fit x) (hf : covF lo R = f) (hq : covN lo hi R = q) (hq1 : 1 ≤ q) :
    Calls Tryd.prog 40 #[wordsV, .agg #[.int .i64 T, .slice (some ad) m c], .int .i64 lo, .int .i64 hi] w (RRangePost w R T f (f + q)) := by
  have hfq := covFN_le lo hi R
  have hcv := fun W (h : Runs W (some ad) R) => rcover_any T R (some ad) m c lo hi W hm hm5 h
  rw [hf, hq] at hcv
  rw [hf, hq, hm] at hfq
  have hlv := fun W (h : Runs W (some ad) R) => rleaves_any R (some ad) m c W hm h hfit (by omega)
  have hou := fun A9 c9 W hc (h : Strs W A9 (R.map textM)) => router_any (R.map textM) (f : Int) ((f + q : Nat) : Int) A9 m c9 W (by rw [List.length_map, hm]) (by omega) hm5 hc (by omega) (by omega) (by omega) (by omega) (fun s hs => by obtain ⟨x, _, rfl⟩ := List.mem_map.1 hs; rw [textM_length]; omega) h
  rw [map_text] at hou
  have htl : (R.map textM).length = m := by rw [List.length_map, hm]
  have hct : ((R.drop f).take q).length = q := by rw [List.length_take, List.length_drop, hm]; omega
  have hcu := fun W (h : Runs W (some ad) R) => (h.cutR f c (by omega)).take q
  have hcn : cutR (some ad) c f = none → c - f = 0 := fun e => by
    unfold cutR at e; split at e
    · cases e
    · simp at e
  unfold RRangePost
  rw [show f + q - f = q from by omega, hm]
  generalize visitM sha (R.map lvM) (f : Int) ((f + q : Nat) : Int) = V at *
  generalize R.map textM = L at *
  generalize (R.drop f).take q = D at *
  have HCV := Lib.hid hcv
  have HLV := Lib.hid hlv
  have HOU := Lib.hid hou
  have HTL := Lib.hid htl
  have HCT := Lib.hid hct
  have HCU := Lib.hid hcu
  have HCN := Lib.hid hcn
  obtain ⟨w0, hW0⟩ : ∃ w0, ((w.alloc (.cells (ints .u32 wordsL) 27)).alloc (.cells #[.int .i64 T, .slice (some ad) m c] 69)).alloc (.cells zeroC 43) = w0 := ⟨_, rfl⟩
  have B0 : Below w.heap.size w w0 := hW0 ▸ Below.on (Below.on (Below.new1 _ _) (Below.new1 _ _)) (Below.new1 _ _)
  have y4 : BoxW w0 w.heap.size := hW0 ▸ ((BoxW.new w).next (Below.new1 _ _)).next (Below.new1 _ _)
  have x5 : BoxM w0 (w.heap.size + 1) T (.slice (some ad) m c) := by
    have := (BoxM.new (w.alloc (.cells (ints .u32 wordsL) 27)) T (.slice (some ad) m c)).next (Below.new1 _ (.cells zeroC 43))
    rw [World.size_alloc] at this; exact hW0 ▸ this
  have x8 : w0.heap[w.heap.size + 1 + 1]? = some (.cells zeroC 43 (0, 0)) := by
    have := heap_alloc_new ((w.alloc (.cells (ints .u32 wordsL) 27)).alloc (.cells #[.int .i64 T, .slice (some ad) m c] 69)) (.cells zeroC 43)
    rw [World.size_alloc, World.size_alloc] at this; exact hW0 ▸ this
  have hR0 := hR.below B0
  have HW := Lib.hid hW0
  have r50 := x5.c0
  have r51 := x5.c1
  clear hcv hlv hou htl hct hcu hcn hW0 hR hm hfit hf hq
  go_enter Tryd.func40, Tryd.ntmps40
  go_upto_region 1 with (fail)
  change Code.wp _ _ _ _ (((w.alloc (.cells (ints .u32 wordsL) 27)).alloc (.cells #[.int .i64 T, .slice (some ad) m c] 69)).alloc (.cells zeroC 43))
  rw [HW.out]
  clear HW
  go_upto_region 2 with (go_at_call 48; refine (HCV.out _ hR0).mono ?_; rintro e w1 ⟨rfl, b1⟩)
  have B1 := Below.on B0 b1
  have z4 : BoxW w1 w.heap.size := BoxA.next y4 b1
  have z5 := x5.next b1
  have z8 := (b1.block _ (Array.getElem?_eq_some_iff.1 x8).1).trans x8
  have hR1 := hR0.below b1
  have c50 := z5.c0
  have c51 := z5.c1
  have sf : (f : Int) + (q : Int) = ((f + q : Nat) : Int) := by omega
  have wf : IntKind.i64.wrap ((f : Int) + (q : Int)) = ((f + q : Nat) : Int) := by rw [sf]; exact IntWalk.i64_in _ (by omega)
  have HWF := Lib.hid wf
  clear sf wf r50 r51 x5 x8 y4 b1 hR0 B0 z5 HCV
  refine wp_name fun a0 ha0 => ?_
  have e4 : a0.eval (.tmp 4) = .pointer (some ⟨w.heap.size, 0, none⟩) := by rw [ha0]; rfl
  have e5 : a0.eval (.tmp 5) = .pointer (some ⟨w.heap.size + 1, 0, none⟩) := by rw [ha0]; rfl
  have e8 : a0.eval (.tmp 8) = .pointer (some ⟨w.heap.size + 1 + 1, 0, none⟩) := by rw [ha0]; rfl
  have e9 : a0.eval (.tmp 9) = .int .i64 (f : Int) := by rw [ha0]; rfl
  have e10 : a0.eval (.tmp 10) = .int .i64 (q : Int) := by rw [ha0]; rfl
  have hz : a0.tmps.size = 43 := by rw [ha0]; rfl
  have HA0 := Lib.hid ha0
  clear ha0
  have SG : ∀ (d d' : Nat → Prop) (W W' : World), (fun (_ : Nat → Prop) (W : World) => Below w1.heap.size w1 W) d W → (∀ j, d j → d' j) → Below W.heap.size W W' → (fun (_ : Nat → Prop) (W : World) => Below w1.heap.size w1 W) d' W' := fun _ _ _ _ h _ b => Below.next h b
  refine wp_region_lastlyR 25 _ (Inv [18, 19, 20, 21, 22, 23, 24, 25, 26, 27, 28, 29, 30, 31, 32, 33, 34, 35, 36, 37, 38, 39, 40, 41, 42] a0 (fun (_ : Nat → Prop) (W : World) => Below w1.heap.size w1 W) [(⟨some 0, 18, some 8, fun v W => ∃ g, v = .slice (some ⟨g, 0, none⟩) 0 0 ∧ OwnRuns W w1.heap.size (.slice (some ⟨g, 0, none⟩) 0 0) []⟩ : Cl), ⟨some 1, 19, none, fun v _ => v = .pointer (some ⟨w.heap.size + 1, 1, none⟩)⟩, ⟨some 2, 20, none, fun v _ => v = .slice (some ad) m c⟩, ⟨some 3, 21, none, fun v _ => v = .int .i64 (f : Int)⟩, ⟨some 4, 22, none, fun v _ => v = .int .i64 (f : Int)⟩, ⟨some 5, 23, none, fun v _ => v = .int .i64 (q : Int)⟩, ⟨some 6, 24, none, fun v _ => v = .int .i64 ((f + q : Nat) : Int)⟩, ⟨some 7, 25, none, fun v _ => v = .slice (cutR (some ad) c f) (f + q - f) (c - f)⟩, ⟨some 8, 26, none, fun v W => OwnRuns W w1.heap.size v D⟩, ⟨some 9, 27, none, fun v _ => v = .int .i64 (f : Int)⟩, ⟨some 10, 28, none, fun v _ => v = .pointer (some ⟨w.heap.size + 1, 1, none⟩)⟩, ⟨some 11, 29, none, fun v _ => v = .slice (some ad) m c⟩, ⟨some 12, 30, none, fun v _ => v = .int .i64 (m : Int)⟩, ⟨some 13, 31, none, fun v _ => v = .pointer (some ⟨w.heap.size + 1, 0, none⟩)⟩, ⟨some 14, 32, none, fun v _ => v = .int .i64 T⟩, ⟨some 15, 33, none, fun v _ => v = wordsV⟩, ⟨some 16, 34, none, fun v _ => v = .pointer (some ⟨w.heap.size + 1, 1, none⟩)⟩, ⟨some 17, 35, none, fun v _ => v = .slice (some ad) m c⟩, ⟨some 18, 36, none, fun v W => OwnStrs W w1.heap.size v L⟩, ⟨some 19, 37, none, fun v _ => v = .int .i64 (f : Int)⟩, ⟨some 20, 38, none, fun v _ => v = .int .i64 (f : Int)⟩, ⟨some 21, 39, none, fun v _ => v = .int .i64 (q : Int)⟩, ⟨some 22, 40, none, fun v _ => v = .int .i64 ((f + q : Nat) : Int)⟩, ⟨some 23, 41, none, fun v W => OwnHs W w1.heap.size v V⟩, ⟨some 24, 42, none, fun v W => ∃ A' c' PA pn pc, (v) = claimV A' q c' f m T PA pn pc ∧ OwnRuns W w1.heap.size (.slice A' q c') D ∧ OwnHs W w1.heap.size (.slice PA pn pc) V⟩]) (by kernel_rfl) (by kernel_rfl) rfl rfl (fun d hcl hw j hj => ?_) rfl (Inv.start (Below.refl _ _).drew ⟨nofun, nofun, nofun, nofun, nofun, nofun, nofun, nofun, nofun, nofun, nofun, nofun, nofun, nofun, nofun, nofun, nofun, nofun, nofun, nofun, nofun, nofun, nofun, nofun, nofun, trivial⟩) ?_ ?_
  · have r24 := hw 24 rfl
    have r8 := hcl 24 _ 8 rfl rfl r24
    have r9 := hcl 24 _ 9 rfl rfl r24
    have r12 := hcl 24 _ 12 rfl rfl r24
    have r14 := hcl 24 _ 14 rfl rfl r24
    have r23 := hcl 24 _ 23 rfl rfl r24
    have r15 := hcl 23 _ 15 rfl rfl r23
    have r18 := hcl 23 _ 18 rfl rfl r23
    have r19 := hcl 23 _ 19 rfl rfl r23
    have r22 := hcl 23 _ 22 rfl rfl r23
    have r20 := hcl 22 _ 20 rfl rfl r22
    have r21 := hcl 22 _ 21 rfl rfl r22
    have r17 := hcl 18 _ 17 rfl rfl r18
    have r16 := hcl 17 _ 16 rfl rfl r17
    have r13 := hcl 14 _ 13 rfl rfl r14
    have r11 := hcl 12 _ 11 rfl rfl r12
    have r10 := hcl 11 _ 10 rfl rfl r11
    have r0 := hcl 8 _ 0 rfl rfl r8
    have r7 := hcl 8 _ 7 rfl rfl r8
    have r2 := hcl 7 _ 2 rfl rfl r7
    have r3 := hcl 7 _ 3 rfl rfl r7
    have r6 := hcl 7 _ 6 rfl rfl r7
    have r4 := hcl 6 _ 4 rfl rfl r6
    have r5 := hcl 6 _ 5 rfl rfl r6
    have r1 := hcl 2 _ 1 rfl rfl r2
    match j, hj with
    | 0, _ => exact r0
    | 1, _ => exact r1
    | 2, _ => exact r2
    | 3, _ => exact r3
    | 4, _ => exact r4
    | 5, _ => exact r5
    | 6, _ => exact r6
    | 7, _ => exact r7
    | 8, _ => exact r8
    | 9, _ => exact r9
    | 10, _ => exact r10
    | 11, _ => exact r11
    | 12, _ => exact r12
    | 13, _ => exact r13
    | 14, _ => exact r14
    | 15, _ => exact r15
    | 16, _ => exact r16
    | 17, _ => exact r17
    | 18, _ => exact r18
    | 19, _ => exact r19
    | 20, _ => exact r20
    | 21, _ => exact r21
    | 22, _ => exact r22
    | 23, _ => exact r23
    | 24, _ => exact r24
    | j + 25, h => exact absurd h (by omega)
  · have St : ∀ xc ∈ [(⟨some 0, 18, some 8, fun v W => ∃ g, v = .slice (some ⟨g, 0, none⟩) 0 0 ∧ OwnRuns W w1.heap.size (.slice (some ⟨g, 0, none⟩) 0 0) []⟩ : Cl), ⟨some 1, 19, none, fun v _ => v = .pointer (some ⟨w.heap.size + 1, 1, none⟩)⟩, ⟨some 2, 20, none, fun v _ => v = .slice (some ad) m c⟩, ⟨some 3, 21, none, fun v _ => v = .int .i64 (f : Int)⟩, ⟨some 4, 22, none, fun v _ => v = .int .i64 (f : Int)⟩, ⟨some 5, 23, none, fun v _ => v = .int .i64 (q : Int)⟩, ⟨some 6, 24, none, fun v _ => v = .int .i64 ((f + q : Nat) : Int)⟩, ⟨some 7, 25, none, fun v _ => v = .slice (cutR (some ad) c f) (f + q - f) (c - f)⟩, ⟨some 8, 26, none, fun v W => OwnRuns W w1.heap.size v D⟩, ⟨some 9, 27, none, fun v _ => v = .int .i64 (f : Int)⟩, ⟨some 10, 28, none, fun v _ => v = .pointer (some ⟨w.heap.size + 1, 1, none⟩)⟩, ⟨some 11, 29, none, fun v _ => v = .slice (some ad) m c⟩, ⟨some 12, 30, none, fun v _ => v = .int .i64 (m : Int)⟩, ⟨some 13, 31, none, fun v _ => v = .pointer (some ⟨w.heap.size + 1, 0, none⟩)⟩, ⟨some 14, 32, none, fun v _ => v = .int .i64 T⟩, ⟨some 15, 33, none, fun v _ => v = wordsV⟩, ⟨some 16, 34, none, fun v _ => v = .pointer (some ⟨w.heap.size + 1, 1, none⟩)⟩, ⟨some 17, 35, none, fun v _ => v = .slice (some ad) m c⟩, ⟨some 18, 36, none, fun v W => OwnStrs W w1.heap.size v L⟩, ⟨some 19, 37, none, fun v _ => v = .int .i64 (f : Int)⟩, ⟨some 20, 38, none, fun v _ => v = .int .i64 (f : Int)⟩, ⟨some 21, 39, none, fun v _ => v = .int .i64 (q : Int)⟩, ⟨some 22, 40, none, fun v _ => v = .int .i64 ((f + q : Nat) : Int)⟩, ⟨some 23, 41, none, fun v W => OwnHs W w1.heap.size v V⟩, ⟨some 24, 42, none, fun v W => ∃ A' c' PA pn pc, (v) = claimV A' q c' f m T PA pn pc ∧ OwnRuns W w1.heap.size (.slice A' q c') D ∧ OwnHs W w1.heap.size (.slice PA pn pc) V⟩], Lasts xc := AllC.mem ⟨(fun _ _ _ h b => by obtain ⟨g, e, h⟩ := h; exact ⟨g, e, h.next b⟩), lastsV0 _ _ _ _, lastsV0 _ _ _ _, lastsV0 _ _ _ _, lastsV0 _ _ _ _, lastsV0 _ _ _ _, lastsV0 _ _ _ _, lastsV0 _ _ _ _, (fun _ _ _ h b => h.next b), lastsV0 _ _ _ _, lastsV0 _ _ _ _, lastsV0 _ _ _ _, lastsV0 _ _ _ _, lastsV0 _ _ _ _, lastsV0 _ _ _ _, lastsV0 _ _ _ _, lastsV0 _ _ _ _, lastsV0 _ _ _ _, (fun _ _ _ h b => h.next b), lastsV0 _ _ _ _, lastsV0 _ _ _ _, lastsV0 _ _ _ _, lastsV0 _ _ _ _, (fun _ _ _ h b => h.next b), (fun _ _ _ h b => by obtain ⟨A', c', PA, pn, pc, e, h1, h2⟩ := h; exact ⟨A', c', PA, pn, pc, e, h1.next b, h2.next b⟩), trivial⟩
    clear HA0
    refine ⟨?_, ?_, ?_, ?_, ?_, ?_, ?_, ?_, ?_, ?_, ?_, ?_, ?_, ?_, ?_, ?_, ?_, ?_, ?_, ?_, ?_, ?_, ?_, ?_, ?_, trivial⟩
    · refine stepB rfl rfl (by decide) (by rw [hz]; decide) rfl rfl (by kernel_rfl) St SG fun d a W hF hG hH hn hcl hw => ?_
      refine ⟨.slice (some ⟨W.heap.size, 0, none⟩) 0 0, W.alloc (.cells #[] 34), ?_, Below.new1 W _, ?_⟩
      · clear hF hG hH hn hcl hw
        generalize a.eval = ρ at *
        go_simp
      · exact ⟨_, rfl, (OwnRuns.emptyR W).mono hG.size⟩
    · refine stepB rfl rfl (by decide) (by rw [hz]; decide) rfl rfl (by kernel_rfl) St SG fun d a W hF hG hH hn hcl hw => ?_
      have q5 := (hF.same 5 (by decide)).trans e5
      refine ⟨.pointer (some ⟨w.heap.size + 1, 1, none⟩), W, ?_, Below.refl _ _, ?_⟩
      · clear hF hG hH hn hcl hw
        generalize a.eval = ρ at *
        go_simp
      · rfl
    · refine stepB rfl rfl (by decide) (by rw [hz]; decide) rfl rfl (by kernel_rfl) St SG fun d a W hF hG hH hn hcl hw => ?_
      have q19 : a.eval (.tmp 19) = .pointer (some ⟨w.heap.size + 1, 1, none⟩) := hH.at_ (i := 1) rfl (hw 1 rfl) id
      have cc := cell_kept hG c51
      clear c50 c51
      refine ⟨.slice (some ad) m c, W, ?_, Below.refl _ _, ?_⟩
      · clear hF hG hH hn hcl hw
        generalize a.eval = ρ at *
        go_simp
      · rfl
    · refine stepB rfl rfl (by decide) (by rw [hz]; decide) rfl rfl (by kernel_rfl) St SG fun d a W hF hG hH hn hcl hw => ?_
      have q9 := (hF.same 9 (by decide)).trans e9
      refine ⟨.int .i64 (f : Int), W, ?_, Below.refl _ _, ?_⟩
      · clear hF hG hH hn hcl hw
        generalize a.eval = ρ at *
        go_simp
      · rfl
    · refine stepB rfl rfl (by decide) (by rw [hz]; decide) rfl rfl (by kernel_rfl) St SG fun d a W hF hG hH hn hcl hw => ?_
      have q9 := (hF.same 9 (by decide)).trans e9
      refine ⟨.int .i64 (f : Int), W, ?_, Below.refl _ _, ?_⟩
      · clear hF hG hH hn hcl hw
        generalize a.eval = ρ at *
        go_simp
      · rfl
    · refine stepB rfl rfl (by decide) (by rw [hz]; decide) rfl rfl (by kernel_rfl) St SG fun d a W hF hG hH hn hcl hw => ?_
      have q10 := (hF.same 10 (by decide)).trans e10
      refine ⟨.int .i64 (q : Int), W, ?_, Below.refl _ _, ?_⟩
      · clear hF hG hH hn hcl hw
        generalize a.eval = ρ at *
        go_simp
      · rfl
    · refine stepB rfl rfl (by decide) (by rw [hz]; decide) rfl rfl (by kernel_rfl) St SG fun d a W hF hG hH hn hcl hw => ?_
      have q22 : a.eval (.tmp 22) = .int .i64 (f : Int) := hH.at_ (i := 4) rfl (hw 4 rfl) id
      have q23 : a.eval (.tmp 23) = .int .i64 (q : Int) := hH.at_ (i := 5) rfl (hw 5 rfl) id
      have ww := HWF.out
      refine ⟨.int .i64 ((f + q : Nat) : Int), W, ?_, Below.refl _ _, ?_⟩
      · clear hF hG hH hn hcl hw
        generalize a.eval = ρ at *
        go_simp
      · rfl
    · refine stepB rfl rfl (by decide) (by rw [hz]; decide) rfl rfl (by kernel_rfl) St SG fun d a W hF hG hH hn hcl hw => ?_
      have q20 : a.eval (.tmp 20) = .slice (some ad) m c := hH.at_ (i := 2) rfl (hw 2 rfl) id
      have q21 : a.eval (.tmp 21) = .int .i64 (f : Int) := hH.at_ (i := 3) rfl (hw 3 rfl) id
      have q24 : a.eval (.tmp 24) = .int .i64 ((f + q : Nat) : Int) := hH.at_ (i := 6) rfl (hw 6 rfl) id
      refine ⟨.slice (cutR (some ad) c f) (f + q - f) (c - f), W, ?_, Below.refl _ _, ?_⟩
      · exact exec_sliceR_mid rfl q20 q21 q24 (by omega) (by omega)
      · rfl
    · refine stepB rfl rfl (by decide) (by rw [hz]; decide) rfl rfl (by kernel_rfl) St SG fun d a W hF hG hH hn hcl hw => ?_
      have q18 : ∃ g, (a.eval (.tmp 18)) = .slice (some ⟨g, 0, none⟩) 0 0 ∧ OwnRuns W w1.heap.size (.slice (some ⟨g, 0, none⟩) 0 0) [] := hH.at_ (i := 0) rfl (hw 0 rfl) hn
      have q25 : a.eval (.tmp 25) = .slice (cutR (some ad) c f) (f + q - f) (c - f) := hH.at_ (i := 7) rfl (hw 7 rfl) id
      obtain ⟨g, q18, h18⟩ := q18
      rw [show f + q - f = q from by omega] at q25
      exact exec_append_freshR (.tmp 18) (.tmp 25) rfl w1.heap.size g W (cutR (some ad) c f) q (c - f) D q18 q25 HCT.out h18 (HCU.out W (hR1.below hG)) HCN.out (by omega) hG.size
    · refine stepB rfl rfl (by decide) (by rw [hz]; decide) rfl rfl (by kernel_rfl) St SG fun d a W hF hG hH hn hcl hw => ?_
      have q9 := (hF.same 9 (by decide)).trans e9
      refine ⟨.int .i64 (f : Int), W, ?_, Below.refl _ _, ?_⟩
      · clear hF hG hH hn hcl hw
        generalize a.eval = ρ at *
        go_simp
      · rfl
    · refine stepB rfl rfl (by decide) (by rw [hz]; decide) rfl rfl (by kernel_rfl) St SG fun d a W hF hG hH hn hcl hw => ?_
      have q5 := (hF.same 5 (by decide)).trans e5
      refine ⟨.pointer (some ⟨w.heap.size + 1, 1, none⟩), W, ?_, Below.refl _ _, ?_⟩
      · clear hF hG hH hn hcl hw
        generalize a.eval = ρ at *
        go_simp
      · rfl
    · refine stepB rfl rfl (by decide) (by rw [hz]; decide) rfl rfl (by kernel_rfl) St SG fun d a W hF hG hH hn hcl hw => ?_
      have q28 : a.eval (.tmp 28) = .pointer (some ⟨w.heap.size + 1, 1, none⟩) := hH.at_ (i := 10) rfl (hw 10 rfl) id
      have cc := cell_kept hG c51
      clear c50 c51
      refine ⟨.slice (some ad) m c, W, ?_, Below.refl _ _, ?_⟩
      · clear hF hG hH hn hcl hw
        generalize a.eval = ρ at *
        go_simp
      · rfl
    · refine stepB rfl rfl (by decide) (by rw [hz]; decide) rfl rfl (by kernel_rfl) St SG fun d a W hF hG hH hn hcl hw => ?_
      have q29 : a.eval (.tmp 29) = .slice (some ad) m c := hH.at_ (i := 11) rfl (hw 11 rfl) id
      refine ⟨.int .i64 (m : Int), W, ?_, Below.refl _ _, ?_⟩
      · clear hF hG hH hn hcl hw
        generalize a.eval = ρ at *
        go_simp
      · rfl
    · refine stepB rfl rfl (by decide) (by rw [hz]; decide) rfl rfl (by kernel_rfl) St SG fun d a W hF hG hH hn hcl hw => ?_
      have q5 := (hF.same 5 (by decide)).trans e5
      refine ⟨.pointer (some ⟨w.heap.size + 1, 0, none⟩), W, ?_, Below.refl _ _, ?_⟩
      · clear hF hG hH hn hcl hw
        generalize a.eval = ρ at *
        go_simp
      · rfl
    · refine stepB rfl rfl (by decide) (by rw [hz]; decide) rfl rfl (by kernel_rfl) St SG fun d a W hF hG hH hn hcl hw => ?_
      have q31 : a.eval (.tmp 31) = .pointer (some ⟨w.heap.size + 1, 0, none⟩) := hH.at_ (i := 13) rfl (hw 13 rfl) id
      have cc := cell_kept hG c50
      clear c50 c51
      refine ⟨.int .i64 T, W, ?_, Below.refl _ _, ?_⟩
      · clear hF hG hH hn hcl hw
        generalize a.eval = ρ at *
        go_simp
      · rfl
    · refine stepB rfl rfl (by decide) (by rw [hz]; decide) rfl rfl (by kernel_rfl) St SG fun d a W hF hG hH hn hcl hw => ?_
      have q4 := (hF.same 4 (by decide)).trans e4
      refine ⟨wordsV, W, ?_, Below.refl _ _, ?_⟩
      · exact exec_load rfl (by rw [q4]; exact BoxW.load (BoxA.next z4 hG))
      · rfl
    · refine stepB rfl rfl (by decide) (by rw [hz]; decide) rfl rfl (by kernel_rfl) St SG fun d a W hF hG hH hn hcl hw => ?_
      have q5 := (hF.same 5 (by decide)).trans e5
      refine ⟨.pointer (some ⟨w.heap.size + 1, 1, none⟩), W, ?_, Below.refl _ _, ?_⟩
      · clear hF hG hH hn hcl hw
        generalize a.eval = ρ at *
        go_simp
      · rfl
    · refine stepB rfl rfl (by decide) (by rw [hz]; decide) rfl rfl (by kernel_rfl) St SG fun d a W hF hG hH hn hcl hw => ?_
      have q34 : a.eval (.tmp 34) = .pointer (some ⟨w.heap.size + 1, 1, none⟩) := hH.at_ (i := 16) rfl (hw 16 rfl) id
      have cc := cell_kept hG c51
      clear c50 c51
      refine ⟨.slice (some ad) m c, W, ?_, Below.refl _ _, ?_⟩
      · clear hF hG hH hn hcl hw
        generalize a.eval = ρ at *
        go_simp
      · rfl
    · refine stepC rfl rfl (by decide) (by rw [hz]; decide) rfl rfl (by kernel_rfl) St SG fun d a W hF hG hH hn hcl hw => ?_
      have q35 : a.eval (.tmp 35) = .slice (some ad) m c := hH.at_ (i := 17) rfl (hw 17 rfl) id
      have qf : a.eval (.func 49) = .func (.func 49) #[] #[] := rfl
      refine ⟨49, #[.slice (some ad) m c], ?_, ?_⟩
      · clear hF hG hH hn hcl hw
        generalize a.eval = ρ at *
        go_simp
      · refine (HLV.out W (hR1.below hG)).mono ?_; rintro e W' ⟨v, rfl, hO, b⟩; exact ⟨v, rfl, b, hO.mono (by have := hG.size; omega)⟩
    · refine stepB rfl rfl (by decide) (by rw [hz]; decide) rfl rfl (by kernel_rfl) St SG fun d a W hF hG hH hn hcl hw => ?_
      have q9 := (hF.same 9 (by decide)).trans e9
      refine ⟨.int .i64 (f : Int), W, ?_, Below.refl _ _, ?_⟩
      · clear hF hG hH hn hcl hw
        generalize a.eval = ρ at *
        go_simp
      · rfl
    · refine stepB rfl rfl (by decide) (by rw [hz]; decide) rfl rfl (by kernel_rfl) St SG fun d a W hF hG hH hn hcl hw => ?_
      have q9 := (hF.same 9 (by decide)).trans e9
      refine ⟨.int .i64 (f : Int), W, ?_, Below.refl _ _, ?_⟩
      · clear hF hG hH hn hcl hw
        generalize a.eval = ρ at *
        go_simp
      · rfl
    · refine stepB rfl rfl (by decide) (by rw [hz]; decide) rfl rfl (by kernel_rfl) St SG fun d a W hF hG hH hn hcl hw => ?_
      have q10 := (hF.same 10 (by decide)).trans e10
      refine ⟨.int .i64 (q : Int), W, ?_, Below.refl _ _, ?_⟩
      · clear hF hG hH hn hcl hw
        generalize a.eval = ρ at *
        go_simp
      · rfl
    · refine stepB rfl rfl (by decide) (by rw [hz]; decide) rfl rfl (by kernel_rfl) St SG fun d a W hF hG hH hn hcl hw => ?_
      have q38 : a.eval (.tmp 38) = .int .i64 (f : Int) := hH.at_ (i := 20) rfl (hw 20 rfl) id
      have q39 : a.eval (.tmp 39) = .int .i64 (q : Int) := hH.at_ (i := 21) rfl (hw 21 rfl) id
      have ww := HWF.out
      refine ⟨.int .i64 ((f + q : Nat) : Int), W, ?_, Below.refl _ _, ?_⟩
      · clear hF hG hH hn hcl hw
        generalize a.eval = ρ at *
        go_simp
      · rfl
    · refine stepC rfl rfl (by decide) (by rw [hz]; decide) rfl rfl (by kernel_rfl) St SG fun d a W hF hG hH hn hcl hw => ?_
      have q33 : a.eval (.tmp 33) = wordsV := hH.at_ (i := 15) rfl (hw 15 rfl) id
      have q36 : OwnStrs W w1.heap.size (a.eval (.tmp 36)) L := hH.at_ (i := 18) rfl (hw 18 rfl) id
      have q37 : a.eval (.tmp 37) = .int .i64 (f : Int) := hH.at_ (i := 19) rfl (hw 19 rfl) id
      have q40 : a.eval (.tmp 40) = .int .i64 ((f + q : Nat) : Int) := hH.at_ (i := 22) rfl (hw 22 rfl) id
      have qf : a.eval (.func 35) = .func (.func 35) #[] #[] := rfl
      obtain ⟨A9, c9, q36, hc9, hS9⟩ := q36.toStrs
      rw [HTL.out] at q36 hc9
      refine ⟨35, #[wordsV, .slice A9 m c9, .int .i64 (f : Int), .int .i64 ((f + q : Nat) : Int)], ?_, ?_⟩
      · clear hF hG hH hn hcl hw
        generalize a.eval = ρ at *
        go_simp
      · refine (HOU.out A9 c9 W hc9 hS9).mono ?_; rintro e W' ⟨v, rfl, hO, b⟩; exact ⟨v, rfl, b, hO.mono (by have := hG.size; omega)⟩
    · refine stepB rfl rfl (by decide) (by rw [hz]; decide) rfl rfl (by kernel_rfl) St SG fun d a W hF hG hH hn hcl hw => ?_
      have q26 : OwnRuns W w1.heap.size (a.eval (.tmp 26)) D := hH.at_ (i := 8) rfl (hw 8 rfl) id
      have q27 : a.eval (.tmp 27) = .int .i64 (f : Int) := hH.at_ (i := 9) rfl (hw 9 rfl) id
      have q30 : a.eval (.tmp 30) = .int .i64 (m : Int) := hH.at_ (i := 12) rfl (hw 12 rfl) id
      have q32 : a.eval (.tmp 32) = .int .i64 T := hH.at_ (i := 14) rfl (hw 14 rfl) id
      have q41 : OwnHs W w1.heap.size (a.eval (.tmp 41)) V := hH.at_ (i := 23) rfl (hw 23 rfl) id
      obtain ⟨A', c', e26, _, _⟩ := q26.runs
      rw [HCT.out] at e26
      rw [e26] at q26
      obtain ⟨PA, pc, e41, _, _⟩ := q41.toHs
      rw [e41] at q41
      refine ⟨claimV A' q c' f m T PA V.length pc, W, ?_, Below.refl _ _, A', c', PA, V.length, pc, rfl, q26, q41⟩
      clear hF hG hH hn hcl hw q26 q41
      generalize a.eval = ρ at *
      go_simp
  · intro d a W ⟨hF, hB, hH⟩ hall
    have k42 : ∃ A' c' PA pn pc, (a.eval (.tmp 42)) = claimV A' q c' f m T PA pn pc ∧ OwnRuns W w1.heap.size (.slice A' q c') D ∧ OwnHs W w1.heap.size (.slice PA pn pc) V := hH.at_ (i := 24) rfl (hall 24 (by decide)) id
    clear hH hall
    rw [hF.shape (by rw [hz]; decide)]
    clear hF
    simp only [List.foldl]
    generalize a.eval (.tmp 18) = z18 at *
    generalize a.eval (.tmp 19) = z19 at *
    generalize a.eval (.tmp 20) = z20 at *
    generalize a.eval (.tmp 21) = z21 at *
    generalize a.eval (.tmp 22) = z22 at *
    generalize a.eval (.tmp 23) = z23 at *
    generalize a.eval (.tmp 24) = z24 at *
    generalize a.eval (.tmp 25) = z25 at *
    generalize a.eval (.tmp 26) = z26 at *
    generalize a.eval (.tmp 27) = z27 at *
    generalize a.eval (.tmp 28) = z28 at *
    generalize a.eval (.tmp 29) = z29 at *
    generalize a.eval (.tmp 30) = z30 at *
    generalize a.eval (.tmp 31) = z31 at *
    generalize a.eval (.tmp 32) = z32 at *
    generalize a.eval (.tmp 33) = z33 at *
    generalize a.eval (.tmp 34) = z34 at *
    generalize a.eval (.tmp 35) = z35 at *
    generalize a.eval (.tmp 36) = z36 at *
    generalize a.eval (.tmp 37) = z37 at *
    generalize a.eval (.tmp 38) = z38 at *
    generalize a.eval (.tmp 39) = z39 at *
    generalize a.eval (.tmp 40) = z40 at *
    generalize a.eval (.tmp 41) = z41 at *
    generalize a.eval (.tmp 42) = z42 at *
    rw [HA0.out]
    simp only [Act.put, List.setIfInBounds_toArray, List.set_cons_zero, List.set_cons_succ]
    clear hz HA0 SG e4 e5 e8 e9 e10
    clear a a0
    obtain ⟨A', c', PA, pn, pc, rfl, hO, hV⟩ := k42
    have y8 := (hB.block _ (Array.getElem?_eq_some_iff.1 z8).1).trans z8
    refine wp_store_row 43 (.tmp 8) (.tmp 42) rfl (w.heap.size + 1 + 1) #[.slice A' q c', .int .i64 f, .int .i64 m, .int .i64 T, .slice PA pn pc] rfl rfl 43 zeroC y8 szClaim rfl (claim_one A' q c' f m T PA pn pc) ?_
    have g10 := But.row W (w.heap.size + 1 + 1) #[.slice A' q c', .int .i64 f, .int .i64 m, .int .i64 T, .slice PA pn pc]
    have l8 := (Array.getElem?_eq_some_iff.1 z8).1
    have yc : BoxC (W.setRow (w.heap.size + 1 + 1) #[.slice A' q c', .int .i64 f, .int .i64 m, .int .i64 T, .slice PA pn pc]) (w.heap.size + 1 + 1) A' q c' f m T PA pn pc := ⟨setRow_heap _ _ _ _ _ _ y8⟩
    dsimp only [Act.put]
    go_wp2_with (fail)
    refine bodyPost_ret (v := claimV A' q c' f m T PA pn pc) (results_claim1 rfl _ _ (w.heap.size + 1 + 1) A' q c' f m T PA pn pc rfl yc) rfl ?_
    have bs := B1.size
    exact ⟨A', q, c', PA, pn, pc, rfl, (hO.but (.inl (by omega)) g10).mono bs, (hV.but (.inl (by omega)) g10).mono bs, below_setRow (Below.on B1 hB) (by omega) _⟩
end Go.Proofs.YtcocengpekndjaaDoor
