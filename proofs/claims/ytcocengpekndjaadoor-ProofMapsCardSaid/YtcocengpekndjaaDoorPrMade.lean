/- The walk over made. -/
import Derived.Test.YtcocengpekndjaaDoorPrMadeA
namespace Go.Proofs.YtcocengpekndjaaDoor
open Go.RowKit
set_option maxRecDepth 100000 in
set_option maxHeartbeats 4000000 in
theorem made_no (A : Option Addr) (n c : Nat) (w : World) (h : n = 0 ∨ 60 < n) : Calls Tryd.prog 38 #[.slice A n c] w fun e w' => e = .returned (.tuple #[.agg #[.pointer none], .agg #[.int .i64 0, .slice none 0 0], .bool false]) ∧ Below w.heap.size w w' := by
  by_cases h0 : n = 0
  · subst h0
    go_enter Tryd.func38, Tryd.ntmps38
    go_wp2_with (fail)
    exact bodyPost_ret (v := .tuple #[.agg #[.pointer none], .agg #[.int .i64 0, .slice none 0 0], .bool false]) (by simp [results, Tryd.results38, go_sem]) rfl ⟨rfl, Below.on (Below.new1 _ _) (Below.new1 _ _)⟩
  · have h1 : (60 : Int) < n := by omega
    have h2 : ((n : Int) == 0) = false := by simp; omega
    clear h
    go_enter Tryd.func38, Tryd.ntmps38
    go_wp2_with (fail)
    exact bodyPost_ret (v := .tuple #[.agg #[.pointer none], .agg #[.int .i64 0, .slice none 0 0], .bool false]) (by simp [results, Tryd.results38, go_sem]) rfl ⟨rfl, Below.on (Below.new1 _ _) (Below.new1 _ _)⟩
/-- What made returns of tags. -/
def MadePost (w : World) (ts : List UInt8) (e : Ending) (w' : World) : Prop :=
  ∃ p A c, e = .returned (.tuple #[.agg #[.pointer p], .agg #[.int .i64 (ts.length : Int), .slice A (ofR ts).length c], .bool true]) ∧ Rep w' p (ofL ts) ∧ OwnRuns w' w.heap.size (.slice A (ofR ts).length c) (ofR ts) ∧ Below w.heap.size w w'
theorem made_end (w W : World) (b : Nat) (_hb : w.heap.size = b) (p : Option Addr) (L : List (Int × Int)) (R : List Rn) (A1 : Option Addr) (m c1 : Nat) (n : Int) (hR : R.length = m) (hp : Rep W p L) (h2 : W.heap[b]? = some (.cells #[.pointer none] 47 (0, 0))) (h3 : BoxM W (b + 1) 0 (.slice none 0 0)) (hO : OwnRuns W (b + 2) (.slice A1 m c1) R) (hB : Below b w W) :
    Rep ((((W.setCell ⟨b, 0, none⟩ (.pointer p)).setCell ⟨b + 1, 0, none⟩ (.int .i64 n)).setCell ⟨b + 1, 1, none⟩ (.slice A1 m c1)).drew) p L ∧ OwnRuns ((((W.setCell ⟨b, 0, none⟩ (.pointer p)).setCell ⟨b + 1, 0, none⟩ (.int .i64 n)).setCell ⟨b + 1, 1, none⟩ (.slice A1 m c1)).drew) b (.slice A1 m c1) R ∧ Below b w ((((W.setCell ⟨b, 0, none⟩ (.pointer p)).setCell ⟨b + 1, 0, none⟩ (.int .i64 n)).setCell ⟨b + 1, 1, none⟩ (.slice A1 m c1)).drew) := by
  subst hR
  have o2 : Other W b := ⟨#[.pointer none], 47, (0, 0), h2, by decide⟩
  have o3 : Other (W.setCell ⟨b, 0, none⟩ (.pointer p)) (b + 1) := ⟨#[.int .i64 0, .slice none 0 0], 69, (0, 0), (Below.heap_setCell W ⟨b, 0, none⟩ (.pointer p) (b + 1) (by simp)).trans h3, by decide⟩
  have o4 : Other ((W.setCell ⟨b, 0, none⟩ (.pointer p)).setCell ⟨b + 1, 0, none⟩ (.int .i64 n)) (b + 1) := by
    have h3' := (Below.heap_setCell W ⟨b, 0, none⟩ (.pointer p) (b + 1) (by simp)).trans h3
    refine ⟨#[.int .i64 n, .slice none 0 0], 69, (0, 0), ?_, by decide⟩
    generalize W.setCell ⟨b, 0, none⟩ (.pointer p) = W1 at *
    simp [World.setCell, Array.getElem?_modify, h3']
  refine ⟨Rep.below ((Below.refl _ _).drew) (((hp.set_ o2 0 none (.pointer p)).set_ o3 0 none (.int .i64 n)).set_ o4 1 none (.slice A1 R.length c1)), OwnRuns.next ((((hO.set (p := ⟨b, 0, none⟩) (by show b < b + 2; omega) _).set (p := ⟨b + 1, 0, none⟩) (by show b + 1 < b + 2; omega) _).set (p := ⟨b + 1, 1, none⟩) (by show b + 1 < b + 2; omega) (.slice A1 R.length c1)).mono (by omega)) ((Below.refl _ _).drew), ?_⟩
  exact (((hB.setCell (p := ⟨b, 0, none⟩) (Nat.le_refl _) _).setCell (p := ⟨b + 1, 0, none⟩) (Nat.le_succ _) _).setCell (p := ⟨b + 1, 1, none⟩) (Nat.le_succ _) _).drew
theorem szMap : (Tryd.prog.info? 47).map (·.size) = some 1 := by kernel_rfl
theorem szMap3 : (Tryd.prog.info? 69).map (·.size) = some 2 := by kernel_rfl
set_option maxRecDepth 100000 in
set_option maxHeartbeats 4000000 in
theorem made_yes (ts : List UInt8) (A : Option Addr) (n c : Nat) (w : World) (hn : ts.length = n) (h1 : 1 ≤ n) (h60 : n ≤ 60) (hT : Tags w A ts) : Calls Tryd.prog 38 #[.slice A n c] w (MadePost w ts) := by
  obtain ⟨wa, hwa⟩ : ∃ wa, (w.alloc (.cells #[.pointer none] 47)).alloc (.cells #[.int .i64 0, .slice none 0 0] 69) = wa := ⟨_, rfl⟩
  have Ba : Below w.heap.size w wa := hwa ▸ Below.on (Below.new1 _ _) (Below.new1 _ _)
  have x2 : wa.heap[w.heap.size]? = some (.cells #[.pointer none] 47 (0, 0)) := hwa ▸ (Below.new1 _ _).block _ (by simp) |>.trans (heap_alloc_new w _)
  have x3 : BoxM wa (w.heap.size + 1) 0 (.slice none 0 0) := by
    have := BoxM.new (w.alloc (.cells #[.pointer none] 47)) 0 (.slice none 0 0)
    rw [World.size_alloc] at this; exact hwa ▸ this
  have HW := Lib.hid hwa
  have sp := ofR_spec ts
  have HOF := Lib.hid (of_any ts A n c wa hn h60 (hT.next Ba))
  have hfr := ofR_from (ts := ts) (by omega) (by omega)
  have hgl := sp.2.2.2.2.1
  have m2 : ¬ (60 : Int) < n := by omega
  have m3 : ((n : Int) == 0) = false := by simp; omega
  rw [hn] at hfr hgl
  unfold OfPost at HOF
  unfold MadePost
  rw [hn] at HOF ⊢
  generalize ofR ts = R at *
  generalize ofL ts = L at *
  obtain ⟨m, hm⟩ : ∃ m, R.length = m := ⟨_, rfl⟩
  rw [hm] at hgl HOF ⊢
  have HRL := Lib.hid hm
  have hf := fun A9 c9 W (hR : Runs W A9 R) hc => from_any n R A9 c9 W hR hc (by omega)
  unfold FromPost at hf
  rw [hfr, hm] at hf
  have HF := Lib.hid hf
  clear hwa sp hfr hf hn hm hT
  go_enter Tryd.func38, Tryd.ntmps38
  go_upto_region 1 with (fail)
  change Code.wp _ _ _ _ ((w.alloc (.cells #[.pointer none] 47)).alloc (.cells #[.int .i64 0, .slice none 0 0] 69))
  rw [HW.out]
  clear HW
  go_upto_region 4 with (first
    | (go_at_call 82; refine HOF.out.mono ?_; rintro e w0 ⟨A1, c1, rfl, hO0, b0⟩))
  obtain ⟨w1, hW1⟩ : ∃ w1, World.alloc w0 (.cells #[.int .i64 (n : Int), .slice A1 m c1] 69) = w1 := ⟨_, rfl⟩
  have x5 : BoxM w1 w0.heap.size n (.slice A1 m c1) := hW1 ▸ BoxM.new w0 _ _
  have b1 : Below w0.heap.size w0 w1 := hW1 ▸ Below.new1 _ _
  have hO1 := hO0.next b1
  have hR1 : Runs w1 A1 R := by
    obtain ⟨A', c', e, _, h⟩ := hO1.runs
    cases e; exact h
  have hA1 : A1 = none → c1 = 0 := fun e => by
    rcases hO1.2 with ⟨h, _⟩ | ⟨g, cap, cur, h, _⟩
    · cases h; rfl
    · rw [e] at h; cases h
  have HA1 := Lib.hid hA1
  have B1 := Below.on b0 b1
  have y2 : w1.heap[w.heap.size]? = some (.cells #[.pointer none] 47 (0, 0)) := (B1.block _ (Array.getElem?_eq_some_iff.1 x2).1).trans x2
  have y3 : BoxM w1 (w.heap.size + 1) 0 (.slice none 0 0) := x3.next B1
  have BB := Below.on Ba B1
  have c50 := x5.c0
  have c51 := x5.c1
  change Code.wp _ _ _ _ (World.alloc w0 (.cells #[.int .i64 (n : Int), .slice A1 m c1] 69))
  rw [hW1]
  have hOw := hO1.mono (base' := w.heap.size + 2) x3.lt
  have l5 := x5.lt
  have l5' : w.heap.size + 1 < w0.heap.size := by have := b0.size; have := x3.lt; omega
  generalize w0.heap.size = g5 at *
  clear hA1 hW1 hO0 hO1 x2 x3 b0 b1 HOF
  refine wp_name fun a0 ha0 => ?_
  have e5 : a0.eval (.tmp 5) = .pointer (some ⟨g5, 0, none⟩) := by rw [ha0]; rfl
  have hz : a0.tmps.size = 34 := by rw [ha0]; rfl
  have HA0 := Lib.hid ha0
  clear ha0
  have SG : ∀ (d d' : Nat → Prop) (W W' : World), (fun (_ : Nat → Prop) (W : World) => Below w1.heap.size w1 W) d W → (∀ j, d j → d' j) → Below W.heap.size W W' → (fun (_ : Nat → Prop) (W : World) => Below w1.heap.size w1 W) d' W' := fun _ _ _ _ h _ b => Below.next h b
  refine wp_region_steps (Inv [21, 22, 23, 24, 25, 26, 27, 20, 28, 29, 6, 7] a0 (fun (_ : Nat → Prop) (W : World) => Below w1.heap.size w1 W) [(⟨some 0, 21, none, fun v _ => v = .pointer (some ⟨g5, 0, none⟩)⟩ : Cl), ⟨some 1, 22, none, fun v _ => v = .int .i64 (n : Int)⟩, ⟨some 2, 23, some 5, fun v W => ∃ g, v = .slice (some ⟨g, 0, none⟩) 0 0 ∧ OwnRuns W w1.heap.size (.slice (some ⟨g, 0, none⟩) 0 0) []⟩, ⟨some 3, 24, none, fun v _ => v = .pointer (some ⟨g5, 1, none⟩)⟩, ⟨some 4, 25, none, fun v _ => v = .slice A1 m c1⟩, ⟨some 5, 26, some 6, fun v W => OwnRuns W w1.heap.size v R⟩, ⟨some 6, 27, none, fun v W => ∃ p, v = .tuple #[.agg #[.pointer p], .int .i64 0] ∧ Rep W p L⟩, ⟨some 7, 20, none, fun v W => ∃ p, v = .tuple #[.agg #[.pointer p], .int .i64 0] ∧ Rep W p L⟩, ⟨some 8, 28, some 11, fun v W => ∃ p, v = .agg #[.pointer p] ∧ Rep W p L⟩, ⟨some 9, 29, none, fun v _ => v = .int .i64 0⟩, ⟨some 10, 6, some 11, fun v W => ∃ g, v = .pointer (some ⟨g, 0, none⟩) ∧ w1.heap.size ≤ g ∧ W.heap[g]? = some (.cells #[.pointer none] 47 (0, 0))⟩, ⟨some 11, 6, none, fun v W => ∃ g p, v = .pointer (some ⟨g, 0, none⟩) ∧ w1.heap.size ≤ g ∧ W.heap[g]? = some (.cells #[.pointer p] 47 (0, 0)) ∧ Rep W p L⟩, ⟨some 12, 7, none, fun v _ => v = .int .i64 0⟩]) (by kernel_rfl) (by kernel_rfl) (Inv.start (Below.refl _ _).drew ⟨nofun, nofun, nofun, nofun, nofun, nofun, nofun, nofun, nofun, nofun, nofun, nofun, nofun, trivial⟩) ?_ ?_
  · have St : ∀ xc ∈ [(⟨some 0, 21, none, fun v _ => v = .pointer (some ⟨g5, 0, none⟩)⟩ : Cl), ⟨some 1, 22, none, fun v _ => v = .int .i64 (n : Int)⟩, ⟨some 2, 23, some 5, fun v W => ∃ g, v = .slice (some ⟨g, 0, none⟩) 0 0 ∧ OwnRuns W w1.heap.size (.slice (some ⟨g, 0, none⟩) 0 0) []⟩, ⟨some 3, 24, none, fun v _ => v = .pointer (some ⟨g5, 1, none⟩)⟩, ⟨some 4, 25, none, fun v _ => v = .slice A1 m c1⟩, ⟨some 5, 26, some 6, fun v W => OwnRuns W w1.heap.size v R⟩, ⟨some 6, 27, none, fun v W => ∃ p, v = .tuple #[.agg #[.pointer p], .int .i64 0] ∧ Rep W p L⟩, ⟨some 7, 20, none, fun v W => ∃ p, v = .tuple #[.agg #[.pointer p], .int .i64 0] ∧ Rep W p L⟩, ⟨some 8, 28, some 11, fun v W => ∃ p, v = .agg #[.pointer p] ∧ Rep W p L⟩, ⟨some 9, 29, none, fun v _ => v = .int .i64 0⟩, ⟨some 10, 6, some 11, fun v W => ∃ g, v = .pointer (some ⟨g, 0, none⟩) ∧ w1.heap.size ≤ g ∧ W.heap[g]? = some (.cells #[.pointer none] 47 (0, 0))⟩, ⟨some 11, 6, none, fun v W => ∃ g p, v = .pointer (some ⟨g, 0, none⟩) ∧ w1.heap.size ≤ g ∧ W.heap[g]? = some (.cells #[.pointer p] 47 (0, 0)) ∧ Rep W p L⟩, ⟨some 12, 7, none, fun v _ => v = .int .i64 0⟩], Lasts xc := AllC.mem ⟨lastsV0 _ _ _ _, lastsV0 _ _ _ _, (fun _ _ _ h b => by obtain ⟨g, e, h⟩ := h; exact ⟨g, e, h.next b⟩), lastsV0 _ _ _ _, lastsV0 _ _ _ _, (fun _ _ _ h b => h.next b), (fun _ _ _ h b => by obtain ⟨p, e, h⟩ := h; exact ⟨p, e, h.below b⟩), (fun _ _ _ h b => by obtain ⟨p, e, h⟩ := h; exact ⟨p, e, h.below b⟩), (fun _ _ _ h b => by obtain ⟨p, e, h⟩ := h; exact ⟨p, e, h.below b⟩), lastsV0 _ _ _ _, (fun _ _ _ h b => by obtain ⟨g, e, h1, h⟩ := h; exact ⟨g, e, h1, (b.block g (Array.getElem?_eq_some_iff.1 h).1).trans h⟩), (fun _ _ _ h b => by obtain ⟨g, p, e, h1, h, h2⟩ := h; exact ⟨g, p, e, h1, (b.block g (Array.getElem?_eq_some_iff.1 h).1).trans h, h2.below b⟩), lastsV0 _ _ _ _, trivial⟩
    clear HA0
    refine ⟨?_, ?_, ?_, ?_, ?_, ?_, ?_, ?_, ?_, ?_, ?_, ?_, ?_, trivial⟩
    · refine stepB rfl rfl (by decide) (by rw [hz]; decide) rfl rfl (by kernel_rfl) St SG fun d a W hF hG hH hn hcl hw => ?_
      have q5 := (hF.same 5 (by decide)).trans e5
      refine ⟨.pointer (some ⟨g5, 0, none⟩), W, ?_, Below.refl _ _, ?_⟩
      · clear hF hG hH hn hcl hw
        generalize a.eval = ρ at *
        go_simp
      · rfl
    · refine stepB rfl rfl (by decide) (by rw [hz]; decide) rfl rfl (by kernel_rfl) St SG fun d a W hF hG hH hn hcl hw => ?_
      have q21 : a.eval (.tmp 21) = .pointer (some ⟨g5, 0, none⟩) := hH.at_ (i := 0) rfl (hw 0 rfl) id
      have c := cell_kept hG c50
      refine ⟨.int .i64 (n : Int), W, ?_, Below.refl _ _, ?_⟩
      · clear hF hG hH hn hcl hw
        generalize a.eval = ρ at *
        go_simp
      · rfl
    · refine stepB rfl rfl (by decide) (by rw [hz]; decide) rfl rfl (by kernel_rfl) St SG fun d a W hF hG hH hn hcl hw => ?_
      refine ⟨.slice (some ⟨W.heap.size, 0, none⟩) 0 0, W.alloc (.cells #[] 34), ?_, Below.new1 W _, ?_⟩
      · clear hF hG hH hn hcl hw
        generalize a.eval = ρ at *
        go_simp
      · exact ⟨_, rfl, (OwnRuns.emptyR W).mono hG.size⟩
    · refine stepB rfl rfl (by decide) (by rw [hz]; decide) rfl rfl (by kernel_rfl) St SG fun d a W hF hG hH hn hcl hw => ?_
      have q5 := (hF.same 5 (by decide)).trans e5
      refine ⟨.pointer (some ⟨g5, 1, none⟩), W, ?_, Below.refl _ _, ?_⟩
      · clear hF hG hH hn hcl hw
        generalize a.eval = ρ at *
        go_simp
      · rfl
    · refine stepB rfl rfl (by decide) (by rw [hz]; decide) rfl rfl (by kernel_rfl) St SG fun d a W hF hG hH hn hcl hw => ?_
      have q24 : a.eval (.tmp 24) = .pointer (some ⟨g5, 1, none⟩) := hH.at_ (i := 3) rfl (hw 3 rfl) id
      have c := cell_kept hG c51
      refine ⟨.slice A1 m c1, W, ?_, Below.refl _ _, ?_⟩
      · clear hF hG hH hn hcl hw
        generalize a.eval = ρ at *
        go_simp
      · rfl
    · refine stepB rfl rfl (by decide) (by rw [hz]; decide) rfl rfl (by kernel_rfl) St SG fun d a W hF hG hH hn hcl hw => ?_
      have q23 : ∃ g, (a.eval (.tmp 23)) = .slice (some ⟨g, 0, none⟩) 0 0 ∧ OwnRuns W w1.heap.size (.slice (some ⟨g, 0, none⟩) 0 0) [] := hH.at_ (i := 2) rfl (hw 2 rfl) hn
      have q25 : a.eval (.tmp 25) = .slice A1 m c1 := hH.at_ (i := 4) rfl (hw 4 rfl) id
      obtain ⟨g, q23, h23⟩ := q23
      exact exec_append_freshR (.tmp 23) (.tmp 25) rfl w1.heap.size g W A1 m c1 R q23 q25 HRL.out h23 (hR1.below hG) HA1.out (by omega) hG.size
    · refine stepC rfl rfl (by decide) (by rw [hz]; decide) rfl rfl (by kernel_rfl) St SG fun d a W hF hG hH hn hcl hw => ?_
      have q22 : a.eval (.tmp 22) = .int .i64 (n : Int) := hH.at_ (i := 1) rfl (hw 1 rfl) id
      have q26 : OwnRuns W w1.heap.size (a.eval (.tmp 26)) R := hH.at_ (i := 5) rfl (hw 5 rfl) hn
      have qf : a.eval (.func 83) = .func (.func 83) #[] #[] := rfl
      obtain ⟨A9, c9, q26, hc9, hR9⟩ := q26.runs
      rw [HRL.out] at q26 hc9
      refine ⟨83, #[.int .i64 (n : Int), .slice A9 m c9], ?_, ?_⟩
      · clear hF hG hH hn hcl hw
        generalize a.eval = ρ at *
        go_simp
      · refine (HF.out A9 c9 W hR9 hc9).mono ?_; rintro e W' ⟨p, rfl, hp, b⟩; exact ⟨_, rfl, b, p, rfl, hp⟩
    · refine stepB rfl rfl (by decide) (by rw [hz]; decide) rfl rfl (by kernel_rfl) St SG fun d a W hF hG hH hn hcl hw => ?_
      have q27 : ∃ p, (a.eval (.tmp 27)) = .tuple #[.agg #[.pointer p], .int .i64 0] ∧ Rep W p L := hH.at_ (i := 6) rfl (hw 6 rfl) id
      obtain ⟨p, q27, hp⟩ := q27
      refine ⟨.tuple #[.agg #[.pointer p], .int .i64 0], W, ?_, Below.refl _ _, p, rfl, hp⟩
      clear hF hG hH hn hcl hw
      generalize a.eval = ρ at *
      go_simp
    · refine stepB rfl rfl (by decide) (by rw [hz]; decide) rfl rfl (by kernel_rfl) St SG fun d a W hF hG hH hn hcl hw => ?_
      have q20 : ∃ p, (a.eval (.tmp 20)) = .tuple #[.agg #[.pointer p], .int .i64 0] ∧ Rep W p L := hH.at_ (i := 7) rfl (hw 7 rfl) id
      obtain ⟨p, q20, hp⟩ := q20
      refine ⟨.agg #[.pointer p], W, ?_, Below.refl _ _, p, rfl, hp⟩
      clear hF hG hH hn hcl hw
      generalize a.eval = ρ at *
      go_simp
    · refine stepB rfl rfl (by decide) (by rw [hz]; decide) rfl rfl (by kernel_rfl) St SG fun d a W hF hG hH hn hcl hw => ?_
      have q20 : ∃ p, (a.eval (.tmp 20)) = .tuple #[.agg #[.pointer p], .int .i64 0] ∧ Rep W p L := hH.at_ (i := 7) rfl (hw 7 rfl) id
      obtain ⟨p, q20, _⟩ := q20
      refine ⟨.int .i64 0, W, ?_, Below.refl _ _, rfl⟩
      clear hF hG hH hn hcl hw
      generalize a.eval = ρ at *
      go_simp
    · refine stepB rfl rfl (by decide) (by rw [hz]; decide) rfl rfl (by kernel_rfl) St SG fun d a W hF hG hH hn hcl hw => ?_
      refine ⟨.pointer (some ⟨W.heap.size, 0, none⟩), W.alloc (.cells #[.pointer none] 47), ?_, Below.new1 W _, ?_⟩
      · clear hF hG hH hn hcl hw
        generalize a.eval = ρ at *
        go_simp
      · exact ⟨_, rfl, hG.size, heap_alloc_new W _⟩
    · refine stepRow 6 (.tmp 28) 47 rfl rfl rfl rfl rfl w1.heap.size (AllC.mem ⟨.inr (.inr (.inl fun _ _ _ _ _ _ _ h => h)), .inr (.inr (.inl fun _ _ _ _ _ _ _ h => h)), .inr (.inr (.inr fun d hcl hw => hcl 6 _ 5 rfl rfl (hcl 7 _ 6 rfl rfl (hcl 8 _ 7 rfl rfl (hw 8 rfl))))), .inr (.inr (.inl fun _ _ _ _ _ _ _ h => h)), .inr (.inr (.inl fun _ _ _ _ _ _ _ h => h)), .inr (.inr (.inr fun d hcl hw => hcl 7 _ 6 rfl rfl (hcl 8 _ 7 rfl rfl (hw 8 rfl)))), .inr (.inr (.inl fun _ _ _ _ _ _ ho h => by obtain ⟨p, e, h⟩ := h; exact ⟨p, e, h.row ⟨_, _, _, ho, by decide⟩ _⟩)), .inr (.inr (.inl fun _ _ _ _ _ _ ho h => by obtain ⟨p, e, h⟩ := h; exact ⟨p, e, h.row ⟨_, _, _, ho, by decide⟩ _⟩)), .inr (.inl rfl), .inr (.inr (.inl fun _ _ _ _ _ _ _ h => h)), .inr (.inl rfl), .inl rfl, .inr (.inr (.inl fun _ _ _ _ _ _ _ h => h)), trivial⟩) (fun _ _ _ _ _ hg h _ => below_setRow h hg _) fun d a W hF hG hH hn hcl hw => ?_
      have q6 : ∃ g, (a.eval (.tmp 6)) = .pointer (some ⟨g, 0, none⟩) ∧ w1.heap.size ≤ g ∧ W.heap[g]? = some (.cells #[.pointer none] 47 (0, 0)) := hH.at_ (i := 10) rfl (hw 10 rfl) hn
      have q28 : ∃ p, (a.eval (.tmp 28)) = .agg #[.pointer p] ∧ Rep W p L := hH.at_ (i := 8) rfl (hw 8 rfl) hn
      obtain ⟨g, q6, hg, hh⟩ := q6
      obtain ⟨p, q28, hp⟩ := q28
      exact ⟨g, #[.pointer p], #[.pointer none], q6, hg, q28, hh, szMap, rfl, by simp [Value.oneCell'], g, p, rfl, hg, setRow_heap _ _ _ _ _ _ hh, hp.row ⟨_, _, _, hh, by decide⟩ _⟩
    · refine stepB rfl rfl (by decide) (by rw [hz]; decide) rfl rfl (by kernel_rfl) St SG fun d a W hF hG hH hn hcl hw => ?_
      have q29 : a.eval (.tmp 29) = .int .i64 0 := hH.at_ (i := 9) rfl (hw 9 rfl) id
      refine ⟨.int .i64 0, W, ?_, Below.refl _ _, ?_⟩
      · clear hF hG hH hn hcl hw
        generalize a.eval = ρ at *
        go_simp
      · rfl
  · intro d a W ⟨hF, hB, hH⟩ hall
    have k7 : a.eval (.tmp 7) = .int .i64 0 := hH.at_ (i := 12) rfl (hall 12 (by decide)) id
    have s11 : ∃ g p, (a.eval (.tmp 6)) = .pointer (some ⟨g, 0, none⟩) ∧ w1.heap.size ≤ g ∧ W.heap[g]? = some (.cells #[.pointer p] 47 (0, 0)) ∧ Rep W p L := hH.at_ (i := 11) rfl (hall 11 (by decide)) id
    clear hH hall
    rw [hF.shape (by rw [hz]; decide)]
    clear hF
    simp only [List.foldl]
    generalize a.eval (.tmp 21) = z21 at *
    generalize a.eval (.tmp 22) = z22 at *
    generalize a.eval (.tmp 23) = z23 at *
    generalize a.eval (.tmp 24) = z24 at *
    generalize a.eval (.tmp 25) = z25 at *
    generalize a.eval (.tmp 26) = z26 at *
    generalize a.eval (.tmp 27) = z27 at *
    generalize a.eval (.tmp 20) = z20 at *
    generalize a.eval (.tmp 28) = z28 at *
    generalize a.eval (.tmp 29) = z29 at *
    generalize a.eval (.tmp 6) = z6 at *
    generalize a.eval (.tmp 7) = z7 at *
    subst k7
    rw [HA0.out]
    simp only [Act.put, List.setIfInBounds_toArray, List.set_cons_zero, List.set_cons_succ]
    clear hz HA0 SG e5
    clear a a0
    obtain ⟨g6, p, rfl, hg6, x6, hp⟩ := s11
    have z5 := x5.next hB
    have z3 := y3.next hB
    have z2 : W.heap[w.heap.size]? = some (.cells #[.pointer none] 47 (0, 0)) := (hB.block _ (Array.getElem?_eq_some_iff.1 y2).1).trans y2
    have hOW := hOw.next hB
    have BW := Below.on BB hB
    have d6 : W.cell? ⟨g6, 0, none⟩ = some (.pointer p) := (cell_of_row W _ 0 _ _ _ x6).trans rfl
    have d50 := z5.c0
    have d51 := z5.c1
    have d30 := z3.c0
    have d31 := z3.c1
    have d2 : W.cell? ⟨w.heap.size, 0, none⟩ = some (.pointer none) := (cell_of_row W _ 0 _ _ _ z2).trans rfl
    have fr3 := z3.frozen 0
    have fr31 := z3.frozen 1
    have fr2 : W.frozen? ⟨w.heap.size, 0, none⟩ = false := by simp [World.frozen?, z2]
    have HOW := Lib.hid hOW
    have HBW := Lib.hid BW
    have HP := Lib.hid hp
    have HZ3 := Lib.hid z3
    have HZ2 := Lib.hid z2
    have e1 : ¬ w.heap.size = g5 := by omega
    have e2 : ¬ g5 = w.heap.size := by omega
    have e3 : ¬ w.heap.size + 1 = g5 := by omega
    have e4 : ¬ g5 = w.heap.size + 1 := by omega
    have e5 : ¬ w.heap.size = g6 := by omega
    have e6 : ¬ g6 = w.heap.size := by omega
    have e7 : ¬ w.heap.size + 1 = g6 := by omega
    have e8 : ¬ g6 = w.heap.size + 1 := by omega
    clear hOW BW hp z3 z2 z5 x6 x5 y3 y2 hR1 HA1 HF c50 c51 hOw BB Ba hB hg6 l5' l5
    generalize hb : w.heap.size = b at *
    have HBb := Lib.hid hb
    clear hb
    go_upto_region 5 with (fail)
    go_region
    have ME := made_end w W b HBb.out p L R A1 m c1 n HRL.out HP.out HZ2.out HZ3.out HOW.out HBW.out
    go_wp2_with (fail)
    rw [HBb.out]
    exact bodyPost_ret (v := .tuple #[.agg #[.pointer p], .agg #[.int .i64 (n : Int), .slice A1 m c1], .bool true]) (by simp [results, Tryd.results38, go_sem, d2, d30, d31]) rfl ⟨p, A1, c1, rfl, ME.1, ME.2.1, ME.2.2⟩
end Go.Proofs.YtcocengpekndjaaDoor
