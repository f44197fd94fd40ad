/- The walk over the program's Verify. -/
import Derived.Test.YtcocengpekndjaaDoorPrRVer
import Derived.Test.YtcocengpekndjaaDoorPrHashes
import Derived.Test.YtcocengpekndjaaDoorPrBothL
namespace Go.Proofs.YtcocengpekndjaaDoor
open Go.RowKit
theorem verM_reb {root s : Bs} {i n : Nat} {path : List Bs} (h : i < n ∧ n ≤ 4096) {x1 : Bs} {r2 : Rd} (hR : rebuildM sha n i [leafM sha s] (path, false) = (x1, r2)) : verM root s i n path = (x1 == root && doneM r2) := by
  have hb := rebuild_fold sha n n i [leafM sha s] path (Nat.le_refl _) (by omega) (by simp)
  have hf := foldR_fold n n i [s] path (Nat.le_refl _)
  simp only [List.map_cons, List.map_nil] at hf
  unfold verM
  rw [if_pos (by omega), Int.toNat_natCast]
  cases e : foldM sha n i [leafM sha s] path with
  | none =>
    rw [e, hR] at hb
    rw [e] at hf
    simp only at hb hf
    subst hb
    simp [doneM, hf]
  | some x =>
    obtain ⟨a, u⟩ := x
    rw [e, hR] at hb
    rw [e] at hf
    simp only at hb hf
    simp only [Prod.mk.injEq] at hb
    obtain ⟨⟨rfl, rfl⟩, hu⟩ := hb
    have : (path.drop u).isEmpty = (u == path.length) := by
      rw [Bool.eq_iff_iff]
      simp [List.isEmpty_iff]; omega
    rw [hf]
    simp only [doneM, this, Bool.not_false, Bool.true_and]
    cases (u == path.length) <;> cases (x1 == root) <;> rfl
set_option maxRecDepth 100000 in
set_option maxHeartbeats 4000000 in
theorem pver_bad (root s : Bs) (i n : Int) (A : Option Addr) (k c : Nat) (w : World) (h : ¬ (0 ≤ i ∧ i < n ∧ n ≤ 4096)) :
    Calls Tryd.prog 28 #[hashV root, .string ⟨s.toArray⟩, .int .i64 i, .int .i64 n, .slice A k c] w fun e w' => e = .returned (.bool false) ∧ Below w.heap.size w w' := by
  have h3 : i < 0 ∨ (¬ i < 0 ∧ n ≤ i) ∨ (¬ i < 0 ∧ ¬ n ≤ i ∧ 4096 < n) := by omega
  have B0 : Below w.heap.size w (w.alloc (.cells (cellsB root).toArray 30)) := Below.new1 _ _
  clear h
  rcases h3 with h | ⟨h1, h⟩ | ⟨h1, h2, h⟩
  all_goals
    go_enter Tryd.func28, Tryd.ntmps28
    go_wp2_with (fail)
    go_ret
    exact ⟨rfl, B0⟩
theorem hs_one' (w : World) {x : Bs} (hx : x.length = 32) : Hs (w.alloc (.cells (cellsB x).toArray 30)) (some ⟨w.heap.size, 0, none⟩) [x] := by
  refine ⟨fun y hy => by rw [List.mem_singleton.1 hy]; exact hx, .inr ⟨_, rfl, fun j u hu => ?_⟩⟩
  rw [Addr.add_mid, Nat.zero_add, cell_of_row _ _ _ _ _ _ (heap_alloc_new w _)]
  simpa [cellsH] using hu
set_option maxRecDepth 100000 in
set_option maxHeartbeats 4000000 in
theorem pver_good (root s : Bs) (i n : Nat) (path : List Bs) (A : Option Addr) (k c : Nat) (w : World) (h1 : i < n) (h3 : n ≤ 4096) (hk : path.length = k) (hkc : k ≤ c) (hk5 : k ≤ 5000) (hsl : s.length ≤ 90000) (hr : root.length = 32) (hs : Hs w A path) (kon : Kon w) :
    Calls Tryd.prog 28 #[hashV root, .string ⟨s.toArray⟩, .int .i64 i, .int .i64 n, .slice A k c] w fun e w' => e = .returned (.bool (verM root s i n path)) ∧ Below w.heap.size w w' := by
  have lfl : (leafM sha s).length = 32 := sha_length _
  have o1 := rebuildM_ok n n i [leafM sha s] (path, false) (Nat.le_refl _) (fun y hy => by rw [List.mem_singleton.1 hy]; exact lfl) hs.1
  have p1 := fun g kc mm b W (h0 : Hs W (some ⟨g, 0, none⟩) [leafM sha s]) (h1 : 1 ≤ kc) (h : Kon W) (hb : BoxRd W mm b (path, false)) => rebuild_any n i [leafM sha s] (some ⟨g, 0, none⟩) 1 kc (path, false) mm b W (by omega) (by omega) rfl h1 (by omega) (by omega) (by omega) (by show path.length ≤ _; omega) h0 h hb
  have hlf := fun W (h : Kon W) => hleaf_any s W (by omega) h
  obtain ⟨R, hR⟩ : ∃ R, rebuildM sha n i [leafM sha s] (path, false) = R := ⟨_, rfl⟩
  rw [hR] at o1 p1
  obtain ⟨x1, r2⟩ := R
  rw [verM_reb ⟨h1, h3⟩ hR]
  have la := o1.1
  generalize leafM sha s = lf at *
  simp only at la p1 ⊢
  obtain ⟨b1, hb1⟩ : ∃ b, (x1 == root) = b := ⟨_, rfl⟩
  rw [hb1]
  have he1 := fun W => eq_hash la hr b1 hb1 W
  obtain ⟨w0, hW0⟩ : ∃ w0, w.alloc (.cells (cellsB root).toArray 30) = w0 := ⟨_, rfl⟩
  have B0 : Below w.heap.size w w0 := hW0 ▸ Below.new1 _ _
  have y5 : BoxH w0 w.heap.size root := hW0 ▸ BoxH.new w root
  have hb0 : BoxRd (w0.alloc (.cells #[.slice A k c, .bool false] 105)) w0.heap.size w0.heap.size (path, false) := by
    refine ⟨Nat.le_refl _, A, c, ?_, by show path.length ≤ _; omega, (hs.next B0).next (Below.new1 _ _), (hs.next B0).inB⟩
    show _ = some (Obj.cells #[.slice A path.length c, .bool false] 105 (0, 0))
    rw [hk]
    exact heap_alloc_new w0 _
  have kon1 := (kon.next B0).next (Below.new1 w0 (.cells #[.slice A k c, .bool false] 105))
  have y5' : BoxH (w0.alloc (.cells #[.slice A k c, .bool false] 105)) w.heap.size root := BoxA.next y5 (Below.new1 _ _)
  have B1 : Below w.heap.size w (w0.alloc (.cells #[.slice A k c, .bool false] 105)) := Below.on B0 (Below.new1 _ _)
  have zz0 : w.heap.size < w0.heap.size := BoxA.lt y5
  obtain ⟨g, hg⟩ : ∃ g, w0.heap.size = g := ⟨_, rfl⟩
  have hm1 : ¬ (i : Int) < 0 := by omega
  have hm2 : ¬ (n : Int) ≤ i := by omega
  have hm3 : ¬ (4096 : Int) < n := by omega
  have HE1 := Lib.hid he1
  have P1 := Lib.hid p1
  have HL := Lib.hid hlf
  have HO := Lib.hid hW0
  have HG := Lib.hid hg
  clear hR hb1 he1 p1 hW0 hk hs y5 B0 kon hg o1 hlf
  go_enter Tryd.func28, Tryd.ntmps28
  go_upto_region 3 with (fail)
  change Code.wp _ _ _ _ (w.alloc (.cells (cellsB root).toArray 30))
  rw [HO.out]
  clear HO
  go_upto_region 4 with (fail)
  change Code.wp _ _ _ _ (w0.alloc (.cells #[.slice A k c, .bool false] 105))
  rw [HG.out] at hb0 zz0 ⊢
  have gl := hb0.lt
  have gz := hb0.ne0 kon1
  generalize w0.alloc (.cells #[.slice A k c, .bool false] 105) = w1 at *
  clear HG
  have he := HE1.out
  cases b1
  · refine wp_name fun a0 ha0 => ?_
    have e1 : a0.eval (.tmp 1) = .string ⟨s.toArray⟩ := by rw [ha0]; rfl
    have e2 : a0.eval (.tmp 2) = .int .i64 (i : Int) := by rw [ha0]; rfl
    have e3 : a0.eval (.tmp 3) = .int .i64 (n : Int) := by rw [ha0]; rfl
    have e5 : a0.eval (.tmp 5) = .pointer (some ⟨w.heap.size, 0, none⟩) := by rw [ha0]; rfl
    have e11 : a0.eval (.tmp 11) = .pointer (some ⟨g, 0, none⟩) := by rw [ha0]; rfl
    have hz : a0.tmps.size = 39 := by rw [ha0]; rfl
    have HA0 := Lib.hid ha0
    clear ha0
    have SG : ∀ (d d' : Nat → Prop) (W W' : World), (fun (_ : Nat → Prop) (W : World) => But g w1 W) d W → (∀ j, d j → d' j) → Below W.heap.size W W' → (fun (_ : Nat → Prop) (W : World) => But g w1 W) d' W' := fun _ _ _ _ h _ b => h.trans (But.of b)
    refine wp_region_guards (Inv [26, 27, 28, 29, 30, 31, 32, 33, 34, 35, 36, 37, 38, 10] a0 (fun (_ : Nat → Prop) (W : World) => But g w1 W) [(⟨some 0, 26, none, fun v _ => v = .pointer (some ⟨g, 0, none⟩)⟩ : Cl), ⟨some 1, 27, none, fun v _ => v = .int .i64 (n : Int)⟩, ⟨some 2, 28, none, fun v _ => v = .int .i64 (i : Int)⟩, ⟨some 3, 29, none, fun v _ => v = .string ⟨s.toArray⟩⟩, ⟨some 4, 30, none, fun v _ => v = hashV lf⟩, ⟨some 5, 31, none, fun v W => ∃ g, v = .slice (some ⟨g, 0, none⟩) 1 1 ∧ w1.heap.size ≤ g ∧ Hs W (some ⟨g, 0, none⟩) [lf]⟩, ⟨some 6, 32, none, fun v W => v = hashV x1 ∧ BoxRd W g g r2⟩, ⟨some 7, 33, none, fun v _ => v = hashV root⟩, ⟨some 8, 34, none, fun v _ => v = .bool false⟩, ⟨some 9, 35, none, fun v _ => v = .bool false⟩, ⟨some 10, 36, none, fun v _ => v = undef⟩, ⟨some 11, 37, none, fun v _ => v = undef⟩, ⟨some 12, 38, none, fun v _ => v = .bool false⟩, ⟨some 13, 10, none, fun v _ => v = .bool false⟩, ⟨none, 11, some 6, fun _ W => BoxRd W g g (path, false)⟩]) (by kernel_rfl) (by kernel_rfl) (Inv.start (But.of (Below.drawn w1 1 _)) ⟨nofun, nofun, nofun, nofun, nofun, nofun, nofun, nofun, nofun, nofun, nofun, nofun, nofun, nofun, (fun _ => hb0.next (Below.drawn w1 1 _)), trivial⟩) ?_ ?_
    · have St : ∀ xc ∈ [(⟨some 0, 26, none, fun v _ => v = .pointer (some ⟨g, 0, none⟩)⟩ : Cl), ⟨some 1, 27, none, fun v _ => v = .int .i64 (n : Int)⟩, ⟨some 2, 28, none, fun v _ => v = .int .i64 (i : Int)⟩, ⟨some 3, 29, none, fun v _ => v = .string ⟨s.toArray⟩⟩, ⟨some 4, 30, none, fun v _ => v = hashV lf⟩, ⟨some 5, 31, none, fun v W => ∃ g, v = .slice (some ⟨g, 0, none⟩) 1 1 ∧ w1.heap.size ≤ g ∧ Hs W (some ⟨g, 0, none⟩) [lf]⟩, ⟨some 6, 32, none, fun v W => v = hashV x1 ∧ BoxRd W g g r2⟩, ⟨some 7, 33, none, fun v _ => v = hashV root⟩, ⟨some 8, 34, none, fun v _ => v = .bool false⟩, ⟨some 9, 35, none, fun v _ => v = .bool false⟩, ⟨some 10, 36, none, fun v _ => v = undef⟩, ⟨some 11, 37, none, fun v _ => v = undef⟩, ⟨some 12, 38, none, fun v _ => v = .bool false⟩, ⟨some 13, 10, none, fun v _ => v = .bool false⟩, ⟨none, 11, some 6, fun _ W => BoxRd W g g (path, false)⟩], Lasts xc := AllC.mem ⟨lastsV0 _ _ _ _, lastsV0 _ _ _ _, lastsV0 _ _ _ _, lastsV0 _ _ _ _, lastsV0 _ _ _ _, (fun _ _ _ h b => by obtain ⟨g, e, h1, h2⟩ := h; exact ⟨g, e, h1, h2.next b⟩), (fun _ _ _ h b => ⟨h.1, BoxRd.next h.2 b⟩), lastsV0 _ _ _ _, lastsV0 _ _ _ _, lastsV0 _ _ _ _, lastsV0 _ _ _ _, lastsV0 _ _ _ _, lastsV0 _ _ _ _, lastsV0 _ _ _ _, (fun _ _ _ h b => BoxRd.next h b), trivial⟩
      clear HA0
      refine ⟨?_, ?_, ?_, ?_, ?_, ?_, ?_, ?_, ?_, ?_, ?_, ?_, ?_, ?_, trivial⟩
      · refine StepG.of ?_
        refine stepB rfl rfl (by decide) (by rw [hz]; decide) rfl rfl (by kernel_rfl) St SG fun d a W hF hG hH hn hcl hw => ?_
        have q11 := (hF.same 11 (by decide)).trans e11
        refine ⟨.pointer (some ⟨g, 0, none⟩), W, ?_, Below.refl _ _, ?_⟩
        · clear hF hG hH hn hcl hw
          generalize a.eval = ρ at *
          go_simp
        · rfl
      · refine StepG.of ?_
        refine stepB rfl rfl (by decide) (by rw [hz]; decide) rfl rfl (by kernel_rfl) St SG fun d a W hF hG hH hn hcl hw => ?_
        have q3 := (hF.same 3 (by decide)).trans e3
        refine ⟨.int .i64 (n : Int), W, ?_, Below.refl _ _, ?_⟩
        · clear hF hG hH hn hcl hw
          generalize a.eval = ρ at *
          go_simp
        · rfl
      · refine StepG.of ?_
        refine stepB rfl rfl (by decide) (by rw [hz]; decide) rfl rfl (by kernel_rfl) St SG fun d a W hF hG hH hn hcl hw => ?_
        have q2 := (hF.same 2 (by decide)).trans e2
        refine ⟨.int .i64 (i : Int), W, ?_, Below.refl _ _, ?_⟩
        · clear hF hG hH hn hcl hw
          generalize a.eval = ρ at *
          go_simp
        · rfl
      · refine StepG.of ?_
        refine stepB rfl rfl (by decide) (by rw [hz]; decide) rfl rfl (by kernel_rfl) St SG fun d a W hF hG hH hn hcl hw => ?_
        have q1 := (hF.same 1 (by decide)).trans e1
        refine ⟨.string ⟨s.toArray⟩, W, ?_, Below.refl _ _, ?_⟩
        · clear hF hG hH hn hcl hw
          generalize a.eval = ρ at *
          go_simp
        · rfl
      · refine StepG.of ?_
        refine stepC rfl rfl (by decide) (by rw [hz]; decide) rfl rfl (by kernel_rfl) St SG fun d a W hF hG hH hn hcl hw => ?_
        have q29 : a.eval (.tmp 29) = .string ⟨s.toArray⟩ := hH.at_ (i := 3) rfl (hw 3 rfl) id
        have qf : a.eval (.func 76) = .func (.func 76) #[] #[] := rfl
        refine ⟨76, #[.string ⟨s.toArray⟩], ?_, ?_⟩
        · clear hF hG hH hn hcl hw
          generalize a.eval = ρ at *
          go_simp
        · refine (HL.out W (kon1.but gz hG)).mono ?_; rintro e W' ⟨rfl, b⟩; exact ⟨_, rfl, b, rfl⟩
      · refine StepG.of ?_
        refine stepB rfl rfl (by decide) (by rw [hz]; decide) rfl rfl (by kernel_rfl) St SG fun d a W hF hG hH hn hcl hw => ?_
        have q30 : a.eval (.tmp 30) = hashV lf := hH.at_ (i := 4) rfl (hw 4 rfl) id
        refine ⟨.slice (some ⟨W.heap.size, 0, none⟩) 1 1, W.alloc (.cells (cellsB lf).toArray 30), ?_, Below.new1 W _, ?_⟩
        · (have hq := run_buildHash lf lfl W; simp [execOp, q30, hq, Result.andThen])
        · exact ⟨_, rfl, hG.size, hs_one' W lfl⟩
      · refine StepG.of ?_
        refine stepR g rfl rfl (by decide) (by rw [hz]; decide) rfl rfl (by kernel_rfl) (AllC.mem ⟨.inr (.inr fun _ _ _ _ h => h), .inr (.inr fun _ _ _ _ h => h), .inr (.inr fun _ _ _ _ h => h), .inr (.inr fun _ _ _ _ h => h), .inr (.inr fun _ _ _ _ h => h), .inr (.inr fun _ _ _ b h => by obtain ⟨g, e, h1, h2⟩ := h; exact ⟨g, e, h1, h2.but (fun _ a e => by cases e; show g ≠ _; omega) b⟩), .inl rfl, .inr (.inr fun _ _ _ _ h => h), .inr (.inr fun _ _ _ _ h => h), .inr (.inr fun _ _ _ _ h => h), .inr (.inr fun _ _ _ _ h => h), .inr (.inr fun _ _ _ _ h => h), .inr (.inr fun _ _ _ _ h => h), .inr (.inr fun _ _ _ _ h => h), .inr (.inl rfl), trivial⟩) (fun _ _ _ _ h _ b => h.trans b) fun d a W hF hG hH hn hcl hw => ?_
        have q26 : a.eval (.tmp 26) = .pointer (some ⟨g, 0, none⟩) := hH.at_ (i := 0) rfl (hw 0 rfl) id
        have q27 : a.eval (.tmp 27) = .int .i64 (n : Int) := hH.at_ (i := 1) rfl (hw 1 rfl) id
        have q28 : a.eval (.tmp 28) = .int .i64 (i : Int) := hH.at_ (i := 2) rfl (hw 2 rfl) id
        have q31 : ∃ g, a.eval (.tmp 31) = .slice (some ⟨g, 0, none⟩) 1 1 ∧ w1.heap.size ≤ g ∧ Hs W (some ⟨g, 0, none⟩) [lf] := hH.at_ (i := 5) rfl (hw 5 rfl) id
        have qf : a.eval (.func 63) = .func (.func 63) #[] #[] := rfl
        have hrd : BoxRd W g g (path, false) := hH.at_ (i := 14) rfl trivial hn
        obtain ⟨g1, q31, hg1, hs1⟩ := q31
        refine ⟨63, #[.pointer (some ⟨g, 0, none⟩), .int .i64 (n : Int), .int .i64 (i : Int), .slice (some ⟨g1, 0, none⟩) 1 1], ?_, ?_⟩
        · clear hF hG hH hn hcl hw
          generalize a.eval = ρ at *
          go_simp
        · refine (P1.out g1 1 g g W hs1 (Nat.le_refl _) (kon1.but gz hG) hrd).mono ?_; rintro e W' ⟨rfl, k1, k2⟩; exact ⟨_, rfl, k2, rfl, k1⟩
      · refine StepG.of ?_
        refine stepB rfl rfl (by decide) (by rw [hz]; decide) rfl rfl (by kernel_rfl) St SG fun d a W hF hG hH hn hcl hw => ?_
        have q5 := (hF.same 5 (by decide)).trans e5
        refine ⟨hashV root, W, ?_, Below.refl _ _, ?_⟩
        · exact exec_load rfl (by rw [q5]; exact BoxH.load_ (BoxA.but y5' (by omega) hG) hr)
        · rfl
      · refine StepG.of ?_
        refine stepB rfl rfl (by decide) (by rw [hz]; decide) rfl rfl (by kernel_rfl) St SG fun d a W hF hG hH hn hcl hw => ?_
        have q32 : a.eval (.tmp 32) = hashV x1 ∧ BoxRd W g g r2 := hH.at_ (i := 6) rfl (hw 6 rfl) id
        have q33 : a.eval (.tmp 33) = hashV root := hH.at_ (i := 7) rfl (hw 7 rfl) id
        have q32 := q32.1
        have r := he W
        refine ⟨.bool false, W, ?_, Below.refl _ _, ?_⟩
        · clear hF hG hH hn hcl hw
          generalize a.eval = ρ at *
          go_simp
        · rfl
      · refine StepG.of ?_
        refine stepB rfl rfl (by decide) (by rw [hz]; decide) rfl rfl (by kernel_rfl) St SG fun d a W hF hG hH hn hcl hw => ?_
        have q34 : a.eval (.tmp 34) = .bool false := hH.at_ (i := 8) rfl (hw 8 rfl) id
        refine ⟨.bool false, W, ?_, Below.refl _ _, ?_⟩
        · clear hF hG hH hn hcl hw
          generalize a.eval = ρ at *
          go_simp
        · rfl
      · exact step_off rfl rfl (by decide) (by rw [hz]; decide) rfl rfl (by kernel_rfl) (fun _ => rfl) SG (fun d a W hI hw => yielded_of rfl (hI.2.2.at_ (i := 9) rfl (hw 9 rfl) id))
      · exact step_off rfl rfl (by decide) (by rw [hz]; decide) rfl rfl (by kernel_rfl) (fun _ => rfl) SG (fun d a W hI hw => yielded_of rfl (hI.2.2.at_ (i := 9) rfl (hw 9 rfl) id))
      · refine StepG.of ?_
        refine stepB rfl rfl (by decide) (by rw [hz]; decide) rfl rfl (by kernel_rfl) St SG fun d a W hF hG hH hn hcl hw => ?_
        have q35 : a.eval (.tmp 35) = .bool false := hH.at_ (i := 9) rfl (hw 9 rfl) id
        have q37 : a.eval (.tmp 37) = undef := hH.at_ (i := 11) rfl (hw 11 rfl) id
        have qk1 : a.eval (.const (.bool false)) = .bool false := rfl
        refine ⟨.bool false, W, ?_, Below.refl _ _, ?_⟩
        · clear hF hG hH hn hcl hw
          generalize a.eval = ρ at *
          go_simp
        · rfl
      · refine StepG.of ?_
        refine stepB rfl rfl (by decide) (by rw [hz]; decide) rfl rfl (by kernel_rfl) St SG fun d a W hF hG hH hn hcl hw => ?_
        have q38 : a.eval (.tmp 38) = .bool false := hH.at_ (i := 12) rfl (hw 12 rfl) id
        refine ⟨.bool false, W, ?_, Below.refl _ _, ?_⟩
        · clear hF hG hH hn hcl hw
          generalize a.eval = ρ at *
          go_simp
        · rfl
    · intro d a W ⟨hF, hB, hH⟩ hall
      have k10 : a.eval (.tmp 10) = .bool false := hH.at_ (i := 13) rfl (hall 13 (by decide)) id
      clear hH hall
      rw [hF.shape (by rw [hz]; decide)]
      clear hF
      simp only [List.foldl]
      generalize a.eval (.tmp 26) = z26 at *
      generalize a.eval (.tmp 27) = z27 at *
      generalize a.eval (.tmp 28) = z28 at *
      generalize a.eval (.tmp 29) = z29 at *
      generalize a.eval (.tmp 30) = z30 at *
      generalize a.eval (.tmp 31) = z31 at *
      generalize a.eval (.tmp 32) = z32 at *
      generalize a.eval (.tmp 33) = z33 at *
      generalize a.eval (.tmp 34) = z34 at *
      generalize a.eval (.tmp 35) = z35 at *
      generalize a.eval (.tmp 36) = z36 at *
      generalize a.eval (.tmp 37) = z37 at *
      generalize a.eval (.tmp 38) = z38 at *
      generalize a.eval (.tmp 10) = z10 at *
      subst k10
      rw [HA0.out]
      simp only [Act.put, List.setIfInBounds_toArray, List.set_cons_zero, List.set_cons_succ]
      clear hz HA0 SG e1 e2 e3 e5 e11
      clear a a0
      go_wp2_with (fail)
      go_ret
      exact ⟨rfl, But.below B1 hB (by omega) B1.size⟩
  · refine wp_name fun a0 ha0 => ?_
    have e1 : a0.eval (.tmp 1) = .string ⟨s.toArray⟩ := by rw [ha0]; rfl
    have e2 : a0.eval (.tmp 2) = .int .i64 (i : Int) := by rw [ha0]; rfl
    have e3 : a0.eval (.tmp 3) = .int .i64 (n : Int) := by rw [ha0]; rfl
    have e5 : a0.eval (.tmp 5) = .pointer (some ⟨w.heap.size, 0, none⟩) := by rw [ha0]; rfl
    have e11 : a0.eval (.tmp 11) = .pointer (some ⟨g, 0, none⟩) := by rw [ha0]; rfl
    have hz : a0.tmps.size = 39 := by rw [ha0]; rfl
    have HA0 := Lib.hid ha0
    clear ha0
    have SG : ∀ (d d' : Nat → Prop) (W W' : World), (fun (_ : Nat → Prop) (W : World) => But g w1 W) d W → (∀ j, d j → d' j) → Below W.heap.size W W' → (fun (_ : Nat → Prop) (W : World) => But g w1 W) d' W' := fun _ _ _ _ h _ b => h.trans (But.of b)
    refine wp_region_guards (Inv [26, 27, 28, 29, 30, 31, 32, 33, 34, 35, 36, 37, 38, 10] a0 (fun (_ : Nat → Prop) (W : World) => But g w1 W) [(⟨some 0, 26, none, fun v _ => v = .pointer (some ⟨g, 0, none⟩)⟩ : Cl), ⟨some 1, 27, none, fun v _ => v = .int .i64 (n : Int)⟩, ⟨some 2, 28, none, fun v _ => v = .int .i64 (i : Int)⟩, ⟨some 3, 29, none, fun v _ => v = .string ⟨s.toArray⟩⟩, ⟨some 4, 30, none, fun v _ => v = hashV lf⟩, ⟨some 5, 31, none, fun v W => ∃ g, v = .slice (some ⟨g, 0, none⟩) 1 1 ∧ w1.heap.size ≤ g ∧ Hs W (some ⟨g, 0, none⟩) [lf]⟩, ⟨some 6, 32, none, fun v W => v = hashV x1 ∧ BoxRd W g g r2⟩, ⟨some 7, 33, none, fun v _ => v = hashV root⟩, ⟨some 8, 34, none, fun v _ => v = .bool true⟩, ⟨some 9, 35, none, fun v _ => v = .bool true⟩, ⟨some 10, 36, none, fun v _ => v = .pointer (some ⟨g, 0, none⟩)⟩, ⟨some 11, 37, none, fun v _ => v = .bool (doneM r2)⟩, ⟨some 12, 38, none, fun v _ => v = .bool (doneM r2)⟩, ⟨some 13, 10, none, fun v _ => v = .bool (doneM r2)⟩, ⟨none, 11, some 6, fun _ W => BoxRd W g g (path, false)⟩]) (by kernel_rfl) (by kernel_rfl) (Inv.start (But.of (Below.drawn w1 1 _)) ⟨nofun, nofun, nofun, nofun, nofun, nofun, nofun, nofun, nofun, nofun, nofun, nofun, nofun, nofun, (fun _ => hb0.next (Below.drawn w1 1 _)), trivial⟩) ?_ ?_
    · have St : ∀ xc ∈ [(⟨some 0, 26, none, fun v _ => v = .pointer (some ⟨g, 0, none⟩)⟩ : Cl), ⟨some 1, 27, none, fun v _ => v = .int .i64 (n : Int)⟩, ⟨some 2, 28, none, fun v _ => v = .int .i64 (i : Int)⟩, ⟨some 3, 29, none, fun v _ => v = .string ⟨s.toArray⟩⟩, ⟨some 4, 30, none, fun v _ => v = hashV lf⟩, ⟨some 5, 31, none, fun v W => ∃ g, v = .slice (some ⟨g, 0, none⟩) 1 1 ∧ w1.heap.size ≤ g ∧ Hs W (some ⟨g, 0, none⟩) [lf]⟩, ⟨some 6, 32, none, fun v W => v = hashV x1 ∧ BoxRd W g g r2⟩, ⟨some 7, 33, none, fun v _ => v = hashV root⟩, ⟨some 8, 34, none, fun v _ => v = .bool true⟩, ⟨some 9, 35, none, fun v _ => v = .bool true⟩, ⟨some 10, 36, none, fun v _ => v = .pointer (some ⟨g, 0, none⟩)⟩, ⟨some 11, 37, none, fun v _ => v = .bool (doneM r2)⟩, ⟨some 12, 38, none, fun v _ => v = .bool (doneM r2)⟩, ⟨some 13, 10, none, fun v _ => v = .bool (doneM r2)⟩, ⟨none, 11, some 6, fun _ W => BoxRd W g g (path, false)⟩], Lasts xc := AllC.mem ⟨lastsV0 _ _ _ _, lastsV0 _ _ _ _, lastsV0 _ _ _ _, lastsV0 _ _ _ _, lastsV0 _ _ _ _, (fun _ _ _ h b => by obtain ⟨g, e, h1, h2⟩ := h; exact ⟨g, e, h1, h2.next b⟩), (fun _ _ _ h b => ⟨h.1, BoxRd.next h.2 b⟩), lastsV0 _ _ _ _, lastsV0 _ _ _ _, lastsV0 _ _ _ _, lastsV0 _ _ _ _, lastsV0 _ _ _ _, lastsV0 _ _ _ _, lastsV0 _ _ _ _, (fun _ _ _ h b => BoxRd.next h b), trivial⟩
      clear HA0
      refine ⟨?_, ?_, ?_, ?_, ?_, ?_, ?_, ?_, ?_, ?_, ?_, ?_, ?_, ?_, trivial⟩
      · refine StepG.of ?_
        refine stepB rfl rfl (by decide) (by rw [hz]; decide) rfl rfl (by kernel_rfl) St SG fun d a W hF hG hH hn hcl hw => ?_
        have q11 := (hF.same 11 (by decide)).trans e11
        refine ⟨.pointer (some ⟨g, 0, none⟩), W, ?_, Below.refl _ _, ?_⟩
        · clear hF hG hH hn hcl hw
          generalize a.eval = ρ at *
          go_simp
        · rfl
      · refine StepG.of ?_
        refine stepB rfl rfl (by decide) (by rw [hz]; decide) rfl rfl (by kernel_rfl) St SG fun d a W hF hG hH hn hcl hw => ?_
        have q3 := (hF.same 3 (by decide)).trans e3
        refine ⟨.int .i64 (n : Int), W, ?_, Below.refl _ _, ?_⟩
        · clear hF hG hH hn hcl hw
          generalize a.eval = ρ at *
          go_simp
        · rfl
      · refine StepG.of ?_
        refine stepB rfl rfl (by decide) (by rw [hz]; decide) rfl rfl (by kernel_rfl) St SG fun d a W hF hG hH hn hcl hw => ?_
        have q2 := (hF.same 2 (by decide)).trans e2
        refine ⟨.int .i64 (i : Int), W, ?_, Below.refl _ _, ?_⟩
        · clear hF hG hH hn hcl hw
          generalize a.eval = ρ at *
          go_simp
        · rfl
      · refine StepG.of ?_
        refine stepB rfl rfl (by decide) (by rw [hz]; decide) rfl rfl (by kernel_rfl) St SG fun d a W hF hG hH hn hcl hw => ?_
        have q1 := (hF.same 1 (by decide)).trans e1
        refine ⟨.string ⟨s.toArray⟩, W, ?_, Below.refl _ _, ?_⟩
        · clear hF hG hH hn hcl hw
          generalize a.eval = ρ at *
          go_simp
        · rfl
      · refine StepG.of ?_
        refine stepC rfl rfl (by decide) (by rw [hz]; decide) rfl rfl (by kernel_rfl) St SG fun d a W hF hG hH hn hcl hw => ?_
        have q29 : a.eval (.tmp 29) = .string ⟨s.toArray⟩ := hH.at_ (i := 3) rfl (hw 3 rfl) id
        have qf : a.eval (.func 76) = .func (.func 76) #[] #[] := rfl
        refine ⟨76, #[.string ⟨s.toArray⟩], ?_, ?_⟩
        · clear hF hG hH hn hcl hw
          generalize a.eval = ρ at *
          go_simp
        · refine (HL.out W (kon1.but gz hG)).mono ?_; rintro e W' ⟨rfl, b⟩; exact ⟨_, rfl, b, rfl⟩
      · refine StepG.of ?_
        refine stepB rfl rfl (by decide) (by rw [hz]; decide) rfl rfl (by kernel_rfl) St SG fun d a W hF hG hH hn hcl hw => ?_
        have q30 : a.eval (.tmp 30) = hashV lf := hH.at_ (i := 4) rfl (hw 4 rfl) id
        refine ⟨.slice (some ⟨W.heap.size, 0, none⟩) 1 1, W.alloc (.cells (cellsB lf).toArray 30), ?_, Below.new1 W _, ?_⟩
        · (have hq := run_buildHash lf lfl W; simp [execOp, q30, hq, Result.andThen])
        · exact ⟨_, rfl, hG.size, hs_one' W lfl⟩
      · refine StepG.of ?_
        refine stepR g rfl rfl (by decide) (by rw [hz]; decide) rfl rfl (by kernel_rfl) (AllC.mem ⟨.inr (.inr fun _ _ _ _ h => h), .inr (.inr fun _ _ _ _ h => h), .inr (.inr fun _ _ _ _ h => h), .inr (.inr fun _ _ _ _ h => h), .inr (.inr fun _ _ _ _ h => h), .inr (.inr fun _ _ _ b h => by obtain ⟨g, e, h1, h2⟩ := h; exact ⟨g, e, h1, h2.but (fun _ a e => by cases e; show g ≠ _; omega) b⟩), .inl rfl, .inr (.inr fun _ _ _ _ h => h), .inr (.inr fun _ _ _ _ h => h), .inr (.inr fun _ _ _ _ h => h), .inr (.inr fun _ _ _ _ h => h), .inr (.inr fun _ _ _ _ h => h), .inr (.inr fun _ _ _ _ h => h), .inr (.inr fun _ _ _ _ h => h), .inr (.inl rfl), trivial⟩) (fun _ _ _ _ h _ b => h.trans b) fun d a W hF hG hH hn hcl hw => ?_
        have q26 : a.eval (.tmp 26) = .pointer (some ⟨g, 0, none⟩) := hH.at_ (i := 0) rfl (hw 0 rfl) id
        have q27 : a.eval (.tmp 27) = .int .i64 (n : Int) := hH.at_ (i := 1) rfl (hw 1 rfl) id
        have q28 : a.eval (.tmp 28) = .int .i64 (i : Int) := hH.at_ (i := 2) rfl (hw 2 rfl) id
        have q31 : ∃ g, a.eval (.tmp 31) = .slice (some ⟨g, 0, none⟩) 1 1 ∧ w1.heap.size ≤ g ∧ Hs W (some ⟨g, 0, none⟩) [lf] := hH.at_ (i := 5) rfl (hw 5 rfl) id
        have qf : a.eval (.func 63) = .func (.func 63) #[] #[] := rfl
        have hrd : BoxRd W g g (path, false) := hH.at_ (i := 14) rfl trivial hn
        obtain ⟨g1, q31, hg1, hs1⟩ := q31
        refine ⟨63, #[.pointer (some ⟨g, 0, none⟩), .int .i64 (n : Int), .int .i64 (i : Int), .slice (some ⟨g1, 0, none⟩) 1 1], ?_, ?_⟩
        · clear hF hG hH hn hcl hw
          generalize a.eval = ρ at *
          go_simp
        · refine (P1.out g1 1 g g W hs1 (Nat.le_refl _) (kon1.but gz hG) hrd).mono ?_; rintro e W' ⟨rfl, k1, k2⟩; exact ⟨_, rfl, k2, rfl, k1⟩
      · refine StepG.of ?_
        refine stepB rfl rfl (by decide) (by rw [hz]; decide) rfl rfl (by kernel_rfl) St SG fun d a W hF hG hH hn hcl hw => ?_
        have q5 := (hF.same 5 (by decide)).trans e5
        refine ⟨hashV root, W, ?_, Below.refl _ _, ?_⟩
        · exact exec_load rfl (by rw [q5]; exact BoxH.load_ (BoxA.but y5' (by omega) hG) hr)
        · rfl
      · refine StepG.of ?_
        refine stepB rfl rfl (by decide) (by rw [hz]; decide) rfl rfl (by kernel_rfl) St SG fun d a W hF hG hH hn hcl hw => ?_
        have q32 : a.eval (.tmp 32) = hashV x1 ∧ BoxRd W g g r2 := hH.at_ (i := 6) rfl (hw 6 rfl) id
        have q33 : a.eval (.tmp 33) = hashV root := hH.at_ (i := 7) rfl (hw 7 rfl) id
        have q32 := q32.1
        have r := he W
        refine ⟨.bool true, W, ?_, Below.refl _ _, ?_⟩
        · clear hF hG hH hn hcl hw
          generalize a.eval = ρ at *
          go_simp
        · rfl
      · refine StepG.of ?_
        refine stepB rfl rfl (by decide) (by rw [hz]; decide) rfl rfl (by kernel_rfl) St SG fun d a W hF hG hH hn hcl hw => ?_
        have q34 : a.eval (.tmp 34) = .bool true := hH.at_ (i := 8) rfl (hw 8 rfl) id
        refine ⟨.bool true, W, ?_, Below.refl _ _, ?_⟩
        · clear hF hG hH hn hcl hw
          generalize a.eval = ρ at *
          go_simp
        · rfl
      · refine StepG.on rfl (fun d a W hI hw => yielded_of rfl (hI.2.2.at_ (i := 9) rfl (hw 9 rfl) id)) ?_
        refine stepB rfl rfl (by decide) (by rw [hz]; decide) rfl rfl (by kernel_rfl) St SG fun d a W hF hG hH hn hcl hw => ?_
        have q11 := (hF.same 11 (by decide)).trans e11
        refine ⟨.pointer (some ⟨g, 0, none⟩), W, ?_, Below.refl _ _, ?_⟩
        · clear hF hG hH hn hcl hw
          generalize a.eval = ρ at *
          go_simp
        · rfl
      · refine StepG.on rfl (fun d a W hI hw => yielded_of rfl (hI.2.2.at_ (i := 9) rfl (hw 9 rfl) id)) ?_
        refine stepC rfl rfl (by decide) (by rw [hz]; decide) rfl rfl (by kernel_rfl) St SG fun d a W hF hG hH hn hcl hw => ?_
        have q36 : a.eval (.tmp 36) = .pointer (some ⟨g, 0, none⟩) := hH.at_ (i := 10) rfl (hw 10 rfl) id
        have qf : a.eval (.func 66) = .func (.func 66) #[] #[] := rfl
        have d9 := hw 9 rfl
        have d8 := hcl 9 _ 8 rfl rfl d9
        have d6 := hcl 8 _ 6 rfl rfl d8
        have hrd : BoxRd W g g r2 := (show a.eval (.tmp 32) = hashV x1 ∧ BoxRd W g g r2 from hH.at_ (i := 6) rfl d6 id).2
        refine ⟨66, #[.pointer (some ⟨g, 0, none⟩)], ?_, ?_⟩
        · clear hF hG hH hn hcl hw
          generalize a.eval = ρ at *
          go_simp
        · refine (done_any hrd).mono ?_; rintro e W' ⟨rfl, rfl⟩; exact ⟨_, rfl, Below.refl _ _, rfl⟩
      · refine StepG.of ?_
        refine stepB rfl rfl (by decide) (by rw [hz]; decide) rfl rfl (by kernel_rfl) St SG fun d a W hF hG hH hn hcl hw => ?_
        have q35 : a.eval (.tmp 35) = .bool true := hH.at_ (i := 9) rfl (hw 9 rfl) id
        have q37 : a.eval (.tmp 37) = .bool (doneM r2) := hH.at_ (i := 11) rfl (hw 11 rfl) id
        have qk1 : a.eval (.const (.bool false)) = .bool false := rfl
        refine ⟨.bool (doneM r2), W, ?_, Below.refl _ _, ?_⟩
        · clear hF hG hH hn hcl hw
          generalize a.eval = ρ at *
          go_simp
        · rfl
      · refine StepG.of ?_
        refine stepB rfl rfl (by decide) (by rw [hz]; decide) rfl rfl (by kernel_rfl) St SG fun d a W hF hG hH hn hcl hw => ?_
        have q38 : a.eval (.tmp 38) = .bool (doneM r2) := hH.at_ (i := 12) rfl (hw 12 rfl) id
        refine ⟨.bool (doneM r2), W, ?_, Below.refl _ _, ?_⟩
        · clear hF hG hH hn hcl hw
          generalize a.eval = ρ at *
          go_simp
        · rfl
    · intro d a W ⟨hF, hB, hH⟩ hall
      have k10 : a.eval (.tmp 10) = .bool (doneM r2) := hH.at_ (i := 13) rfl (hall 13 (by decide)) id
      clear hH hall
      rw [hF.shape (by rw [hz]; decide)]
      clear hF
      simp only [List.foldl]
      generalize a.eval (.tmp 26) = z26 at *
      generalize a.eval (.tmp 27) = z27 at *
      generalize a.eval (.tmp 28) = z28 at *
      generalize a.eval (.tmp 29) = z29 at *
      generalize a.eval (.tmp 30) = z30 at *
      generalize a.eval (.tmp 31) = z31 at *
      generalize a.eval (.tmp 32) = z32 at *
      generalize a.eval (.tmp 33) = z33 at *
      generalize a.eval (.tmp 34) = z34 at *
      generalize a.eval (.tmp 35) = z35 at *
      generalize a.eval (.tmp 36) = z36 at *
      generalize a.eval (.tmp 37) = z37 at *
      generalize a.eval (.tmp 38) = z38 at *
      generalize a.eval (.tmp 10) = z10 at *
      subst k10
      rw [HA0.out]
      simp only [Act.put, List.setIfInBounds_toArray, List.set_cons_zero, List.set_cons_succ]
      clear hz HA0 SG e1 e2 e3 e5 e11
      clear a a0
      go_wp2_with (fail)
      go_ret
      exact ⟨by simp, But.below B1 hB (by omega) B1.size⟩
theorem pver_any (root s : Bs) (i n : Int) (path : List Bs) (A : Option Addr) (k c : Nat) (w : World) (hk : path.length = k) (hkc : k ≤ c) (hk5 : k ≤ 5000) (hsl : s.length ≤ 90000) (hr : root.length = 32) (hs : Hs w A path) (kon : Kon w) :
    Calls Tryd.prog 28 #[hashV root, .string ⟨s.toArray⟩, .int .i64 i, .int .i64 n, .slice A k c] w fun e w' => e = .returned (.bool (verM root s i n path)) ∧ Below w.heap.size w w' := by
  by_cases h : 0 ≤ i ∧ i < n ∧ n ≤ 4096
  · obtain ⟨i', rfl⟩ : ∃ i' : Nat, i = i' := ⟨i.toNat, by omega⟩
    obtain ⟨n', rfl⟩ : ∃ n' : Nat, n = n' := ⟨n.toNat, by omega⟩
    exact pver_good root s i' n' path A k c w (by omega) (by omega) hk hkc hk5 hsl hr hs kon
  · rw [show verM root s i n path = false from by unfold verM; rw [if_neg h]]
    exact pver_bad root s i n A k c w h
end Go.Proofs.YtcocengpekndjaaDoor
