/- The walk over AcceptRange. The walk over Accept. -/
import Derived.Test.YtcocengpekndjaaDoorPrSound
import Derived.Stop.BytesEq
namespace Go.Proofs.YtcocengpekndjaaDoor
section
open Go.RowKit
theorem chain_lo {R : List Rn} (hC : Chain R R.length) (hne : R ≠ []) (h0 : 0 ≤ (R.head hne).lo) : ∀ i (h : i < R.length), 0 ≤ R[i].lo := by
  intro i
  induction i with
  | zero => intro h; rw [List.head_eq_getElem] at h0; exact h0
  | succ i ih =>
    intro h
    have h1 := ih (by omega)
    have h2 := (hC i (by omega) (by omega)).1
    have h3 := ((hC (i + 1) h h).2.2.2 R[i] (by simp [prevR, List.getElem?_eq_getElem (show i < R.length by omega)])).1
    omega
theorem chain_hi {R : List Rn} (hC : Chain R R.length) (hne : R ≠ []) : ∀ j i (h : i < R.length), R.length = i + 1 + j → R[i].hi ≤ (R.getLast hne).hi := by
  intro j
  induction j with
  | zero => intro i h e; rw [List.getLast_eq_getElem]; have : R.length - 1 = i := by omega
            simp [this]
  | succ j ih =>
    intro i h e
    have h1 := ih (i + 1) (by omega) (by omega)
    have h2 := (hC (i + 1) (by omega) (by omega)).1
    have h3 := ((hC (i + 1) (by omega) (by omega)).2.2.2 R[i] (by simp [prevR, List.getElem?_eq_getElem (show i < R.length by omega)])).1
    omega
theorem Sound.fit {lo hi : Int} {R : List Rn} {first count size : Int} (h : Sound lo hi R first count size) : ∀ x ∈ R, Fit x := by
  intro x hx
  obtain ⟨i, hi, rfl⟩ := List.mem_iff_getElem.1 hx
  have hne : R ≠ [] := by rintro rfl; simp at hi
  have he := h.2.2 hne
  have h1 := chain_lo h.2.1 hne he.1.1 i hi
  have h2 := chain_hi h.2.1 hne (R.length - i - 1) i hi (by omega)
  have h3 := h.2.1 i hi hi
  have h4 := he.1.2.2.2.1
  have h5 := h.1
  unfold Head at h5
  unfold OkR at h3
  unfold Fit
  omega
/-- Two hashes compared. -/
theorem eq_hash {x y : Bs} (hx : x.length = 32) (hy : y.length = 32) (b : Bool) (h : (x == y) = b) (W : World) : (Op.equalIn 10000 30 (hashV x) (hashV y)).run Tryd.prog W = .ok b W := by
  rw [← h]
  exact run_equalIn_bytes (P := Tryd.prog) W 9998 30 5 32 (by kernel_rfl) (by kernel_rfl) (fun w => by kernel_rfl) x y hx hy
/-- What AcceptRange returns. -/
noncomputable def acceptM (root : Bs) (lo hi : Int) (R : List Rn) (first count size : Int) (path : List Bs) : Bool :=
  soundB lo hi R first count size && ((sealM size count (rebuildM sha count.toNat first (R.map lvM) (path, false)).1 == root) && doneM (rebuildM sha count.toNat first (R.map lvM) (path, false)).2)
theorem but_alloc {b : Nat} {w W : World} (h : But b w W) (o : Obj) : But b w (W.alloc o) := h.trans (But.of (Below.new1 _ _))
theorem but_drew {b : Nat} {w W : World} (h : But b w W) : But b w W.drew := h
theorem below_drew {w W : World} (h : Below w.heap.size w W) : Below w.heap.size w W.drew := h.drew
theorem but_cells {b q : Nat} {w W : World} (h : But b w W) (hq : w.heap.size ≤ q) (vs : List Value) (o : Nat) : But b w (W.setCells q o vs) := h.on (below_cells hq vs o (Below.refl _ _))
abbrev zeros32 : Obj := .cells (ints .u8 (List.replicate 32 0)) 30
theorem BoxC.but {W W' : World} {b g : Nat} {A : Option Addr} {n c : Nat} {first count size : Int} {PA : Option Addr} {pn pc : Nat} (h : BoxC W b A n c first count size PA pn pc) (hg : b ≠ g) (hB : But g W W') : BoxC W' b A n c first count size PA pn pc := ⟨(hB.2.2.2.2 b h.lt hg).trans h.row⟩
set_option maxRecDepth 100000 in
set_option maxHeartbeats 2000000 in
theorem acc_no (root : Bs) (lo hi : Int) (R : List Rn) (A : Option Addr) (n c : Nat) (first count size : Int) (_path : List Bs) (PA : Option Addr) (pn pc : Nat) (w : World) (hn : R.length = n) (hR : Runs w A R) (hc : n ≤ c) (hs : soundB lo hi R first count size = false) :
    Calls Tryd.prog 23 #[hashV root, .int .i64 lo, .int .i64 hi, claimV A n c first count size PA pn pc] w fun e w' => e = .returned (.bool false) ∧ Below w.heap.size w w' := by
  obtain ⟨w0, hW0⟩ : ∃ w0, World.alloc (World.alloc w (.cells (cellsB root).toArray 30)) (.cells #[.slice A n c, .int .i64 first, .int .i64 count, .int .i64 size, .slice PA pn pc] 43) = w0 := ⟨_, rfl⟩
  have B0 : Below w.heap.size w w0 := hW0 ▸ Below.on (Below.new1 _ _) (Below.new1 _ _)
  have x7 : BoxC w0 (w.heap.size + 1) A n c first count size PA pn pc := by
    have := BoxC.new (w.alloc (.cells (cellsB root).toArray 30)) A n c first count size PA pn pc
    rw [World.size_alloc] at this; exact hW0 ▸ this
  have HS := Lib.hid (sound_any lo hi R A n c first count size PA pn pc w0 hn (hR.below B0) hc)
  rw [hs] at HS
  have HW0 := Lib.hid hW0
  clear hn hs hW0
  go_enter Tryd.func23, Tryd.ntmps23
  go_upto_region 1 with (fail)
  change Code.wp _ _ _ _ (World.alloc (World.alloc w (.cells (cellsB root).toArray 30)) (.cells #[.slice A n c, .int .i64 first, .int .i64 count, .int .i64 size, .slice PA pn pc] 43))
  rw [HW0.out]
  have d0 := x7.c0
  have d1 := x7.c1
  have d2 := x7.c2
  have d3 := x7.c3
  have d4 := x7.c4
  go_wp2_with (go_at_call 62; refine HS.out.mono ?_; rintro e w1 ⟨rfl, b1⟩)
  go_ret
  exact ⟨rfl, Below.on B0 b1⟩
theorem BoxH.load_ {W : World} {b : Nat} {x : Bs} (H : BoxH W b x) (hx : x.length = 32) : (Instr.loadAt 30 (.pointer (some ⟨b, 0, none⟩))).run Tryd.prog W = .ok (hashV x) W := by
  rw [hashV_eq]
  exact BoxA.loadAt H 30 32 5 (by kernel_rfl) (by rw [nums_length, hx]; exact szHash)
set_option maxRecDepth 100000 in
set_option maxHeartbeats 4000000 in
theorem acc_yes (root : Bs) (lo hi : Int) (R : List Rn) (A : Option Addr) (n c : Nat) (first count size : Int) (path : List Bs) (PA : Option Addr) (pn pc : Nat) (w : World) (hn : R.length = n) (hR : Runs w A R) (hc : n ≤ c) (hs : Sound lo hi R first count size)
    (hp : Hs w PA path) (hpn : path.length = pn) (hpc : pn ≤ pc) (hpl : pn ≤ 1000000) (hk : Kon w) (hr : root.length = 32) (B : Bool) (hB : ((sealM size count (rebuildM sha count.toNat first (R.map lvM) (path, false)).1 == root) && doneM (rebuildM sha count.toNat first (R.map lvM) (path, false)).2) = B) :
    Calls Tryd.prog 23 #[hashV root, .int .i64 lo, .int .i64 hi, claimV A n c first count size PA pn pc] w fun e w' => e = .returned (.bool B) ∧ Below w.heap.size w w' := by
  obtain ⟨w0, hW0⟩ : ∃ w0, World.alloc (World.alloc w (.cells (cellsB root).toArray 30)) (.cells #[.slice A n c, .int .i64 first, .int .i64 count, .int .i64 size, .slice PA pn pc] 43) = w0 := ⟨_, rfl⟩
  have B0 : Below w.heap.size w w0 := hW0 ▸ Below.on (Below.new1 _ _) (Below.new1 _ _)
  have x4 : BoxH w0 w.heap.size root := hW0 ▸ (BoxH.new w root).next (Below.new1 _ _)
  have x7 : BoxC w0 (w.heap.size + 1) A n c first count size PA pn pc := by
    have := BoxC.new (w.alloc (.cells (cellsB root).toArray 30)) A n c first count size PA pn pc
    rw [World.size_alloc] at this; exact hW0 ▸ this
  have HS := Lib.hid (sound_any lo hi R A n c first count size PA pn pc w0 hn (hR.below B0) hc)
  rw [soundB_yes hs] at HS
  have hfit := hs.fit
  obtain ⟨g0, g1, g2, g3, g4, g5, g6, g7, g8⟩ := hs.1
  rw [hn] at g4 g5 g8
  obtain ⟨N, hN⟩ : ∃ N : Nat, count = N := ⟨count.toNat, by omega⟩
  subst hN
  simp only [Int.toNat_natCast] at hB
  have o1 := rebuildM_ok N N first (R.map lvM) (path, false) (Nat.le_refl _) (h32_map R) hp.1
  have hreb := fun (K : Option Addr) (kc : Nat) (b : Nat) (W : World) (hkc : n ≤ kc) (hs : Hs W K (R.map lvM)) (hk : Kon W) (hb : BoxRd W w0.heap.size b (path, false)) =>
    rebuild_any N first (R.map lvM) K n kc (path, false) w0.heap.size b W (by omega) (by omega) (by rw [List.length_map, hn]) hkc (by omega) (by omega) (by omega) (by show path.length ≤ _; omega) hs hk hb
  generalize rebuildM sha N first (R.map lvM) (path, false) = RB at *
  obtain ⟨x, r'⟩ := RB
  simp only at o1 hreb hB
  have hseal := fun (W : World) (hk : Kon W) => seal_any size N x W (by omega) (by omega) (by omega) (by omega) o1.1 hk
  have hsl : (sealM size N x).length = 32 := sha_length _
  have heq := fun b h W => eq_hash hsl hr b h W
  generalize sealM size N x = y at *
  have HB := Lib.hid hB
  have HR := Lib.hid hR
  have HFIT := Lib.hid hfit
  have HREB := Lib.hid hreb
  have HSEAL := Lib.hid hseal
  have HEQ := Lib.hid heq
  have HX := Lib.hid o1.1
  have HP := Lib.hid hp
  have HPN := Lib.hid hpn
  have HK := Lib.hid hk
  have HN := Lib.hid hn
  have HRT := Lib.hid hr
  have HW0 := Lib.hid hW0
  have x4l := x4.lt
  have x7l := x7.lt
  clear hn hs hW0 hfit hreb hseal heq o1 hp hpn hk hr hB hsl hR
  go_enter Tryd.func23, Tryd.ntmps23
  go_upto_region 1 with (fail)
  change Code.wp _ _ _ _ (World.alloc (World.alloc w (.cells (cellsB root).toArray 30)) (.cells #[.slice A n c, .int .i64 first, .int .i64 N, .int .i64 size, .slice PA pn pc] 43))
  rw [HW0.out]
  have d0 := x7.c0
  have d1 := x7.c1
  have d2 := x7.c2
  have d3 := x7.c3
  have d4 := x7.c4
  go_upto_region 3 with (go_at_call 62; refine HS.out.mono ?_; rintro e w1 ⟨rfl, b1⟩)
  clear d0 d1 d2 d3 d4
  have z7 := x7.next b1
  have z4 := x4.next b1
  have d4 := z7.c4
  go_upto_region 4 with (fail)
  obtain ⟨w2, hW2⟩ : ∃ w2, World.alloc w1 (.cells #[.slice PA pn pc, .bool false] 105) = w2 := ⟨_, rfl⟩
  obtain ⟨g, hg⟩ : ∃ g, w1.heap.size = g := ⟨_, rfl⟩
  have b2 : Below w1.heap.size w1 w2 := hW2 ▸ Below.new1 _ _
  have B2 : Below w.heap.size w w2 := Below.on (Below.on B0 b1) b2
  have hp2 : Hs w2 PA path := HP.out.next B2
  have hb2 : BoxRd w2 w0.heap.size g (path, false) := by
    refine ⟨by have := b1.size; omega, PA, pc, ?_, by show path.length ≤ _; rw [HPN.out]; exact hpc, hp2, fun hl a e => by have := HP.out.inB hl a e; have := B0.size; omega⟩
    rw [← hW2, ← hg]
    show _ = some (Obj.cells #[.slice PA path.length pc, .bool false] 105 (0, 0))
    rw [HPN.out]
    exact heap_alloc_new w1 _
  have z7' := z7.next b2
  have z4' := z4.next b2
  have hk2 := HK.out.next B2
  have hR2 : Runs w2 A R := HR.out.below B2
  have gsz : w.heap.size + 1 < g := by have := b1.size; omega
  have gsz2 : g < w2.heap.size := hb2.lt
  change Code.wp _ _ _ _ (World.alloc w1 (.cells #[.slice PA pn pc, .bool false] 105))
  rw [hW2, hg]
  have g0' := hb2.ne0 hk2
  clear hW2 hg d4 b2 z7 z4 b1 x7 x4 hp2
  go_cut [10] from 20 to 28 (fun u W => ∃ q, u = .pointer (some ⟨q, 0, none⟩) ∧ q ≠ g ∧ BoxH W q x ∧ BoxRd W w0.heap.size g r' ∧ But g w2 W)
  case first =>
    have KX : Hid (∀ W, But g w2 W → (W.cell? ⟨w.heap.size + 1, 0, none⟩ = some (.slice A n c) ∧ W.cell? ⟨w.heap.size + 1, 1, none⟩ = some (.int .i64 first) ∧ W.cell? ⟨w.heap.size + 1, 2, none⟩ = some (.int .i64 N)) ∧ Kon W) :=
      Lib.hid fun W h => ⟨⟨cell_but h z7'.c0 (by show w.heap.size + 1 ≠ g; omega), cell_but h z7'.c1 (by show w.heap.size + 1 ≠ g; omega), cell_but h z7'.c2 (by show w.heap.size + 1 ≠ g; omega)⟩, hk2.but g0' h⟩
    have HR2 := Lib.hid hR2
    have HB2 := Lib.hid hb2
    have ont := cellsB_one x
    have szt := cellsB_size HX.out
    have xl32 : (cellsB x).length = (List.replicate 32 (0 : Int)).length := by rw [cellsB_length, HX.out]; rfl
    have HXL := Lib.hid xl32
    clear hR2 hb2 hk2 z4' z7' xl32
    go_region_held3 (fun W => W.cell? ⟨w.heap.size + 1, 0, none⟩ = some (.slice A n c) ∧ W.cell? ⟨w.heap.size + 1, 1, none⟩ = some (.int .i64 first) ∧ W.cell? ⟨w.heap.size + 1, 2, none⟩ = some (.int .i64 N))
      ((refine (KX.out _ ?_).1; repeat' (first | with_reducible exact But.refl _ _ | with_reducible exact f3 | with_reducible exact f4 | with_reducible refine but_drew ?_ | with_reducible refine but_alloc ?_ _ | (with_reducible refine but_cells ?_ (by first | exact Nat.le_refl _ | exact f4.size | exact f3.size) _ _))))
      ((first
        | (go_at_call 64; refine (hashes_any R A n c _ HN.out (HR2.out.below (by repeat' (first | with_reducible exact Below.refl _ _ | with_reducible refine below_drew ?_ | with_reducible refine below_alloc' ?_ _))) HFIT.out (by omega) hc (KX.out _ (by repeat' (first | with_reducible exact But.refl _ _ | with_reducible refine but_drew ?_ | with_reducible refine but_alloc ?_ _))).2).mono ?_; rintro e w3 ⟨v, rfl, hO, b3⟩; obtain ⟨K, kc, rfl, hkc, hKs⟩ := hO.toHs; rw [List.length_map, HN.out] at hkc ⊢; have f3 : But g w2 w3 := But.trans (by repeat' (first | with_reducible exact But.refl _ _ | with_reducible refine but_drew ?_ | with_reducible refine but_alloc ?_ _)) (But.of b3); have r3 : BoxRd w3 w0.heap.size g (path, false) := BoxRd.next (HB2.out.next (by repeat' (first | with_reducible exact Below.refl _ _ | with_reducible refine below_drew ?_ | with_reducible refine below_alloc' ?_ _))) b3)
        | (go_at_call 63; refine (HREB.out K kc g _ hkc (hKs.next (by repeat' (first | with_reducible exact Below.refl _ _ | with_reducible refine below_drew ?_ | with_reducible refine below_alloc' ?_ _))) (KX.out _ (by repeat' (first | with_reducible exact f3 | with_reducible refine but_drew ?_ | with_reducible refine but_alloc ?_ _))).2 (r3.next (by repeat' (first | with_reducible exact Below.refl _ _ | with_reducible refine below_drew ?_ | with_reducible refine below_alloc' ?_ _)))).mono ?_; rintro e w4 ⟨rfl, r4, q4⟩; have f4 : But g w2 w4 := But.trans (by repeat' (first | with_reducible exact f3 | with_reducible refine but_drew ?_ | with_reducible refine but_alloc ?_ _)) q4); have tC : (w4.alloc (Obj.cells #[Value.int IntKind.u8 0, Value.int IntKind.u8 0, Value.int IntKind.u8 0, Value.int IntKind.u8 0, Value.int IntKind.u8 0, Value.int IntKind.u8 0, Value.int IntKind.u8 0, Value.int IntKind.u8 0, Value.int IntKind.u8 0, Value.int IntKind.u8 0, Value.int IntKind.u8 0, Value.int IntKind.u8 0, Value.int IntKind.u8 0, Value.int IntKind.u8 0, Value.int IntKind.u8 0, Value.int IntKind.u8 0, Value.int IntKind.u8 0, Value.int IntKind.u8 0, Value.int IntKind.u8 0, Value.int IntKind.u8 0, Value.int IntKind.u8 0, Value.int IntKind.u8 0, Value.int IntKind.u8 0, Value.int IntKind.u8 0, Value.int IntKind.u8 0, Value.int IntKind.u8 0, Value.int IntKind.u8 0, Value.int IntKind.u8 0, Value.int IntKind.u8 0, Value.int IntKind.u8 0, Value.int IntKind.u8 0, Value.int IntKind.u8 0] 30)).there w4.heap.size 0 (cellsB x).length := (BoxA.new w4 30 .u8 (List.replicate 32 0) _ rfl).there HXL.out; (try (have zB : BoxA w4 w3.heap.size 30 .u8 (List.replicate 32 0) := (BoxA.new w3 30 .u8 (List.replicate 32 0) _ rfl).but (by have := r3.lt; omega) q4; have tB : w4.there w3.heap.size 0 (cellsB x).length := zB.there HXL.out)); (try (have zA : BoxA w4 w2.heap.size 30 .u8 (List.replicate 32 0) := (((BoxA.new w2 30 .u8 (List.replicate 32 0) _ rfl).next (Below.drawn _ 1 _)).next b3).but (by omega) q4; have tA : w4.there w2.heap.size 0 (cellsB x).length := zA.there HXL.out))))
    all_goals
      go_wp2_with (fail)
      go_meet
      have s3 := f3.size
      have s4 := f4.size
      have r4l := r4.lt
      have r4m := r4.le
      first
        | exact ⟨_, rfl, by omega, BoxH.stored zB rfl x HX.out, r4.but (by omega) (by omega) (But.cells _ _ _ _), but_cells f4 (by omega) _ _⟩
        | exact ⟨_, rfl, by omega, BoxH.stored zA rfl x HX.out, r4.but (by omega) (by omega) (But.cells _ _ _ _), but_cells f4 (by omega) _ _⟩
        | exact ⟨_, rfl, by omega, BoxH.stored (BoxA.new w4 _ _ (List.replicate 32 0) _ rfl) rfl x HX.out, (r4.next (Below.new1 w4 _)).but (by omega) (by omega) (But.cells _ _ _ _), but_cells (but_alloc f4 _) (by omega) _ _⟩
  case rest =>
    obtain ⟨q, rfl, hq, zq, rr, qB⟩ := hcut
    go_upto_region 5 with (fail)
    have z7 := z7'.but (by omega) qB
    have z4 := BoxA.but z4' (by omega) qB
    have hk3 := hk2.but g0' qB
    have B3 : Below w.heap.size w wc := But.below B2 qB (by omega) B2.size
    have hd := done_any rr
    obtain ⟨b1, hb1⟩ : ∃ b, (y == root) = b := ⟨_, rfl⟩
    have HB1 := Lib.hid hb1
    have e1 := HEQ.out b1 hb1
    have RR := Lib.hid rr
    have HK3 := Lib.hid hk3
    have z7l := z7.lt
    clear hb1 z7' z4' hk2 hR2 hb2 qB B2 rr hk3 hd
    have eqq := fun W => e1 W
    clear e1
    cases b1 with
    | true =>
      refine wp_name fun a0 ha0 => ?_
      have e7 : a0.eval (.tmp 7) = .pointer (some ⟨w.heap.size + 1, 0, none⟩) := by rw [ha0]; rfl
      have e10 : a0.eval (.tmp 10) = .pointer (some ⟨q, 0, none⟩) := by rw [ha0]; rfl
      have e4 : a0.eval (.tmp 4) = .pointer (some ⟨w.heap.size, 0, none⟩) := by rw [ha0]; rfl
      have e9 : a0.eval (.tmp 9) = .pointer (some ⟨g, 0, none⟩) := by rw [ha0]; rfl
      have hz : a0.tmps.size = 41 := by rw [ha0]; rfl
      have HA0 := Lib.hid ha0
      clear ha0
      have SG : ∀ (d d' : Nat → Prop) (W W' : World), (fun (_ : Nat → Prop) (W : World) => Below wc.heap.size wc W) d W → (∀ j, d j → d' j) → Below W.heap.size W W' → (fun (_ : Nat → Prop) (W : World) => Below wc.heap.size wc W) d' W' := fun _ _ _ _ h _ b => Below.next h b
      refine wp_region_guards (Inv [29, 30, 31, 32, 33, 34, 35, 36, 37, 38, 39, 40, 8] a0 (fun (_ : Nat → Prop) (W : World) => Below wc.heap.size wc W) [(⟨some 0, 29, none, fun v _ => v = .pointer (some ⟨w.heap.size + 1, 3, none⟩)⟩ : Cl), ⟨some 1, 30, none, fun v _ => v = .int .i64 size⟩, ⟨some 2, 31, none, fun v _ => v = .pointer (some ⟨w.heap.size + 1, 2, none⟩)⟩, ⟨some 3, 32, none, fun v _ => v = .int .i64 N⟩, ⟨some 4, 33, none, fun v _ => v = hashV x⟩, ⟨some 5, 34, none, fun v _ => v = hashV y⟩, ⟨some 6, 35, none, fun v _ => v = hashV root⟩, ⟨some 7, 36, none, fun v _ => v = .bool true⟩, ⟨some 8, 37, none, fun v _ => v = .bool true⟩, ⟨some 9, 38, none, fun v _ => v = .pointer (some ⟨g, 0, none⟩)⟩, ⟨some 10, 39, none, fun v _ => v = (.bool (doneM r'))⟩, ⟨some 11, 40, none, fun v _ => v = (.bool (doneM r'))⟩, ⟨some 12, 8, none, fun v _ => v = (.bool (doneM r'))⟩]) (by kernel_rfl) (by kernel_rfl) (Inv.start (Below.refl _ _).drew ⟨nofun, nofun, nofun, nofun, nofun, nofun, nofun, nofun, nofun, nofun, nofun, nofun, nofun, trivial⟩) ?_ ?_
      · have St : ∀ xc ∈ [(⟨some 0, 29, none, fun v _ => v = .pointer (some ⟨w.heap.size + 1, 3, none⟩)⟩ : Cl), ⟨some 1, 30, none, fun v _ => v = .int .i64 size⟩, ⟨some 2, 31, none, fun v _ => v = .pointer (some ⟨w.heap.size + 1, 2, none⟩)⟩, ⟨some 3, 32, none, fun v _ => v = .int .i64 N⟩, ⟨some 4, 33, none, fun v _ => v = hashV x⟩, ⟨some 5, 34, none, fun v _ => v = hashV y⟩, ⟨some 6, 35, none, fun v _ => v = hashV root⟩, ⟨some 7, 36, none, fun v _ => v = .bool true⟩, ⟨some 8, 37, none, fun v _ => v = .bool true⟩, ⟨some 9, 38, none, fun v _ => v = .pointer (some ⟨g, 0, none⟩)⟩, ⟨some 10, 39, none, fun v _ => v = (.bool (doneM r'))⟩, ⟨some 11, 40, none, fun v _ => v = (.bool (doneM r'))⟩, ⟨some 12, 8, none, fun v _ => v = (.bool (doneM r'))⟩], Lasts xc := AllC.mem ⟨lastsV0 _ _ _ _, lastsV0 _ _ _ _, lastsV0 _ _ _ _, lastsV0 _ _ _ _, lastsV0 _ _ _ _, lastsV0 _ _ _ _, lastsV0 _ _ _ _, lastsV0 _ _ _ _, lastsV0 _ _ _ _, lastsV0 _ _ _ _, lastsV0 _ _ _ _, lastsV0 _ _ _ _, lastsV0 _ _ _ _, trivial⟩
        clear HA0
        refine ⟨?_, ?_, ?_, ?_, ?_, ?_, ?_, ?_, ?_, ?_, ?_, ?_, ?_, trivial⟩
        · refine StepG.of ?_
          refine stepB rfl rfl (by decide) (by rw [hz]; decide) rfl rfl (by kernel_rfl) St SG fun d a W hF hG hH hn hcl hw => ?_
          have q7 := (hF.same 7 (by decide)).trans e7
          refine ⟨.pointer (some ⟨w.heap.size + 1, 3, none⟩), W, ?_, Below.refl _ _, ?_⟩
          · clear hF hG hH hn hcl hw
            generalize a.eval = ρ at *
            go_simp
          · rfl
        · refine StepG.of ?_
          refine stepB rfl rfl (by decide) (by rw [hz]; decide) rfl rfl (by kernel_rfl) St SG fun d a W hF hG hH hn hcl hw => ?_
          have q29 : a.eval (.tmp 29) = .pointer (some ⟨w.heap.size + 1, 3, none⟩) := hH.at_ (i := 0) rfl (hw 0 rfl) id
          have c := cell_kept hG z7.c3
          refine ⟨.int .i64 size, W, ?_, Below.refl _ _, ?_⟩
          · clear hF hG hH hn hcl hw
            generalize a.eval = ρ at *
            go_simp
          · rfl
        · refine StepG.of ?_
          refine stepB rfl rfl (by decide) (by rw [hz]; decide) rfl rfl (by kernel_rfl) St SG fun d a W hF hG hH hn hcl hw => ?_
          have q7 := (hF.same 7 (by decide)).trans e7
          refine ⟨.pointer (some ⟨w.heap.size + 1, 2, none⟩), W, ?_, Below.refl _ _, ?_⟩
          · clear hF hG hH hn hcl hw
            generalize a.eval = ρ at *
            go_simp
          · rfl
        · refine StepG.of ?_
          refine stepB rfl rfl (by decide) (by rw [hz]; decide) rfl rfl (by kernel_rfl) St SG fun d a W hF hG hH hn hcl hw => ?_
          have q31 : a.eval (.tmp 31) = .pointer (some ⟨w.heap.size + 1, 2, none⟩) := hH.at_ (i := 2) rfl (hw 2 rfl) id
          have c := cell_kept hG z7.c2
          refine ⟨.int .i64 N, W, ?_, Below.refl _ _, ?_⟩
          · clear hF hG hH hn hcl hw
            generalize a.eval = ρ at *
            go_simp
          · rfl
        · refine StepG.of ?_
          refine stepB rfl rfl (by decide) (by rw [hz]; decide) rfl rfl (by kernel_rfl) St SG fun d a W hF hG hH hn hcl hw => ?_
          have q10 := (hF.same 10 (by decide)).trans e10
          refine ⟨hashV x, W, ?_, Below.refl _ _, ?_⟩
          · exact exec_load rfl (by rw [q10]; exact BoxH.load_ (zq.next hG) HX.out)
          · rfl
        · refine StepG.of ?_
          refine stepC rfl rfl (by decide) (by rw [hz]; decide) rfl rfl (by kernel_rfl) St SG fun d a W hF hG hH hn hcl hw => ?_
          have q30 : a.eval (.tmp 30) = .int .i64 size := hH.at_ (i := 1) rfl (hw 1 rfl) id
          have q32 : a.eval (.tmp 32) = .int .i64 N := hH.at_ (i := 3) rfl (hw 3 rfl) id
          have q33 : a.eval (.tmp 33) = hashV x := hH.at_ (i := 4) rfl (hw 4 rfl) id
          have qf : a.eval (.func 65) = .func (.func 65) #[] #[] := rfl
          refine ⟨65, #[.int .i64 size, .int .i64 N, hashV x], ?_, ?_⟩
          · clear hF hG hH hn hcl hw
            generalize a.eval = ρ at *
            go_simp
          · refine (HSEAL.out W (HK3.out.next hG)).mono ?_; rintro e W' ⟨rfl, b⟩; exact ⟨_, rfl, b, rfl⟩
        · refine StepG.of ?_
          refine stepB rfl rfl (by decide) (by rw [hz]; decide) rfl rfl (by kernel_rfl) St SG fun d a W hF hG hH hn hcl hw => ?_
          have q4 := (hF.same 4 (by decide)).trans e4
          refine ⟨hashV root, W, ?_, Below.refl _ _, ?_⟩
          · exact exec_load rfl (by rw [q4]; exact BoxH.load_ (z4.next hG) HRT.out)
          · rfl
        · refine StepG.of ?_
          refine stepB rfl rfl (by decide) (by rw [hz]; decide) rfl rfl (by kernel_rfl) St SG fun d a W hF hG hH hn hcl hw => ?_
          have q34 : a.eval (.tmp 34) = hashV y := hH.at_ (i := 5) rfl (hw 5 rfl) id
          have q35 : a.eval (.tmp 35) = hashV root := hH.at_ (i := 6) rfl (hw 6 rfl) id
          have r := eqq W
          refine ⟨.bool true, W, ?_, Below.refl _ _, ?_⟩
          · clear hF hG hH hn hcl hw
            generalize a.eval = ρ at *
            go_simp
          · rfl
        · refine StepG.of ?_
          refine stepB rfl rfl (by decide) (by rw [hz]; decide) rfl rfl (by kernel_rfl) St SG fun d a W hF hG hH hn hcl hw => ?_
          have q36 : a.eval (.tmp 36) = .bool true := hH.at_ (i := 7) rfl (hw 7 rfl) id
          refine ⟨.bool true, W, ?_, Below.refl _ _, ?_⟩
          · clear hF hG hH hn hcl hw
            generalize a.eval = ρ at *
            go_simp
          · rfl
        · refine StepG.on rfl (fun d a W hI hw => yielded_of rfl (hI.2.2.at_ (i := 8) rfl (hw 8 rfl) id)) ?_
          refine stepB rfl rfl (by decide) (by rw [hz]; decide) rfl rfl (by kernel_rfl) St SG fun d a W hF hG hH hn hcl hw => ?_
          have q9 := (hF.same 9 (by decide)).trans e9
          refine ⟨.pointer (some ⟨g, 0, none⟩), W, ?_, Below.refl _ _, ?_⟩
          · clear hF hG hH hn hcl hw
            generalize a.eval = ρ at *
            go_simp
          · rfl
        · refine StepG.on rfl (fun d a W hI hw => yielded_of rfl (hI.2.2.at_ (i := 8) rfl (hw 8 rfl) id)) ?_
          refine stepC rfl rfl (by decide) (by rw [hz]; decide) rfl rfl (by kernel_rfl) St SG fun d a W hF hG hH hn hcl hw => ?_
          have q38 : a.eval (.tmp 38) = .pointer (some ⟨g, 0, none⟩) := hH.at_ (i := 9) rfl (hw 9 rfl) id
          have qf : a.eval (.func 66) = .func (.func 66) #[] #[] := rfl
          refine ⟨66, #[.pointer (some ⟨g, 0, none⟩)], ?_, ?_⟩
          · clear hF hG hH hn hcl hw
            generalize a.eval = ρ at *
            go_simp
          · refine (done_any (RR.out.next hG)).mono ?_; rintro e W' ⟨rfl, rfl⟩; exact ⟨_, rfl, Below.refl _ _, rfl⟩
        · refine StepG.of ?_
          refine stepB rfl rfl (by decide) (by rw [hz]; decide) rfl rfl (by kernel_rfl) St SG fun d a W hF hG hH hn hcl hw => ?_
          have q37 : a.eval (.tmp 37) = .bool true := hH.at_ (i := 8) rfl (hw 8 rfl) id
          have q39 : a.eval (.tmp 39) = (.bool (doneM r')) := hH.at_ (i := 10) rfl (hw 10 rfl) id
          refine ⟨(.bool (doneM r')), W, ?_, Below.refl _ _, ?_⟩
          · clear hF hG hH hn hcl hw
            generalize a.eval = ρ at *
            go_simp
          · rfl
        · refine StepG.of ?_
          refine stepB rfl rfl (by decide) (by rw [hz]; decide) rfl rfl (by kernel_rfl) St SG fun d a W hF hG hH hn hcl hw => ?_
          have q40 : a.eval (.tmp 40) = (.bool (doneM r')) := hH.at_ (i := 11) rfl (hw 11 rfl) id
          refine ⟨(.bool (doneM r')), W, ?_, Below.refl _ _, ?_⟩
          · clear hF hG hH hn hcl hw
            generalize a.eval = ρ at *
            go_simp
          · rfl
      · intro d a W ⟨hF, hB, hH⟩ hall
        have k8 : a.eval (.tmp 8) = (.bool (doneM r')) := hH.at_ (i := 12) rfl (hall 12 (by decide)) id
        clear hH hall
        rw [hF.shape (by rw [hz]; decide)]
        clear hF
        simp only [List.foldl]
        generalize a.eval (.tmp 29) = z29 at *
        generalize a.eval (.tmp 30) = z30 at *
        generalize a.eval (.tmp 31) = z31 at *
        generalize a.eval (.tmp 32) = z32 at *
        generalize a.eval (.tmp 33) = z33 at *
        generalize a.eval (.tmp 34) = z34 at *
        generalize a.eval (.tmp 35) = z35 at *
        generalize a.eval (.tmp 36) = z36 at *
        generalize a.eval (.tmp 37) = z37 at *
        generalize a.eval (.tmp 38) = z38 at *
        generalize a.eval (.tmp 39) = z39 at *
        generalize a.eval (.tmp 40) = z40 at *
        generalize a.eval (.tmp 8) = z8 at *
        subst k8
        rw [HA0.out]
        simp only [Act.put, List.setIfInBounds_toArray, List.set_cons_zero, List.set_cons_succ]
        clear hz HA0 SG e7 e10 e4 e9
        clear a a0
        go_wp2_with (fail)
        obtain rfl : B = doneM r' := by rw [← HB.out, HB1.out]; rfl
        go_ret
        exact ⟨rfl, Below.on B3 hB⟩
    | false =>
      refine wp_name fun a0 ha0 => ?_
      have e7 : a0.eval (.tmp 7) = .pointer (some ⟨w.heap.size + 1, 0, none⟩) := by rw [ha0]; rfl
      have e10 : a0.eval (.tmp 10) = .pointer (some ⟨q, 0, none⟩) := by rw [ha0]; rfl
      have e4 : a0.eval (.tmp 4) = .pointer (some ⟨w.heap.size, 0, none⟩) := by rw [ha0]; rfl
      have e9 : a0.eval (.tmp 9) = .pointer (some ⟨g, 0, none⟩) := by rw [ha0]; rfl
      have hz : a0.tmps.size = 41 := by rw [ha0]; rfl
      have HA0 := Lib.hid ha0
      clear ha0
      have SG : ∀ (d d' : Nat → Prop) (W W' : World), (fun (_ : Nat → Prop) (W : World) => Below wc.heap.size wc W) d W → (∀ j, d j → d' j) → Below W.heap.size W W' → (fun (_ : Nat → Prop) (W : World) => Below wc.heap.size wc W) d' W' := fun _ _ _ _ h _ b => Below.next h b
      refine wp_region_guards (Inv [29, 30, 31, 32, 33, 34, 35, 36, 37, 38, 39, 40, 8] a0 (fun (_ : Nat → Prop) (W : World) => Below wc.heap.size wc W) [(⟨some 0, 29, none, fun v _ => v = .pointer (some ⟨w.heap.size + 1, 3, none⟩)⟩ : Cl), ⟨some 1, 30, none, fun v _ => v = .int .i64 size⟩, ⟨some 2, 31, none, fun v _ => v = .pointer (some ⟨w.heap.size + 1, 2, none⟩)⟩, ⟨some 3, 32, none, fun v _ => v = .int .i64 N⟩, ⟨some 4, 33, none, fun v _ => v = hashV x⟩, ⟨some 5, 34, none, fun v _ => v = hashV y⟩, ⟨some 6, 35, none, fun v _ => v = hashV root⟩, ⟨some 7, 36, none, fun v _ => v = .bool false⟩, ⟨some 8, 37, none, fun v _ => v = .bool false⟩, ⟨some 9, 38, none, fun v _ => v = undef⟩, ⟨some 10, 39, none, fun v _ => v = undef⟩, ⟨some 11, 40, none, fun v _ => v = (.bool false)⟩, ⟨some 12, 8, none, fun v _ => v = (.bool false)⟩]) (by kernel_rfl) (by kernel_rfl) (Inv.start (Below.refl _ _).drew ⟨nofun, nofun, nofun, nofun, nofun, nofun, nofun, nofun, nofun, nofun, nofun, nofun, nofun, trivial⟩) ?_ ?_
      · have St : ∀ xc ∈ [(⟨some 0, 29, none, fun v _ => v = .pointer (some ⟨w.heap.size + 1, 3, none⟩)⟩ : Cl), ⟨some 1, 30, none, fun v _ => v = .int .i64 size⟩, ⟨some 2, 31, none, fun v _ => v = .pointer (some ⟨w.heap.size + 1, 2, none⟩)⟩, ⟨some 3, 32, none, fun v _ => v = .int .i64 N⟩, ⟨some 4, 33, none, fun v _ => v = hashV x⟩, ⟨some 5, 34, none, fun v _ => v = hashV y⟩, ⟨some 6, 35, none, fun v _ => v = hashV root⟩, ⟨some 7, 36, none, fun v _ => v = .bool false⟩, ⟨some 8, 37, none, fun v _ => v = .bool false⟩, ⟨some 9, 38, none, fun v _ => v = undef⟩, ⟨some 10, 39, none, fun v _ => v = undef⟩, ⟨some 11, 40, none, fun v _ => v = (.bool false)⟩, ⟨some 12, 8, none, fun v _ => v = (.bool false)⟩], Lasts xc := AllC.mem ⟨lastsV0 _ _ _ _, lastsV0 _ _ _ _, lastsV0 _ _ _ _, lastsV0 _ _ _ _, lastsV0 _ _ _ _, lastsV0 _ _ _ _, lastsV0 _ _ _ _, lastsV0 _ _ _ _, lastsV0 _ _ _ _, lastsV0 _ _ _ _, lastsV0 _ _ _ _, lastsV0 _ _ _ _, lastsV0 _ _ _ _, trivial⟩
        clear HA0
        refine ⟨?_, ?_, ?_, ?_, ?_, ?_, ?_, ?_, ?_, ?_, ?_, ?_, ?_, trivial⟩
        · refine StepG.of ?_
          refine stepB rfl rfl (by decide) (by rw [hz]; decide) rfl rfl (by kernel_rfl) St SG fun d a W hF hG hH hn hcl hw => ?_
          have q7 := (hF.same 7 (by decide)).trans e7
          refine ⟨.pointer (some ⟨w.heap.size + 1, 3, none⟩), W, ?_, Below.refl _ _, ?_⟩
          · clear hF hG hH hn hcl hw
            generalize a.eval = ρ at *
            go_simp
          · rfl
        · refine StepG.of ?_
          refine stepB rfl rfl (by decide) (by rw [hz]; decide) rfl rfl (by kernel_rfl) St SG fun d a W hF hG hH hn hcl hw => ?_
          have q29 : a.eval (.tmp 29) = .pointer (some ⟨w.heap.size + 1, 3, none⟩) := hH.at_ (i := 0) rfl (hw 0 rfl) id
          have c := cell_kept hG z7.c3
          refine ⟨.int .i64 size, W, ?_, Below.refl _ _, ?_⟩
          · clear hF hG hH hn hcl hw
            generalize a.eval = ρ at *
            go_simp
          · rfl
        · refine StepG.of ?_
          refine stepB rfl rfl (by decide) (by rw [hz]; decide) rfl rfl (by kernel_rfl) St SG fun d a W hF hG hH hn hcl hw => ?_
          have q7 := (hF.same 7 (by decide)).trans e7
          refine ⟨.pointer (some ⟨w.heap.size + 1, 2, none⟩), W, ?_, Below.refl _ _, ?_⟩
          · clear hF hG hH hn hcl hw
            generalize a.eval = ρ at *
            go_simp
          · rfl
        · refine StepG.of ?_
          refine stepB rfl rfl (by decide) (by rw [hz]; decide) rfl rfl (by kernel_rfl) St SG fun d a W hF hG hH hn hcl hw => ?_
          have q31 : a.eval (.tmp 31) = .pointer (some ⟨w.heap.size + 1, 2, none⟩) := hH.at_ (i := 2) rfl (hw 2 rfl) id
          have c := cell_kept hG z7.c2
          refine ⟨.int .i64 N, W, ?_, Below.refl _ _, ?_⟩
          · clear hF hG hH hn hcl hw
            generalize a.eval = ρ at *
            go_simp
          · rfl
        · refine StepG.of ?_
          refine stepB rfl rfl (by decide) (by rw [hz]; decide) rfl rfl (by kernel_rfl) St SG fun d a W hF hG hH hn hcl hw => ?_
          have q10 := (hF.same 10 (by decide)).trans e10
          refine ⟨hashV x, W, ?_, Below.refl _ _, ?_⟩
          · exact exec_load rfl (by rw [q10]; exact BoxH.load_ (zq.next hG) HX.out)
          · rfl
        · refine StepG.of ?_
          refine stepC rfl rfl (by decide) (by rw [hz]; decide) rfl rfl (by kernel_rfl) St SG fun d a W hF hG hH hn hcl hw => ?_
          have q30 : a.eval (.tmp 30) = .int .i64 size := hH.at_ (i := 1) rfl (hw 1 rfl) id
          have q32 : a.eval (.tmp 32) = .int .i64 N := hH.at_ (i := 3) rfl (hw 3 rfl) id
          have q33 : a.eval (.tmp 33) = hashV x := hH.at_ (i := 4) rfl (hw 4 rfl) id
          have qf : a.eval (.func 65) = .func (.func 65) #[] #[] := rfl
          refine ⟨65, #[.int .i64 size, .int .i64 N, hashV x], ?_, ?_⟩
          · clear hF hG hH hn hcl hw
            generalize a.eval = ρ at *
            go_simp
          · refine (HSEAL.out W (HK3.out.next hG)).mono ?_; rintro e W' ⟨rfl, b⟩; exact ⟨_, rfl, b, rfl⟩
        · refine StepG.of ?_
          refine stepB rfl rfl (by decide) (by rw [hz]; decide) rfl rfl (by kernel_rfl) St SG fun d a W hF hG hH hn hcl hw => ?_
          have q4 := (hF.same 4 (by decide)).trans e4
          refine ⟨hashV root, W, ?_, Below.refl _ _, ?_⟩
          · exact exec_load rfl (by rw [q4]; exact BoxH.load_ (z4.next hG) HRT.out)
          · rfl
        · refine StepG.of ?_
          refine stepB rfl rfl (by decide) (by rw [hz]; decide) rfl rfl (by kernel_rfl) St SG fun d a W hF hG hH hn hcl hw => ?_
          have q34 : a.eval (.tmp 34) = hashV y := hH.at_ (i := 5) rfl (hw 5 rfl) id
          have q35 : a.eval (.tmp 35) = hashV root := hH.at_ (i := 6) rfl (hw 6 rfl) id
          have r := eqq W
          refine ⟨.bool false, W, ?_, Below.refl _ _, ?_⟩
          · clear hF hG hH hn hcl hw
            generalize a.eval = ρ at *
            go_simp
          · rfl
        · refine StepG.of ?_
          refine stepB rfl rfl (by decide) (by rw [hz]; decide) rfl rfl (by kernel_rfl) St SG fun d a W hF hG hH hn hcl hw => ?_
          have q36 : a.eval (.tmp 36) = .bool false := hH.at_ (i := 7) rfl (hw 7 rfl) id
          refine ⟨.bool false, W, ?_, Below.refl _ _, ?_⟩
          · clear hF hG hH hn hcl hw
            generalize a.eval = ρ at *
            go_simp
          · rfl
        · exact step_off rfl rfl (by decide) (by rw [hz]; decide) rfl rfl (by kernel_rfl) (fun _ => rfl) SG (fun d a W hI hw => yielded_of rfl (hI.2.2.at_ (i := 8) rfl (hw 8 rfl) id))
        · exact step_off rfl rfl (by decide) (by rw [hz]; decide) rfl rfl (by kernel_rfl) (fun _ => rfl) SG (fun d a W hI hw => yielded_of rfl (hI.2.2.at_ (i := 8) rfl (hw 8 rfl) id))
        · refine StepG.of ?_
          refine stepB rfl rfl (by decide) (by rw [hz]; decide) rfl rfl (by kernel_rfl) St SG fun d a W hF hG hH hn hcl hw => ?_
          have q37 : a.eval (.tmp 37) = .bool false := hH.at_ (i := 8) rfl (hw 8 rfl) id
          have q39 : a.eval (.tmp 39) = undef := hH.at_ (i := 10) rfl (hw 10 rfl) id
          have qcf : a.eval (.const (.bool false)) = .bool false := rfl
          refine ⟨(.bool false), W, ?_, Below.refl _ _, ?_⟩
          · clear hF hG hH hn hcl hw
            generalize a.eval = ρ at *
            go_simp
          · rfl
        · refine StepG.of ?_
          refine stepB rfl rfl (by decide) (by rw [hz]; decide) rfl rfl (by kernel_rfl) St SG fun d a W hF hG hH hn hcl hw => ?_
          have q40 : a.eval (.tmp 40) = (.bool false) := hH.at_ (i := 11) rfl (hw 11 rfl) id
          refine ⟨(.bool false), W, ?_, Below.refl _ _, ?_⟩
          · clear hF hG hH hn hcl hw
            generalize a.eval = ρ at *
            go_simp
          · rfl
      · intro d a W ⟨hF, hB, hH⟩ hall
        have k8 : a.eval (.tmp 8) = (.bool false) := hH.at_ (i := 12) rfl (hall 12 (by decide)) id
        clear hH hall
        rw [hF.shape (by rw [hz]; decide)]
        clear hF
        simp only [List.foldl]
        generalize a.eval (.tmp 29) = z29 at *
        generalize a.eval (.tmp 30) = z30 at *
        generalize a.eval (.tmp 31) = z31 at *
        generalize a.eval (.tmp 32) = z32 at *
        generalize a.eval (.tmp 33) = z33 at *
        generalize a.eval (.tmp 34) = z34 at *
        generalize a.eval (.tmp 35) = z35 at *
        generalize a.eval (.tmp 36) = z36 at *
        generalize a.eval (.tmp 37) = z37 at *
        generalize a.eval (.tmp 38) = z38 at *
        generalize a.eval (.tmp 39) = z39 at *
        generalize a.eval (.tmp 40) = z40 at *
        generalize a.eval (.tmp 8) = z8 at *
        subst k8
        rw [HA0.out]
        simp only [Act.put, List.setIfInBounds_toArray, List.set_cons_zero, List.set_cons_succ]
        clear hz HA0 SG e7 e10 e4 e9
        clear a a0
        go_wp2_with (fail)
        obtain rfl : B = false := by rw [← HB.out, HB1.out]; rfl
        go_ret
        exact ⟨rfl, Below.on B3 hB⟩
theorem accept_any (root : Bs) (lo hi : Int) (R : List Rn) (A : Option Addr) (n c : Nat) (first count size : Int) (path : List Bs) (PA : Option Addr) (pn pc : Nat) (w : World) (hn : R.length = n) (hR : Runs w A R) (hc : n ≤ c)
    (hp : Hs w PA path) (hpn : path.length = pn) (hpc : pn ≤ pc) (hpl : pn ≤ 1000000) (hk : Kon w) (hr : root.length = 32) :
    Calls Tryd.prog 23 #[hashV root, .int .i64 lo, .int .i64 hi, claimV A n c first count size PA pn pc] w fun e w' => e = .returned (.bool (acceptM root lo hi R first count size path)) ∧ Below w.heap.size w w' := by
  cases e : soundB lo hi R first count size with
  | false =>
    have : acceptM root lo hi R first count size path = false := by unfold acceptM; rw [e]; rfl
    rw [this]
    exact acc_no root lo hi R A n c first count size path PA pn pc w hn hR hc e
  | true =>
    exact acc_yes root lo hi R A n c first count size path PA pn pc w hn hR hc (soundB_iff.1 e) hp hpn hpc hpl hk hr _ (by unfold acceptM; rw [e]; rfl)
end
section
open Go.RowKit
/-- A claim of a piece as a value. -/
abbrev claim1V (X : Rn) (index count size : Int) (PA : Option Addr) (pn pc : Nat) : Value := .agg #[.int .i64 X.lo, .int .i64 X.hi, .int .i64 X.tag, .int .i64 index, .int .i64 count, .int .i64 size, .slice PA pn pc]
/-- What Accept returns. -/
noncomputable def accept1M (root : Bs) (at_ : Int) (X : Rn) (index count size : Int) (path : List Bs) : Int × Bool :=
  if 0 ≤ at_ ∧ at_ < size then (if acceptM root at_ (at_ + 1) [X] index count size path = true then (X.tag, true) else (0, false)) else (0, false)
theorem runs_one {w : World} {b : Nat} {X : Rn} (h : BoxRun w b X.lo X.hi X.tag) : Runs w (some ⟨b, 0, none⟩) [X] := by
  refine .inr ⟨_, rfl, h.lt, fun i hi => ?_⟩
  obtain rfl : i = 0 := by simpa using hi
  have e : (⟨b, 0, none⟩ : Addr).add (0 * 3) = ⟨b, 0, none⟩ := by simp [Addr.add]
  rw [e]
  exact ⟨h.c0, h.c1, h.c2⟩
set_option maxRecDepth 100000 in
set_option maxHeartbeats 2000000 in
theorem accept1_any (root : Bs) (at_ : Int) (X : Rn) (index count size : Int) (path : List Bs) (PA : Option Addr) (pn pc : Nat) (w : World) (hsz : size < 9223372036854775808)
    (hp : Hs w PA path) (hpn : path.length = pn) (hpc : pn ≤ pc) (hpl : pn ≤ 1000000) (hk : Kon w) (hr : root.length = 32) :
    Calls Tryd.prog 21 #[hashV root, .int .i64 at_, claim1V X index count size PA pn pc] w fun e w' => e = .returned (.tuple #[.int .i64 (accept1M root at_ X index count size path).1, .bool (accept1M root at_ X index count size path).2]) ∧ Below w.heap.size w w' := by
  by_cases c1 : at_ < 0
  · have e : accept1M root at_ X index count size path = (0, false) := by unfold accept1M; rw [if_neg (by omega)]
    rw [e]
    clear e hp hpn hpc hpl hk hr
    go_enter Tryd.func21, Tryd.ntmps21
    go_wp2_with (fail)
    go_ret2
    exact ⟨rfl, Below.on (Below.new1 _ _) (Below.new1 _ _)⟩
  by_cases c2 : size ≤ at_
  · have e : accept1M root at_ X index count size path = (0, false) := by unfold accept1M; rw [if_neg (by omega)]
    rw [e]
    clear e hp hpn hpc hpl hk hr
    go_enter Tryd.func21, Tryd.ntmps21
    go_wp2_with (fail)
    go_ret2
    exact ⟨rfl, Below.on (Below.new1 _ _) (Below.new1 _ _)⟩
  have hacc := fun (A : Option Addr) (c : Nat) (W : World) (hR : Runs W A [X]) (hc : 1 ≤ c) (hp : Hs W PA path) (hk : Kon W) => accept_any root at_ (at_ + 1) [X] A 1 c index count size path PA pn pc W rfl hR hc hp hpn hpc hpl hk hr
  obtain ⟨b, hb⟩ : ∃ b, acceptM root at_ (at_ + 1) [X] index count size path = b := ⟨_, rfl⟩
  have e : accept1M root at_ X index count size path = (if b = true then (X.tag, true) else (0, false)) := by unfold accept1M; rw [if_pos (by omega), hb]
  rw [hb] at hacc
  rw [e]
  have HP := Lib.hid hp
  have HK := Lib.hid hk
  have HA := Lib.hid hacc
  have HR := Lib.hid hr
  clear e hp hpn hpc hpl hk hacc hb hr
  cases b
  all_goals
    simp only [Bool.false_eq_true, if_false, if_true]
    go_enter Tryd.func21, Tryd.ntmps21
    go_upto_region 3 with (fail)
    obtain ⟨w0, hW0⟩ : ∃ w0, World.alloc (World.alloc w (Obj.cells (cellsB root).toArray 30)) (Obj.cells #[.int .i64 X.lo, .int .i64 X.hi, .int .i64 X.tag, .int .i64 index, .int .i64 count, .int .i64 size, .slice PA pn pc] 37) = w0 := ⟨_, rfl⟩
    have B0 : Below w.heap.size w w0 := hW0 ▸ Below.on (Below.new1 _ _) (Below.new1 _ _)
    have x3 : BoxH w0 w.heap.size root := hW0 ▸ (BoxH.new w root).next (Below.new1 _ _)
    have x5 : w0.heap[w.heap.size + 1]? = some (.cells #[.int .i64 X.lo, .int .i64 X.hi, .int .i64 X.tag, .int .i64 index, .int .i64 count, .int .i64 size, .slice PA pn pc] 37 (0, 0)) := by
      have := heap_alloc_new (World.alloc w (Obj.cells (cellsB root).toArray 30)) (Obj.cells #[.int .i64 X.lo, .int .i64 X.hi, .int .i64 X.tag, .int .i64 index, .int .i64 count, .int .i64 size, .slice PA pn pc] 37)
      rw [World.size_alloc] at this; exact hW0 ▸ this
    change Code.wp _ _ _ _ (World.alloc (World.alloc w (Obj.cells (cellsB root).toArray 30)) (Obj.cells #[.int .i64 X.lo, .int .i64 X.hi, .int .i64 X.tag, .int .i64 index, .int .i64 count, .int .i64 size, .slice PA pn pc] 37))
    rw [hW0]
    have c0 : w0.cell? ⟨w.heap.size + 1, 0, none⟩ = some (.int .i64 X.lo) := (cell_of_row w0 _ 0 _ _ _ x5).trans rfl
    have c1' : w0.cell? ⟨w.heap.size + 1, 1, none⟩ = some (.int .i64 X.hi) := (cell_of_row w0 _ 1 _ _ _ x5).trans rfl
    have c2' : w0.cell? ⟨w.heap.size + 1, 2, none⟩ = some (.int .i64 X.tag) := (cell_of_row w0 _ 2 _ _ _ x5).trans rfl
    have c3 : w0.cell? ⟨w.heap.size + 1, 3, none⟩ = some (.int .i64 index) := (cell_of_row w0 _ 3 _ _ _ x5).trans rfl
    have c4 : w0.cell? ⟨w.heap.size + 1, 4, none⟩ = some (.int .i64 count) := (cell_of_row w0 _ 4 _ _ _ x5).trans rfl
    have c5 : w0.cell? ⟨w.heap.size + 1, 5, none⟩ = some (.int .i64 size) := (cell_of_row w0 _ 5 _ _ _ x5).trans rfl
    have c6 : w0.cell? ⟨w.heap.size + 1, 6, none⟩ = some (.slice PA pn pc) := (cell_of_row w0 _ 6 _ _ _ x5).trans rfl
    have l0 : w.heap.size + 1 < w0.heap.size := (Array.getElem?_eq_some_iff.1 x5).1
    have hk0 := HK.out.next B0
    have hp0 := HP.out.next B0
    clear hW0 x5
    go_wp2_with (first
      | (refine wpList_loadH rfl (.tmp 3) rfl w.heap.size root rfl x3 HR.out ?_)
      | (go_at_call 23; refine (HA.out _ _ _ (runs_one (BoxRun.new w0 _ _ _)) (by decide) (hp0.next (Below.new1 _ _)) (hk0.next (Below.new1 _ _))).mono ?_; rintro e w2 ⟨rfl, b2⟩; replace c2' := cell_kept b2 (cell_kept (Below.new1 w0 _) c2')))
    go_ret2
    exact ⟨rfl, Below.on (Below.on B0 (Below.new1 w0 _)) b2⟩
end
end Go.Proofs.YtcocengpekndjaaDoor
