/- The walk over sound. -/
import Derived.Test.YtcocengpekndjaaDoorPrHashes
import Derived.Deep.DeepCutAuto
namespace Go.Proofs.YtcocengpekndjaaDoor
open Go.RowKit
/-- A run is well formed, and fits behind the one before it. -/
def OkR (p : Option Rn) (x : Rn) : Prop := x.lo < x.hi ∧ 0 ≤ x.tag ∧ x.tag < 16 ∧ ∀ y, p = some y → x.lo = y.hi ∧ x.tag ≠ y.tag
def prevR (R : List Rn) (i : Nat) : Option Rn := if i = 0 then none else R[i - 1]?
def Chain (R : List Rn) (k : Nat) : Prop := ∀ i (h : i < R.length), i < k → OkR (prevR R i) R[i]
def Head (lo hi : Int) (n : Nat) (first count size : Int) : Prop := 0 ≤ lo ∧ lo < hi ∧ hi ≤ size ∧ size ≤ 1099511627776 ∧ n ≠ 0 ∧ (n : Int) ≤ count ∧ count ≤ 4096 ∧ 0 ≤ first ∧ first ≤ count - n
def Ends (lo hi : Int) (F Z : Rn) (n : Nat) (first count size : Int) : Prop :=
  (0 ≤ F.lo ∧ F.lo ≤ lo ∧ lo < F.hi ∧ Z.hi ≤ size ∧ hi ≤ Z.hi ∧ Z.lo < hi) ∧ (F.lo = 0 ↔ first = 0) ∧ (Z.hi = size ↔ first + n = count)
/-- A claim is sound for a range. -/
def Sound (lo hi : Int) (R : List Rn) (first count size : Int) : Prop :=
  Head lo hi R.length first count size ∧ Chain R R.length ∧ ∀ (h : R ≠ []), Ends lo hi (R.head h) (R.getLast h) R.length first count size
noncomputable def soundB (lo hi : Int) (R : List Rn) (first count size : Int) : Bool := @decide (Sound lo hi R first count size) (Classical.propDecidable _)
theorem soundB_iff {lo hi : Int} {R : List Rn} {first count size : Int} : soundB lo hi R first count size = true ↔ Sound lo hi R first count size := @decide_eq_true_iff _ (Classical.propDecidable _)
theorem soundB_yes {lo hi : Int} {R : List Rn} {first count size : Int} (h : Sound lo hi R first count size) : soundB lo hi R first count size = true := soundB_iff.2 h
theorem soundB_no {lo hi : Int} {R : List Rn} {first count size : Int} (h : ¬ Sound lo hi R first count size) : soundB lo hi R first count size = false := by
  cases e : soundB lo hi R first count size with
  | false => rfl
  | true => exact absurd (soundB_iff.1 e) h
/-- A claim of a range as a value. -/
abbrev claimV (A : Option Addr) (n c : Nat) (first count size : Int) (PA : Option Addr) (pn pc : Nat) : Value := .agg #[.slice A n c, .int .i64 first, .int .i64 count, .int .i64 size, .slice PA pn pc]
/-- The cells of a claim. -/
structure BoxC (W : World) (b : Nat) (A : Option Addr) (n c : Nat) (first count size : Int) (PA : Option Addr) (pn pc : Nat) : Prop where
  row : W.heap[b]? = some (.cells #[.slice A n c, .int .i64 first, .int .i64 count, .int .i64 size, .slice PA pn pc] 43 (0, 0))
theorem BoxC.new (w : World) (A : Option Addr) (n c : Nat) (first count size : Int) (PA : Option Addr) (pn pc : Nat) : BoxC (w.alloc (.cells #[.slice A n c, .int .i64 first, .int .i64 count, .int .i64 size, .slice PA pn pc] 43)) w.heap.size A n c first count size PA pn pc := ⟨heap_alloc_new w _⟩
section
variable {W W' : World} {b : Nat} {A : Option Addr} {n c : Nat} {first count size : Int} {PA : Option Addr} {pn pc : Nat}
theorem BoxC.lt (h : BoxC W b A n c first count size PA pn pc) : b < W.heap.size := (Array.getElem?_eq_some_iff.1 h.row).1
theorem BoxC.next (h : BoxC W b A n c first count size PA pn pc) (hB : Below W.heap.size W W') : BoxC W' b A n c first count size PA pn pc := ⟨(hB.block b h.lt).trans h.row⟩
theorem BoxC.c0 (h : BoxC W b A n c first count size PA pn pc) : W.cell? ⟨b, 0, none⟩ = some (.slice A n c) := (cell_of_row W b 0 _ _ _ h.row).trans rfl
theorem BoxC.c1 (h : BoxC W b A n c first count size PA pn pc) : W.cell? ⟨b, 1, none⟩ = some (.int .i64 first) := (cell_of_row W b 1 _ _ _ h.row).trans rfl
theorem BoxC.c2 (h : BoxC W b A n c first count size PA pn pc) : W.cell? ⟨b, 2, none⟩ = some (.int .i64 count) := (cell_of_row W b 2 _ _ _ h.row).trans rfl
theorem BoxC.c3 (h : BoxC W b A n c first count size PA pn pc) : W.cell? ⟨b, 3, none⟩ = some (.int .i64 size) := (cell_of_row W b 3 _ _ _ h.row).trans rfl
theorem BoxC.c4 (h : BoxC W b A n c first count size PA pn pc) : W.cell? ⟨b, 4, none⟩ = some (.slice PA pn pc) := (cell_of_row W b 4 _ _ _ h.row).trans rfl
end
set_option maxRecDepth 100000 in
set_option maxHeartbeats 2000000 in
theorem sound_head (lo hi : Int) (R : List Rn) (A : Option Addr) (n c : Nat) (first count size : Int) (PA : Option Addr) (pn pc : Nat) (w : World) (_hn : R.length = n) (hh : ¬ Head lo hi n first count size) :
    Calls Tryd.prog 62 #[.int .i64 lo, .int .i64 hi, claimV A n c first count size PA pn pc] w fun e w' => e = .returned (.bool false) ∧ Below w.heap.size w w' := by
  have HH := Lib.hid hh
  clear hh
  by_cases c0 : lo < 0
  · clear HH
    go_enter Tryd.func62, Tryd.ntmps62
    go_wp2_with (fail)
    go_ret
    exact ⟨rfl, Below.new1 w _⟩
  by_cases c1 : hi ≤ lo
  · clear HH
    go_enter Tryd.func62, Tryd.ntmps62
    go_wp2_with (fail)
    go_ret
    exact ⟨rfl, Below.new1 w _⟩
  by_cases c2 : size < hi
  · clear HH
    go_enter Tryd.func62, Tryd.ntmps62
    go_wp2_with (fail)
    go_ret
    exact ⟨rfl, Below.new1 w _⟩
  by_cases c3 : 1099511627776 < size
  · clear HH
    go_enter Tryd.func62, Tryd.ntmps62
    go_wp2_with (fail)
    go_ret
    exact ⟨rfl, Below.new1 w _⟩
  by_cases c4 : (n : Int) = 0
  · obtain rfl : n = 0 := by omega
    clear HH c4
    go_enter Tryd.func62, Tryd.ntmps62
    go_wp2_with (fail)
    go_ret
    exact ⟨rfl, Below.new1 w _⟩
  have n0 : ((n : Int) == 0) = false := by simp; omega
  have n1 : 0 < (n : Int) := by omega
  by_cases c5 : count < n
  · clear HH
    go_enter Tryd.func62, Tryd.ntmps62
    go_wp2_with (fail)
    go_ret
    exact ⟨rfl, Below.new1 w _⟩
  by_cases c6 : 4096 < count
  · clear HH
    go_enter Tryd.func62, Tryd.ntmps62
    go_wp2_with (fail)
    go_ret
    exact ⟨rfl, Below.new1 w _⟩
  by_cases c7 : first < 0
  · clear HH
    go_enter Tryd.func62, Tryd.ntmps62
    go_wp2_with (fail)
    go_ret
    exact ⟨rfl, Below.new1 w _⟩
  by_cases c8 : count - n < first
  · clear HH
    go_enter Tryd.func62, Tryd.ntmps62
    go_wp2_with (fail)
    go_ret
    exact ⟨rfl, Below.new1 w _⟩
  exact (HH.out ⟨by omega, by omega, by omega, by omega, by omega, by omega, by omega, by omega, by omega⟩).elim
/-- What holds after the head. -/
theorem two_runs (w : World) (x y z x' y' z' : Int) :
    BoxRun ((w.alloc (.cells #[.int .i64 x, .int .i64 y, .int .i64 z] 34)).alloc (.cells #[.int .i64 x', .int .i64 y', .int .i64 z'] 34)).drew w.heap.size x y z ∧
    BoxRun ((w.alloc (.cells #[.int .i64 x, .int .i64 y, .int .i64 z] 34)).alloc (.cells #[.int .i64 x', .int .i64 y', .int .i64 z'] 34)).drew (w.heap.size + 1) x' y' z' ∧
    Below w.heap.size w ((w.alloc (.cells #[.int .i64 x, .int .i64 y, .int .i64 z] 34)).alloc (.cells #[.int .i64 x', .int .i64 y', .int .i64 z'] 34)).drew := by
  have h1 := (BoxRun.new w x y z).next (Below.new1 _ (.cells #[.int .i64 x', .int .i64 y', .int .i64 z'] 34))
  have h2 := BoxRun.new (w.alloc (.cells #[.int .i64 x, .int .i64 y, .int .i64 z] 34)) x' y' z'
  rw [World.size_alloc] at h2
  exact ⟨h1, h2, (Below.on (Below.new1 _ _) (Below.new1 _ _)).drew⟩
theorem below_alloc' {w W : World} (h : Below w.heap.size w W) (o : Obj) : Below w.heap.size w (W.alloc o) := Below.on h (Below.new1 _ _)
theorem below_set' {w W : World} (h : Below w.heap.size w W) {p : Addr} (hp : w.heap.size ≤ p.block) (v : Value) : Below w.heap.size w (W.setCell p v) := h.setCell hp v
theorem Chain.succ {R : List Rn} {k : Nat} (h : Chain R k) (hk : k < R.length) (ho : OkR (prevR R k) R[k]) : Chain R (k + 1) := fun i hi hik => by
  by_cases e : i = k
  · subst e; exact ho
  · exact h i hi (by omega)
set_option maxRecDepth 100000 in
set_option maxHeartbeats 4000000 in
theorem sound_scan (lo hi : Int) (R : List Rn) (a : Addr) (n c : Nat) (first count size : Int) (PA : Option Addr) (pn pc : Nat) (w : World) (hn : R.length = n) (hh : Head lo hi n first count size) (hR : Runs w (some a) R) (hc : n ≤ c) :
    Calls Tryd.prog 62 #[.int .i64 lo, .int .i64 hi, claimV (some a) n c first count size PA pn pc] w fun e w' => e = .returned (.bool (soundB lo hi R first count size)) ∧ Below w.heap.size w w' := by
  obtain ⟨h0, h1, h2, h3, h4, h5, h6, h7, h8⟩ := hh
  obtain ⟨B, hB⟩ : ∃ B, soundB lo hi R first count size = B := ⟨_, rfl⟩
  rw [hB]
  have HB := Lib.hid hB
  have HN := Lib.hid hn
  have HHD := Lib.hid (show Head lo hi R.length first count size by rw [hn]; exact ⟨h0, h1, h2, h3, h4, h5, h6, h7, h8⟩)
  have n0 : ((n : Int) == 0) = false := by simp; omega
  have n1 : 0 < (n : Int) := by omega
  clear hB hn h4
  go_enter Tryd.func62, Tryd.ntmps62
  go_wp2_with (fail)
  generalize hW0 : World.alloc w _ = w0
  have B0 : Below w.heap.size w w0 := hW0 ▸ Below.new1 _ _
  have x5 : BoxC w0 w.heap.size (some a) n c first count size PA pn pc := hW0 ▸ BoxC.new w _ _ _ _ _ _ _ _ _
  clear hW0
  go_loopw [8, 9, 65] (fun _ _ i W => ∃ k : Nat, k ≤ n ∧ i = .int .i64 k ∧ Chain R k ∧ Below w.heap.size w W ∧ BoxC W w.heap.size (some a) n c first count size PA pn pc) (fun _ _ i _ => n - (intOf i).toNat)
  case atStart => exact ⟨0, Nat.zero_le _, rfl, fun _ _ h => absurd h (Nat.not_lt_zero _), B0, x5⟩
  case round =>
    obtain ⟨k, hkn, rfl, hC, hBw, y5⟩ := hrel
    clear x5 B0 w0
    by_cases hlt : k < n
    · have hkL : k < R.length := by have := HN.out; omega
      obtain ⟨hab, g0, g1, g2⟩ := (hR.below hBw).at_ hkL
      have k0 : (0 : Int) ≤ (k : Int) := by omega
      have k1 : (k : Int) < (n : Int) := by omega
      have hok : Hid (¬ OkR (prevR R k) R[k] → B = false) := Lib.hid fun hno => by
        rw [← HB.out]; exact soundB_no fun hs => hno (hs.2.1 k hkL hkL)
      have hnx : Hid (OkR (prevR R k) R[k] → Chain R (k + 1)) := Lib.hid fun ho => hC.succ hkL ho
      have hyp : Hid (∀ Y, prevR R k = some Y → 0 < k ∧ RunAt wr (a.add ((k - 1) * 3)) Y) := Lib.hid fun Y hY => by
        unfold prevR at hY
        split at hY
        · cases hY
        · have hk1 : k - 1 < R.length := by omega
          rw [List.getElem?_eq_getElem hk1] at hY
          cases hY
          exact ⟨by omega, ((hR.below hBw).at_ hk1).2⟩
      have hnp : Hid (prevR R k = none → k = 0) := Lib.hid fun hY => by
        unfold prevR at hY
        split at hY
        · assumption
        · rw [List.getElem?_eq_getElem (by omega)] at hY; cases hY
      generalize hpv : prevR R k = pv at *
      generalize R[k] = X at *
      have HC := Lib.hid hC
      have d0 := y5.c0
      clear hC hpv
      go_upto_region 7 with (fail)
      obtain ⟨W1, hW1⟩ : ∃ W1, World.alloc wr (Obj.cells #[.int .i64 X.lo, .int .i64 X.hi, .int .i64 X.tag] 34) = W1 := ⟨_, rfl⟩
      have b1 : Below wr.heap.size wr W1 := hW1 ▸ Below.new1 _ _
      have z9 : BoxRun W1 wr.heap.size X.lo X.hi X.tag := hW1 ▸ BoxRun.new wr _ _ _
      change Code.wp _ _ _ _ (World.alloc wr (Obj.cells #[.int .i64 X.lo, .int .i64 X.hi, .int .i64 X.tag] 34))
      rw [hW1]
      clear hW1 g0 g1 g2 d0
      have z5 := y5.next b1
      have zB := Below.on hBw b1
      have e0 := z9.c0
      have e1 := z9.c1
      have e2 := z9.c2
      have d0 := z5.c0
      by_cases c1 : X.hi ≤ X.lo
      · have t1 : decide (X.hi ≤ X.lo) = true := by simpa using c1
        go_quiet (fail)
        obtain rfl : B = false := hok.out (fun ho => absurd ho.1 (by omega))
        go_wp2_with (fail)
        go_ret
        exact ⟨rfl, Below.on zB (Below.drawn W1 _ _)⟩
      have t1 : decide (X.hi ≤ X.lo) = false := by simpa using c1
      by_cases c2 : X.tag < 0
      · have t2 : decide (X.tag < 0) = true := by simpa using c2
        go_quiet (fail)
        obtain rfl : B = false := hok.out (fun ho => absurd ho.2.1 (by omega))
        go_wp2_with (fail)
        go_ret
        exact ⟨rfl, Below.on zB (Below.drawn W1 _ _)⟩
      have t2 : decide (X.tag < 0) = false := by simpa using c2
      by_cases c3 : 16 ≤ X.tag
      · have t3 : decide (16 ≤ X.tag) = true := by simpa using c3
        go_quiet (fail)
        obtain rfl : B = false := hok.out (fun ho => absurd ho.2.2.1 (by omega))
        go_wp2_with (fail)
        go_ret
        exact ⟨rfl, Below.on zB (Below.drawn W1 _ _)⟩
      have t3 : decide (16 ≤ X.tag) = false := by simpa using c3
      cases hpv : pv with
      | none =>
        obtain rfl := hnp.out hpv
        go_quiet (fail)
        go_wp2_with (fail)
        exact ⟨⟨0 + 1, by omega, by go_num, hnx.out ⟨by omega, by omega, by omega, fun y hy => by rw [hpv] at hy; cases hy⟩, Below.on zB (Below.drawn W1 _ _), z5.next (Below.drawn W1 _ _)⟩, by simp [intOf]; omega⟩
      | some Y =>
        obtain ⟨hk0, q0, q1, q2⟩ := hyp.out Y hpv
        replace q0 := cell_kept b1 q0
        replace q1 := cell_kept b1 q1
        replace q2 := cell_kept b1 q2
        have HPV := Lib.hid hpv
        have kp : decide (0 < (k : Int)) = true := by simp; omega
        have kp' : 0 < (k : Int) := by omega
        have mk : IntKind.i64.wrap ((k : Int) - 1) = ((k - 1 : Nat) : Int) := by rw [IntWalk.i64_in _ (by omega)]; omega
        have mk0 : 0 ≤ ((k - 1 : Nat) : Int) := by omega
        have mk1 : ((k - 1 : Nat) : Int) < n := by omega
        clear hpv
        obtain ⟨j, hj⟩ : ∃ j, k - 1 = j := ⟨_, rfl⟩
        rw [hj] at mk mk0 mk1 q0 q1 q2
        have HJ := Lib.hid hj
        clear hj
        by_cases c4 : X.lo = Y.hi
        · have t4 : (X.lo != Y.hi) = false := by simpa using c4
          have C4 := Lib.hid c4
          clear c4
          by_cases c5 : X.tag = Y.tag
          · have t5 : (X.tag == Y.tag) = true := by simpa using c5
            have C5 := Lib.hid c5
            clear c5
            go_quiet (fail)
            obtain rfl : B = false := hok.out (fun ho => absurd C5.out (ho.2.2.2 Y HPV.out).2)
            go_wp2_with (fail)
            go_ret
            exact ⟨rfl, Below.on zB (Below.drawn W1 _ _)⟩
          · have t5 : (X.tag == Y.tag) = false := by simpa using c5
            have C5 := Lib.hid c5
            clear c5
            go_quiet (fail)
            go_wp2_with (fail)
            exact ⟨⟨k + 1, by omega, by go_num, hnx.out ⟨by omega, by omega, by omega, fun y hy => by rw [HPV.out] at hy; cases hy; exact ⟨C4.out, C5.out⟩⟩, Below.on zB (Below.drawn W1 _ _), z5.next (Below.drawn W1 _ _)⟩, by simp [intOf]; omega⟩
        · have t4 : (X.lo != Y.hi) = true := by simpa using c4
          have C4 := Lib.hid c4
          clear c4
          go_quiet (fail)
          obtain rfl : B = false := hok.out (fun ho => absurd (ho.2.2.2 Y HPV.out).1 C4.out)
          go_wp2_with (fail)
          go_ret
          exact ⟨rfl, Below.on zB (Below.drawn W1 _ _)⟩
    · obtain rfl : k = n := by omega
      have hL0 : 0 < R.length := by have := HN.out; omega
      have hne : R ≠ [] := by rintro rfl; simp at hL0
      have hF : R[0] = R.head hne := by rw [List.head_eq_getElem]
      have hZ : R[k - 1]'(by have := HN.out; omega) = R.getLast hne := by rw [List.getLast_eq_getElem]; simp [HN.out]
      obtain ⟨hab, f0, f1, f2⟩ := (hR.below hBw).at_ hL0
      obtain ⟨_, l0, l1, l2⟩ := (hR.below hBw).at_ (show k - 1 < R.length by have := HN.out; omega)
      rw [hF] at f0 f1 f2
      rw [hZ] at l0 l1 l2
      have hS : Hid (Ends lo hi (R.head hne) (R.getLast hne) k first count size → B = true) := Lib.hid fun he => by
        rw [← HB.out]; exact soundB_yes ⟨HHD.out, by rw [HN.out]; exact hC, fun _ => by rw [HN.out]; exact he⟩
      have hS' : Hid (¬ Ends lo hi (R.head hne) (R.getLast hne) k first count size → B = false) := Lib.hid fun he => by
        rw [← HB.out]; exact soundB_no fun hs => he (by have := hs.2.2 hne; rwa [HN.out] at this)
      have f0' : wr.cell? (a.add (0 * 3)) = some (.int .i64 (R.head hne).lo) := f0
      rw [show a.add (0 * 3) = a from by simp [Addr.add]] at f0 f1 f2
      have lz : R.getLast hne = R.getLast hne := rfl
      generalize R.head hne = F at *
      generalize R.getLast hne = Z at *
      have mk : IntKind.i64.wrap ((k : Int) - 1) = ((k - 1 : Nat) : Int) := by rw [IntWalk.i64_in _ (by omega)]; omega
      have mk0 : 0 ≤ ((k - 1 : Nat) : Int) := by omega
      have mk1 : ((k - 1 : Nat) : Int) < k := by omega
      obtain ⟨j, hj⟩ : ∃ j, k - 1 = j := ⟨_, rfl⟩
      rw [hj] at mk mk0 mk1 l0 l1 l2
      have HJ := Lib.hid hj
      have d0 := y5.c0
      have HC := Lib.hid hC
      clear hj f0' lz hF hZ hC
      go_upto_region 10 with (fail)
      have MK := Lib.hid mk
      go_cut [10, 11] from 114 to 123 (fun u v W => ∃ i j, u = .pointer (some ⟨i, 0, none⟩) ∧ v = .pointer (some ⟨j, 0, none⟩) ∧ BoxRun W i F.lo F.hi F.tag ∧ BoxRun W j Z.lo Z.hi Z.tag ∧ Below wr.heap.size wr W)
      case first =>
        have kp : 0 < k := by omega
        have jk : j < k := by omega
        have KS : Hid (∀ W, Below wr.heap.size wr W → W.cell? ⟨w.heap.size, 0, none⟩ = some (.slice (some a) k c) ∧ W.cell? a = some (.int .i64 F.lo) ∧ W.cell? ⟨a.block, a.off + 1, none⟩ = some (.int .i64 F.hi) ∧ W.cell? ⟨a.block, a.off + 2, none⟩ = some (.int .i64 F.tag) ∧
            W.cell? (a.add (j * 3)) = some (.int .i64 Z.lo) ∧ W.cell? ⟨(a.add (j * 3)).block, (a.add (j * 3)).off + 1, none⟩ = some (.int .i64 Z.hi) ∧ W.cell? ⟨(a.add (j * 3)).block, (a.add (j * 3)).off + 2, none⟩ = some (.int .i64 Z.tag)) :=
          Lib.hid fun W h => ⟨cell_kept h d0, cell_kept h f0, cell_kept h f1, cell_kept h f2, cell_kept h l0, cell_kept h l1, cell_kept h l2⟩
        go_region_held3 (fun W => W.cell? ⟨w.heap.size, 0, none⟩ = some (.slice (some a) k c) ∧ W.cell? a = some (.int .i64 F.lo) ∧ W.cell? ⟨a.block, a.off + 1, none⟩ = some (.int .i64 F.hi) ∧ W.cell? ⟨a.block, a.off + 2, none⟩ = some (.int .i64 F.tag) ∧
            W.cell? (a.add (j * 3)) = some (.int .i64 Z.lo) ∧ W.cell? ⟨(a.add (j * 3)).block, (a.add (j * 3)).off + 1, none⟩ = some (.int .i64 Z.hi) ∧ W.cell? ⟨(a.add (j * 3)).block, (a.add (j * 3)).off + 2, none⟩ = some (.int .i64 Z.tag))
          ((refine KS.out _ ?_; repeat' (first | with_reducible exact Below.refl _ _ | refine Below.drew ?_ | refine below_alloc' ?_ _ | refine below_set' ?_ (by first | exact Nat.le_refl _ | exact Nat.le_succ _) _))) (fail)
        all_goals
          go_wp2_with (fail)
          go_meet
          first
            | exact ⟨_, _, rfl, rfl, (two_runs wr F.lo F.hi F.tag Z.lo Z.hi Z.tag).1, (two_runs wr F.lo F.hi F.tag Z.lo Z.hi Z.tag).2.1, (two_runs wr F.lo F.hi F.tag Z.lo Z.hi Z.tag).2.2⟩
            | exact ⟨_, _, rfl, rfl, (two_runs wr Z.lo Z.hi Z.tag F.lo F.hi F.tag).2.1, (two_runs wr Z.lo Z.hi Z.tag F.lo F.hi F.tag).1, (two_runs wr Z.lo Z.hi Z.tag F.lo F.hi F.tag).2.2⟩
      case rest =>
        obtain ⟨i, j', rfl, rfl, zF, zZ, bc⟩ := hcut
        clear mk mk0 mk1 l0 l1 l2 f0 f1 f2 d0
        have zB := Below.on hBw bc
        have z5 := y5.next bc
        have g1 := z5.c1
        have g2 := z5.c2
        have g3 := z5.c3
        have p0 := zF.c0
        have p1 := zF.c1
        have q0 := zZ.c0
        have q1 := zZ.c1
        clear zF zZ bc z5 y5 hBw hab
        by_cases r0 : F.lo < 0
        · obtain rfl : B = false := hS'.out (fun he => absurd he.1.1 (by omega))
          go_wp2_with (fail)
          go_ret
          exact ⟨rfl, zB⟩
        by_cases r1 : lo < F.lo
        · obtain rfl : B = false := hS'.out (fun he => absurd he.1.2.1 (by omega))
          go_wp2_with (fail)
          go_ret
          exact ⟨rfl, zB⟩
        by_cases r2 : F.hi ≤ lo
        · obtain rfl : B = false := hS'.out (fun he => absurd he.1.2.2.1 (by omega))
          go_wp2_with (fail)
          go_ret
          exact ⟨rfl, zB⟩
        by_cases r3 : size < Z.hi
        · obtain rfl : B = false := hS'.out (fun he => absurd he.1.2.2.2.1 (by omega))
          go_wp2_with (fail)
          go_ret
          exact ⟨rfl, zB⟩
        by_cases r4 : Z.hi < hi
        · obtain rfl : B = false := hS'.out (fun he => absurd he.1.2.2.2.2.1 (by omega))
          go_wp2_with (fail)
          go_ret
          exact ⟨rfl, zB⟩
        by_cases r5 : hi ≤ Z.lo
        · obtain rfl : B = false := hS'.out (fun he => absurd he.1.2.2.2.2.2 (by omega))
          go_wp2_with (fail)
          go_ret
          exact ⟨rfl, zB⟩
        have m0 : first + (k : Int) ≤ 8192 := by omega
        by_cases s0 : F.lo = 0 <;> by_cases s1 : first = 0 <;> by_cases s2 : Z.hi = size <;> by_cases s3 : first + (k : Int) = count
        · have t0 : (F.lo == 0) = true := by simpa using s0
          have t1 : (first == 0) = true := by simpa using s1
          have t2 : (Z.hi == size) = true := by simpa using s2
          have t3 : (first + (k : Int) == count) = true := by simpa using s3
          have S := Lib.hid (And.intro s0 (And.intro s1 (And.intro s2 s3)))
          clear s0 s1 s2 s3
          obtain rfl : B = true := hS.out ⟨⟨by omega, by omega, by omega, by omega, by omega, by omega⟩, iff_of_true S.out.1 S.out.2.1, iff_of_true S.out.2.2.1 S.out.2.2.2⟩
          go_wp2_with (fail)
          go_ret
          exact ⟨rfl, zB⟩
        · have t0 : (F.lo == 0) = true := by simpa using s0
          have t1 : (first == 0) = true := by simpa using s1
          have t2 : (Z.hi == size) = true := by simpa using s2
          have t3 : (first + (k : Int) == count) = false := by simpa using s3
          have S := Lib.hid (And.intro s0 (And.intro s1 (And.intro s2 s3)))
          clear s0 s1 s2 s3
          obtain rfl : B = false := hS'.out (fun he => S.out.2.2.2 (he.2.2.1 S.out.2.2.1))
          go_wp2_with (fail)
          go_ret
          exact ⟨rfl, zB⟩
        · have t0 : (F.lo == 0) = true := by simpa using s0
          have t1 : (first == 0) = true := by simpa using s1
          have t2 : (Z.hi == size) = false := by simpa using s2
          have t3 : (first + (k : Int) == count) = true := by simpa using s3
          have S := Lib.hid (And.intro s0 (And.intro s1 (And.intro s2 s3)))
          clear s0 s1 s2 s3
          obtain rfl : B = false := hS'.out (fun he => S.out.2.2.1 (he.2.2.2 S.out.2.2.2))
          go_wp2_with (fail)
          go_ret
          exact ⟨rfl, zB⟩
        · have t0 : (F.lo == 0) = true := by simpa using s0
          have t1 : (first == 0) = true := by simpa using s1
          have t2 : (Z.hi == size) = false := by simpa using s2
          have t3 : (first + (k : Int) == count) = false := by simpa using s3
          have S := Lib.hid (And.intro s0 (And.intro s1 (And.intro s2 s3)))
          clear s0 s1 s2 s3
          obtain rfl : B = true := hS.out ⟨⟨by omega, by omega, by omega, by omega, by omega, by omega⟩, iff_of_true S.out.1 S.out.2.1, iff_of_false S.out.2.2.1 S.out.2.2.2⟩
          go_wp2_with (fail)
          go_ret
          exact ⟨rfl, zB⟩
        · have t0 : (F.lo == 0) = true := by simpa using s0
          have t1 : (first == 0) = false := by simpa using s1
          have t2 : (Z.hi == size) = true := by simpa using s2
          have t3 : (first + (k : Int) == count) = true := by simpa using s3
          have S := Lib.hid (And.intro s0 (And.intro s1 (And.intro s2 s3)))
          clear s0 s1 s2 s3
          obtain rfl : B = false := hS'.out (fun he => S.out.2.1 (he.2.1.1 S.out.1))
          go_wp2_with (fail)
          go_ret
          exact ⟨rfl, zB⟩
        · have t0 : (F.lo == 0) = true := by simpa using s0
          have t1 : (first == 0) = false := by simpa using s1
          have t2 : (Z.hi == size) = true := by simpa using s2
          have t3 : (first + (k : Int) == count) = false := by simpa using s3
          have S := Lib.hid (And.intro s0 (And.intro s1 (And.intro s2 s3)))
          clear s0 s1 s2 s3
          obtain rfl : B = false := hS'.out (fun he => S.out.2.1 (he.2.1.1 S.out.1))
          go_wp2_with (fail)
          go_ret
          exact ⟨rfl, zB⟩
        · have t0 : (F.lo == 0) = true := by simpa using s0
          have t1 : (first == 0) = false := by simpa using s1
          have t2 : (Z.hi == size) = false := by simpa using s2
          have t3 : (first + (k : Int) == count) = true := by simpa using s3
          have S := Lib.hid (And.intro s0 (And.intro s1 (And.intro s2 s3)))
          clear s0 s1 s2 s3
          obtain rfl : B = false := hS'.out (fun he => S.out.2.1 (he.2.1.1 S.out.1))
          go_wp2_with (fail)
          go_ret
          exact ⟨rfl, zB⟩
        · have t0 : (F.lo == 0) = true := by simpa using s0
          have t1 : (first == 0) = false := by simpa using s1
          have t2 : (Z.hi == size) = false := by simpa using s2
          have t3 : (first + (k : Int) == count) = false := by simpa using s3
          have S := Lib.hid (And.intro s0 (And.intro s1 (And.intro s2 s3)))
          clear s0 s1 s2 s3
          obtain rfl : B = false := hS'.out (fun he => S.out.2.1 (he.2.1.1 S.out.1))
          go_wp2_with (fail)
          go_ret
          exact ⟨rfl, zB⟩
        · have t0 : (F.lo == 0) = false := by simpa using s0
          have t1 : (first == 0) = true := by simpa using s1
          have t2 : (Z.hi == size) = true := by simpa using s2
          have t3 : (first + (k : Int) == count) = true := by simpa using s3
          have S := Lib.hid (And.intro s0 (And.intro s1 (And.intro s2 s3)))
          clear s0 s1 s2 s3
          obtain rfl : B = false := hS'.out (fun he => S.out.1 (he.2.1.2 S.out.2.1))
          go_wp2_with (fail)
          go_ret
          exact ⟨rfl, zB⟩
        · have t0 : (F.lo == 0) = false := by simpa using s0
          have t1 : (first == 0) = true := by simpa using s1
          have t2 : (Z.hi == size) = true := by simpa using s2
          have t3 : (first + (k : Int) == count) = false := by simpa using s3
          have S := Lib.hid (And.intro s0 (And.intro s1 (And.intro s2 s3)))
          clear s0 s1 s2 s3
          obtain rfl : B = false := hS'.out (fun he => S.out.1 (he.2.1.2 S.out.2.1))
          go_wp2_with (fail)
          go_ret
          exact ⟨rfl, zB⟩
        · have t0 : (F.lo == 0) = false := by simpa using s0
          have t1 : (first == 0) = true := by simpa using s1
          have t2 : (Z.hi == size) = false := by simpa using s2
          have t3 : (first + (k : Int) == count) = true := by simpa using s3
          have S := Lib.hid (And.intro s0 (And.intro s1 (And.intro s2 s3)))
          clear s0 s1 s2 s3
          obtain rfl : B = false := hS'.out (fun he => S.out.1 (he.2.1.2 S.out.2.1))
          go_wp2_with (fail)
          go_ret
          exact ⟨rfl, zB⟩
        · have t0 : (F.lo == 0) = false := by simpa using s0
          have t1 : (first == 0) = true := by simpa using s1
          have t2 : (Z.hi == size) = false := by simpa using s2
          have t3 : (first + (k : Int) == count) = false := by simpa using s3
          have S := Lib.hid (And.intro s0 (And.intro s1 (And.intro s2 s3)))
          clear s0 s1 s2 s3
          obtain rfl : B = false := hS'.out (fun he => S.out.1 (he.2.1.2 S.out.2.1))
          go_wp2_with (fail)
          go_ret
          exact ⟨rfl, zB⟩
        · have t0 : (F.lo == 0) = false := by simpa using s0
          have t1 : (first == 0) = false := by simpa using s1
          have t2 : (Z.hi == size) = true := by simpa using s2
          have t3 : (first + (k : Int) == count) = true := by simpa using s3
          have S := Lib.hid (And.intro s0 (And.intro s1 (And.intro s2 s3)))
          clear s0 s1 s2 s3
          obtain rfl : B = true := hS.out ⟨⟨by omega, by omega, by omega, by omega, by omega, by omega⟩, iff_of_false S.out.1 S.out.2.1, iff_of_true S.out.2.2.1 S.out.2.2.2⟩
          go_wp2_with (fail)
          go_ret
          exact ⟨rfl, zB⟩
        · have t0 : (F.lo == 0) = false := by simpa using s0
          have t1 : (first == 0) = false := by simpa using s1
          have t2 : (Z.hi == size) = true := by simpa using s2
          have t3 : (first + (k : Int) == count) = false := by simpa using s3
          have S := Lib.hid (And.intro s0 (And.intro s1 (And.intro s2 s3)))
          clear s0 s1 s2 s3
          obtain rfl : B = false := hS'.out (fun he => S.out.2.2.2 (he.2.2.1 S.out.2.2.1))
          go_wp2_with (fail)
          go_ret
          exact ⟨rfl, zB⟩
        · have t0 : (F.lo == 0) = false := by simpa using s0
          have t1 : (first == 0) = false := by simpa using s1
          have t2 : (Z.hi == size) = false := by simpa using s2
          have t3 : (first + (k : Int) == count) = true := by simpa using s3
          have S := Lib.hid (And.intro s0 (And.intro s1 (And.intro s2 s3)))
          clear s0 s1 s2 s3
          obtain rfl : B = false := hS'.out (fun he => S.out.2.2.1 (he.2.2.2 S.out.2.2.2))
          go_wp2_with (fail)
          go_ret
          exact ⟨rfl, zB⟩
        · have t0 : (F.lo == 0) = false := by simpa using s0
          have t1 : (first == 0) = false := by simpa using s1
          have t2 : (Z.hi == size) = false := by simpa using s2
          have t3 : (first + (k : Int) == count) = false := by simpa using s3
          have S := Lib.hid (And.intro s0 (And.intro s1 (And.intro s2 s3)))
          clear s0 s1 s2 s3
          obtain rfl : B = true := hS.out ⟨⟨by omega, by omega, by omega, by omega, by omega, by omega⟩, iff_of_false S.out.1 S.out.2.1, iff_of_false S.out.2.2.1 S.out.2.2.2⟩
          go_wp2_with (fail)
          go_ret
          exact ⟨rfl, zB⟩
theorem sound_any (lo hi : Int) (R : List Rn) (A : Option Addr) (n c : Nat) (first count size : Int) (PA : Option Addr) (pn pc : Nat) (w : World) (hn : R.length = n) (hR : Runs w A R) (hc : n ≤ c) :
    Calls Tryd.prog 62 #[.int .i64 lo, .int .i64 hi, claimV A n c first count size PA pn pc] w fun e w' => e = .returned (.bool (soundB lo hi R first count size)) ∧ Below w.heap.size w w' := by
  by_cases hh : Head lo hi n first count size
  · obtain ⟨a, rfl⟩ : ∃ a, A = some a := by
      rcases hR with e | ⟨a, e, _⟩
      · subst e; exact absurd hn.symm hh.2.2.2.2.1
      · exact ⟨a, e⟩
    exact sound_scan lo hi R a n c first count size PA pn pc w hn hh hR hc
  · rw [soundB_no (fun h => hh (by have := h.1; rwa [hn] at this))]
    exact sound_head lo hi R A n c first count size PA pn pc w hn hh
end Go.Proofs.YtcocengpekndjaaDoor
