/- The walk over SpanDisjoint. -/
import Derived.Test.YtfmplibjhohpgaaSpMergeP
import Derived.Test.YtfmplibjhohpgaaSpReg
import Derived.Test.YtfmplibjhohpgaaSpMerge
import Derived.Test.YtfmplibjhohpgaaSpBuilt
import Derived.Test.YtfmplibjhohpgaaSpPieces
import Derived.Deep.DeepCutAuto
import Derived.Deep.CutRange
namespace Go.Proofs.Ytfmplibjhohpgaa
open Go.RowKit Go.Shelf
attribute [local go_sem] Oper.semAt_some

/-- A value is a map. -/
def MapV (w : World) (v : Value) (L : List (Int × Int)) : Prop := ∃ p, v = .agg #[.pointer p] ∧ Rep w p L
/-- A value is a slice of one update. -/
def OneA (w : World) (v : Value) (x : Ac) : Prop := ∃ g, v = .slice (some ⟨g, 0, none⟩) 1 1 ∧ BoxA w g x
/-- A value is the address of a variable for a map. -/
def BoxV (w : World) (n0 : Nat) (v : Value) : Prop := ∃ i u, v = .pointer (some ⟨i, 0, none⟩) ∧ n0 ≤ i ∧ Boxed w i 26 u
/-- A value is the address of a variable with a map. -/
def BoxIs (w : World) (n0 : Nat) (v : Value) (L : List (Int × Int)) : Prop := ∃ i p, v = .pointer (some ⟨i, 0, none⟩) ∧ n0 ≤ i ∧ Boxed w i 26 (.pointer p) ∧ Rep w p L
section
variable {w w' : World} {v : Value} {L : List (Int × Int)} {x : Ac} {n0 : Nat}
theorem MapV.below (h : MapV w v L) (b : Below w.heap.size w w') : MapV w' v L := by obtain ⟨p, e, h⟩ := h; exact ⟨p, e, h.below b⟩
theorem OneA.below (h : OneA w v x) (b : Below w.heap.size w w') : OneA w' v x := by obtain ⟨p, e, h⟩ := h; exact ⟨p, e, h.next b⟩
theorem BoxV.below (h : BoxV w n0 v) (b : Below w.heap.size w w') : BoxV w' n0 v := by obtain ⟨i, u, e, n, h⟩ := h; exact ⟨i, u, e, n, bx_next h b⟩
theorem BoxIs.below (h : BoxIs w n0 v L) (b : Below w.heap.size w w') : BoxIs w' n0 v L := by obtain ⟨i, u, e, n, h, r⟩ := h; exact ⟨i, u, e, n, bx_next h b, r.below b⟩
variable {i : Nat} {u : Value} (hb : Boxed w i 26 u) (z : Value)
include hb
theorem MapV.put (h : MapV w v L) : MapV (w.setCell ⟨i, 0, none⟩ z) v L := by obtain ⟨p, e, h⟩ := h; exact ⟨p, e, h.set_ ⟨_, _, _, hb, by decide⟩ _ _ _⟩
theorem OneA.put (h : OneA w v x) : OneA (w.setCell ⟨i, 0, none⟩ z) v x := by
  obtain ⟨p, e, h⟩ := h
  refine ⟨p, e, h.far (fun e => ?_) _⟩
  subst e
  have h1 : w.heap[p]? = _ := hb
  have h2 : w.heap[p]? = _ := h
  rw [h1] at h2
  simp at h2
theorem BoxV.put (h : BoxV w n0 v) : BoxV (w.setCell ⟨i, 0, none⟩ z) n0 v := by
  obtain ⟨j, y, e, n, h⟩ := h
  by_cases c : j = i
  · subst c; exact ⟨j, _, e, n, hb.set z⟩
  · exact ⟨j, y, e, n, boxed_far h c⟩
theorem BoxIs.put (h : BoxIs w n0 v L) (hne : v ≠ .pointer (some ⟨i, 0, none⟩)) : BoxIs (w.setCell ⟨i, 0, none⟩ z) n0 v L := by
  obtain ⟨j, y, e, n, h, r⟩ := h
  refine ⟨j, y, e, n, boxed_far h (fun c => ?_), r.set_ ⟨_, _, _, hb, by decide⟩ _ _ _⟩
  subst c; exact hne e
end
/-- What two calls of more in one statement have come to. -/
structure DJ (n0 : Nat) (m1 m2 : Option Addr) (x1 x2 : Ac) (L1 L2 : List (Int × Int)) (d : Nat → Prop) (u1 u2 v0 v1 v2 v3 v4 v5 v6 v7 : Value) (w : World) : Prop where
  k0 : d 0 → v0 = .agg #[.pointer m1]
  k1 : d 1 → v1 = .agg #[.bool x1.swap, .int .i64 x1.lo, .int .i64 x1.hi, .int .i64 x1.frm, .int .i64 x1.to]
  k2 : d 2 → OneA w v2 x1
  k3 : d 3 → MapV w v3 L1
  k4 : d 4 → v4 = .agg #[.pointer m2]
  k5 : d 5 → v5 = .agg #[.bool x2.swap, .int .i64 x2.lo, .int .i64 x2.hi, .int .i64 x2.frm, .int .i64 x2.to]
  k6 : d 6 → OneA w v6 x2
  k7 : d 7 → MapV w v7 L2
  k8 : d 8 → BoxV w n0 u1
  k9 : d 9 → BoxV w n0 u2
  kx : d 8 → d 9 → u1 ≠ u2
  k10 : d 8 → d 10 → BoxIs w n0 u1 L1
  k11 : d 9 → d 11 → BoxIs w n0 u2 L2
section
variable {n0 : Nat} {m1 m2 : Option Addr} {x1 x2 : Ac} {L1 L2 : List (Int × Int)} {d : Nat → Prop} {u1 u2 v0 v1 v2 v3 v4 v5 v6 v7 : Value} {w : World}
theorem DJ.start (e : d = fun _ => False) : DJ n0 m1 m2 x1 x2 L1 L2 d u1 u2 v0 v1 v2 v3 v4 v5 v6 v7 w := by
  subst e; exact ⟨fun h => h.elim, fun h => h.elim, fun h => h.elim, fun h => h.elim, fun h => h.elim, fun h => h.elim, fun h => h.elim, fun h => h.elim, fun h => h.elim, fun h => h.elim, fun h => h.elim, fun h => h.elim, fun h => h.elim⟩
theorem DJ.next (h : DJ n0 m1 m2 x1 x2 L1 L2 d u1 u2 v0 v1 v2 v3 v4 v5 v6 v7 w) {d' : Nat → Prop} (hd : ∀ j, d' j → d j) {w' : World} (b : Below w.heap.size w w') : DJ n0 m1 m2 x1 x2 L1 L2 d' u1 u2 v0 v1 v2 v3 v4 v5 v6 v7 w' :=
  ⟨fun q => h.k0 (hd _ q), fun q => h.k1 (hd _ q), fun q => (h.k2 (hd _ q)).below b, fun q => (h.k3 (hd _ q)).below b, fun q => h.k4 (hd _ q), fun q => h.k5 (hd _ q), fun q => (h.k6 (hd _ q)).below b, fun q => (h.k7 (hd _ q)).below b, fun q => (h.k8 (hd _ q)).below b, fun q => (h.k9 (hd _ q)).below b, fun q r => h.kx (hd _ q) (hd _ r), fun q r => (h.k10 (hd _ q) (hd _ r)).below b, fun q r => (h.k11 (hd _ q) (hd _ r)).below b⟩
theorem DJ.put1 (h : DJ n0 m1 m2 x1 x2 L1 L2 d u1 u2 v0 v1 v2 v3 v4 v5 v6 v7 w) {d' : Nat → Prop} (hd : ∀ j, j ≠ 10 → d' j → d j) {i : Nat} {y : Value} {p : Option Addr} (d8 : d 8) (d3 : d 3) (_n : ¬ d 10) (e : u1 = .pointer (some ⟨i, 0, none⟩)) (e3 : v3 = .agg #[.pointer p]) (hb : Boxed w i 26 y) : DJ n0 m1 m2 x1 x2 L1 L2 d' u1 u2 v0 v1 v2 v3 v4 v5 v6 v7 (w.setCell ⟨i, 0, none⟩ (.pointer p)) := by
  refine ⟨fun q => h.k0 (hd _ (by decide) q), fun q => h.k1 (hd _ (by decide) q), fun q => (h.k2 (hd _ (by decide) q)).put hb _, fun q => (h.k3 (hd _ (by decide) q)).put hb _, fun q => h.k4 (hd _ (by decide) q), fun q => h.k5 (hd _ (by decide) q), fun q => (h.k6 (hd _ (by decide) q)).put hb _, fun q => (h.k7 (hd _ (by decide) q)).put hb _, fun q => (h.k8 (hd _ (by decide) q)).put hb _, fun q => (h.k9 (hd _ (by decide) q)).put hb _, fun q r => h.kx (hd _ (by decide) q) (hd _ (by decide) r), fun _ _ => ?_, fun q r => (h.k11 (hd _ (by decide) q) (hd _ (by decide) r)).put hb _ (fun c => h.kx d8 (hd _ (by decide) q) (e.trans c.symm))⟩
  obtain ⟨p', ep, hp⟩ := h.k3 d3
  obtain rfl : p = p' := by rw [e3] at ep; simpa using ep
  obtain ⟨i', y', ei, hn, _⟩ := h.k8 d8
  obtain rfl : i = i' := by rw [e] at ei; simpa using ei
  exact ⟨i, p, e, hn, hb.set _, hp.set_ ⟨_, _, _, hb, by decide⟩ _ _ _⟩
theorem DJ.put2 (h : DJ n0 m1 m2 x1 x2 L1 L2 d u1 u2 v0 v1 v2 v3 v4 v5 v6 v7 w) {d' : Nat → Prop} (hd : ∀ j, j ≠ 11 → d' j → d j) {i : Nat} {y : Value} {p : Option Addr} (d9 : d 9) (d7 : d 7) (_n : ¬ d 11) (e : u2 = .pointer (some ⟨i, 0, none⟩)) (e7 : v7 = .agg #[.pointer p]) (hb : Boxed w i 26 y) : DJ n0 m1 m2 x1 x2 L1 L2 d' u1 u2 v0 v1 v2 v3 v4 v5 v6 v7 (w.setCell ⟨i, 0, none⟩ (.pointer p)) := by
  refine ⟨fun q => h.k0 (hd _ (by decide) q), fun q => h.k1 (hd _ (by decide) q), fun q => (h.k2 (hd _ (by decide) q)).put hb _, fun q => (h.k3 (hd _ (by decide) q)).put hb _, fun q => h.k4 (hd _ (by decide) q), fun q => h.k5 (hd _ (by decide) q), fun q => (h.k6 (hd _ (by decide) q)).put hb _, fun q => (h.k7 (hd _ (by decide) q)).put hb _, fun q => (h.k8 (hd _ (by decide) q)).put hb _, fun q => (h.k9 (hd _ (by decide) q)).put hb _, fun q r => h.kx (hd _ (by decide) q) (hd _ (by decide) r), fun q r => (h.k10 (hd _ (by decide) q) (hd _ (by decide) r)).put hb _ (fun c => h.kx (hd _ (by decide) q) d9 (c.trans e.symm)), fun _ _ => ?_⟩
  obtain ⟨p', ep, hp⟩ := h.k7 d7
  obtain rfl : p = p' := by rw [e7] at ep; simpa using ep
  obtain ⟨i', y', ei, hn, _⟩ := h.k9 d9
  obtain rfl : i = i' := by rw [e] at ei; simpa using ei
  exact ⟨i, p, e, hn, hb.set _, hp.set_ ⟨_, _, _, hb, by decide⟩ _ _ _⟩
end

theorem one_any {W : World} {p : Option Addr} {L : List (Int × Int)} {x : Ac} {g : Nat} (h : Rep W p L) (hg : BoxA W g x) :
    Calls Try.prog 50 #[.agg #[.pointer p], .slice (some ⟨g, 0, none⟩) 1 1] W fun e w' => ∃ q, e = .returned (.agg #[.pointer q]) ∧ Rep w' q (actL L x) ∧ Below W.heap.size W w' := by
  have hA : Acts W (some ⟨g, 0, none⟩) [x] := .inr ⟨⟨g, 0, none⟩, rfl, hg.lt, fun i hi => by
    obtain rfl : i = 0 := by simp at hi; omega
    exact hg.act⟩
  exact more_any W p L (some ⟨g, 0, none⟩) [x] 1 h hA (by simp) (by simp)

set_option maxRecDepth 100000 in
set_option maxHeartbeats 2000000 in
theorem disj_no (w : World) (size : Int) (A : Option Addr) (n c : Nat) (xa xb : Ac) (h : ¬ ((1 ≤ size ∧ size ≤ 1099511627776) ∧ (n : Int) ≤ 60)) :
    Calls Try.prog 17 #[.int .i64 size, .slice A n c, .agg #[.bool xa.swap, .int .i64 xa.lo, .int .i64 xa.hi, .int .i64 xa.frm, .int .i64 xa.to], .agg #[.bool xb.swap, .int .i64 xb.lo, .int .i64 xb.hi, .int .i64 xb.frm, .int .i64 xb.to]] w (FromsPost w) := by
  have H := Lib.hid h
  clear h
  go_enter Try.func17, Try.ntmps17
  go_upto_region 1 with (fail)
  generalize hwa : World.alloc (World.alloc w _) _ = wa
  have hBa : Below w.heap.size w wa := hwa ▸ Below.alloc2 w _ _
  have xA : BoxA wa w.heap.size xa := hwa ▸ (BoxA.new w xa).next (Below.alloc1 _ _)
  have xB : BoxA wa (w.heap.size + 1) xb := by
    have t := BoxA.new (w.alloc (.cells #[.bool xa.swap, .int .i64 xa.lo, .int .i64 xa.hi, .int .i64 xa.frm, .int .i64 xa.to] 40)) xb
    rw [World.size_alloc] at t; exact hwa ▸ t
  clear hwa
  go_wp2_with (fail)
  go_at_call 22
  refine (built_no _ size A n c H.out).mono ?_
  rintro e w1 ⟨m, M, rfl, _, b1⟩
  go_upto_region 2 with (fail)
  generalize hb : World.alloc w1 _ = w2
  have dw2 : Below w1.heap.size w1 w2 := hb ▸ Below.alloc1 w1 _
  have x9 : Boxed w2 w1.heap.size 26 (.pointer m) := hb ▸ Boxed.new w1 _ _
  clear hb
  have b2 := Below.next b1 dw2
  have xA2 := xA.next b2
  have xB2 := xB.next b2
  have B2 := Below.next hBa b2
  go_wp2_with (fail)
  go_at_call 18
  refine (awake_any _).mono ?_
  rintro e wz ⟨rfl, bz⟩
  go_wp2_with (fail)
  go_ret
  exact ⟨rfl, Below.next B2 bz⟩
set_option maxRecDepth 100000 in
set_option maxHeartbeats 2000000 in
theorem disj_meet (w : World) (size : Int) (A : Option Addr) (l : List Ac) (n c : Nat) (xa xb : Ac) (hn : l.length = n) (hA : Acts w A l) (hnc : n ≤ c) (h1 : 1 ≤ size) (h2 : size ≤ 1099511627776) (hl : (n : Int) ≤ 60)
    (h : xa.lo < xb.hi ∧ xb.lo < xa.hi ∧ xa.lo < xa.hi ∧ xb.lo < xb.hi) :
    Calls Try.prog 17 #[.int .i64 size, .slice A n c, .agg #[.bool xa.swap, .int .i64 xa.lo, .int .i64 xa.hi, .int .i64 xa.frm, .int .i64 xa.to], .agg #[.bool xb.swap, .int .i64 xb.lo, .int .i64 xb.hi, .int .i64 xb.frm, .int .i64 xb.to]] w (FromsPost w) := by
  have hpl : ∀ W, Below w.heap.size w W → Calls Try.prog 22 #[.int .i64 size, .slice A n c] W fun e w' => ∃ q, e = .returned (.tuple #[.agg #[.pointer q], .bool true]) ∧ Rep w' q (moreL [(size, 0)] l) ∧ Below W.heap.size W w' := fun W hB => by
    have := built_yes W size A l c h1 h2 (hA.below hB) (by omega) (by omega)
    rwa [hn] at this
  obtain ⟨d1, d2, d3, d4⟩ := h
  have HPL := Lib.hid hpl
  clear hpl hA hn
  go_enter Try.func17, Try.ntmps17
  go_upto_region 1 with (fail)
  generalize hwa : World.alloc (World.alloc w _) _ = wa
  have hBa : Below w.heap.size w wa := hwa ▸ Below.alloc2 w _ _
  have xA : BoxA wa w.heap.size xa := hwa ▸ (BoxA.new w xa).next (Below.alloc1 _ _)
  have xB : BoxA wa (w.heap.size + 1) xb := by
    have t := BoxA.new (w.alloc (.cells #[.bool xa.swap, .int .i64 xa.lo, .int .i64 xa.hi, .int .i64 xa.frm, .int .i64 xa.to] 40)) xb
    rw [World.size_alloc] at t; exact hwa ▸ t
  clear hwa
  go_wp2_with (fail)
  go_at_call 22
  refine (HPL.out wa hBa).mono ?_
  rintro e w1 ⟨m, rfl, hm, b1⟩
  go_upto_region 2 with (fail)
  generalize hb : World.alloc w1 _ = w2
  have dw2 : Below w1.heap.size w1 w2 := hb ▸ Below.alloc1 w1 _
  have x9 : Boxed w2 w1.heap.size 26 (.pointer m) := hb ▸ Boxed.new w1 _ _
  clear hb
  have b2 := Below.next b1 dw2
  have xA2 := xA.next b2
  have xB2 := xB.next b2
  have B2 := Below.next hBa b2
  obtain ⟨a0, a1, a2, a3, a4⟩ := xA2.act
  obtain ⟨q0, q1, q2, q3, q4⟩ := xB2.act
  go_wp2_with (fail)
  go_at_call 18
  refine (awake_any _).mono ?_
  rintro e wz ⟨rfl, bz⟩
  go_wp2_with (fail)
  go_ret
  exact ⟨rfl, Below.next B2 bz⟩
set_option maxRecDepth 100000 in
set_option maxHeartbeats 8000000 in
theorem disj_main (w : World) (size : Int) (A : Option Addr) (l : List Ac) (n c : Nat) (xa xb : Ac) (hn : l.length = n) (hA : Acts w A l) (hnc : n ≤ c) (h1 : 1 ≤ size) (h2 : size ≤ 1099511627776) (hl : (n : Int) ≤ 60)
    (h : apartA xa xb) :
    Calls Try.prog 17 #[.int .i64 size, .slice A n c, .agg #[.bool xa.swap, .int .i64 xa.lo, .int .i64 xa.hi, .int .i64 xa.frm, .int .i64 xa.to], .agg #[.bool xb.swap, .int .i64 xb.lo, .int .i64 xb.hi, .int .i64 xb.frm, .int .i64 xb.to]] w (FromsPost w) := by
  obtain ⟨gM, tM⟩ := bltL_facts h1 h2 l
  have g0 : Good [(size, 0)] := ⟨by simp, Tr.OkL.cons.2 ⟨⟨h1, by simp, by simp⟩, by simp [Tr.OkL]⟩, ⟨by simp, trivial⟩, by simp [Tr.total_cons, Tr.total_nil]; omega, by simp⟩
  have lM := moreL_length l g0
  have hpl : ∀ W, Below w.heap.size w W → Calls Try.prog 22 #[.int .i64 size, .slice A n c] W fun e w' => ∃ q, e = .returned (.tuple #[.agg #[.pointer q], .bool true]) ∧ Rep w' q (moreL [(size, 0)] l) ∧ Below W.heap.size W w' := fun W hB => by
    have := built_yes W size A l c h1 h2 (hA.below hB) (by omega) (by omega)
    rwa [hn] at this
  simp only [List.length_cons, List.length_nil] at lM
  generalize moreL [(size, 0)] l = M at *
  obtain ⟨gA, tA⟩ := actL_facts gM xa
  obtain ⟨gB, tB⟩ := actL_facts gM xb
  obtain ⟨gX, tX⟩ := actL_facts gA xb
  have hXY := disj_comm gM (by omega) h
  have hMR := disj_merge gM (by omega) h
  generalize hLA : actL M xa = LA at *
  generalize hLB : actL M xb = LB at *
  generalize hX : actL LA xb = X at *
  have hab : ¬ xa.lo < xb.hi ∨ (xa.lo < xb.hi ∧ ¬ xb.lo < xa.hi) ∨ (xa.lo < xb.hi ∧ xb.lo < xa.hi ∧ ¬ xa.lo < xa.hi) ∨ (xa.lo < xb.hi ∧ xb.lo < xa.hi ∧ xa.lo < xa.hi ∧ ¬ xb.lo < xb.hi) := by
    unfold apartA at h; omega
  have heq : ∀ (W : World) (a b : Option Addr), Rep W a X → Rep W b X → Calls Try.prog 36 #[.agg #[.pointer a], .agg #[.pointer b]] W fun e w' => e = .returned (.bool true) ∧ Below W.heap.size W w' := by
    intro W a b h1 h2
    have := equal_any W a b X X h1 h2 (.inr gX) (.inr gX)
    rw [decide_eq_true rfl] at this; exact this
  obtain ⟨nX, hnX⟩ : ∃ nX, X.length = nX := ⟨_, rfl⟩
  have hle : ∀ (W : World) (a : Option Addr), Rep W a X → Calls Try.prog 43 #[.agg #[.pointer a]] W fun e w' => e = .returned (.int .i64 nX) ∧ Below W.heap.size W w' := by
    intro W a h1
    have := len_any W a X h1
    rwa [hnX] at this
  have HAB := Lib.hid hab
  have HEQ := Lib.hid heq
  have HLE := Lib.hid hle
  have HPL := Lib.hid hpl
  have GM := Lib.hid gM
  have GA := Lib.hid gA
  have GB := Lib.hid gB
  have HLA := Lib.hid hLA
  have HLB := Lib.hid hLB
  have HX := Lib.hid hX
  have HXY := Lib.hid hXY
  have HMR := Lib.hid hMR
  clear hab heq hle hpl gM gA gB gX hLA hLB hX hXY hMR hnX tM tA tB tX lM g0 h hA hn hl
  go_enter Try.func17, Try.ntmps17
  go_upto_region 1 with (fail)
  generalize hwa : World.alloc (World.alloc w _) _ = wa
  have hBa : Below w.heap.size w wa := hwa ▸ Below.alloc2 w _ _
  have xA : BoxA wa w.heap.size xa := hwa ▸ (BoxA.new w xa).next (Below.alloc1 _ _)
  have xB : BoxA wa (w.heap.size + 1) xb := by
    have t := BoxA.new (w.alloc (.cells #[.bool xa.swap, .int .i64 xa.lo, .int .i64 xa.hi, .int .i64 xa.frm, .int .i64 xa.to] 40)) xb
    rw [World.size_alloc] at t; exact hwa ▸ t
  clear hwa
  go_wp2_with (fail)
  go_at_call 22
  refine (HPL.out wa hBa).mono ?_
  rintro e w1 ⟨m, rfl, hm, b1⟩
  go_upto_region 2 with (fail)
  generalize hb : World.alloc w1 _ = w2
  have dw2 : Below w1.heap.size w1 w2 := hb ▸ Below.alloc1 w1 _
  have x9 : Boxed w2 w1.heap.size 26 (.pointer m) := hb ▸ Boxed.new w1 _ _
  clear hb
  have b2 := Below.next b1 dw2
  have xA2 := xA.next b2
  have xB2 := xB.next b2
  have B2 := Below.next hBa b2
  have hm2 := hm.below dw2
  clear b1 dw2 b2 xA xB hBa hm
  go_cut [53] from 24 to 52 (fun u W => u = .bool false ∧ W = w2)
  case first =>
    obtain ⟨a0, a1, a2, a3, a4⟩ := xA2.act
    obtain ⟨q0, q1, q2, q3, q4⟩ := xB2.act
    rcases (show ¬ xa.lo < xb.hi ∨ (xa.lo < xb.hi ∧ ¬ xb.lo < xa.hi) ∨ (xa.lo < xb.hi ∧ xb.lo < xa.hi ∧ ¬ xa.lo < xa.hi) ∨ (xa.lo < xb.hi ∧ xb.lo < xa.hi ∧ xa.lo < xa.hi ∧ ¬ xb.lo < xb.hi) from (by have := HAB.out; omega)) with d1 | ⟨d1, d2⟩ | ⟨d1, d2, d3⟩ | ⟨d1, d2, d3, d4⟩
    all_goals
      go_wp2_with (fail)
      go_meet
      exact ⟨rfl, rfl⟩
  case rest =>
    obtain ⟨rfl, rfl⟩ := hcut
    go_upto_region 4 with (fail)
    have hma : ∀ W g, Below wc.heap.size wc W → BoxA W g xa → Calls Try.prog 50 #[.agg #[.pointer m], .slice (some ⟨g, 0, none⟩) 1 1] W fun e w' => ∃ q, e = .returned (.agg #[.pointer q]) ∧ Rep w' q LA ∧ Below W.heap.size W w' := fun W g hB hg => by
      have := one_any (hm2.below hB) hg
      rwa [HLA.out] at this
    have hmb : ∀ W g, Below wc.heap.size wc W → BoxA W g xb → Calls Try.prog 50 #[.agg #[.pointer m], .slice (some ⟨g, 0, none⟩) 1 1] W fun e w' => ∃ q, e = .returned (.agg #[.pointer q]) ∧ Rep w' q LB ∧ Below W.heap.size W w' := fun W g hB hg => by
      have := one_any (hm2.below hB) hg
      rwa [HLB.out] at this
    have HMA := Lib.hid hma
    have HMB := Lib.hid hmb
    clear hma hmb
    refine wp_name fun a0 ha0 => ?_
    have e9 : a0.eval (.tmp 9) = .pointer (some ⟨w1.heap.size, 0, none⟩) := by rw [ha0]; rfl
    have e6 : a0.eval (.tmp 6) = .pointer (some ⟨w.heap.size, 0, none⟩) := by rw [ha0]; rfl
    have e7 : a0.eval (.tmp 7) = .pointer (some ⟨(w.heap.size + 1), 0, none⟩) := by rw [ha0]; rfl
    have hz : a0.tmps.size = 106 := by rw [ha0]; rfl
    have HA0 := Lib.hid ha0
    clear ha0
    refine wp_region_steps (fun d a W => Fr [11, 12, 55, 56, 57, 58, 59, 60, 61, 62] a0 a ∧ Below wc.heap.size wc W ∧ DJ wc.heap.size m m xa xb LA LB d (a.eval (.tmp 11)) (a.eval (.tmp 12)) (a.eval (.tmp 55)) (a.eval (.tmp 56)) (a.eval (.tmp 57)) (a.eval (.tmp 58)) (a.eval (.tmp 59)) (a.eval (.tmp 60)) (a.eval (.tmp 61)) (a.eval (.tmp 62)) W) (by kernel_rfl) (by kernel_rfl) ⟨Fr.refl _ _, (Below.refl _ _).drew, DJ.start rfl⟩ ?_ ?_
    · refine ⟨⟨rfl, ?_⟩, ⟨rfl, ?_⟩, ⟨rfl, ?_⟩, ⟨rfl, ?_⟩, ⟨rfl, ?_⟩, ⟨rfl, ?_⟩, ⟨rfl, ?_⟩, ⟨rfl, ?_⟩, ⟨rfl, ?_⟩, ⟨rfl, ?_⟩, ⟨rfl, ?_⟩, ⟨rfl, ?_⟩, trivial⟩
      · intro d d' a W ⟨hF, hB, hJ⟩ hn hcl hw hk hu hself
        have q9 := (hF.same 9 (by decide)).trans e9
        have z0 : W.cell? ⟨w1.heap.size, 0, none⟩ = some (.pointer m) := (hB.cell (p := ⟨w1.heap.size, 0, none⟩) x9.lt).trans x9.cell
        refine wp_yields (v := .agg #[.pointer m]) (w' := W) ?_ ?_
        · clear hJ hF hB hn hcl hw hk hu hself
          generalize a.eval = ρ at *
          go_simp
        · have h := hJ.next (d' := fun j => d' j ∧ j ≠ 0) (fun j q => hk j q.2 q.1) (Below.refl _ _)
          refine ⟨hF.put (by decide) _, hB, ?_⟩
          dsimp only
          rw [put_same a 55 _ (by rw [hF.size, hz]; decide), put_other a (s := 11) (t := 55) _ (by decide), put_other a (s := 12) (t := 55) _ (by decide), put_other a (s := 56) (t := 55) _ (by decide), put_other a (s := 57) (t := 55) _ (by decide), put_other a (s := 58) (t := 55) _ (by decide), put_other a (s := 59) (t := 55) _ (by decide), put_other a (s := 60) (t := 55) _ (by decide), put_other a (s := 61) (t := 55) _ (by decide), put_other a (s := 62) (t := 55) _ (by decide)]
          exact ⟨fun _ => rfl, fun q => h.k1 ⟨q, by decide⟩, fun q => h.k2 ⟨q, by decide⟩, fun q => h.k3 ⟨q, by decide⟩, fun q => h.k4 ⟨q, by decide⟩, fun q => h.k5 ⟨q, by decide⟩, fun q => h.k6 ⟨q, by decide⟩, fun q => h.k7 ⟨q, by decide⟩, fun q => h.k8 ⟨q, by decide⟩, fun q => h.k9 ⟨q, by decide⟩, fun q r => h.kx ⟨q, by decide⟩ ⟨r, by decide⟩, fun q r => h.k10 ⟨q, by decide⟩ ⟨r, by decide⟩, fun q r => h.k11 ⟨q, by decide⟩ ⟨r, by decide⟩⟩
      · intro d d' a W ⟨hF, hB, hJ⟩ hn hcl hw hk hu hself
        have q6 := (hF.same 6 (by decide)).trans e6
        have z0 : W.cell? ⟨w.heap.size, 0, none⟩ = some (.bool xa.swap) := (xA2.next hB).act.1
        have z1 : W.cell? ⟨w.heap.size, 1, none⟩ = some (.int .i64 xa.lo) := (xA2.next hB).act.2.1
        have z2 : W.cell? ⟨w.heap.size, 2, none⟩ = some (.int .i64 xa.hi) := (xA2.next hB).act.2.2.1
        have z3 : W.cell? ⟨w.heap.size, 3, none⟩ = some (.int .i64 xa.frm) := (xA2.next hB).act.2.2.2.1
        have z4 : W.cell? ⟨w.heap.size, 4, none⟩ = some (.int .i64 xa.to) := (xA2.next hB).act.2.2.2.2
        refine wp_yields (v := .agg #[.bool xa.swap, .int .i64 xa.lo, .int .i64 xa.hi, .int .i64 xa.frm, .int .i64 xa.to]) (w' := W) ?_ ?_
        · clear hJ hF hB hn hcl hw hk hu hself
          generalize a.eval = ρ at *
          go_simp
        · have h := hJ.next (d' := fun j => d' j ∧ j ≠ 1) (fun j q => hk j q.2 q.1) (Below.refl _ _)
          refine ⟨hF.put (by decide) _, hB, ?_⟩
          dsimp only
          rw [put_same a 56 _ (by rw [hF.size, hz]; decide), put_other a (s := 11) (t := 56) _ (by decide), put_other a (s := 12) (t := 56) _ (by decide), put_other a (s := 55) (t := 56) _ (by decide), put_other a (s := 57) (t := 56) _ (by decide), put_other a (s := 58) (t := 56) _ (by decide), put_other a (s := 59) (t := 56) _ (by decide), put_other a (s := 60) (t := 56) _ (by decide), put_other a (s := 61) (t := 56) _ (by decide), put_other a (s := 62) (t := 56) _ (by decide)]
          exact ⟨fun q => h.k0 ⟨q, by decide⟩, fun _ => rfl, fun q => h.k2 ⟨q, by decide⟩, fun q => h.k3 ⟨q, by decide⟩, fun q => h.k4 ⟨q, by decide⟩, fun q => h.k5 ⟨q, by decide⟩, fun q => h.k6 ⟨q, by decide⟩, fun q => h.k7 ⟨q, by decide⟩, fun q => h.k8 ⟨q, by decide⟩, fun q => h.k9 ⟨q, by decide⟩, fun q r => h.kx ⟨q, by decide⟩ ⟨r, by decide⟩, fun q r => h.k10 ⟨q, by decide⟩ ⟨r, by decide⟩, fun q r => h.k11 ⟨q, by decide⟩ ⟨r, by decide⟩⟩
      · intro d d' a W ⟨hF, hB, hJ⟩ hn hcl hw hk hu hself
        have q1 := hJ.k1 (hw 1 rfl)
        refine wp_yields (v := .slice (some ⟨W.heap.size, 0, none⟩) 1 1) (w' := W.alloc (.cells #[.bool xa.swap, .int .i64 xa.lo, .int .i64 xa.hi, .int .i64 xa.frm, .int .i64 xa.to] 40)) ?_ ?_
        · clear hJ hF hB hn hcl hw hk hu hself
          generalize a.eval = ρ at *
          go_simp
        · have h := hJ.next (d' := fun j => d' j ∧ j ≠ 2) (fun j q => hk j q.2 q.1) (Below.alloc1 W (.cells #[.bool xa.swap, .int .i64 xa.lo, .int .i64 xa.hi, .int .i64 xa.frm, .int .i64 xa.to] 40))
          refine ⟨hF.put (by decide) _, Below.next hB (Below.alloc1 W _), ?_⟩
          dsimp only
          rw [put_same a 57 _ (by rw [hF.size, hz]; decide), put_other a (s := 11) (t := 57) _ (by decide), put_other a (s := 12) (t := 57) _ (by decide), put_other a (s := 55) (t := 57) _ (by decide), put_other a (s := 56) (t := 57) _ (by decide), put_other a (s := 58) (t := 57) _ (by decide), put_other a (s := 59) (t := 57) _ (by decide), put_other a (s := 60) (t := 57) _ (by decide), put_other a (s := 61) (t := 57) _ (by decide), put_other a (s := 62) (t := 57) _ (by decide)]
          exact ⟨fun q => h.k0 ⟨q, by decide⟩, fun q => h.k1 ⟨q, by decide⟩, fun _ => ⟨_, rfl, BoxA.new W _⟩, fun q => h.k3 ⟨q, by decide⟩, fun q => h.k4 ⟨q, by decide⟩, fun q => h.k5 ⟨q, by decide⟩, fun q => h.k6 ⟨q, by decide⟩, fun q => h.k7 ⟨q, by decide⟩, fun q => h.k8 ⟨q, by decide⟩, fun q => h.k9 ⟨q, by decide⟩, fun q r => h.kx ⟨q, by decide⟩ ⟨r, by decide⟩, fun q r => h.k10 ⟨q, by decide⟩ ⟨r, by decide⟩, fun q r => h.k11 ⟨q, by decide⟩ ⟨r, by decide⟩⟩
      · intro d d' a W ⟨hF, hB, hJ⟩ hn hcl hw hk hu hself
        have q1 := hJ.k0 (hw 0 rfl)
        obtain ⟨g, q2, hg⟩ := hJ.k2 (hw 2 rfl)
        refine wp_enters (f := 50) (args := #[.agg #[.pointer m], .slice (some ⟨g, 0, none⟩) 1 1]) ?_ (HMA.out W g hB hg) ?_
        · have qf : a.eval (.func 50) = .func (.func 50) #[] #[] := rfl
          clear hJ hF hB hn hcl hw hk hu hself hg
          generalize a.eval = ρ at *
          go_simp
        · rintro e W' ⟨p, rfl, hp, b⟩
          have h := hJ.next (d' := fun j => d' j ∧ j ≠ 3) (fun j q => hk j q.2 q.1) b
          refine ⟨_, rfl, hF.put (by decide) _, Below.next hB b, ?_⟩
          dsimp only
          rw [put_same a 58 _ (by rw [hF.size, hz]; decide), put_other a (s := 11) (t := 58) _ (by decide), put_other a (s := 12) (t := 58) _ (by decide), put_other a (s := 55) (t := 58) _ (by decide), put_other a (s := 56) (t := 58) _ (by decide), put_other a (s := 57) (t := 58) _ (by decide), put_other a (s := 59) (t := 58) _ (by decide), put_other a (s := 60) (t := 58) _ (by decide), put_other a (s := 61) (t := 58) _ (by decide), put_other a (s := 62) (t := 58) _ (by decide)]
          exact ⟨fun q => h.k0 ⟨q, by decide⟩, fun q => h.k1 ⟨q, by decide⟩, fun q => h.k2 ⟨q, by decide⟩, fun _ => ⟨p, rfl, hp⟩, fun q => h.k4 ⟨q, by decide⟩, fun q => h.k5 ⟨q, by decide⟩, fun q => h.k6 ⟨q, by decide⟩, fun q => h.k7 ⟨q, by decide⟩, fun q => h.k8 ⟨q, by decide⟩, fun q => h.k9 ⟨q, by decide⟩, fun q r => h.kx ⟨q, by decide⟩ ⟨r, by decide⟩, fun q r => h.k10 ⟨q, by decide⟩ ⟨r, by decide⟩, fun q r => h.k11 ⟨q, by decide⟩ ⟨r, by decide⟩⟩
      · intro d d' a W ⟨hF, hB, hJ⟩ hn hcl hw hk hu hself
        have q9 := (hF.same 9 (by decide)).trans e9
        have z0 : W.cell? ⟨w1.heap.size, 0, none⟩ = some (.pointer m) := (hB.cell (p := ⟨w1.heap.size, 0, none⟩) x9.lt).trans x9.cell
        refine wp_yields (v := .agg #[.pointer m]) (w' := W) ?_ ?_
        · clear hJ hF hB hn hcl hw hk hu hself
          generalize a.eval = ρ at *
          go_simp
        · have h := hJ.next (d' := fun j => d' j ∧ j ≠ 4) (fun j q => hk j q.2 q.1) (Below.refl _ _)
          refine ⟨hF.put (by decide) _, hB, ?_⟩
          dsimp only
          rw [put_same a 59 _ (by rw [hF.size, hz]; decide), put_other a (s := 11) (t := 59) _ (by decide), put_other a (s := 12) (t := 59) _ (by decide), put_other a (s := 55) (t := 59) _ (by decide), put_other a (s := 56) (t := 59) _ (by decide), put_other a (s := 57) (t := 59) _ (by decide), put_other a (s := 58) (t := 59) _ (by decide), put_other a (s := 60) (t := 59) _ (by decide), put_other a (s := 61) (t := 59) _ (by decide), put_other a (s := 62) (t := 59) _ (by decide)]
          exact ⟨fun q => h.k0 ⟨q, by decide⟩, fun q => h.k1 ⟨q, by decide⟩, fun q => h.k2 ⟨q, by decide⟩, fun q => h.k3 ⟨q, by decide⟩, fun _ => rfl, fun q => h.k5 ⟨q, by decide⟩, fun q => h.k6 ⟨q, by decide⟩, fun q => h.k7 ⟨q, by decide⟩, fun q => h.k8 ⟨q, by decide⟩, fun q => h.k9 ⟨q, by decide⟩, fun q r => h.kx ⟨q, by decide⟩ ⟨r, by decide⟩, fun q r => h.k10 ⟨q, by decide⟩ ⟨r, by decide⟩, fun q r => h.k11 ⟨q, by decide⟩ ⟨r, by decide⟩⟩
      · intro d d' a W ⟨hF, hB, hJ⟩ hn hcl hw hk hu hself
        have q7 := (hF.same 7 (by decide)).trans e7
        have z0 : W.cell? ⟨(w.heap.size + 1), 0, none⟩ = some (.bool xb.swap) := (xB2.next hB).act.1
        have z1 : W.cell? ⟨(w.heap.size + 1), 1, none⟩ = some (.int .i64 xb.lo) := (xB2.next hB).act.2.1
        have z2 : W.cell? ⟨(w.heap.size + 1), 2, none⟩ = some (.int .i64 xb.hi) := (xB2.next hB).act.2.2.1
        have z3 : W.cell? ⟨(w.heap.size + 1), 3, none⟩ = some (.int .i64 xb.frm) := (xB2.next hB).act.2.2.2.1
        have z4 : W.cell? ⟨(w.heap.size + 1), 4, none⟩ = some (.int .i64 xb.to) := (xB2.next hB).act.2.2.2.2
        refine wp_yields (v := .agg #[.bool xb.swap, .int .i64 xb.lo, .int .i64 xb.hi, .int .i64 xb.frm, .int .i64 xb.to]) (w' := W) ?_ ?_
        · clear hJ hF hB hn hcl hw hk hu hself
          generalize a.eval = ρ at *
          go_simp
        · have h := hJ.next (d' := fun j => d' j ∧ j ≠ 5) (fun j q => hk j q.2 q.1) (Below.refl _ _)
          refine ⟨hF.put (by decide) _, hB, ?_⟩
          dsimp only
          rw [put_same a 60 _ (by rw [hF.size, hz]; decide), put_other a (s := 11) (t := 60) _ (by decide), put_other a (s := 12) (t := 60) _ (by decide), put_other a (s := 55) (t := 60) _ (by decide), put_other a (s := 56) (t := 60) _ (by decide), put_other a (s := 57) (t := 60) _ (by decide), put_other a (s := 58) (t := 60) _ (by decide), put_other a (s := 59) (t := 60) _ (by decide), put_other a (s := 61) (t := 60) _ (by decide), put_other a (s := 62) (t := 60) _ (by decide)]
          exact ⟨fun q => h.k0 ⟨q, by decide⟩, fun q => h.k1 ⟨q, by decide⟩, fun q => h.k2 ⟨q, by decide⟩, fun q => h.k3 ⟨q, by decide⟩, fun q => h.k4 ⟨q, by decide⟩, fun _ => rfl, fun q => h.k6 ⟨q, by decide⟩, fun q => h.k7 ⟨q, by decide⟩, fun q => h.k8 ⟨q, by decide⟩, fun q => h.k9 ⟨q, by decide⟩, fun q r => h.kx ⟨q, by decide⟩ ⟨r, by decide⟩, fun q r => h.k10 ⟨q, by decide⟩ ⟨r, by decide⟩, fun q r => h.k11 ⟨q, by decide⟩ ⟨r, by decide⟩⟩
      · intro d d' a W ⟨hF, hB, hJ⟩ hn hcl hw hk hu hself
        have q1 := hJ.k5 (hw 5 rfl)
        refine wp_yields (v := .slice (some ⟨W.heap.size, 0, none⟩) 1 1) (w' := W.alloc (.cells #[.bool xb.swap, .int .i64 xb.lo, .int .i64 xb.hi, .int .i64 xb.frm, .int .i64 xb.to] 40)) ?_ ?_
        · clear hJ hF hB hn hcl hw hk hu hself
          generalize a.eval = ρ at *
          go_simp
        · have h := hJ.next (d' := fun j => d' j ∧ j ≠ 6) (fun j q => hk j q.2 q.1) (Below.alloc1 W (.cells #[.bool xb.swap, .int .i64 xb.lo, .int .i64 xb.hi, .int .i64 xb.frm, .int .i64 xb.to] 40))
          refine ⟨hF.put (by decide) _, Below.next hB (Below.alloc1 W _), ?_⟩
          dsimp only
          rw [put_same a 61 _ (by rw [hF.size, hz]; decide), put_other a (s := 11) (t := 61) _ (by decide), put_other a (s := 12) (t := 61) _ (by decide), put_other a (s := 55) (t := 61) _ (by decide), put_other a (s := 56) (t := 61) _ (by decide), put_other a (s := 57) (t := 61) _ (by decide), put_other a (s := 58) (t := 61) _ (by decide), put_other a (s := 59) (t := 61) _ (by decide), put_other a (s := 60) (t := 61) _ (by decide), put_other a (s := 62) (t := 61) _ (by decide)]
          exact ⟨fun q => h.k0 ⟨q, by decide⟩, fun q => h.k1 ⟨q, by decide⟩, fun q => h.k2 ⟨q, by decide⟩, fun q => h.k3 ⟨q, by decide⟩, fun q => h.k4 ⟨q, by decide⟩, fun q => h.k5 ⟨q, by decide⟩, fun _ => ⟨_, rfl, BoxA.new W _⟩, fun q => h.k7 ⟨q, by decide⟩, fun q => h.k8 ⟨q, by decide⟩, fun q => h.k9 ⟨q, by decide⟩, fun q r => h.kx ⟨q, by decide⟩ ⟨r, by decide⟩, fun q r => h.k10 ⟨q, by decide⟩ ⟨r, by decide⟩, fun q r => h.k11 ⟨q, by decide⟩ ⟨r, by decide⟩⟩
      · intro d d' a W ⟨hF, hB, hJ⟩ hn hcl hw hk hu hself
        have q1 := hJ.k4 (hw 4 rfl)
        obtain ⟨g, q2, hg⟩ := hJ.k6 (hw 6 rfl)
        refine wp_enters (f := 50) (args := #[.agg #[.pointer m], .slice (some ⟨g, 0, none⟩) 1 1]) ?_ (HMB.out W g hB hg) ?_
        · have qf : a.eval (.func 50) = .func (.func 50) #[] #[] := rfl
          clear hJ hF hB hn hcl hw hk hu hself hg
          generalize a.eval = ρ at *
          go_simp
        · rintro e W' ⟨p, rfl, hp, b⟩
          have h := hJ.next (d' := fun j => d' j ∧ j ≠ 7) (fun j q => hk j q.2 q.1) b
          refine ⟨_, rfl, hF.put (by decide) _, Below.next hB b, ?_⟩
          dsimp only
          rw [put_same a 62 _ (by rw [hF.size, hz]; decide), put_other a (s := 11) (t := 62) _ (by decide), put_other a (s := 12) (t := 62) _ (by decide), put_other a (s := 55) (t := 62) _ (by decide), put_other a (s := 56) (t := 62) _ (by decide), put_other a (s := 57) (t := 62) _ (by decide), put_other a (s := 58) (t := 62) _ (by decide), put_other a (s := 59) (t := 62) _ (by decide), put_other a (s := 60) (t := 62) _ (by decide), put_other a (s := 61) (t := 62) _ (by decide)]
          exact ⟨fun q => h.k0 ⟨q, by decide⟩, fun q => h.k1 ⟨q, by decide⟩, fun q => h.k2 ⟨q, by decide⟩, fun q => h.k3 ⟨q, by decide⟩, fun q => h.k4 ⟨q, by decide⟩, fun q => h.k5 ⟨q, by decide⟩, fun q => h.k6 ⟨q, by decide⟩, fun _ => ⟨p, rfl, hp⟩, fun q => h.k8 ⟨q, by decide⟩, fun q => h.k9 ⟨q, by decide⟩, fun q r => h.kx ⟨q, by decide⟩ ⟨r, by decide⟩, fun q r => h.k10 ⟨q, by decide⟩ ⟨r, by decide⟩, fun q r => h.k11 ⟨q, by decide⟩ ⟨r, by decide⟩⟩
      · intro d d' a W ⟨hF, hB, hJ⟩ hn hcl hw hk hu hself
        refine wp_yields (v := .pointer (some ⟨W.heap.size, 0, none⟩)) (w' := W.alloc (.cells #[.pointer none] 26)) ?_ ?_
        · clear hJ hF hB hn hcl hw hk hu hself
          generalize a.eval = ρ at *
          go_simp
        · have h := hJ.next (d' := fun j => d' j ∧ j ≠ 8) (fun j q => hk j q.2 q.1) (Below.alloc1 W (.cells #[.pointer none] 26))
          refine ⟨hF.put (by decide) _, Below.next hB (Below.alloc1 W _), ?_⟩
          dsimp only
          rw [put_same a 11 _ (by rw [hF.size, hz]; decide), put_other a (s := 12) (t := 11) _ (by decide), put_other a (s := 55) (t := 11) _ (by decide), put_other a (s := 56) (t := 11) _ (by decide), put_other a (s := 57) (t := 11) _ (by decide), put_other a (s := 58) (t := 11) _ (by decide), put_other a (s := 59) (t := 11) _ (by decide), put_other a (s := 60) (t := 11) _ (by decide), put_other a (s := 61) (t := 11) _ (by decide), put_other a (s := 62) (t := 11) _ (by decide)]
          exact ⟨fun q => h.k0 ⟨q, by decide⟩, fun q => h.k1 ⟨q, by decide⟩, fun q => h.k2 ⟨q, by decide⟩, fun q => h.k3 ⟨q, by decide⟩, fun q => h.k4 ⟨q, by decide⟩, fun q => h.k5 ⟨q, by decide⟩, fun q => h.k6 ⟨q, by decide⟩, fun q => h.k7 ⟨q, by decide⟩, fun _ => ⟨_, _, rfl, hB.size, Boxed.new W _ _⟩, fun q => h.k9 ⟨q, by decide⟩, fun _ q e => by obtain ⟨j, y, ej, _, bj⟩ := hJ.k9 (hk 9 (by decide) q); rw [ej] at e; have := bj.lt; simp at e <;> omega, fun _ q => (hn (hcl 10 _ 8 rfl rfl (hk 10 (by decide) q))).elim, fun q r => h.k11 ⟨q, by decide⟩ ⟨r, by decide⟩⟩
      · intro d d' a W ⟨hF, hB, hJ⟩ hn hcl hw hk hu hself
        refine wp_yields (v := .pointer (some ⟨W.heap.size, 0, none⟩)) (w' := W.alloc (.cells #[.pointer none] 26)) ?_ ?_
        · clear hJ hF hB hn hcl hw hk hu hself
          generalize a.eval = ρ at *
          go_simp
        · have h := hJ.next (d' := fun j => d' j ∧ j ≠ 9) (fun j q => hk j q.2 q.1) (Below.alloc1 W (.cells #[.pointer none] 26))
          refine ⟨hF.put (by decide) _, Below.next hB (Below.alloc1 W _), ?_⟩
          dsimp only
          rw [put_same a 12 _ (by rw [hF.size, hz]; decide), put_other a (s := 11) (t := 12) _ (by decide), put_other a (s := 55) (t := 12) _ (by decide), put_other a (s := 56) (t := 12) _ (by decide), put_other a (s := 57) (t := 12) _ (by decide), put_other a (s := 58) (t := 12) _ (by decide), put_other a (s := 59) (t := 12) _ (by decide), put_other a (s := 60) (t := 12) _ (by decide), put_other a (s := 61) (t := 12) _ (by decide), put_other a (s := 62) (t := 12) _ (by decide)]
          exact ⟨fun q => h.k0 ⟨q, by decide⟩, fun q => h.k1 ⟨q, by decide⟩, fun q => h.k2 ⟨q, by decide⟩, fun q => h.k3 ⟨q, by decide⟩, fun q => h.k4 ⟨q, by decide⟩, fun q => h.k5 ⟨q, by decide⟩, fun q => h.k6 ⟨q, by decide⟩, fun q => h.k7 ⟨q, by decide⟩, fun q => h.k8 ⟨q, by decide⟩, fun _ => ⟨_, _, rfl, hB.size, Boxed.new W _ _⟩, fun q _ e => by obtain ⟨j, y, ej, _, bj⟩ := hJ.k8 (hk 8 (by decide) q); rw [ej] at e; have := bj.lt; simp at e <;> omega, fun q r => h.k10 ⟨q, by decide⟩ ⟨r, by decide⟩, fun _ q => (hn (hcl 11 _ 9 rfl rfl (hk 11 (by decide) q))).elim⟩
      · intro d d' a W ⟨hF, hB, hJ⟩ hn hcl hw hk hu hself
        obtain ⟨i, y, q1, hi, hb⟩ := hJ.k8 (hw 8 rfl)
        obtain ⟨p, q2, hp⟩ := hJ.k3 (hw 3 rfl)
        have z0 := hb.cell
        have z1 := hb.frozen
        refine wp_skips (w' := W.setCell ⟨i, 0, none⟩ (.pointer p)) ?_ ?_
        · clear hJ hF hB hn hcl hw hk hu hself hp hb
          generalize a.eval = ρ at *
          go_simp
        · exact ⟨hF, hB.setCell (p := ⟨i, 0, none⟩) hi _, hJ.put1 hk (hw 8 rfl) (hw 3 rfl) hn q1 q2 hb⟩
      · intro d d' a W ⟨hF, hB, hJ⟩ hn hcl hw hk hu hself
        obtain ⟨i, y, q1, hi, hb⟩ := hJ.k9 (hw 9 rfl)
        obtain ⟨p, q2, hp⟩ := hJ.k7 (hw 7 rfl)
        have z0 := hb.cell
        have z1 := hb.frozen
        refine wp_skips (w' := W.setCell ⟨i, 0, none⟩ (.pointer p)) ?_ ?_
        · clear hJ hF hB hn hcl hw hk hu hself hp hb
          generalize a.eval = ρ at *
          go_simp
        · exact ⟨hF, hB.setCell (p := ⟨i, 0, none⟩) hi _, hJ.put2 hk (hw 9 rfl) (hw 7 rfl) hn q1 q2 hb⟩
    · intro d a W ⟨hF, hB, hJ⟩ hall
      obtain ⟨i, p, E1, hi, hbi, hp⟩ := hJ.k10 (hall 8 (by decide)) (hall 10 (by decide))
      obtain ⟨j, q, E2, hj, hbj, hq⟩ := hJ.k11 (hall 9 (by decide)) (hall 11 (by decide))
      clear hJ hall
      rw [hF.shape (by rw [hz]; decide)]
      clear hF
      simp only [List.foldl]
      rw [E1, E2]
      clear E1 E2
      generalize a.eval (.tmp 55) = z55
      generalize a.eval (.tmp 56) = z56
      generalize a.eval (.tmp 57) = z57
      generalize a.eval (.tmp 58) = z58
      generalize a.eval (.tmp 59) = z59
      generalize a.eval (.tmp 60) = z60
      generalize a.eval (.tmp 61) = z61
      generalize a.eval (.tmp 62) = z62
      rw [HA0.out]
      simp only [Act.put, List.setIfInBounds_toArray, List.set_cons_zero, List.set_cons_succ]
      have B3 := Below.next B2 hB
      have x93 := bx_next x9 hB
      have xA3 := xA2.next hB
      have xB3 := xB2.next hB
      have hm3 := hm2.below hB
      generalize hW3 : W = w3 at *
      clear hB x9 xA2 xB2 hm2 HMA HMB B2 hz HA0 e9 e6 e7 hi hj hW3
      clear a a0
      go_upto_region 5 with (fail)
      have hma : ∀ W g, Below w3.heap.size w3 W → BoxA W g xb → Calls Try.prog 50 #[.agg #[.pointer p], .slice (some ⟨g, 0, none⟩) 1 1] W fun e w' => ∃ q, e = .returned (.agg #[.pointer q]) ∧ Rep w' q X ∧ Below W.heap.size W w' := fun W g hB hg => by
        have := one_any (hp.below hB) hg
        rwa [HX.out] at this
      have hmb : ∀ W g, Below w3.heap.size w3 W → BoxA W g xa → Calls Try.prog 50 #[.agg #[.pointer q], .slice (some ⟨g, 0, none⟩) 1 1] W fun e w' => ∃ q, e = .returned (.agg #[.pointer q]) ∧ Rep w' q X ∧ Below W.heap.size W w' := fun W g hB hg => by
        have := one_any (hq.below hB) hg
        rwa [← HXY.out] at this
      have HMA := Lib.hid hma
      have HMB := Lib.hid hmb
      clear hma hmb
      refine wp_name fun a0 ha0 => ?_
      have e11 : a0.eval (.tmp 11) = .pointer (some ⟨i, 0, none⟩) := by rw [ha0]; rfl
      have e12 : a0.eval (.tmp 12) = .pointer (some ⟨j, 0, none⟩) := by rw [ha0]; rfl
      have e7 : a0.eval (.tmp 7) = .pointer (some ⟨(w.heap.size + 1), 0, none⟩) := by rw [ha0]; rfl
      have e6 : a0.eval (.tmp 6) = .pointer (some ⟨w.heap.size, 0, none⟩) := by rw [ha0]; rfl
      have hz : a0.tmps.size = 106 := by rw [ha0]; rfl
      have HA0 := Lib.hid ha0
      clear ha0
      refine wp_region_steps (fun d a W => Fr [13, 14, 63, 64, 65, 66, 67, 68, 69, 70] a0 a ∧ Below w3.heap.size w3 W ∧ DJ w3.heap.size p q xb xa X X d (a.eval (.tmp 13)) (a.eval (.tmp 14)) (a.eval (.tmp 63)) (a.eval (.tmp 64)) (a.eval (.tmp 65)) (a.eval (.tmp 66)) (a.eval (.tmp 67)) (a.eval (.tmp 68)) (a.eval (.tmp 69)) (a.eval (.tmp 70)) W) (by kernel_rfl) (by kernel_rfl) ⟨Fr.refl _ _, (Below.refl _ _).drew, DJ.start rfl⟩ ?_ ?_
      · refine ⟨⟨rfl, ?_⟩, ⟨rfl, ?_⟩, ⟨rfl, ?_⟩, ⟨rfl, ?_⟩, ⟨rfl, ?_⟩, ⟨rfl, ?_⟩, ⟨rfl, ?_⟩, ⟨rfl, ?_⟩, ⟨rfl, ?_⟩, ⟨rfl, ?_⟩, ⟨rfl, ?_⟩, ⟨rfl, ?_⟩, trivial⟩
        · intro d d' a W ⟨hF, hB, hJ⟩ hn hcl hw hk hu hself
          have q11 := (hF.same 11 (by decide)).trans e11
          have z0 : W.cell? ⟨i, 0, none⟩ = some (.pointer p) := (hB.cell (p := ⟨i, 0, none⟩) hbi.lt).trans hbi.cell
          refine wp_yields (v := .agg #[.pointer p]) (w' := W) ?_ ?_
          · clear hJ hF hB hn hcl hw hk hu hself
            generalize a.eval = ρ at *
            go_simp
          · have h := hJ.next (d' := fun j => d' j ∧ j ≠ 0) (fun j q => hk j q.2 q.1) (Below.refl _ _)
            refine ⟨hF.put (by decide) _, hB, ?_⟩
            dsimp only
            rw [put_same a 63 _ (by rw [hF.size, hz]; decide), put_other a (s := 13) (t := 63) _ (by decide), put_other a (s := 14) (t := 63) _ (by decide), put_other a (s := 64) (t := 63) _ (by decide), put_other a (s := 65) (t := 63) _ (by decide), put_other a (s := 66) (t := 63) _ (by decide), put_other a (s := 67) (t := 63) _ (by decide), put_other a (s := 68) (t := 63) _ (by decide), put_other a (s := 69) (t := 63) _ (by decide), put_other a (s := 70) (t := 63) _ (by decide)]
            exact ⟨fun _ => rfl, fun q => h.k1 ⟨q, by decide⟩, fun q => h.k2 ⟨q, by decide⟩, fun q => h.k3 ⟨q, by decide⟩, fun q => h.k4 ⟨q, by decide⟩, fun q => h.k5 ⟨q, by decide⟩, fun q => h.k6 ⟨q, by decide⟩, fun q => h.k7 ⟨q, by decide⟩, fun q => h.k8 ⟨q, by decide⟩, fun q => h.k9 ⟨q, by decide⟩, fun q r => h.kx ⟨q, by decide⟩ ⟨r, by decide⟩, fun q r => h.k10 ⟨q, by decide⟩ ⟨r, by decide⟩, fun q r => h.k11 ⟨q, by decide⟩ ⟨r, by decide⟩⟩
        · intro d d' a W ⟨hF, hB, hJ⟩ hn hcl hw hk hu hself
          have q7 := (hF.same 7 (by decide)).trans e7
          have z0 : W.cell? ⟨(w.heap.size + 1), 0, none⟩ = some (.bool xb.swap) := (xB3.next hB).act.1
          have z1 : W.cell? ⟨(w.heap.size + 1), 1, none⟩ = some (.int .i64 xb.lo) := (xB3.next hB).act.2.1
          have z2 : W.cell? ⟨(w.heap.size + 1), 2, none⟩ = some (.int .i64 xb.hi) := (xB3.next hB).act.2.2.1
          have z3 : W.cell? ⟨(w.heap.size + 1), 3, none⟩ = some (.int .i64 xb.frm) := (xB3.next hB).act.2.2.2.1
          have z4 : W.cell? ⟨(w.heap.size + 1), 4, none⟩ = some (.int .i64 xb.to) := (xB3.next hB).act.2.2.2.2
          refine wp_yields (v := .agg #[.bool xb.swap, .int .i64 xb.lo, .int .i64 xb.hi, .int .i64 xb.frm, .int .i64 xb.to]) (w' := W) ?_ ?_
          · clear hJ hF hB hn hcl hw hk hu hself
            generalize a.eval = ρ at *
            go_simp
          · have h := hJ.next (d' := fun j => d' j ∧ j ≠ 1) (fun j q => hk j q.2 q.1) (Below.refl _ _)
            refine ⟨hF.put (by decide) _, hB, ?_⟩
            dsimp only
            rw [put_same a 64 _ (by rw [hF.size, hz]; decide), put_other a (s := 13) (t := 64) _ (by decide), put_other a (s := 14) (t := 64) _ (by decide), put_other a (s := 63) (t := 64) _ (by decide), put_other a (s := 65) (t := 64) _ (by decide), put_other a (s := 66) (t := 64) _ (by decide), put_other a (s := 67) (t := 64) _ (by decide), put_other a (s := 68) (t := 64) _ (by decide), put_other a (s := 69) (t := 64) _ (by decide), put_other a (s := 70) (t := 64) _ (by decide)]
            exact ⟨fun q => h.k0 ⟨q, by decide⟩, fun _ => rfl, fun q => h.k2 ⟨q, by decide⟩, fun q => h.k3 ⟨q, by decide⟩, fun q => h.k4 ⟨q, by decide⟩, fun q => h.k5 ⟨q, by decide⟩, fun q => h.k6 ⟨q, by decide⟩, fun q => h.k7 ⟨q, by decide⟩, fun q => h.k8 ⟨q, by decide⟩, fun q => h.k9 ⟨q, by decide⟩, fun q r => h.kx ⟨q, by decide⟩ ⟨r, by decide⟩, fun q r => h.k10 ⟨q, by decide⟩ ⟨r, by decide⟩, fun q r => h.k11 ⟨q, by decide⟩ ⟨r, by decide⟩⟩
        · intro d d' a W ⟨hF, hB, hJ⟩ hn hcl hw hk hu hself
          have q1 := hJ.k1 (hw 1 rfl)
          refine wp_yields (v := .slice (some ⟨W.heap.size, 0, none⟩) 1 1) (w' := W.alloc (.cells #[.bool xb.swap, .int .i64 xb.lo, .int .i64 xb.hi, .int .i64 xb.frm, .int .i64 xb.to] 40)) ?_ ?_
          · clear hJ hF hB hn hcl hw hk hu hself
            generalize a.eval = ρ at *
            go_simp
          · have h := hJ.next (d' := fun j => d' j ∧ j ≠ 2) (fun j q => hk j q.2 q.1) (Below.alloc1 W (.cells #[.bool xb.swap, .int .i64 xb.lo, .int .i64 xb.hi, .int .i64 xb.frm, .int .i64 xb.to] 40))
            refine ⟨hF.put (by decide) _, Below.next hB (Below.alloc1 W _), ?_⟩
            dsimp only
            rw [put_same a 65 _ (by rw [hF.size, hz]; decide), put_other a (s := 13) (t := 65) _ (by decide), put_other a (s := 14) (t := 65) _ (by decide), put_other a (s := 63) (t := 65) _ (by decide), put_other a (s := 64) (t := 65) _ (by decide), put_other a (s := 66) (t := 65) _ (by decide), put_other a (s := 67) (t := 65) _ (by decide), put_other a (s := 68) (t := 65) _ (by decide), put_other a (s := 69) (t := 65) _ (by decide), put_other a (s := 70) (t := 65) _ (by decide)]
            exact ⟨fun q => h.k0 ⟨q, by decide⟩, fun q => h.k1 ⟨q, by decide⟩, fun _ => ⟨_, rfl, BoxA.new W _⟩, fun q => h.k3 ⟨q, by decide⟩, fun q => h.k4 ⟨q, by decide⟩, fun q => h.k5 ⟨q, by decide⟩, fun q => h.k6 ⟨q, by decide⟩, fun q => h.k7 ⟨q, by decide⟩, fun q => h.k8 ⟨q, by decide⟩, fun q => h.k9 ⟨q, by decide⟩, fun q r => h.kx ⟨q, by decide⟩ ⟨r, by decide⟩, fun q r => h.k10 ⟨q, by decide⟩ ⟨r, by decide⟩, fun q r => h.k11 ⟨q, by decide⟩ ⟨r, by decide⟩⟩
        · intro d d' a W ⟨hF, hB, hJ⟩ hn hcl hw hk hu hself
          have q1 := hJ.k0 (hw 0 rfl)
          obtain ⟨g, q2, hg⟩ := hJ.k2 (hw 2 rfl)
          refine wp_enters (f := 50) (args := #[.agg #[.pointer p], .slice (some ⟨g, 0, none⟩) 1 1]) ?_ (HMA.out W g hB hg) ?_
          · have qf : a.eval (.func 50) = .func (.func 50) #[] #[] := rfl
            clear hJ hF hB hn hcl hw hk hu hself hg
            generalize a.eval = ρ at *
            go_simp
          · rintro e W' ⟨p, rfl, hp, b⟩
            have h := hJ.next (d' := fun j => d' j ∧ j ≠ 3) (fun j q => hk j q.2 q.1) b
            refine ⟨_, rfl, hF.put (by decide) _, Below.next hB b, ?_⟩
            dsimp only
            rw [put_same a 66 _ (by rw [hF.size, hz]; decide), put_other a (s := 13) (t := 66) _ (by decide), put_other a (s := 14) (t := 66) _ (by decide), put_other a (s := 63) (t := 66) _ (by decide), put_other a (s := 64) (t := 66) _ (by decide), put_other a (s := 65) (t := 66) _ (by decide), put_other a (s := 67) (t := 66) _ (by decide), put_other a (s := 68) (t := 66) _ (by decide), put_other a (s := 69) (t := 66) _ (by decide), put_other a (s := 70) (t := 66) _ (by decide)]
            exact ⟨fun q => h.k0 ⟨q, by decide⟩, fun q => h.k1 ⟨q, by decide⟩, fun q => h.k2 ⟨q, by decide⟩, fun _ => ⟨p, rfl, hp⟩, fun q => h.k4 ⟨q, by decide⟩, fun q => h.k5 ⟨q, by decide⟩, fun q => h.k6 ⟨q, by decide⟩, fun q => h.k7 ⟨q, by decide⟩, fun q => h.k8 ⟨q, by decide⟩, fun q => h.k9 ⟨q, by decide⟩, fun q r => h.kx ⟨q, by decide⟩ ⟨r, by decide⟩, fun q r => h.k10 ⟨q, by decide⟩ ⟨r, by decide⟩, fun q r => h.k11 ⟨q, by decide⟩ ⟨r, by decide⟩⟩
        · intro d d' a W ⟨hF, hB, hJ⟩ hn hcl hw hk hu hself
          have q12 := (hF.same 12 (by decide)).trans e12
          have z0 : W.cell? ⟨j, 0, none⟩ = some (.pointer q) := (hB.cell (p := ⟨j, 0, none⟩) hbj.lt).trans hbj.cell
          refine wp_yields (v := .agg #[.pointer q]) (w' := W) ?_ ?_
          · clear hJ hF hB hn hcl hw hk hu hself
            generalize a.eval = ρ at *
            go_simp
          · have h := hJ.next (d' := fun j => d' j ∧ j ≠ 4) (fun j q => hk j q.2 q.1) (Below.refl _ _)
            refine ⟨hF.put (by decide) _, hB, ?_⟩
            dsimp only
            rw [put_same a 67 _ (by rw [hF.size, hz]; decide), put_other a (s := 13) (t := 67) _ (by decide), put_other a (s := 14) (t := 67) _ (by decide), put_other a (s := 63) (t := 67) _ (by decide), put_other a (s := 64) (t := 67) _ (by decide), put_other a (s := 65) (t := 67) _ (by decide), put_other a (s := 66) (t := 67) _ (by decide), put_other a (s := 68) (t := 67) _ (by decide), put_other a (s := 69) (t := 67) _ (by decide), put_other a (s := 70) (t := 67) _ (by decide)]
            exact ⟨fun q => h.k0 ⟨q, by decide⟩, fun q => h.k1 ⟨q, by decide⟩, fun q => h.k2 ⟨q, by decide⟩, fun q => h.k3 ⟨q, by decide⟩, fun _ => rfl, fun q => h.k5 ⟨q, by decide⟩, fun q => h.k6 ⟨q, by decide⟩, fun q => h.k7 ⟨q, by decide⟩, fun q => h.k8 ⟨q, by decide⟩, fun q => h.k9 ⟨q, by decide⟩, fun q r => h.kx ⟨q, by decide⟩ ⟨r, by decide⟩, fun q r => h.k10 ⟨q, by decide⟩ ⟨r, by decide⟩, fun q r => h.k11 ⟨q, by decide⟩ ⟨r, by decide⟩⟩
        · intro d d' a W ⟨hF, hB, hJ⟩ hn hcl hw hk hu hself
          have q6 := (hF.same 6 (by decide)).trans e6
          have z0 : W.cell? ⟨w.heap.size, 0, none⟩ = some (.bool xa.swap) := (xA3.next hB).act.1
          have z1 : W.cell? ⟨w.heap.size, 1, none⟩ = some (.int .i64 xa.lo) := (xA3.next hB).act.2.1
          have z2 : W.cell? ⟨w.heap.size, 2, none⟩ = some (.int .i64 xa.hi) := (xA3.next hB).act.2.2.1
          have z3 : W.cell? ⟨w.heap.size, 3, none⟩ = some (.int .i64 xa.frm) := (xA3.next hB).act.2.2.2.1
          have z4 : W.cell? ⟨w.heap.size, 4, none⟩ = some (.int .i64 xa.to) := (xA3.next hB).act.2.2.2.2
          refine wp_yields (v := .agg #[.bool xa.swap, .int .i64 xa.lo, .int .i64 xa.hi, .int .i64 xa.frm, .int .i64 xa.to]) (w' := W) ?_ ?_
          · clear hJ hF hB hn hcl hw hk hu hself
            generalize a.eval = ρ at *
            go_simp
          · have h := hJ.next (d' := fun j => d' j ∧ j ≠ 5) (fun j q => hk j q.2 q.1) (Below.refl _ _)
            refine ⟨hF.put (by decide) _, hB, ?_⟩
            dsimp only
            rw [put_same a 68 _ (by rw [hF.size, hz]; decide), put_other a (s := 13) (t := 68) _ (by decide), put_other a (s := 14) (t := 68) _ (by decide), put_other a (s := 63) (t := 68) _ (by decide), put_other a (s := 64) (t := 68) _ (by decide), put_other a (s := 65) (t := 68) _ (by decide), put_other a (s := 66) (t := 68) _ (by decide), put_other a (s := 67) (t := 68) _ (by decide), put_other a (s := 69) (t := 68) _ (by decide), put_other a (s := 70) (t := 68) _ (by decide)]
            exact ⟨fun q => h.k0 ⟨q, by decide⟩, fun q => h.k1 ⟨q, by decide⟩, fun q => h.k2 ⟨q, by decide⟩, fun q => h.k3 ⟨q, by decide⟩, fun q => h.k4 ⟨q, by decide⟩, fun _ => rfl, fun q => h.k6 ⟨q, by decide⟩, fun q => h.k7 ⟨q, by decide⟩, fun q => h.k8 ⟨q, by decide⟩, fun q => h.k9 ⟨q, by decide⟩, fun q r => h.kx ⟨q, by decide⟩ ⟨r, by decide⟩, fun q r => h.k10 ⟨q, by decide⟩ ⟨r, by decide⟩, fun q r => h.k11 ⟨q, by decide⟩ ⟨r, by decide⟩⟩
        · intro d d' a W ⟨hF, hB, hJ⟩ hn hcl hw hk hu hself
          have q1 := hJ.k5 (hw 5 rfl)
          refine wp_yields (v := .slice (some ⟨W.heap.size, 0, none⟩) 1 1) (w' := W.alloc (.cells #[.bool xa.swap, .int .i64 xa.lo, .int .i64 xa.hi, .int .i64 xa.frm, .int .i64 xa.to] 40)) ?_ ?_
          · clear hJ hF hB hn hcl hw hk hu hself
            generalize a.eval = ρ at *
            go_simp
          · have h := hJ.next (d' := fun j => d' j ∧ j ≠ 6) (fun j q => hk j q.2 q.1) (Below.alloc1 W (.cells #[.bool xa.swap, .int .i64 xa.lo, .int .i64 xa.hi, .int .i64 xa.frm, .int .i64 xa.to] 40))
            refine ⟨hF.put (by decide) _, Below.next hB (Below.alloc1 W _), ?_⟩
            dsimp only
            rw [put_same a 69 _ (by rw [hF.size, hz]; decide), put_other a (s := 13) (t := 69) _ (by decide), put_other a (s := 14) (t := 69) _ (by decide), put_other a (s := 63) (t := 69) _ (by decide), put_other a (s := 64) (t := 69) _ (by decide), put_other a (s := 65) (t := 69) _ (by decide), put_other a (s := 66) (t := 69) _ (by decide), put_other a (s := 67) (t := 69) _ (by decide), put_other a (s := 68) (t := 69) _ (by decide), put_other a (s := 70) (t := 69) _ (by decide)]
            exact ⟨fun q => h.k0 ⟨q, by decide⟩, fun q => h.k1 ⟨q, by decide⟩, fun q => h.k2 ⟨q, by decide⟩, fun q => h.k3 ⟨q, by decide⟩, fun q => h.k4 ⟨q, by decide⟩, fun q => h.k5 ⟨q, by decide⟩, fun _ => ⟨_, rfl, BoxA.new W _⟩, fun q => h.k7 ⟨q, by decide⟩, fun q => h.k8 ⟨q, by decide⟩, fun q => h.k9 ⟨q, by decide⟩, fun q r => h.kx ⟨q, by decide⟩ ⟨r, by decide⟩, fun q r => h.k10 ⟨q, by decide⟩ ⟨r, by decide⟩, fun q r => h.k11 ⟨q, by decide⟩ ⟨r, by decide⟩⟩
        · intro d d' a W ⟨hF, hB, hJ⟩ hn hcl hw hk hu hself
          have q1 := hJ.k4 (hw 4 rfl)
          obtain ⟨g, q2, hg⟩ := hJ.k6 (hw 6 rfl)
          refine wp_enters (f := 50) (args := #[.agg #[.pointer q], .slice (some ⟨g, 0, none⟩) 1 1]) ?_ (HMB.out W g hB hg) ?_
          · have qf : a.eval (.func 50) = .func (.func 50) #[] #[] := rfl
            clear hJ hF hB hn hcl hw hk hu hself hg
            generalize a.eval = ρ at *
            go_simp
          · rintro e W' ⟨p, rfl, hp, b⟩
            have h := hJ.next (d' := fun j => d' j ∧ j ≠ 7) (fun j q => hk j q.2 q.1) b
            refine ⟨_, rfl, hF.put (by decide) _, Below.next hB b, ?_⟩
            dsimp only
            rw [put_same a 70 _ (by rw [hF.size, hz]; decide), put_other a (s := 13) (t := 70) _ (by decide), put_other a (s := 14) (t := 70) _ (by decide), put_other a (s := 63) (t := 70) _ (by decide), put_other a (s := 64) (t := 70) _ (by decide), put_other a (s := 65) (t := 70) _ (by decide), put_other a (s := 66) (t := 70) _ (by decide), put_other a (s := 67) (t := 70) _ (by decide), put_other a (s := 68) (t := 70) _ (by decide), put_other a (s := 69) (t := 70) _ (by decide)]
            exact ⟨fun q => h.k0 ⟨q, by decide⟩, fun q => h.k1 ⟨q, by decide⟩, fun q => h.k2 ⟨q, by decide⟩, fun q => h.k3 ⟨q, by decide⟩, fun q => h.k4 ⟨q, by decide⟩, fun q => h.k5 ⟨q, by decide⟩, fun q => h.k6 ⟨q, by decide⟩, fun _ => ⟨p, rfl, hp⟩, fun q => h.k8 ⟨q, by decide⟩, fun q => h.k9 ⟨q, by decide⟩, fun q r => h.kx ⟨q, by decide⟩ ⟨r, by decide⟩, fun q r => h.k10 ⟨q, by decide⟩ ⟨r, by decide⟩, fun q r => h.k11 ⟨q, by decide⟩ ⟨r, by decide⟩⟩
        · intro d d' a W ⟨hF, hB, hJ⟩ hn hcl hw hk hu hself
          refine wp_yields (v := .pointer (some ⟨W.heap.size, 0, none⟩)) (w' := W.alloc (.cells #[.pointer none] 26)) ?_ ?_
          · clear hJ hF hB hn hcl hw hk hu hself
            generalize a.eval = ρ at *
            go_simp
          · have h := hJ.next (d' := fun j => d' j ∧ j ≠ 8) (fun j q => hk j q.2 q.1) (Below.alloc1 W (.cells #[.pointer none] 26))
            refine ⟨hF.put (by decide) _, Below.next hB (Below.alloc1 W _), ?_⟩
            dsimp only
            rw [put_same a 13 _ (by rw [hF.size, hz]; decide), put_other a (s := 14) (t := 13) _ (by decide), put_other a (s := 63) (t := 13) _ (by decide), put_other a (s := 64) (t := 13) _ (by decide), put_other a (s := 65) (t := 13) _ (by decide), put_other a (s := 66) (t := 13) _ (by decide), put_other a (s := 67) (t := 13) _ (by decide), put_other a (s := 68) (t := 13) _ (by decide), put_other a (s := 69) (t := 13) _ (by decide), put_other a (s := 70) (t := 13) _ (by decide)]
            exact ⟨fun q => h.k0 ⟨q, by decide⟩, fun q => h.k1 ⟨q, by decide⟩, fun q => h.k2 ⟨q, by decide⟩, fun q => h.k3 ⟨q, by decide⟩, fun q => h.k4 ⟨q, by decide⟩, fun q => h.k5 ⟨q, by decide⟩, fun q => h.k6 ⟨q, by decide⟩, fun q => h.k7 ⟨q, by decide⟩, fun _ => ⟨_, _, rfl, hB.size, Boxed.new W _ _⟩, fun q => h.k9 ⟨q, by decide⟩, fun _ q e => by obtain ⟨j, y, ej, _, bj⟩ := hJ.k9 (hk 9 (by decide) q); rw [ej] at e; have := bj.lt; simp at e <;> omega, fun _ q => (hn (hcl 10 _ 8 rfl rfl (hk 10 (by decide) q))).elim, fun q r => h.k11 ⟨q, by decide⟩ ⟨r, by decide⟩⟩
        · intro d d' a W ⟨hF, hB, hJ⟩ hn hcl hw hk hu hself
          refine wp_yields (v := .pointer (some ⟨W.heap.size, 0, none⟩)) (w' := W.alloc (.cells #[.pointer none] 26)) ?_ ?_
          · clear hJ hF hB hn hcl hw hk hu hself
            generalize a.eval = ρ at *
            go_simp
          · have h := hJ.next (d' := fun j => d' j ∧ j ≠ 9) (fun j q => hk j q.2 q.1) (Below.alloc1 W (.cells #[.pointer none] 26))
            refine ⟨hF.put (by decide) _, Below.next hB (Below.alloc1 W _), ?_⟩
            dsimp only
            rw [put_same a 14 _ (by rw [hF.size, hz]; decide), put_other a (s := 13) (t := 14) _ (by decide), put_other a (s := 63) (t := 14) _ (by decide), put_other a (s := 64) (t := 14) _ (by decide), put_other a (s := 65) (t := 14) _ (by decide), put_other a (s := 66) (t := 14) _ (by decide), put_other a (s := 67) (t := 14) _ (by decide), put_other a (s := 68) (t := 14) _ (by decide), put_other a (s := 69) (t := 14) _ (by decide), put_other a (s := 70) (t := 14) _ (by decide)]
            exact ⟨fun q => h.k0 ⟨q, by decide⟩, fun q => h.k1 ⟨q, by decide⟩, fun q => h.k2 ⟨q, by decide⟩, fun q => h.k3 ⟨q, by decide⟩, fun q => h.k4 ⟨q, by decide⟩, fun q => h.k5 ⟨q, by decide⟩, fun q => h.k6 ⟨q, by decide⟩, fun q => h.k7 ⟨q, by decide⟩, fun q => h.k8 ⟨q, by decide⟩, fun _ => ⟨_, _, rfl, hB.size, Boxed.new W _ _⟩, fun q _ e => by obtain ⟨j, y, ej, _, bj⟩ := hJ.k8 (hk 8 (by decide) q); rw [ej] at e; have := bj.lt; simp at e <;> omega, fun q r => h.k10 ⟨q, by decide⟩ ⟨r, by decide⟩, fun _ q => (hn (hcl 11 _ 9 rfl rfl (hk 11 (by decide) q))).elim⟩
        · intro d d' a W ⟨hF, hB, hJ⟩ hn hcl hw hk hu hself
          obtain ⟨i, y, q1, hi, hb⟩ := hJ.k8 (hw 8 rfl)
          obtain ⟨p, q2, hp⟩ := hJ.k3 (hw 3 rfl)
          have z0 := hb.cell
          have z1 := hb.frozen
          refine wp_skips (w' := W.setCell ⟨i, 0, none⟩ (.pointer p)) ?_ ?_
          · clear hJ hF hB hn hcl hw hk hu hself hp hb
            generalize a.eval = ρ at *
            go_simp
          · exact ⟨hF, hB.setCell (p := ⟨i, 0, none⟩) hi _, hJ.put1 hk (hw 8 rfl) (hw 3 rfl) hn q1 q2 hb⟩
        · intro d d' a W ⟨hF, hB, hJ⟩ hn hcl hw hk hu hself
          obtain ⟨i, y, q1, hi, hb⟩ := hJ.k9 (hw 9 rfl)
          obtain ⟨p, q2, hp⟩ := hJ.k7 (hw 7 rfl)
          have z0 := hb.cell
          have z1 := hb.frozen
          refine wp_skips (w' := W.setCell ⟨i, 0, none⟩ (.pointer p)) ?_ ?_
          · clear hJ hF hB hn hcl hw hk hu hself hp hb
            generalize a.eval = ρ at *
            go_simp
          · exact ⟨hF, hB.setCell (p := ⟨i, 0, none⟩) hi _, hJ.put2 hk (hw 9 rfl) (hw 7 rfl) hn q1 q2 hb⟩
      · intro d a W ⟨hF, hB, hJ⟩ hall
        obtain ⟨i5, p5, E1, hi5, hbi5, hp5⟩ := hJ.k10 (hall 8 (by decide)) (hall 10 (by decide))
        obtain ⟨i6, p6, E2, hi6, hbi6, hp6⟩ := hJ.k11 (hall 9 (by decide)) (hall 11 (by decide))
        clear hJ hall
        rw [hF.shape (by rw [hz]; decide)]
        clear hF
        simp only [List.foldl]
        rw [E1, E2]
        clear E1 E2
        generalize a.eval (.tmp 63) = z63
        generalize a.eval (.tmp 64) = z64
        generalize a.eval (.tmp 65) = z65
        generalize a.eval (.tmp 66) = z66
        generalize a.eval (.tmp 67) = z67
        generalize a.eval (.tmp 68) = z68
        generalize a.eval (.tmp 69) = z69
        generalize a.eval (.tmp 70) = z70
        rw [HA0.out]
        simp only [Act.put, List.setIfInBounds_toArray, List.set_cons_zero, List.set_cons_succ]
        have B4 := Below.next B3 hB
        have x94 := bx_next x93 hB
        have hbi4 := bx_next hbi hB
        have hbj4 := bx_next hbj hB
        have hm4 := hm3.below hB
        have hp4 := hp.below hB
        have hq4 := hq.below hB
        generalize hW4 : W = w4 at *
        clear hB x93 xA3 xB3 hm3 HMA HMB B3 hz HA0 e11 e12 e6 e7 hi5 hi6 hW4 hbi hbj hp hq
        clear a a0
        have hmg := merge_any w4 m p q M LA LB hm4 hp4 hq4 (.inr GM.out) (.inr GA.out) (.inr GB.out)
        unfold MergePost at hmg
        rw [HMR.out] at hmg
        have HMG := Lib.hid hmg
        clear hmg hm4 hp4 hq4
        have c9 := x94.cell
        have c11 := hbi4.cell
        have c12 := hbj4.cell
        go_wp2_with (fail)
        go_at_call 44
        refine HMG.out.mono ?_
        rintro e w5 ⟨pz, vz, rfl, hz5, ho5, b5⟩
        obtain ⟨I5, k5, rfl⟩ := ho5.sliced
        clear HMG ho5 c9 c11 c12
        go_upto_region 7 with (fail)
        generalize hb : World.alloc w5 _ = w6
        have dw6 : Below w5.heap.size w5 w6 := hb ▸ Below.alloc1 w5 _
        have y15 : Boxed w6 w5.heap.size 26 (.pointer pz) := hb ▸ Boxed.new w5 _ _
        clear hb
        have b56 := Below.next b5 dw6
        have B6 := Below.next B4 b56
        have y13 := bx_next hbi5 b56
        have y14 := bx_next hbi6 b56
        have r5 := hp5.below b56
        have r6 := hp6.below b56
        have rz := hz5.below dw6
        try dsimp only at rz
        clear b5 dw6 b56 hbi5 hbi6 hp5 hp6 hz5 x94 hbi4 hbj4 B4
        have c13 := y13.cell
        have c14 := y14.cell
        have c15 := y15.cell
        have tk1 : True := trivial
        have tk2 : True := trivial
        have b0 := (Below.refl w6.heap.size w6).drew
        have HS : ∀ W, Below w6.heap.size w6 W → W.cell? ⟨i5, 0, none⟩ = some (.pointer p5) ∧ W.cell? ⟨i6, 0, none⟩ = some (.pointer p6) ∧ W.cell? ⟨w5.heap.size, 0, none⟩ = some (.pointer pz) := fun W hW => ⟨(bx_next y13 hW).cell, (bx_next y14 hW).cell, (bx_next y15 hW).cell⟩
        have HS' := Lib.hid HS
        clear HS
        go_wp2_with (fail)
        go_region_held3 (fun W => W.cell? ⟨i5, 0, none⟩ = some (.pointer p5) ∧ W.cell? ⟨i6, 0, none⟩ = some (.pointer p6) ∧ W.cell? ⟨w5.heap.size, 0, none⟩ = some (.pointer pz))
          (first | (exact ⟨c13, c14, c15⟩) | (exact HS'.out _ b11) | (exact HS'.out _ b10) | (exact HS'.out _ b9) | (exact HS'.out _ b8) | (exact HS'.out _ b7))
          ((first
            | (go_at_call 36; have _t := tk1; clear tk1; refine (HEQ.out _ p5 p6 (r5.below (by exact b0)) (r6.below (by exact b0))).mono ?_; rintro e w7 ⟨rfl, b7'⟩; have b7 : Below w6.heap.size w6 w7 := Below.next b0 b7')
            | (go_at_call 43; have _t := tk2; clear tk2; refine (HLE.out _ p5 (r5.below (by exact b7))).mono ?_; rintro e w8 ⟨rfl, b8'⟩; have b8 := Below.next b7 b8')
            | (go_at_call 43; refine (HLE.out _ p6 (r6.below (by exact b8))).mono ?_; rintro e w9 ⟨rfl, b9'⟩; have b9 := Below.next b8 b9')
            | (go_at_call 36; refine (HEQ.out _ pz p5 (rz.below (by exact b9)) (r5.below (by exact b9))).mono ?_; rintro e w10 ⟨rfl, b10'⟩; have b10 := Below.next b9 b10')
            | (go_at_call 18; refine (awake_any _).mono ?_; rintro e w11 ⟨rfl, b11'⟩; have b11 := Below.next b10 b11')))
        go_wp2_with (fail)
        go_ret
        exact ⟨rfl, Below.next B6 b11⟩
/-- SpanDisjoint answers true. -/
theorem spanDisjoint_any (w : World) (size : Int) (A : Option Addr) (l : List Ac) (c : Nat) (xa xb : Ac) (hA : Acts w A l) (hlc : l.length ≤ c) :
    Calls Try.prog 17 #[.int .i64 size, .slice A l.length c, .agg #[.bool xa.swap, .int .i64 xa.lo, .int .i64 xa.hi, .int .i64 xa.frm, .int .i64 xa.to], .agg #[.bool xb.swap, .int .i64 xb.lo, .int .i64 xb.hi, .int .i64 xb.frm, .int .i64 xb.to]] w (FromsPost w) := by
  by_cases h : (1 ≤ size ∧ size ≤ 1099511627776) ∧ (l.length : Int) ≤ 60
  · by_cases hab : apartA xa xb
    · exact disj_main w size A l _ c xa xb rfl hA hlc h.1.1 h.1.2 h.2 hab
    · exact disj_meet w size A l _ c xa xb rfl hA hlc h.1.1 h.1.2 h.2 (by unfold apartA at hab; omega)
  · exact disj_no w size A _ c xa xb h
end Go.Proofs.Ytfmplibjhohpgaa
