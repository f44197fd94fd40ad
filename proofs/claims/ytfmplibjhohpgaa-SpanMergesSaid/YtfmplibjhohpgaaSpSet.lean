/- The walks over Set and Count of package span. -/
import Derived.Test.YtfmplibjhohpgaaSpApi
namespace Go.Proofs.Ytfmplibjhohpgaa
open Go.RowKit

/-- Block b holds one value, and is no node. -/
def BoxT (W : World) (b : Nat) (v : Value) : Prop := ∃ t : TypeId, t ≠ 116 ∧ W.heap[b]? = some (.cells #[v] t (0, 0))
theorem BoxT.new (w : World) (v : Value) (t : TypeId) (h : t ≠ 116) : BoxT (w.alloc (.cells #[v] t)) w.heap.size v := ⟨t, h, heap_alloc_new w _⟩
theorem BoxT.below {n : Nat} {W W' : World} (hB : Below n W W') {b : Nat} (hb : b < n) {v : Value} (h : BoxT W b v) : BoxT W' b v := by
  obtain ⟨t, h1, h2⟩ := h; exact ⟨t, h1, (hB.block b hb).trans h2⟩
theorem BoxT.lt {W : World} {b : Nat} {v : Value} (h : BoxT W b v) : b < W.heap.size := by
  obtain ⟨t, _, h⟩ := h
  rcases Nat.lt_or_ge b W.heap.size with hlt | hge
  · exact hlt
  · rw [Array.getElem?_eq_none hge] at h; cases h
theorem BoxT.next {W W' : World} (hB : Below W.heap.size W W') {b : Nat} {v : Value} (h : BoxT W b v) : BoxT W' b v := h.below hB h.lt
theorem BoxT.alloc {W : World} {b : Nat} {v : Value} (h : BoxT W b v) (o : Obj) : BoxT (W.alloc o) b v := h.next ((Below.refl _ _).alloc (Nat.le_refl _) _)
theorem BoxT.cell {W : World} {b : Nat} {v : Value} (h : BoxT W b v) : W.cell? ⟨b, 0, none⟩ = some v := by
  obtain ⟨t, _, h⟩ := h; simp [World.cell?, h]
theorem BoxT.frozen {W : World} {b : Nat} {v : Value} (h : BoxT W b v) : W.frozen? ⟨b, 0, none⟩ = false := by
  obtain ⟨t, _, h⟩ := h; simp [World.frozen?, h]
theorem BoxT.other {W : World} {b : Nat} {v : Value} (h : BoxT W b v) : Other W b := by
  obtain ⟨t, h1, h⟩ := h; exact ⟨_, t, _, h, h1⟩
theorem Below.alloc1 (w : World) (o : Obj) : Below w.heap.size w (w.alloc o) := (Below.refl _ _).alloc (Nat.le_refl _) _
theorem Below.alloc2 (w : World) (o o' : Obj) : Below w.heap.size w ((w.alloc o).alloc o') := Below.next (Below.alloc1 w o) (Below.alloc1 _ o')

def SetPost (w : World) (L : List (Int × Int)) (lo hi tag : Int) (e : Ending) (w' : World) : Prop :=
  ∃ p, e = .returned (.tuple #[.agg #[.pointer p], .int .i64 (setR L lo hi tag).1]) ∧ Rep w' p (setR L lo hi tag).2 ∧ Below w.heap.size w w'
set_option maxRecDepth 100000 in
set_option maxHeartbeats 400000 in
theorem set_err (w : World) (p : Option Addr) (L : List (Int × Int)) (lo hi tag : Int) (h : Rep w p L) (x : Int) (hx : Hid (rangesR L lo hi = x)) (hx0 : (x == 0) = false) :
    Calls Try.prog 25 #[.agg #[.pointer p], .int .i64 lo, .int .i64 hi, .int .i64 tag] w fun e w' => e = .returned (.tuple #[.agg #[.pointer none], .int .i64 x]) ∧ Below w.heap.size w w' := by
  have b0 := BoxT.new w (.pointer p) 26 (by decide)
  have hr := ranges_any ((w.alloc (.cells #[.pointer p] 26)).alloc (.cells #[.pointer none] 26)) p L lo hi (h.below (Below.alloc2 _ _ _))
  rw [hx.out] at hr
  have HR := Lib.hid hr
  have hx1 : (x != 0) = true := by simpa using hx0
  clear hr
  go_enter Try.func25, Try.ntmps25
  go_wp2_with (fail)
  go_at_call 57
  refine HR.out.mono ?_
  clear HR
  rintro e w1 ⟨rfl, hb1⟩
  have b1 := ((BoxT.new (w.alloc (.cells #[.pointer p] 26)) (.pointer none) 26 (by decide)).next hb1)
  rw [World.size_alloc] at b1
  have c1 := b1.cell
  have f1 := b1.frozen
  have z1 := b1.lt
  go_wp2_with (fail)
  refine bodyPost_ret (v := .tuple #[.agg #[.pointer none], .int .i64 x]) (by simp [results, Try.results25, go_sem, c1]) rfl ⟨rfl, (Below.next (Below.alloc2 _ _ _) hb1).setCell (p := ⟨w.heap.size + 1, 0, none⟩) (Nat.le_succ _) _⟩
set_option maxRecDepth 100000 in
set_option maxHeartbeats 1000000 in
theorem set_tag (w : World) (a : Addr) (L : List (Int × Int)) (lo hi tag : Int) (h : Rep w (some a) L) (hx : Hid (rangesR L lo hi = 0)) (ht : tag < 0 ∨ 16 ≤ tag) :
    Calls Try.prog 25 #[.agg #[.pointer (some a)], .int .i64 lo, .int .i64 hi, .int .i64 tag] w fun e w' => e = .returned (.tuple #[.agg #[.pointer none], .int .i64 2]) ∧ Below w.heap.size w w' := by
  have hr := ranges_any ((w.alloc (.cells #[.pointer (some a)] 26)).alloc (.cells #[.pointer none] 26)) (some a) L lo hi (h.below (Below.alloc2 _ _ _))
  rw [hx.out] at hr
  have HR := Lib.hid hr
  clear hr
  go_enter Try.func25, Try.ntmps25
  go_wp2_with (fail)
  go_at_call 57
  refine HR.out.mono ?_
  clear HR
  rintro e w1 ⟨rfl, hb1⟩
  have a1 := (((BoxT.new w (.pointer (some a)) 26 (by decide)).alloc (.cells #[.pointer none] 26)).next hb1)
  have b1 := ((BoxT.new (w.alloc (.cells #[.pointer (some a)] 26)) (.pointer none) 26 (by decide)).next hb1)
  rw [World.size_alloc] at b1
  have hB1 : Below w.heap.size w w1 := Below.next (Below.alloc2 _ _ _) hb1
  clear hb1
  have c1 := b1.cell
  have f1 := b1.frozen
  have z1 := b1.lt
  go_wp2_with (fail)
  go_at_call 52
  refine (isTag_no tag w1 ht).mono ?_
  rintro e w' ⟨rfl, rfl⟩
  go_wp2_with (fail)
  refine bodyPost_ret (v := .tuple #[.agg #[.pointer none], .int .i64 2]) (by simp [results, Try.results25, go_sem, c1]) rfl ⟨rfl, hB1.setCell (p := ⟨w.heap.size + 1, 0, none⟩) (Nat.le_succ _) _⟩
set_option maxRecDepth 100000 in
set_option maxHeartbeats 1000000 in
theorem set_yes (w : World) (a : Addr) (L : List (Int × Int)) (lo hi tag : Int) (h : Rep w (some a) L) (hx : Hid (rangesR L lo hi = 0)) (T : Tr) (hT : Tree w (some a) T) (bT : T.Bal) (oT : T.Ok) (hp1 : 1 ≤ T.pcs) (hp2 : T.pcs ≤ 1099511627776) (h0 : 0 ≤ lo) (h1 : lo ≤ hi) (h2 : hi ≤ T.pcs) (ht : 0 ≤ tag ∧ tag < 16) (hl : ¬ 4096 < ((setL T.list lo hi tag).length : Int)) :
    Calls Try.prog 25 #[.agg #[.pointer (some a)], .int .i64 lo, .int .i64 hi, .int .i64 tag] w fun e w' => ∃ p D, e = .returned (.tuple #[.agg #[.pointer p], .int .i64 0]) ∧ Tree w' p D ∧ D.Bal ∧ D.list = setL T.list lo hi tag ∧ Below w.heap.size w w' := by
  obtain ⟨s1, s2, s3, s4, s5, s6⟩ := Tr.split_list T lo oT bT h0 (by omega)
  obtain ⟨r1, r2, r3, r4, r5, r6⟩ := Tr.split_list (Tr.split T lo).2 (hi - lo) s4 s2 (by omega) (by omega)
  obtain ⟨t1, t2⟩ := Tr.split_takeP T lo oT h0 (by omega)
  obtain ⟨t3, t4⟩ := Tr.split_takeP (Tr.split T lo).2 (hi - lo) s4 (by omega) (by omega)
  have u1 : (Tr.leaf (hi - lo) tag).Ok := by rw [Tr.ok_list, Tr.leaf_list]; exact leafL_ok (by omega) ht.1 ht.2
  have u2 : (Tr.leaf (hi - lo) tag).pcs = hi - lo := by rw [Tr.pcs_list, Tr.leaf_list]; exact leafL_total _ _
  have u3 : (Tr.concat (Tr.split T lo).1 (Tr.leaf (hi - lo) tag)).Ok := by rw [Tr.ok_list, Tr.concat_list]; exact concatL_ok ((Tr.ok_list _).1 s3) ((Tr.ok_list _).1 u1)
  have u4 : (Tr.concat (Tr.split T lo).1 (Tr.leaf (hi - lo) tag)).pcs = hi := by rw [Tr.pcs_list, Tr.concat_list, concatL_total, ← Tr.pcs_list, ← Tr.pcs_list, s5, u2]; omega
  have eD : (Tr.concat (Tr.concat (Tr.split T lo).1 (Tr.leaf (hi - lo) tag)) (Tr.split (Tr.split T lo).2 (hi - lo)).2).list = setL T.list lo hi tag := by
    rw [Tr.concat_list, Tr.concat_list, t1, t4, t2, Tr.leaf_list]; rfl
  have uD0 : Tr.concat (Tr.concat (Tr.split T lo).1 (Tr.leaf (hi - lo) tag)) (Tr.split (Tr.split T lo).2 (hi - lo)).2 ≠ .nil := by
    intro e0
    rw [e0] at eD
    have e1 := setL_total ((Tr.ok_list T).1 oT) (tag := tag) h0 (by omega : lo ≤ hi) (by rw [← Tr.pcs_list]; omega)
    rw [← eD, show Tr.total Tr.nil.list = 0 from rfl, ← Tr.pcs_list] at e1
    omega
  have uD := Lib.hid uD0
  have ED := Lib.hid eD
  have bD := Tr.concat_bal _ _ (Tr.concat_bal _ _ s1 (Tr.leaf_bal (hi - lo) tag)) r2
  have hnm : (Tr.concat (Tr.concat (Tr.split T lo).1 (Tr.leaf (hi - lo) tag)) (Tr.split (Tr.split T lo).2 (hi - lo)).2).num = (setL T.list lo hi tag).length := by rw [Tr.num_list, eD]
  have HN := Lib.hid hnm
  clear t1 t2 t3 t4 eD uD0 hnm
  have b0 : 0 ≤ hi - lo := by omega
  have b00 : hi - lo ≤ 1099511627776 := by omega
  have hr := ranges_any ((w.alloc (.cells #[.pointer (some a)] 26)).alloc (.cells #[.pointer none] 26)) (some a) L lo hi (h.below (Below.alloc2 _ _ _))
  rw [hx.out] at hr
  have HR := Lib.hid hr
  clear hr
  go_enter Try.func25, Try.ntmps25
  go_wp2_with (fail)
  go_at_call 57
  refine HR.out.mono ?_
  clear HR
  rintro e w1 ⟨rfl, hb1⟩
  have a1 := (((BoxT.new w (.pointer (some a)) 26 (by decide)).alloc (.cells #[.pointer none] 26)).next hb1)
  have b1 := ((BoxT.new (w.alloc (.cells #[.pointer (some a)] 26)) (.pointer none) 26 (by decide)).next hb1)
  rw [World.size_alloc] at b1
  have hB1 : Below w.heap.size w w1 := Below.next (Below.alloc2 _ _ _) hb1
  clear hb1
  have c1 := a1.cell
  go_wp2_with (fail)
  go_at_call 52
  refine (isTag_yes tag w1 ht).mono ?_
  rintro e w' ⟨rfl, rfl⟩
  go_wp2_with (fail)
  go_at_call 59
  refine (split_any T w1 (some a) lo (hT.below hB1) bT oT h0 (by omega) hp2).mono ?_
  rintro e w2 ⟨pa, pr, rfl, hA, hR, hb2⟩
  have hB2 := Below.next hB1 hb2
  go_wp2_with (fail)
  go_at_call 59
  refine (split_any (Tr.split T lo).2 w2 pr (hi - lo) hR s2 s4 (by omega) (by omega) (by omega)).mono ?_
  rintro e w3 ⟨pm, pb, rfl, hM, hB, hb3⟩
  have hB3 := Below.next hB2 hb3
  go_wp2_with (fail)
  go_at_call 62
  refine (leaf_any (hi - lo) tag w3 (by omega) (by omega) ht.1 ht.2).mono ?_
  rintro e w4 ⟨pl, rfl, hL4, hb4⟩
  have hB4 := Below.next hB3 hb4
  go_wp2_with (fail)
  go_at_call 61
  refine (concat_any (Tr.split T lo).1 (Tr.leaf (hi - lo) tag) w4 pa pl ((hA.below hb3).below hb4) hL4 s1 (Tr.leaf_bal _ _) s3 u1 (by rw [u2]; omega)).mono ?_
  rintro e w5 ⟨pc, rfl, hC, hb5⟩
  have hB5 := Below.next hB4 hb5
  go_wp2_with (fail)
  go_at_call 61
  refine (concat_any _ (Tr.split (Tr.split T lo).2 (hi - lo)).2 w5 pc pb hC ((hB.below hb4).below hb5) (Tr.concat_bal _ _ s1 (Tr.leaf_bal _ _)) r2 u3 r4 (by rw [u4]; omega)).mono ?_
  rintro e w6 ⟨pd, rfl, hD, hb6⟩
  have hB6 := Below.next hB5 hb6
  obtain ⟨d, rfl⟩ : ∃ d, pd = some d := by
    cases hD0 : Tr.concat (Tr.concat (Tr.split T lo).1 (Tr.leaf (hi - lo) tag)) (Tr.split (Tr.split T lo).2 (hi - lo)).2 with
    | nil => exact (uD.out hD0).elim
    | node _ _ _ _ => rw [hD0] at hD; obtain ⟨b, _, _, hh, _⟩ := hD; exact ⟨_, hh⟩
  have b6 := ((((b1.next hb2).next hb3).next hb4).next hb5).next hb6
  go_wp2_with (fail)
  go_at_call 60
  refine (few_yes w6 d _ hD uD.out (by rw [HN.out]; omega)).mono ?_
  rintro e w7 ⟨rfl, hb7⟩
  have hB7 := Below.next hB6 hb7
  have b7 := b6.next hb7
  have c7 := b7.cell
  have f7 := b7.frozen
  have z7 := b7.lt
  go_wp2_with (fail)
  refine bodyPost_ret (v := .tuple #[.agg #[.pointer (some d)], .int .i64 0]) (by simp [results, Try.results25, go_sem, c7]) rfl ⟨_, _, rfl, (hD.below hb7).set_ b7.other _ _ _, bD, ED.out, hB7.setCell (p := ⟨w.heap.size + 1, 0, none⟩) (Nat.le_succ _) _⟩
set_option maxRecDepth 100000 in
set_option maxHeartbeats 1000000 in
theorem set_full (w : World) (a : Addr) (L : List (Int × Int)) (lo hi tag : Int) (h : Rep w (some a) L) (hx : Hid (rangesR L lo hi = 0)) (T : Tr) (hT : Tree w (some a) T) (bT : T.Bal) (oT : T.Ok) (hp1 : 1 ≤ T.pcs) (hp2 : T.pcs ≤ 1099511627776) (h0 : 0 ≤ lo) (h1 : lo ≤ hi) (h2 : hi ≤ T.pcs) (ht : 0 ≤ tag ∧ tag < 16) (hl : 4096 < ((setL T.list lo hi tag).length : Int)) :
    Calls Try.prog 25 #[.agg #[.pointer (some a)], .int .i64 lo, .int .i64 hi, .int .i64 tag] w fun e w' => e = .returned (.tuple #[.agg #[.pointer none], .int .i64 5]) ∧ Below w.heap.size w w' := by
  obtain ⟨s1, s2, s3, s4, s5, s6⟩ := Tr.split_list T lo oT bT h0 (by omega)
  obtain ⟨r1, r2, r3, r4, r5, r6⟩ := Tr.split_list (Tr.split T lo).2 (hi - lo) s4 s2 (by omega) (by omega)
  obtain ⟨t1, t2⟩ := Tr.split_takeP T lo oT h0 (by omega)
  obtain ⟨t3, t4⟩ := Tr.split_takeP (Tr.split T lo).2 (hi - lo) s4 (by omega) (by omega)
  have u1 : (Tr.leaf (hi - lo) tag).Ok := by rw [Tr.ok_list, Tr.leaf_list]; exact leafL_ok (by omega) ht.1 ht.2
  have u2 : (Tr.leaf (hi - lo) tag).pcs = hi - lo := by rw [Tr.pcs_list, Tr.leaf_list]; exact leafL_total _ _
  have u3 : (Tr.concat (Tr.split T lo).1 (Tr.leaf (hi - lo) tag)).Ok := by rw [Tr.ok_list, Tr.concat_list]; exact concatL_ok ((Tr.ok_list _).1 s3) ((Tr.ok_list _).1 u1)
  have u4 : (Tr.concat (Tr.split T lo).1 (Tr.leaf (hi - lo) tag)).pcs = hi := by rw [Tr.pcs_list, Tr.concat_list, concatL_total, ← Tr.pcs_list, ← Tr.pcs_list, s5, u2]; omega
  have eD : (Tr.concat (Tr.concat (Tr.split T lo).1 (Tr.leaf (hi - lo) tag)) (Tr.split (Tr.split T lo).2 (hi - lo)).2).list = setL T.list lo hi tag := by
    rw [Tr.concat_list, Tr.concat_list, t1, t4, t2, Tr.leaf_list]; rfl
  have uD0 : Tr.concat (Tr.concat (Tr.split T lo).1 (Tr.leaf (hi - lo) tag)) (Tr.split (Tr.split T lo).2 (hi - lo)).2 ≠ .nil := by
    intro e0
    rw [e0] at eD
    have e1 := setL_total ((Tr.ok_list T).1 oT) (tag := tag) h0 (by omega : lo ≤ hi) (by rw [← Tr.pcs_list]; omega)
    rw [← eD, show Tr.total Tr.nil.list = 0 from rfl, ← Tr.pcs_list] at e1
    omega
  have uD := Lib.hid uD0
  have ED := Lib.hid eD
  have bD := Tr.concat_bal _ _ (Tr.concat_bal _ _ s1 (Tr.leaf_bal (hi - lo) tag)) r2
  have hnm : (Tr.concat (Tr.concat (Tr.split T lo).1 (Tr.leaf (hi - lo) tag)) (Tr.split (Tr.split T lo).2 (hi - lo)).2).num = (setL T.list lo hi tag).length := by rw [Tr.num_list, eD]
  have HN := Lib.hid hnm
  clear t1 t2 t3 t4 eD uD0 hnm
  have b0 : 0 ≤ hi - lo := by omega
  have b00 : hi - lo ≤ 1099511627776 := by omega
  have hr := ranges_any ((w.alloc (.cells #[.pointer (some a)] 26)).alloc (.cells #[.pointer none] 26)) (some a) L lo hi (h.below (Below.alloc2 _ _ _))
  rw [hx.out] at hr
  have HR := Lib.hid hr
  clear hr
  go_enter Try.func25, Try.ntmps25
  go_wp2_with (fail)
  go_at_call 57
  refine HR.out.mono ?_
  clear HR
  rintro e w1 ⟨rfl, hb1⟩
  have a1 := (((BoxT.new w (.pointer (some a)) 26 (by decide)).alloc (.cells #[.pointer none] 26)).next hb1)
  have b1 := ((BoxT.new (w.alloc (.cells #[.pointer (some a)] 26)) (.pointer none) 26 (by decide)).next hb1)
  rw [World.size_alloc] at b1
  have hB1 : Below w.heap.size w w1 := Below.next (Below.alloc2 _ _ _) hb1
  clear hb1
  have c1 := a1.cell
  go_wp2_with (fail)
  go_at_call 52
  refine (isTag_yes tag w1 ht).mono ?_
  rintro e w' ⟨rfl, rfl⟩
  go_wp2_with (fail)
  go_at_call 59
  refine (split_any T w1 (some a) lo (hT.below hB1) bT oT h0 (by omega) hp2).mono ?_
  rintro e w2 ⟨pa, pr, rfl, hA, hR, hb2⟩
  have hB2 := Below.next hB1 hb2
  go_wp2_with (fail)
  go_at_call 59
  refine (split_any (Tr.split T lo).2 w2 pr (hi - lo) hR s2 s4 (by omega) (by omega) (by omega)).mono ?_
  rintro e w3 ⟨pm, pb, rfl, hM, hB, hb3⟩
  have hB3 := Below.next hB2 hb3
  go_wp2_with (fail)
  go_at_call 62
  refine (leaf_any (hi - lo) tag w3 (by omega) (by omega) ht.1 ht.2).mono ?_
  rintro e w4 ⟨pl, rfl, hL4, hb4⟩
  have hB4 := Below.next hB3 hb4
  go_wp2_with (fail)
  go_at_call 61
  refine (concat_any (Tr.split T lo).1 (Tr.leaf (hi - lo) tag) w4 pa pl ((hA.below hb3).below hb4) hL4 s1 (Tr.leaf_bal _ _) s3 u1 (by rw [u2]; omega)).mono ?_
  rintro e w5 ⟨pc, rfl, hC, hb5⟩
  have hB5 := Below.next hB4 hb5
  go_wp2_with (fail)
  go_at_call 61
  refine (concat_any _ (Tr.split (Tr.split T lo).2 (hi - lo)).2 w5 pc pb hC ((hB.below hb4).below hb5) (Tr.concat_bal _ _ s1 (Tr.leaf_bal _ _)) r2 u3 r4 (by rw [u4]; omega)).mono ?_
  rintro e w6 ⟨pd, rfl, hD, hb6⟩
  have hB6 := Below.next hB5 hb6
  obtain ⟨d, rfl⟩ : ∃ d, pd = some d := by
    cases hD0 : Tr.concat (Tr.concat (Tr.split T lo).1 (Tr.leaf (hi - lo) tag)) (Tr.split (Tr.split T lo).2 (hi - lo)).2 with
    | nil => exact (uD.out hD0).elim
    | node _ _ _ _ => rw [hD0] at hD; obtain ⟨b, _, _, hh, _⟩ := hD; exact ⟨_, hh⟩
  have b6 := ((((b1.next hb2).next hb3).next hb4).next hb5).next hb6
  go_wp2_with (fail)
  go_at_call 60
  refine (few_no w6 d _ hD uD.out (by rw [HN.out]; omega)).mono ?_
  rintro e w7 ⟨rfl, hb7⟩
  have hB7 := Below.next hB6 hb7
  have b7 := b6.next hb7
  have c7 := b7.cell
  have f7 := b7.frozen
  have z7 := b7.lt
  go_wp2_with (fail)
  refine bodyPost_ret (v := .tuple #[.agg #[.pointer none], .int .i64 5]) (by simp [results, Try.results25, go_sem, c7]) rfl ⟨rfl, hB7.setCell (p := ⟨w.heap.size + 1, 0, none⟩) (Nat.le_succ _) _⟩
/-- Set, whatever the map and its arguments. -/
theorem set_any (w : World) (p : Option Addr) (L : List (Int × Int)) (lo hi tag : Int) (h : Rep w p L) :
    Calls Try.prog 25 #[.agg #[.pointer p], .int .i64 lo, .int .i64 hi, .int .i64 tag] w (SetPost w L lo hi tag) := by
  have err : ∀ x : Int, rangesR L lo hi = x → (x == 0) = false → setR L lo hi tag = (x, []) → Calls Try.prog 25 #[.agg #[.pointer p], .int .i64 lo, .int .i64 hi, .int .i64 tag] w (SetPost w L lo hi tag) := fun x hx hx0 hs =>
    (set_err w p L lo hi tag h x hx hx0).mono fun e w' ⟨h1, h2⟩ => ⟨none, by rw [hs]; exact h1, by rw [hs]; exact Rep.none _, h2⟩
  by_cases hne : L = []
  · exact err 1 (by unfold rangesR; rw [if_pos hne]) rfl (by unfold setR; rw [if_pos hne])
  · by_cases hr : lo < 0 ∨ hi < lo ∨ Tr.total L < hi
    · exact err 3 (by unfold rangesR; rw [if_neg hne, if_pos hr]) rfl (by unfold setR; rw [if_neg hne, if_pos hr])
    · have hx : rangesR L lo hi = 0 := by unfold rangesR; rw [if_neg hne, if_neg hr]
      obtain ⟨a, rfl⟩ : ∃ a, p = some a := by
        cases p with
        | none => exact (hne (h.nil_iff.1 rfl)).elim
        | some a => exact ⟨a, rfl⟩
      have hg := setR_good (.inr h.good.1 : L = [] ∨ Good L) lo hi tag
      obtain ⟨g, T, hT, nT, bT, oT, eT, pT, p1, p2, nm⟩ := h.good
      by_cases ht : tag < 0 ∨ 16 ≤ tag
      · have hs : setR L lo hi tag = (2, []) := by unfold setR; rw [if_neg hne, if_neg hr, if_pos ht]
        exact (set_tag w a L lo hi tag h hx ht).mono fun e w' ⟨h1, h2⟩ => ⟨none, by rw [hs]; exact h1, by rw [hs]; exact Rep.none _, h2⟩
      · by_cases hl : 4096 < ((setL L lo hi tag).length : Int)
        · have hs : setR L lo hi tag = (5, []) := by unfold setR; rw [if_neg hne, if_neg hr, if_neg ht, if_pos hl]
          exact (set_full w a L lo hi tag h hx T hT bT oT p1 p2 (by omega) (by omega) (by omega) (by omega) (by rw [eT]; exact hl)).mono fun e w' ⟨h1, h2⟩ => ⟨none, by rw [hs]; exact h1, by rw [hs]; exact Rep.none _, h2⟩
        · have hs : setR L lo hi tag = (0, setL L lo hi tag) := by unfold setR; rw [if_neg hne, if_neg hr, if_neg ht, if_neg hl]
          exact (set_yes w a L lo hi tag h hx T hT bT oT p1 p2 (by omega) (by omega) (by omega) (by omega) (by rw [eT]; exact hl)).mono fun e w' ⟨q, D, h1, h2, h3, h4, h5⟩ => ⟨q, by rw [hs]; exact h1, ⟨D, h2, h3, by rw [hs, h4, eT], hg⟩, h5⟩
end Go.Proofs.Ytfmplibjhohpgaa
