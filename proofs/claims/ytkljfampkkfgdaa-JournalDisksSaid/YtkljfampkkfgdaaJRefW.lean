/- The journal layer: the walk over Write of the reference. -/
import Derived.Test.YtkljfampkkfgdaaJRefP
namespace Go.Proofs.Ytkljfampkkfgdaa
open Go.RowKit
theorem Strs.oneR (w : World) (x : Bs) : Strs (w.alloc (.cells #[.string ⟨x.toArray⟩] 9)) (some ⟨w.heap.size, 0, none⟩) [x] := by
  obtain ⟨A, c, e, _, h⟩ := (OwnStrs.one w w.heap.size x (Nat.le_refl _)).toStrs
  simp only [List.length_singleton, Value.slice.injEq] at e
  rw [e.1]; exact h
theorem OwnStrs.keptR {w w' : World} {base : Nat} {v : Value} {l : List Bs} (h : OwnStrs w base v l) (hk : ∀ g, v.ownBlock = some g → w'.heap[g]? = w.heap[g]?) : OwnStrs w' base v l := by
  obtain ⟨h1, h2⟩ := h
  refine ⟨h1, ?_⟩
  rcases h2 with h2 | ⟨g, cap, cur, e, hg, hh, r⟩
  · exact .inl h2
  · exact .inr ⟨g, cap, cur, e, hg, (hk g (by rw [e]; rfl)).trans hh, r⟩
set_option maxRecDepth 100000 in
set_option maxHeartbeats 1000000 in
theorem rwrite_off (W : World) (A : Option Addr) (n c : Nat) (f x : Int) (s : Value) : Calls Try.prog 63 #[dkV A n c true f, .int .i64 x, s] W fun e w' => e = .returned (.tuple #[dkV A n c true f, .int .i64 70]) ∧ Below W.heap.size W w' := by
  go_enter Try.func63, Try.ntmps63
  go_wp2_with (fail)
  have r1 := heap_alloc_new (W.alloc (.cells #[Value.slice A n c, Value.bool true, Value.int .i64 f] 46)) (.cells #[Value.slice A n c, Value.bool true, Value.int .i64 f] 46)
  rw [World.size_alloc] at r1
  exact bodyPost_ret (v := .tuple #[dkV A n c true f, Value.int .i64 70]) (results_dk Try.results63 r1 _ rfl rfl) rfl ⟨rfl, Below.next (Below.new1 _ _) (Below.new1 _ _)⟩
set_option maxRecDepth 100000 in
set_option maxHeartbeats 1000000 in
theorem rwrite_range (W : World) (A : Option Addr) (n c : Nat) (f x : Int) (s : Value) (h : x < 0 ∨ (n : Int) ≤ x) : Calls Try.prog 63 #[dkV A n c false f, .int .i64 x, s] W fun e w' => e = .returned (.tuple #[dkV A n c false f, .int .i64 3]) ∧ Below W.heap.size W w' := by
  by_cases h1 : x < 0
  · clear h
    go_enter Try.func63, Try.ntmps63
    go_wp2_with (fail)
    have r1 := heap_alloc_new (W.alloc (.cells #[Value.slice A n c, Value.bool false, Value.int .i64 f] 46)) (.cells #[Value.slice A n c, Value.bool false, Value.int .i64 f] 46)
    rw [World.size_alloc] at r1
    exact bodyPost_ret (v := .tuple #[dkV A n c false f, Value.int .i64 3]) (results_dk Try.results63 r1 _ rfl rfl) rfl ⟨rfl, Below.next (Below.new1 _ _) (Below.new1 _ _)⟩
  · have h2 : x ≥ (n : Int) := by omega
    clear h
    go_enter Try.func63, Try.ntmps63
    go_wp2_with (fail)
    have r1 := heap_alloc_new (W.alloc (.cells #[Value.slice A n c, Value.bool false, Value.int .i64 f] 46)) (.cells #[Value.slice A n c, Value.bool false, Value.int .i64 f] 46)
    rw [World.size_alloc] at r1
    exact bodyPost_ret (v := .tuple #[dkV A n c false f, Value.int .i64 3]) (results_dk Try.results63 r1 _ rfl rfl) rfl ⟨rfl, Below.next (Below.new1 _ _) (Below.new1 _ _)⟩
set_option maxRecDepth 100000 in
set_option maxHeartbeats 1000000 in
theorem rwrite_arg (W : World) (A : Option Addr) (n c : Nat) (f : Int) (i : Nat) (hi : i < n) (s : Bs) (h : 64 < s.length) : Calls Try.prog 63 #[dkV A n c false f, .int .i64 i, .string ⟨s.toArray⟩] W fun e w' => e = .returned (.tuple #[dkV A n c false f, .int .i64 2]) ∧ Below W.heap.size W w' := by
  have i1 : ¬ (i : Int) < 0 := by omega
  have i2 : ¬ (i : Int) ≥ (n : Int) := by omega
  have h1 : (s.length : Int) > 64 := by omega
  clear hi
  go_enter Try.func63, Try.ntmps63
  go_wp2_with (fail)
  have r1 := heap_alloc_new (W.alloc (.cells #[Value.slice A n c, Value.bool false, Value.int .i64 f] 46)) (.cells #[Value.slice A n c, Value.bool false, Value.int .i64 f] 46)
  rw [World.size_alloc] at r1
  exact bodyPost_ret (v := .tuple #[dkV A n c false f, Value.int .i64 2]) (results_dk Try.results63 r1 _ rfl rfl) rfl ⟨rfl, Below.next (Below.new1 _ _) (Below.new1 _ _)⟩
/-- A box that holds a disk, and a box for a result. -/
structure TwoB (W w : World) (s : Nat) (A B : Option Addr) (n c m d : Nat) (o o' : Bool) (f f' : Int) : Prop where
  b0 : w.heap[s]? = some (.cells #[.slice A n c, .bool o, .int .i64 f] 46 (0, 0))
  b1 : w.heap[s + 1]? = some (.cells #[.slice B m d, .bool o', .int .i64 f'] 46 (0, 0))
  size : W.heap.size ≤ s
  below : Below W.heap.size W w
section
variable {W w w' : World} {s : Nat} {A B A' : Option Addr} {n c m d n' c' : Nat} {o o' : Bool} {f f' g' : Int}
theorem TwoB.new (W : World) (A : Option Addr) (n c : Nat) (o : Bool) (f : Int) : TwoB W ((W.alloc (.cells #[.slice A n c, .bool o, .int .i64 f] 46)).alloc (.cells #[.slice none 0 0, .bool false, .int .i64 0] 46)) W.heap.size A none n c 0 0 o false f 0 := by
  refine ⟨(heap_alloc_old _ _ (by simp)).trans (heap_alloc_new W _), ?_, Nat.le_refl _, Below.next (Below.new1 _ _) (Below.new1 _ _)⟩
  have := heap_alloc_new (W.alloc (.cells #[.slice A n c, .bool o, .int .i64 f] 46)) (.cells #[.slice none 0 0, .bool false, .int .i64 0] 46)
  rw [World.size_alloc] at this
  exact this
theorem TwoB.lt (h : TwoB W w s A B n c m d o o' f f') : s + 1 < w.heap.size := (Array.getElem?_eq_some_iff.1 h.b1).1
theorem TwoB.next (h : TwoB W w s A B n c m d o o' f f') (hB : Below w.heap.size w w') : TwoB W w' s A B n c m d o o' f f' := by
  have := h.lt
  exact ⟨(hB.block _ (by omega)).trans h.b0, (hB.block _ (by omega)).trans h.b1, h.size, Below.next h.below hB⟩
theorem TwoB.c0 (h : TwoB W w s A B n c m d o o' f f') : w.cell? ⟨s, 0, none⟩ = some (.slice A n c) := (cell_of_row w _ 0 _ _ _ h.b0).trans rfl
theorem TwoB.c1 (h : TwoB W w s A B n c m d o o' f f') : w.cell? ⟨s, 1, none⟩ = some (.bool o) := (cell_of_row w _ 1 _ _ _ h.b0).trans rfl
theorem TwoB.c2 (h : TwoB W w s A B n c m d o o' f f') : w.cell? ⟨s, 2, none⟩ = some (.int .i64 f) := (cell_of_row w _ 2 _ _ _ h.b0).trans rfl
theorem TwoB.m0 (h : TwoB W w s A B n c m d o o' f f') : w.cell? ⟨s + 1, 0, none⟩ = some (.slice B m d) := (cell_of_row w _ 0 _ _ _ h.b1).trans rfl
theorem TwoB.m1 (h : TwoB W w s A B n c m d o o' f f') : w.cell? ⟨s + 1, 1, none⟩ = some (.bool o') := (cell_of_row w _ 1 _ _ _ h.b1).trans rfl
theorem TwoB.m2 (h : TwoB W w s A B n c m d o o' f f') : w.cell? ⟨s + 1, 2, none⟩ = some (.int .i64 f') := (cell_of_row w _ 2 _ _ _ h.b1).trans rfl
theorem TwoB.fz (h : TwoB W w s A B n c m d o o' f f') (i : Nat) : w.frozen? ⟨s, i, none⟩ = false := by have := h.b0; simp [World.frozen?, this]
theorem TwoB.fz' (h : TwoB W w s A B n c m d o o' f f') (i : Nat) : w.frozen? ⟨s + 1, i, none⟩ = false := by have := h.b1; simp [World.frozen?, this]
/-- The three stores of a disk into a box. -/
abbrev set3 (w : World) (s : Nat) (A : Option Addr) (n c : Nat) (o : Bool) (f : Int) : World := ((w.setCell ⟨s, 0, none⟩ (.slice A n c)).setCell ⟨s, 1, none⟩ (.bool o)).setCell ⟨s, 2, none⟩ (.int .i64 f)
theorem set3_other (w : World) {s g : Nat} (h : g ≠ s) (A : Option Addr) (n c : Nat) (o : Bool) (f : Int) : (set3 w s A n c o f).heap[g]? = w.heap[g]? :=
  (Below.heap_setCell _ _ _ _ h).trans ((Below.heap_setCell _ _ _ _ h).trans (Below.heap_setCell _ _ _ _ h))
theorem below_set3 {W w : World} {k s : Nat} (h : Below k W w) (hs : k ≤ s) (A : Option Addr) (n c : Nat) (o : Bool) (f : Int) : Below k W (set3 w s A n c o f) :=
  ((h.setCell (p := ⟨s, 0, none⟩) hs _).setCell (p := ⟨s, 1, none⟩) hs _).setCell (p := ⟨s, 2, none⟩) hs _
theorem TwoB.put (h : TwoB W w s A B n c m d o o' f f') (A' : Option Addr) (n' c' : Nat) (p : Bool) (g' : Int) : TwoB W (set3 w s A' n' c' p g') s A' B n' c' m d p o' g' f' := by
  refine ⟨?_, (set3_other w (by omega) _ _ _ _ _).trans h.b1, h.size, below_set3 h.below h.size _ _ _ _ _⟩
  have := h.b0
  simp [World.setCell, Array.getElem?_modify, this]
theorem TwoB.put' (h : TwoB W w s A B n c m d o o' f f') (A' : Option Addr) (n' c' : Nat) (p : Bool) (g' : Int) : TwoB W (set3 w (s + 1) A' n' c' p g') s A A' n c n' c' o p f g' := by
  refine ⟨(set3_other w (by omega) _ _ _ _ _).trans h.b0, ?_, h.size, below_set3 h.below (by have := h.size; omega) _ _ _ _ _⟩
  have := h.b1
  simp [World.setCell, Array.getElem?_modify, this]
end
set_option maxRecDepth 100000 in
set_option maxHeartbeats 1000000 in
theorem rwrite_burnt (W : World) (A : Option Addr) (n c : Nat) (i : Nat) (hi : i < n) (s : Bs) (h : s.length ≤ 64) : Calls Try.prog 63 #[dkV A n c false 0, .int .i64 i, .string ⟨s.toArray⟩] W fun e w' => e = .returned (.tuple #[dkV A n c true 0, .int .i64 70]) ∧ Below W.heap.size W w' := by
  have i1 : ¬ (i : Int) < 0 := by omega
  have i2 : ¬ (i : Int) ≥ (n : Int) := by omega
  have h1 : ¬ (s.length : Int) > 64 := by omega
  obtain ⟨w1, hw1⟩ : ∃ w1, (W.alloc (.cells #[.slice A n c, .bool false, .int .i64 0] 46)).alloc (.cells #[.slice none 0 0, .bool false, .int .i64 0] 46) = w1 := ⟨_, rfl⟩
  have T1 := TwoB.new W A n c false 0
  rw [hw1] at T1
  have c0 := T1.c0
  have c1 := T1.c1
  have c2 := T1.c2
  have HBU := Lib.hid (rburn_none w1 A n c false)
  have HT1 := Lib.hid T1
  clear hi T1 h
  go_enter Try.func63, Try.ntmps63
  go_upto_region 9 with (go_at_call 77; refine HBU.out.mono ?_; rintro x w2 ⟨rfl, b2⟩
                         have T2 := HT1.out.next b2
                         have d0 := T2.c0
                         have d1 := T2.c1
                         have d2 := T2.c2
                         have f0 := T2.fz 0
                         have f1 := T2.fz 1
                         have f2 := T2.fz 2
                         have T3 := Lib.hid (T2.put A n c true 0)
                         clear T2)
  generalize hw3 : ((w2.setCell ⟨W.heap.size, 0, none⟩ (.slice A n c)).setCell ⟨W.heap.size, 1, none⟩ (.bool true)).setCell ⟨W.heap.size, 2, none⟩ (.int .i64 0) = w3
  replace T3 : Hid (TwoB W w3 W.heap.size A none n c 0 0 true false 0 0) := Lib.hid (by rw [← hw3]; exact T3.out)
  clear d0 d1 d2 f0 f1 f2 hw3
  have d0 := T3.out.c0
  have d1 := T3.out.c1
  have d2 := T3.out.c2
  have m0 := T3.out.m0
  have m1 := T3.out.m1
  have m2 := T3.out.m2
  have f0 := T3.out.fz' 0
  have f1 := T3.out.fz' 1
  have f2 := T3.out.fz' 2
  go_wp2_with (fail)
  have T4 := T3.out.put' A n c true 0
  exact bodyPost_ret (v := .tuple #[dkV A n c true 0, Value.int .i64 70]) (results_dk Try.results63 T4.b1 _ rfl rfl) rfl ⟨rfl, T4.below⟩
set_option maxRecDepth 100000 in
set_option maxHeartbeats 2000000 in
theorem rwrite_go (W : World) (n c : Nat) (A : Option Addr) (l : List (Bs × Value)) (hO : OwnRB W 0 (.slice A n c) l) (h1 : ∀ x ∈ l, x.2.oneCell' = true) (hl : l.length ≤ 100000) (f : Int) (hf : f ≠ 0) (lo : -1 ≤ f) (hi63 : f < 9223372036854775808) (i : Nat) (hi : i < n) (s : Bs) (h : s.length ≤ 64) (d : Bs) (v : Value) (pd : List Bs) (hx : l[i]? = some (d, v)) (hv : PendV W v pd) (hp : pd.length ≤ 90000) :
    Calls Try.prog 63 #[dkV A n c false f, .int .i64 i, .string ⟨s.toArray⟩] W fun e w' => ∃ A' c' v', e = .returned (.tuple #[dkV A' n c' false (fdec f), .int .i64 0]) ∧ OwnRB w' W.heap.size (.slice A' n c') (l.set i (d, v')) ∧ OwnStrs w' W.heap.size v' (pd ++ [padB s]) ∧ Below W.heap.size W w' := by
  have i1 : ¬ (i : Int) < 0 := by omega
  have i2 : ¬ (i : Int) ≥ (n : Int) := by omega
  have i3 : (i : Int) < (n : Int) := by omega
  have i4 : 0 ≤ (i : Int) := by omega
  have h6 : ¬ (s.length : Int) > 64 := by omega
  have hil : i < l.length := (List.getElem?_eq_some_iff.1 hx).1
  obtain ⟨PA, pc, rfl, hP, hPn⟩ := hv
  obtain ⟨g, rfl, hnl, -, -, hg, -, hcell, -⟩ := hO.form (by omega)
  subst hnl
  obtain ⟨k0, k1⟩ := hcell i _ hx
  simp only at k0 k1
  obtain ⟨w1, hw1⟩ : ∃ w1, (W.alloc (.cells #[.slice (some ⟨g, 0, none⟩) l.length c, .bool false, .int .i64 f] 46)).alloc (.cells #[.slice none 0 0, .bool false, .int .i64 0] 46) = w1 := ⟨_, rfl⟩
  have T1 := TwoB.new W (some ⟨g, 0, none⟩) l.length c false f
  rw [hw1] at T1
  have c0 := T1.c0
  have c1 := T1.c1
  have c2 := T1.c2
  have HBU := Lib.hid (rburn_some w1 (some ⟨g, 0, none⟩) l.length c false f hf lo hi63)
  have HT1 := Lib.hid T1
  have HO := Lib.hid hO
  have H1 := Lib.hid h1
  have HL := Lib.hid hl
  have HK0 := Lib.hid k0
  have HK1 := Lib.hid k1
  have HP := Lib.hid hP
  have HPN := Lib.hid hPn
  have HPD := Lib.hid fun w => padded_any w s h
  have HG := Lib.hid hg
  have HX := Lib.hid hx
  have HLE := Lib.hid hp
  clear hi T1 h hO h1 hl k0 k1 hP hPn hcell hf lo hi63 hg hx hp
  generalize fdec f = f' at *
  go_enter Try.func63, Try.ntmps63
  go_upto_region 10 with (go_at_call 77; refine HBU.out.mono ?_; rintro x w2 ⟨rfl, b2⟩
                          have T2 := HT1.out.next b2
                          have d0 := T2.c0
                          have d1 := T2.c1
                          have d2 := T2.c2
                          have f0 := T2.fz 0
                          have f1 := T2.fz 1
                          have f2 := T2.fz 2
                          have T3 := Lib.hid (T2.put (some ⟨g, 0, none⟩) l.length c false f')
                          clear T2)
  generalize hw3 : ((w2.setCell ⟨W.heap.size, 0, none⟩ (.slice (some ⟨g, 0, none⟩) l.length c)).setCell ⟨W.heap.size, 1, none⟩ (.bool false)).setCell ⟨W.heap.size, 2, none⟩ (.int .i64 f') = w3
  replace T3 : Hid (TwoB W w3 W.heap.size (some ⟨g, 0, none⟩) none l.length c 0 0 false false f' 0) := Lib.hid (by rw [← hw3]; exact T3.out)
  clear d0 d1 d2 f0 f1 f2 hw3
  have B3 := Lib.hid T3.out.below
  have d0 := T3.out.c0
  have k0 := cell_kept B3.out HK0.out
  have k1 := cell_kept B3.out HK1.out
  go_upto_region 11 with (fail)
  clear d0 k0 k1
  obtain ⟨w4, hw4⟩ : ∃ w4, w3.alloc (.cells #[.string ⟨d.toArray⟩, .slice PA pd.length pc] 109) = w4 := ⟨_, rfl⟩
  have b34 : Below w3.heap.size w3 w4 := hw4 ▸ Below.new1 w3 _
  have z4 : w4.heap.size = w3.heap.size + 1 := by rw [← hw4]; simp
  have r4 : w4.heap[w3.heap.size]? = some (.cells #[.string ⟨d.toArray⟩, .slice PA pd.length pc] 109 (0, 0)) := hw4 ▸ heap_alloc_new w3 _
  rw [hw4]
  obtain ⟨w5, hw5⟩ : ∃ w5, w4.alloc (.cells #[] 9) = w5 := ⟨_, rfl⟩
  have b45 : Below w4.heap.size w4 w5 := hw5 ▸ Below.new1 w4 _
  have o5 : OwnStrs w5 w4.heap.size (.slice (some ⟨w4.heap.size, 0, none⟩) 0 0) [] := hw5 ▸ OwnStrs.empty w4
  have x5 := cell_kept b45 ((cell_of_row w4 _ 1 _ _ _ r4).trans (rfl : _ = some (Value.slice PA pd.length pc)))
  have R4 := Lib.hid r4
  have Z4 := Lib.hid z4
  have B34 := Lib.hid b34
  have B35 := Lib.hid (Below.next b34 b45)
  have B45 := Lib.hid b45
  have O5 := Lib.hid o5
  have S5 := Lib.hid (((HP.out.next B3.out).next b34).next b45)
  have HLE1 := Lib.hid (show pd.length ≤ 100000 from by have := HLE.out; omega)
  have HONE := Lib.hid (show ([padB s] : List Bs).length ≤ 100000 from by simp)
  have HNUL := Lib.hid (show ([] : List Bs).length ≤ 100000 from by simp)
  clear b34 z4 r4 b45 o5 hw4
  go_upto_region 12 with (first
    | (at_builtin; refine wpList_append_strs rfl (.tmp 46) (.tmp 49) rfl w4.heap.size (.slice A6 pd.length c6) pd [padB s] (some ⟨w7.heap.size, 0, none⟩) 1 1 rfl rfl rfl O8.out (Strs.oneR w7 (padB s)) (.inl ⟨_, rfl⟩) HLE1.out HONE.out Z8.out ?_
       intro v9 w9 hO9 b9
       obtain ⟨A9, c9, rfl, -, -⟩ := hO9.slice
       rw [List.length_append, List.length_singleton] at hO9
       have B49 := (B47.out.trans ((Below.new1 w7 (.cells #[.string ⟨(padB s).toArray⟩] 9)).mono Z7.out)).trans b9
       have r9 := (B49.block w3.heap.size (by rw [Z4.out]; omega)).trans R4.out
       have x9 := (cell_of_row w9 _ 1 _ _ _ r9).trans (rfl : _ = some (Value.slice PA pd.length pc))
       have f9 : w9.frozen? ⟨w3.heap.size, 1, none⟩ = false := by simp [World.frozen?, r9])
    | (at_builtin; refine wpList_append_strs rfl (.tmp 43) (.tmp 45) rfl w4.heap.size (.slice (some ⟨w4.heap.size, 0, none⟩) 0 0) [] pd PA pd.length pc rfl rfl rfl O5.out S5.out HPN.out HNUL.out HLE1.out B45.out.size ?_
       intro v6 w6 hO6 b6
       rw [List.nil_append] at hO6
       obtain ⟨A6, c6, rfl, -, -⟩ := hO6.slice)
    | (go_at_call 59; refine (HPD.out _).mono ?_; rintro x w7 ⟨rfl, b7⟩
       have O8 := Lib.hid ((hO6.next b7).next (Below.new1 w7 (.cells #[.string ⟨(padB s).toArray⟩] 9)))
       have hz7 : w4.heap.size ≤ w7.heap.size := Nat.le_trans B45.out.size (Nat.le_trans b6.size b7.size)
       have B47 := Lib.hid ((B45.out.trans b6).trans (b7.mono (Nat.le_trans B45.out.size b6.size)))
       have Z7 := Lib.hid hz7
       have Z8 := Lib.hid (show w4.heap.size ≤ (w7.alloc (.cells #[.string ⟨(padB s).toArray⟩] 9)).heap.size from by rw [World.size_alloc]; omega)))
  have B39 : Below w3.heap.size w3 w9 := B34.out.trans (B49.mono B34.out.size)
  have B3a := B39.setCell (p := ⟨w3.heap.size, 1, none⟩) (Nat.le_refl _) (.slice A9 (pd.length + 1) c9)
  have ra : (w9.setCell ⟨w3.heap.size, 1, none⟩ (.slice A9 (pd.length + 1) c9)).heap[w3.heap.size]? = some (.cells #[.string ⟨d.toArray⟩, .slice A9 (pd.length + 1) c9] 109 (0, 0)) := by
    simp [World.setCell, Array.getElem?_modify, r9]
  have oa : OwnStrs (w9.setCell ⟨w3.heap.size, 1, none⟩ (.slice A9 (pd.length + 1) c9)) w4.heap.size (.slice A9 (pd.length + 1) c9) (pd ++ [padB s]) := OwnStrs.keptR hO9 fun j hj => Below.heap_setCell _ _ _ _ (by
    have := (World.ownsRow.lt hO9 j hj).1
    have := Z4.out
    show j ≠ w3.heap.size
    omega)
  have PV := Lib.hid oa
  have RA := Lib.hid ra
  have BA := Lib.hid B3a
  clear r9 x9 f9 hO9 b9 B49 B39 B3a ra oa O8 Z8 B47 Z7 hO6 b6 b7 hz7 x5 hw5 B35 B45 O5 S5
  generalize w9.setCell ⟨w3.heap.size, 1, none⟩ (.slice A9 (pd.length + 1) c9) = wa at *
  have TA := Lib.hid (T3.out.next BA.out)
  have OA := HO.out.next (Below.next B3.out BA.out)
  have PU := Lib.hid (rput_any wa (some ⟨g, 0, none⟩) l.length c false f' l OA H1.out HL.out i hil d A9 (pd.length + 1) c9)
  have d0 := TA.out.c0
  have d1 := TA.out.c1
  have d2 := TA.out.c2
  have e0 := (cell_of_row wa _ 0 _ _ _ RA.out).trans (rfl : _ = some (Value.string ⟨d.toArray⟩))
  have e1 := (cell_of_row wa _ 1 _ _ _ RA.out).trans (rfl : _ = some (Value.slice A9 (pd.length + 1) c9))
  clear OA
  go_wp2_with (go_at_call 64; refine PU.out.mono ?_; rintro x wb ⟨Ab, cb, rfl, hOb, bb⟩
               have TB := TA.out.next bb
               have m0 := TB.m0
               have m1 := TB.m1
               have m2 := TB.m2
               have f0 := TB.fz' 0
               have f1 := TB.fz' 1
               have f2 := TB.fz' 2)
  have hlt := TA.out.lt
  obtain ⟨gb, eb, -, -, hgb, -⟩ := hOb.form (by rw [List.length_set]; exact Nat.lt_of_le_of_lt (Nat.zero_le _) hil)
  cases eb
  have TC := TB.put' (some ⟨gb, 0, none⟩) l.length cb false f'
  refine bodyPost_ret (v := .tuple #[dkV (some ⟨gb, 0, none⟩) l.length cb false f', Value.int .i64 0]) (results_dk Try.results63 TC.b1 _ rfl rfl) rfl ⟨_, _, _, rfl, ((hOb.kept (set3_other wb (by omega) _ _ _ _ _)).mono (by have := TA.out.below.size; omega)), ?_, TC.below⟩
  have hpv : OwnStrs wb w4.heap.size (.slice A9 (pd.length + 1) c9) (pd ++ [padB s]) := OwnStrs.next PV.out bb
  refine (OwnStrs.keptR hpv fun j hj => set3_other wb ?_ _ _ _ _ _).mono (by have := T3.out.lt; have := Z4.out; omega)
  have h1 := (World.ownsRow.lt hpv j hj).1
  have h2 := T3.out.lt
  have h3 := Z4.out
  omega
/-- Write of the reference. -/
theorem rwrite_any {K : Nat → Prop} {W : World} {v : Value} {D : Dk} (h : RefV K W v D) (ok : D.Ok) (hfe : Few 1000 D) (x : Int) (s : Bs) : Calls Try.prog 63 #[v, .int .i64 x, .string ⟨s.toArray⟩] W fun e w' => ∃ v', e = .returned (.tuple #[v', .int .i64 (writeM D x s).1]) ∧ RefV (fun i => K i ∨ (W.heap.size ≤ i ∧ i < w'.heap.size)) w' v' (writeM D x s).2 ∧ Below W.heap.size W w' := by
  obtain ⟨A, n, c, l, rfl, hn, hO, hS, hI⟩ := h
  have hI2 : ∀ w' : World, RefIn (fun i => K i ∨ (W.heap.size ≤ i ∧ i < w'.heap.size)) A l := fun w' => hI.mono fun i hi => .inl hi
  have hlen : l.length = n := by rw [hn]; exact hS.1
  unfold writeM
  cases ho : D.off
  · rw [if_neg (by simp)]
    by_cases hr : x < 0 ∨ (D.sec.length : Int) ≤ x
    · rw [if_pos hr]
      rw [← hn] at hr
      exact (rwrite_range W A n c D.fuse x _ hr).mono fun e w' ⟨q1, q2⟩ => ⟨_, q1, ⟨A, n, c, l, by rw [ho], hn, hO.next q2, hS.next q2, hI2 w'⟩, q2⟩
    · rw [if_neg hr]
      obtain ⟨i, rfl⟩ : ∃ i : Nat, x = i := ⟨x.toNat, by omega⟩
      have hi : i < n := by omega
      by_cases h64 : 64 < s.length
      · rw [if_pos h64]
        exact (rwrite_arg W A n c D.fuse i hi s h64).mono fun e w' ⟨q1, q2⟩ => ⟨_, q1, ⟨A, n, c, l, by rw [ho], hn, hO.next q2, hS.next q2, hI2 w'⟩, q2⟩
      · rw [if_neg h64]
        by_cases hf : D.fuse = 0
        · rw [if_pos hf, hf]
          exact (rwrite_burnt W A n c i hi s (by omega)).mono fun e w' ⟨q1, q2⟩ => ⟨_, q1, ⟨A, n, c, l, by simp, hn, hO.next q2, hS.next q2, hI2 w'⟩, q2⟩
        · rw [if_neg hf]
          obtain ⟨t, ht⟩ : ∃ t, D.sec[i]? = some t := ⟨_, List.getElem?_eq_getElem (by omega)⟩
          obtain ⟨v, hx, hv⟩ := hS.2 i t ht
          have hp := hfe t (List.mem_of_getElem? ht)
          refine (rwrite_go W n c A l hO hS.one (by have := ok.few; omega) D.fuse hf ok.lo ok.hi i hi s (by omega) t.dur v t.pend hx hv (by omega)).mono ?_
          rintro e w' ⟨A', c', v', rfl, q1, q2, q3⟩
          have hm : D.sec.modify (i : Int).toNat (fun x => { x with pend := x.pend ++ [padB s] }) = D.sec.set i ⟨t.dur, t.pend ++ [padB s]⟩ := by
            rw [Int.toNat_natCast]
            apply List.ext_getElem?
            intro j
            rw [List.getElem?_modify, List.getElem?_set]
            by_cases e : i = j
            · subst e
              rw [ht]
              simp only [if_true]
              rw [if_pos (List.getElem?_eq_some_iff.1 ht).1]
              rfl
            · simp only [if_neg e]
              cases D.sec[j]? <;> rfl
          refine ⟨_, rfl, ⟨A', n, c', _, rfl, ?_, q1.mono (Nat.zero_le _), ?_, ?_⟩, q3⟩
          · simp only [List.length_modify]; exact hn
          · simp only [hm]
            exact (hS.next q3).set i ⟨t.dur, t.pend ++ [padB s]⟩ v' (PendV.own q2)
          · refine ((RefTo.refl W.heap.size w'.heap.size A l).put (fun a e => ?_) i (t.dur, v') fun a m d e => ?_).in_ hI (Nat.le_refl _) q1.lt
            · subst e
              exact (World.ownsRow.lt q1 a.block rfl).1
            · simp only at e
              subst e
              exact World.ownsRow.lt q2 a.block rfl
  · rw [if_pos rfl]
    exact (rwrite_off W A n c D.fuse x _).mono fun e w' ⟨q1, q2⟩ => ⟨_, q1, ⟨A, n, c, l, by rw [ho], hn, hO.next q2, hS.next q2, hI2 w'⟩, q2⟩
end Go.Proofs.Ytkljfampkkfgdaa
