/- The journal layer: the walks over put and New of the reference. -/
import Derived.Test.YtkljfampkkfgdaaJRefM
namespace Go.Proofs.Ytkljfampkkfgdaa
open Go.RowKit
theorem infoBlk : (Try.prog.info? 109).map (fun i => (i.zero, i.size, i.bytes)) = some (some (.agg #[.string ⟨#[]⟩, .slice none 0 0]), 2, 40) := by kernel_rfl
theorem cellsRB_one {l : List (Bs × Value)} (h : ∀ x ∈ l, x.2.oneCell' = true) : ∀ u ∈ cellsRB l, u.oneCell' = true := fun u hu => by
  obtain ⟨x, hx, hu⟩ := List.mem_flatMap.1 hu
  simp only [List.mem_cons, List.not_mem_nil, or_false] at hu
  rcases hu with rfl | rfl
  · rfl
  · exact h x hx
theorem Stand.one {w : World} {l : List (Bs × Value)} {S : List Sec} (h : Stand w l S) : ∀ x ∈ l, x.2.oneCell' = true := fun x hx => by
  obtain ⟨i, hi, rfl⟩ := List.getElem_of_mem hx
  obtain ⟨v, h1, A, c, rfl, -⟩ := h.2 i _ (List.getElem?_eq_getElem (by rw [← h.1]; exact hi))
  rw [List.getElem?_eq_getElem hi] at h1
  rw [Option.some.inj h1]
  rfl
/-- A copy of a row of blocks. -/
theorem run_append_rb (base : Nat) (w : World) (ty : TypeId) (g : Nat) (hg : w.heap[g]? = some (.cells #[] 109 (0, 0))) (hb : base ≤ g) (A : Option Addr) (n c : Nat) (l : List (Bs × Value)) (hn : 0 < l.length) (hO : OwnRB w 0 (.slice A n c) l) (h1 : ∀ x ∈ l, x.2.oneCell' = true) (hs : l.length ≤ 100000) :
    ∃ v' w', (Builtin.append_ #[44, 44] ty #[.slice (some ⟨g, 0, none⟩) 0 0, .slice A n c]).run Try.prog w = .ok v' w' ∧ OwnRB w' base v' l ∧ Below base w w' := by
  obtain ⟨i0, hi0, hz0, hz1, hz2⟩ := info_parts infoBlk
  have hE : w.ownsRow base 109 2 (.slice (some ⟨g, 0, none⟩) 0 0) 0 [] := ⟨rfl, .inr ⟨g, 0, _, rfl, hb, hg, Nat.le_refl _, Nat.zero_le _, rfl, rfl⟩⟩
  have hgl : g < w.heap.size := (Array.getElem?_eq_some_iff.1 hg).1
  obtain ⟨a, rfl, rfl, -, -, -, -, -, hcell⟩ := hO.form hn
  obtain ⟨v', w', hr, r1, r2, _⟩ := run_append_own (P := Try.prog) (w := w) base 44 ty 109 i0 (.agg #[.string ⟨#[]⟩, .slice none 0 0]) 2 40 (by kernel_rfl) hi0 hz0 hz1 hz2 rfl (by decide) _ 0 [] hE ⟨a, 0, none⟩ l.length c (cellsRB l) (cellsRB_length l) hcell (cellsRB_one h1) (by unfold maxLen; omega) (by omega) (by omega)
  rw [Nat.zero_add, List.nil_append] at r1
  exact ⟨v', w', hr, r1, below_own hE r2 (by omega)⟩
theorem wpList_append_rb {ops : Array Oper} {rest : List Oper} {o : Oper} {a : Act} {w : World} {Q : Exit → Act → World → Prop} (hgd : o.guard = none) (s y : Operand) (ho : o.op = .call { callee := .builtin .append, args := #[s, y], argTypes := #[44, 44] })
    (base g : Nat) (hb : base ≤ g) (A : Option Addr) (n c : Nat) (l : List (Bs × Value)) (hs : a.eval s = .slice (some ⟨g, 0, none⟩) 0 0) (hy : a.eval y = .slice A n c) (hg : w.heap[g]? = some (.cells #[] 109 (0, 0))) (hn : 0 < l.length) (hO : OwnRB w 0 (.slice A n c) l) (h1 : ∀ x ∈ l, x.2.oneCell' = true) (hl : l.length ≤ 100000)
    (K : ∀ v' w', OwnRB w' base v' l → Below base w w' → wpList Try.prog ops Q rest (a.put o.dst v') w') : wpList Try.prog ops Q (o :: rest) a w := by
  obtain ⟨v', w', hr, h3, h4⟩ := run_append_rb base w o.type g hg hb A n c l hn hO h1 hl
  refine wpList_plain hgd fun _ hK => ?_
  unfold Oper.wp
  rw [show (execOp a.eval o).run Try.prog w = .ok (.value v') w' from by
    unfold execOp
    simp only [ho, resolve, invoke, builtin, Sem.run_bind, Sem.run_pure, Result.andThen_ok, List.map_toArray, List.map_cons, List.map_nil, hs, hy, hr]]
  exact hK _ _ (K v' w' h3 h4)
theorem cellsRB_set (l : List (Bs × Value)) (i : Nat) (d : Bs) (v : Value) : cellsRB (l.set i (d, v)) = ((cellsRB l).set (i * 2) (.string ⟨d.toArray⟩)).set (i * 2 + 1) v := by
  induction l generalizing i with
  | nil => rfl
  | cons y l ih =>
    cases i with
    | zero => rfl
    | succ i =>
      rw [List.set_cons_succ, show (i + 1) * 2 = i * 2 + 1 + 1 from by omega]
      show _ :: _ :: cellsRB (l.set i (d, v)) = _
      rw [ih]
      rfl
theorem OwnRB.slice {w : World} {base : Nat} {v : Value} {l : List (Bs × Value)} (h : OwnRB w base v l) (h0 : 0 < l.length) : ∃ g c, v = .slice (some ⟨g, 0, none⟩) l.length c := by
  rcases h.2 with ⟨_, h2⟩ | ⟨g, c, cur, e, _⟩
  · omega
  · exact ⟨g, c, e⟩
theorem OwnRB.kept {w w' : World} {base g n c : Nat} {l : List (Bs × Value)} (h : OwnRB w base (.slice (some ⟨g, 0, none⟩) n c) l) (hk : w'.heap[g]? = w.heap[g]?) : OwnRB w' base (.slice (some ⟨g, 0, none⟩) n c) l := by
  obtain ⟨h1, h2⟩ := h
  refine ⟨h1, ?_⟩
  rcases h2 with h2 | ⟨g', cap, cur, e, hg, hh, r⟩
  · exact .inl h2
  · cases e
    exact .inr ⟨g, c, cur, rfl, hg, hk.trans hh, r⟩
/-- A block is set. -/
theorem OwnRB.put {w : World} {base : Nat} {g n c : Nat} {l : List (Bs × Value)} (h : OwnRB w base (.slice (some ⟨g, 0, none⟩) n c) l) {i : Nat} (_hi : i < l.length) (d : Bs) (v : Value) : OwnRB ((w.setCell ⟨g, i * 2, none⟩ (.string ⟨d.toArray⟩)).setCell ⟨g, i * 2 + 1, none⟩ v) base (.slice (some ⟨g, 0, none⟩) n c) (l.set i (d, v)) := by
  obtain ⟨h1, h2⟩ := h
  refine ⟨by rw [cellsRB_length], ?_⟩
  rcases h2 with ⟨h2, h3⟩ | ⟨g', cap, cur, e, hg, hh, hc, hm, hs, ht⟩
  · cases h2
  · cases e
    refine .inr ⟨g, c, (cur.setIfInBounds (i * 2) (.string ⟨d.toArray⟩)).setIfInBounds (i * 2 + 1) v, by rw [List.length_set], hg, ?_, by rw [List.length_set]; exact hc, hm, by simpa using hs, ?_⟩
    · simp [World.setCell, Array.getElem?_modify, hh]
    · rw [List.length_set]
      rw [cellsRB_set, Array.toList_setIfInBounds, Array.toList_setIfInBounds, List.take_set, List.take_set, ht]
set_option maxRecDepth 100000 in
set_option maxHeartbeats 1000000 in
theorem rput_any (W : World) (A : Option Addr) (n c : Nat) (off : Bool) (f : Int) (l : List (Bs × Value)) (hO : OwnRB W 0 (.slice A n c) l) (h1 : ∀ x ∈ l, x.2.oneCell' = true) (hl : l.length ≤ 100000) (i : Nat) (hi : i < l.length) (d : Bs) (PA : Option Addr) (pn pc : Nat) :
    Calls Try.prog 64 #[dkV A n c off f, .int .i64 i, .agg #[.string ⟨d.toArray⟩, .slice PA pn pc]] W fun e w' => ∃ A' c', e = .returned (dkV A' n c' off f) ∧ OwnRB w' W.heap.size (.slice A' n c') (l.set i (d, .slice PA pn pc)) ∧ Below W.heap.size W w' := by
  obtain ⟨g, rfl, rfl, -⟩ := hO.form (by omega)
  have HO := Lib.hid hO
  have H1 := Lib.hid h1
  have HL := Lib.hid hl
  have HI := Lib.hid hi
  clear hO h1 hl
  go_enter Try.func64, Try.ntmps64
  go_upto_region 1 with (fail)
  obtain ⟨w3, hw3⟩ : ∃ w3, ((W.alloc (.cells #[.slice (some ⟨g, 0, none⟩) l.length c, .bool off, .int .i64 f] 46)).alloc (.cells #[.string ⟨d.toArray⟩, .slice PA pn pc] 109)).alloc (.cells #[.slice none 0 0, .bool false, .int .i64 0] 46) = w3 := ⟨_, rfl⟩
  have b3 : Below W.heap.size W w3 := hw3 ▸ Below.next (Below.next (Below.new1 _ _) (Below.new1 _ _)) (Below.new1 _ _)
  have z3 : w3.heap.size = W.heap.size + 3 := by rw [← hw3]; simp
  have r0 : w3.heap[W.heap.size]? = some (.cells #[.slice (some ⟨g, 0, none⟩) l.length c, .bool off, .int .i64 f] 46 (0, 0)) := by
    rw [← hw3]; exact (heap_alloc_old _ _ (by simp; omega)).trans ((heap_alloc_old _ _ (by simp)).trans (heap_alloc_new W _))
  have r1 : w3.heap[W.heap.size + 1]? = some (.cells #[.string ⟨d.toArray⟩, .slice PA pn pc] 109 (0, 0)) := by
    rw [← hw3]; exact (heap_alloc_old _ _ (by simp)).trans (by have := heap_alloc_new (W.alloc (.cells #[.slice (some ⟨g, 0, none⟩) l.length c, .bool off, .int .i64 f] 46)) (.cells #[.string ⟨d.toArray⟩, .slice PA pn pc] 109); rw [World.size_alloc] at this; exact this)
  have r2 : w3.heap[W.heap.size + 1 + 1]? = some (.cells #[.slice none 0 0, .bool false, .int .i64 0] 46 (0, 0)) := by
    rw [← hw3]
    have := heap_alloc_new ((W.alloc (.cells #[.slice (some ⟨g, 0, none⟩) l.length c, .bool off, .int .i64 f] 46)).alloc (.cells #[.string ⟨d.toArray⟩, .slice PA pn pc] 109)) (.cells #[.slice none 0 0, .bool false, .int .i64 0] 46)
    simpa using this
  rw [hw3]
  obtain ⟨w4, hw4⟩ : ∃ w4, w3.alloc (.cells #[] 109) = w4 := ⟨_, rfl⟩
  have b4 : Below w3.heap.size w3 w4 := hw4 ▸ Below.new1 w3 _
  have e4 : w4.heap[w3.heap.size]? = some (.cells #[] 109 (0, 0)) := hw4 ▸ heap_alloc_new w3 _
  have d0 := cell_kept b4 ((cell_of_row w3 _ 0 _ _ _ r0).trans (rfl : _ = some (Value.slice (some ⟨g, 0, none⟩) l.length c)))
  have O4 := Lib.hid ((HO.out.next b3).next b4)
  have E4 := Lib.hid e4
  have B4 := Lib.hid b4
  have R0 := Lib.hid r0
  have R1 := Lib.hid r1
  have R2 := Lib.hid r2
  have Z3 := Lib.hid z3
  have B3 := Lib.hid b3
  clear b3 z3 r0 r1 r2 hw3 b4 e4
  go_upto_region 2 with (at_builtin; refine wpList_append_rb rfl (.tmp 7) (.tmp 9) rfl w3.heap.size w3.heap.size (Nat.le_refl _) _ _ _ l rfl rfl E4.out (by omega) O4.out H1.out HL.out ?_
                         intro v5 w5 hO5 b5
                         obtain ⟨g5, c5, rfl⟩ := hO5.slice (by omega)
                         have b35 : Below w3.heap.size w3 w5 := B4.out.trans b5
                         have e0 := (b35.block W.heap.size (by rw [Z3.out]; omega)).trans R0.out
                         have k0 := (cell_of_row w5 _ 0 _ _ _ e0).trans (rfl : _ = some (Value.slice (some ⟨g, 0, none⟩) l.length c))
                         have f0 : w5.frozen? ⟨W.heap.size, 0, none⟩ = false := by simp [World.frozen?, e0])
  obtain ⟨g5', e5, -, -, hg5, hg5l, -, -, -⟩ := hO5.form (by omega)
  cases e5
  have hS0 : W.heap.size ≠ g5 := by have := Z3.out; omega
  have e0' : (w5.setCell ⟨W.heap.size, 0, none⟩ (.slice (some ⟨g5, 0, none⟩) l.length c5)).heap[W.heap.size]? = some (.cells #[.slice (some ⟨g5, 0, none⟩) l.length c5, .bool off, .int .i64 f] 46 (0, 0)) := by
    simp [World.setCell, Array.getElem?_modify, e0]
  have oth : ∀ j, j ≠ W.heap.size → j < w3.heap.size → (w5.setCell ⟨W.heap.size, 0, none⟩ (.slice (some ⟨g5, 0, none⟩) l.length c5)).heap[j]? = w3.heap[j]? := fun j h1 h2 => (Below.heap_setCell _ _ _ _ h1).trans (b35.block j h2)
  have e1 := (oth (W.heap.size + 1) (by omega) (by rw [Z3.out]; omega)).trans R1.out
  have e2 := (oth (W.heap.size + 1 + 1) (by omega) (by rw [Z3.out]; omega)).trans R2.out
  have o6 : OwnRB (w5.setCell ⟨W.heap.size, 0, none⟩ (.slice (some ⟨g5, 0, none⟩) l.length c5)) w3.heap.size (.slice (some ⟨g5, 0, none⟩) l.length c5) l := hO5.kept (Below.heap_setCell _ _ _ _ (Ne.symm hS0))
  have b6 : Below W.heap.size W (w5.setCell ⟨W.heap.size, 0, none⟩ (.slice (some ⟨g5, 0, none⟩) l.length c5)) := (B3.out.trans (b35.mono (by have := Z3.out; omega))).setCell (p := ⟨W.heap.size, 0, none⟩) (Nat.le_refl _) _
  clear hO5 b5 b35 e0 k0 f0 oth d0 hg5l O4 E4 B4 hw4 R0 R1 R2
  generalize w5.setCell ⟨W.heap.size, 0, none⟩ (.slice (some ⟨g5, 0, none⟩) l.length c5) = w6 at *
  obtain ⟨g5', e5, -, -, -, -, fr6, hc6, -⟩ := o6.form (by omega)
  cases e5
  obtain ⟨q0, q1⟩ := hc6 i _ (List.getElem?_eq_getElem hi)
  have k0 := (cell_of_row w6 _ 0 _ _ _ e0').trans (rfl : _ = some (Value.slice (some ⟨g5, 0, none⟩) l.length c5))
  have x0 := (cell_of_row w6 _ 0 _ _ _ e1).trans (rfl : _ = some (Value.string ⟨d.toArray⟩))
  have x1 := (cell_of_row w6 _ 1 _ _ _ e1).trans (rfl : _ = some (Value.slice PA pn pc))
  have fr0 := fr6 (i * 2)
  have fr1 := fr6 (i * 2 + 1)
  have o7 := o6.put hi d (.slice PA pn pc)
  have b7 := (b6.setCell (p := ⟨g5, i * 2, none⟩) (by have := Z3.out; show _ ≤ g5; omega) (.string ⟨d.toArray⟩)).setCell (p := ⟨g5, i * 2 + 1, none⟩) (by have := Z3.out; show _ ≤ g5; omega) (.slice PA pn pc)
  have hne : ∀ j, j ≠ g5 → ((w6.setCell ⟨g5, i * 2, none⟩ (.string ⟨d.toArray⟩)).setCell ⟨g5, i * 2 + 1, none⟩ (.slice PA pn pc)).heap[j]? = w6.heap[j]? := fun j h => (Below.heap_setCell _ _ _ _ h).trans (Below.heap_setCell _ _ _ _ h)
  have y0 := (hne W.heap.size hS0).trans e0'
  have y2 := (hne (W.heap.size + 1 + 1) (by have := Z3.out; omega)).trans e2
  have i1 : (i : Int) < (l.length : Nat) := by omega
  have i2 : 0 ≤ (i : Int) := by omega
  generalize l[i] = X at *
  have O7 := Lib.hid o7
  have B7 := Lib.hid b7
  have Y0 := Lib.hid y0
  have Y2 := Lib.hid y2
  have HG5 := Lib.hid hg5
  clear o6 o7 b6 b7 hne fr6 hc6 e0' e1 e2 y0 y2 hg5
  go_upto_region 3 with (fail)
  generalize (w6.setCell ⟨g5, i * 2, none⟩ (.string ⟨d.toArray⟩)).setCell ⟨g5, i * 2 + 1, none⟩ (.slice PA pn pc) = w7 at *
  clear q0 q1 k0 x0 x1 fr0 fr1
  have k0 := (cell_of_row w7 _ 0 _ _ _ Y0.out).trans (rfl : _ = some (Value.slice (some ⟨g5, 0, none⟩) l.length c5))
  have k1 := (cell_of_row w7 _ 1 _ _ _ Y0.out).trans (rfl : _ = some (Value.bool off))
  have k2 := (cell_of_row w7 _ 2 _ _ _ Y0.out).trans (rfl : _ = some (Value.int .i64 f))
  have m0 := (cell_of_row w7 _ 0 _ _ _ Y2.out).trans (rfl : _ = some (Value.slice none 0 0))
  have m1 := (cell_of_row w7 _ 1 _ _ _ Y2.out).trans (rfl : _ = some (Value.bool false))
  have m2 := (cell_of_row w7 _ 2 _ _ _ Y2.out).trans (rfl : _ = some (Value.int .i64 0))
  have f0 : w7.frozen? ⟨W.heap.size + 1 + 1, 0, none⟩ = false := by simp [World.frozen?, Y2.out]
  have f1 : w7.frozen? ⟨W.heap.size + 1 + 1, 1, none⟩ = false := by simp [World.frozen?, Y2.out]
  have f2 : w7.frozen? ⟨W.heap.size + 1 + 1, 2, none⟩ = false := by simp [World.frozen?, Y2.out]
  go_wp2_with (fail)
  have hr : (((w7.setCell ⟨W.heap.size + 1 + 1, 0, none⟩ (.slice (some ⟨g5, 0, none⟩) l.length c5)).setCell ⟨W.heap.size + 1 + 1, 1, none⟩ (.bool off)).setCell ⟨W.heap.size + 1 + 1, 2, none⟩ (.int .i64 f)).heap[W.heap.size + 1 + 1]? = some (.cells #[.slice (some ⟨g5, 0, none⟩) l.length c5, .bool off, .int .i64 f] 46 (0, 0)) := by
    simp [World.setCell, Array.getElem?_modify, Y2.out]
  have hk : (((w7.setCell ⟨W.heap.size + 1 + 1, 0, none⟩ (.slice (some ⟨g5, 0, none⟩) l.length c5)).setCell ⟨W.heap.size + 1 + 1, 1, none⟩ (.bool off)).setCell ⟨W.heap.size + 1 + 1, 2, none⟩ (.int .i64 f)).heap[g5]? = w7.heap[g5]? := by
    have hne : g5 ≠ W.heap.size + 1 + 1 := by have := HG5.out; have := Z3.out; omega
    exact (Below.heap_setCell _ _ _ _ hne).trans ((Below.heap_setCell _ _ _ _ hne).trans (Below.heap_setCell _ _ _ _ hne))
  have hb := ((B7.out.setCell (p := ⟨W.heap.size + 1 + 1, 0, none⟩) (by show _ ≤ W.heap.size + 1 + 1; omega) (.slice (some ⟨g5, 0, none⟩) l.length c5)).setCell (p := ⟨W.heap.size + 1 + 1, 1, none⟩) (by show _ ≤ W.heap.size + 1 + 1; omega) (.bool off)).setCell (p := ⟨W.heap.size + 1 + 1, 2, none⟩) (by show _ ≤ W.heap.size + 1 + 1; omega) (.int .i64 f)
  generalize ((w7.setCell ⟨W.heap.size + 1 + 1, 0, none⟩ (.slice (some ⟨g5, 0, none⟩) l.length c5)).setCell ⟨W.heap.size + 1 + 1, 1, none⟩ (.bool off)).setCell ⟨W.heap.size + 1 + 1, 2, none⟩ (.int .i64 f) = w8 at *
  have hu : Try.prog.underlying 46 = some (.struct (Try.prog.fieldsOf 46)) := by kernel_rfl
  have hi' : (Try.prog.info? 46).map (·.size) = some (#[.slice (some ⟨g5, 0, none⟩) l.length c5, .bool off, .int .i64 f] : Array Value).size := by kernel_rfl
  exact bodyPost_ret (v := dkV (some ⟨g5, 0, none⟩) l.length c5 off f) (results_cell_row (p := 6) (ty := 46) rfl _ _ (W.heap.size + 1 + 1) 46 _ (0, 0) (.struct (Try.prog.fieldsOf 46)) rfl hr hu rfl hi') rfl
    ⟨_, _, rfl, (O7.out.kept hk).mono (by have := Z3.out; omega), hb⟩
/-- One block more, at a step of a region that draws its order. -/
theorem step_append_rb1 {ops : Array Oper} {o : Oper} {a : Act} {w : World} {K : Act → World → Prop} {Q : Exit → Act → World → Prop} {E : Prop} (hgd : o.guard = none) (s x : Operand)
    (ho : o.op = .call { callee := .builtin .append, args := #[s, x], argTypes := #[44, 44] }) (base gx cx : Nat) (v : Value) (l : List (Bs × Value)) (m : Nat) (hm : l.length = m) (d : Bs)
    (hs : a.eval s = v) (hx : a.eval x = .slice (some ⟨gx, 0, none⟩) 1 cx) (hO : OwnRB w base v l) (hg : w.heap[gx]? = some (.cells #[.string ⟨d.toArray⟩, .slice none 0 0] 109 (0, 0))) (hl : l.length ≤ 100000) (hb : base ≤ w.heap.size)
    (h : ∀ g4 c4 w', OwnRB w' base (.slice (some ⟨g4, 0, none⟩) (m + 1) c4) (l ++ [(d, .slice none 0 0)]) → Below base w w' → K (a.put o.dst (.slice (some ⟨g4, 0, none⟩) (m + 1) c4)) w') : if Region.wanted o (yielded ops a.tmps) = true then Oper.wp Try.prog o a w K Q else E := by
  subst hm
  have hw : Region.wanted o (yielded ops a.tmps) = true := by simp [Region.wanted, hgd]
  rw [if_pos hw]
  obtain ⟨i0, hi0, hz0, hz1, hz2⟩ := info_parts infoBlk
  obtain ⟨v', w', hr, r1, r2, _⟩ := run_append_own (P := Try.prog) (w := w) base 44 o.type 109 i0 (.agg #[.string ⟨#[]⟩, .slice none 0 0]) 2 40 (by kernel_rfl) hi0 hz0 hz1 hz2 rfl (by decide) _ l.length (cellsRB l) hO ⟨gx, 0, none⟩ 1 cx [.string ⟨d.toArray⟩, .slice none 0 0] rfl (fun j u hu => by rw [Addr.add_mid, Nat.zero_add, cell_of_row w gx j _ _ _ hg]; simpa using hu) (by
    intro u hu
    simp only [List.mem_cons, List.not_mem_nil, or_false] at hu
    rcases hu with rfl | rfl <;> rfl) (by unfold maxLen; omega) (by omega) hb
  have e1 : cellsRB l ++ [.string ⟨d.toArray⟩, .slice none 0 0] = cellsRB (l ++ [(d, .slice none 0 0)]) := by simp [cellsRB]
  rw [e1] at r1
  have hO' : OwnRB w' base v' (l ++ [(d, .slice none 0 0)]) := by
    unfold OwnRB
    rw [List.length_append, List.length_singleton]
    exact r1
  have hB := below_own hO r2 hb
  obtain ⟨g4, c4, rfl⟩ := hO'.slice (by simp)
  rw [List.length_append, List.length_singleton] at hO' hr
  unfold Oper.wp execOp
  simp only [ho, resolve, invoke, builtin, Sem.run_bind, Sem.run_pure, Result.andThen_ok, List.map_toArray, List.map_cons, List.map_nil, hs, hx, hr]
  exact h g4 c4 w' hO' hB
/-- The blocks of a new disk. -/
def zeroRB (k : Nat) : List (Bs × Value) := List.replicate k (padB [], .slice none 0 0)
theorem zeroRB_snoc (k : Nat) : zeroRB k ++ [(padB [], .slice none 0 0)] = zeroRB (k + 1) := by
  unfold zeroRB
  rw [List.replicate_succ']
theorem zeroRB_length (k : Nat) : (zeroRB k).length = k := List.length_replicate
theorem zeroRB_stand (w : World) (n : Nat) : Stand w (zeroRB n) (newM n).sec := by
  refine ⟨by simp [zeroRB, newM], fun i s hs => ?_⟩
  simp only [newM, List.getElem?_replicate] at hs
  split at hs
  · rename_i h
    cases hs
    exact ⟨.slice none 0 0, by simp only [zeroRB, List.getElem?_replicate, if_pos h]; rfl, PendV.nil w⟩
  · cases hs
set_option maxRecDepth 100000 in
set_option maxHeartbeats 2000000 in
theorem rnew_any (W : World) (n : Nat) (h8 : 8 ≤ n) (hn : n ≤ 4096) : Calls Try.prog 25 #[.int .i64 n] W fun e w' => ∃ A c, e = .returned (.tuple #[dkV A n c false (-1), .int .i64 0]) ∧ OwnRB w' W.heap.size (.slice A n c) (zeroRB n) ∧ Below W.heap.size W w' := by
  have t1 : ¬ (n : Int) < 8 := by omega
  have t2 : ¬ (n : Int) > 4096 := by omega
  have HPD := Lib.hid fun w => padded_any w [] (by decide)
  go_enter Try.func25, Try.ntmps25
  go_upto_region 5 with (fail)
  obtain ⟨w1, hw1⟩ : ∃ w1, (W.alloc (.cells #[.slice none 0 0, .bool false, .int .i64 0] 46)).alloc (.cells #[.slice none 0 0, .bool false, .int .i64 (-1)] 46) = w1 := ⟨_, rfl⟩
  have b1 : Below W.heap.size W w1 := hw1 ▸ Below.next (Below.new1 _ _) (Below.new1 _ _)
  have z1 : w1.heap.size = W.heap.size + 2 := by rw [← hw1]; simp
  have r0 : w1.heap[W.heap.size]? = some (.cells #[.slice none 0 0, .bool false, .int .i64 0] 46 (0, 0)) := by
    rw [← hw1]; exact (heap_alloc_old _ _ (by simp)).trans (heap_alloc_new W _)
  have r1 : w1.heap[W.heap.size + 1]? = some (.cells #[.slice none 0 0, .bool false, .int .i64 (-1)] 46 (0, 0)) := by
    rw [← hw1]; have := heap_alloc_new (W.alloc (.cells #[.slice none 0 0, .bool false, .int .i64 0] 46)) (.cells #[.slice none 0 0, .bool false, .int .i64 (-1)] 46); rw [World.size_alloc] at this; exact this
  rw [hw1]
  have R0 := Lib.hid r0
  have R1 := Lib.hid r1
  have B1 := Lib.hid b1
  have Z1 := Lib.hid z1
  clear b1 z1 r0 r1 hw1
  go_loopw [5] (fun i w => ∃ (k : Nat) (A : Option Addr) (c : Nat), k ≤ n ∧ i = .int .i64 k ∧ OwnRB w (W.heap.size + 2) (.slice A k c) (zeroRB k) ∧ w.heap[W.heap.size]? = some (.cells #[.slice none 0 0, .bool false, .int .i64 0] 46 (0, 0)) ∧ w.heap[W.heap.size + 1]? = some (.cells #[.slice A k c, .bool false, .int .i64 (-1)] 46 (0, 0)) ∧ W.heap.size + 2 ≤ w.heap.size ∧ Below W.heap.size W w) (fun i _ => n - (intOf i).toNat)
  case atStart => exact ⟨0, none, 0, Nat.zero_le _, rfl, World.ownsRow_nil _ _ _ _, R0.out, R1.out, by have := Z1.out; omega, B1.out⟩
  case round =>
    obtain ⟨k, A, c, hk, rfl, hO, h0, h1, hz, hb⟩ := hrel
    by_cases hlt : k < n
    · have k1 : (k : Int) < (n : Nat) := by omega
      have k0 : 0 ≤ (k : Int) := by omega
      have d0 : wr.drew.cell? ⟨W.heap.size + 1, 0, none⟩ = some (.slice A k c) := (cell_of_row wr _ 0 _ _ _ h1).trans rfl
      have HMS := Lib.hid (show k + 1 ≤ n ∧ n - (k + 1) < n - k from by omega)
      have HO := Lib.hid (hO.next (Below.drawn wr 1 _))
      have H0 := Lib.hid (show wr.drew.heap[W.heap.size]? = _ from h0)
      have H1 := Lib.hid (show wr.drew.heap[W.heap.size + 1]? = _ from h1)
      have HZ := Lib.hid (show W.heap.size + 2 ≤ wr.drew.heap.size from hz)
      have HB := Lib.hid (Below.next hb (Below.drawn wr 1 _))
      clear hO h0 h1 hz hb
      go_upto_region 7 with (fail)
      go_region_law (first
        | (refine step_append_rb1 rfl (.tmp 20) (.tmp 23) rfl (W.heap.size + 2) w2.heap.size 1 (.slice A k c) (zeroRB k) k (zeroRB_length k) (padB []) rfl rfl O3.out N3.out ?_ ?_ ?_
           · rw [zeroRB_length]; omega
           · exact Z3.out
           intro g4 c4 w4 hO4 b4
           rw [zeroRB_snoc] at hO4
           have e1 := (b4.block (W.heap.size + 1) (by omega)).trans E1.out
           have e0 := (b4.block W.heap.size (by omega)).trans E0.out
           have m0 : w4.cell? ⟨W.heap.size + 1, 0, none⟩ = some (.slice A k c) := (cell_of_row w4 _ 0 _ _ _ e1).trans rfl
           have f0 : w4.frozen? ⟨W.heap.size + 1, 0, none⟩ = false := by simp [World.frozen?, e1])
        | (go_simp; go_at_call 59; refine (HPD.out _).mono ?_; rintro x w2 ⟨rfl, b2⟩
           have d2 := cell_kept b2 d0
           have b23 := Below.new1 w2 (.cells #[.string ⟨(padB []).toArray⟩, .slice none 0 0] 109)
           have d3 := cell_kept b23 d2
           have O3 := Lib.hid ((HO.out.next b2).next b23)
           have N3 := Lib.hid (heap_alloc_new w2 (.cells #[.string ⟨(padB []).toArray⟩, .slice none 0 0] 109))
           have b03 := Below.next b2 b23
           have Z3 := Lib.hid (Nat.le_trans HZ.out b03.size)
           have E0 := Lib.hid ((b03.block W.heap.size (by have := HZ.out; omega)).trans H0.out)
           have E1 := Lib.hid ((b03.block (W.heap.size + 1) (by have := HZ.out; omega)).trans H1.out)
           have B3 := Lib.hid (Below.next HB.out b03)))
      all_goals
        go_wp2_with (fail)
        have hg4 : W.heap.size + 1 ≠ g4 := by
          obtain ⟨g', e, -, -, hg, -⟩ := hO4.form (by rw [zeroRB_length]; omega)
          cases e
          omega
        have hB5 := (B3.out.trans (b4.mono (by omega))).setCell (p := ⟨W.heap.size + 1, 0, none⟩) (by show _ ≤ W.heap.size + 1; omega) (.slice (some ⟨g4, 0, none⟩) (k + 1) c4)
        exact ⟨⟨k + 1, some ⟨g4, 0, none⟩, c4, HMS.out.1, by go_num, hO4.kept (Below.heap_setCell _ _ _ _ (Ne.symm hg4)), (Below.heap_setCell _ _ _ _ (by show W.heap.size ≠ W.heap.size + 1; omega)).trans e0, by simp [World.setCell, Array.getElem?_modify, e1], by have := Z3.out; have := b4.size; simp [World.setCell]; omega, hB5⟩, by have := HMS.out.2; simp [intOf]; omega⟩
    · have k1 : ¬ (k : Int) < (n : Nat) := by omega
      obtain rfl : n = k := by omega
      have c0 : wr.cell? ⟨W.heap.size + 1, 0, none⟩ = some (.slice A n c) := (cell_of_row wr _ 0 _ _ _ h1).trans rfl
      have c1 : wr.cell? ⟨W.heap.size + 1, 1, none⟩ = some (.bool false) := (cell_of_row wr _ 1 _ _ _ h1).trans rfl
      have c2 : wr.cell? ⟨W.heap.size + 1, 2, none⟩ = some (.int .i64 (-1)) := (cell_of_row wr _ 2 _ _ _ h1).trans rfl
      have m0 : wr.cell? ⟨W.heap.size, 0, none⟩ = some (.slice none 0 0) := (cell_of_row wr _ 0 _ _ _ h0).trans rfl
      have m1 : wr.cell? ⟨W.heap.size, 1, none⟩ = some (.bool false) := (cell_of_row wr _ 1 _ _ _ h0).trans rfl
      have m2 : wr.cell? ⟨W.heap.size, 2, none⟩ = some (.int .i64 0) := (cell_of_row wr _ 2 _ _ _ h0).trans rfl
      have f0 : wr.frozen? ⟨W.heap.size, 0, none⟩ = false := by simp [World.frozen?, h0]
      have f1 : wr.frozen? ⟨W.heap.size, 1, none⟩ = false := by simp [World.frozen?, h0]
      have f2 : wr.frozen? ⟨W.heap.size, 2, none⟩ = false := by simp [World.frozen?, h0]
      obtain ⟨g, rfl, -, -, hg, -⟩ := hO.form (by rw [zeroRB_length]; omega)
      have HO := Lib.hid hO
      have H0 := Lib.hid h0
      have HB := Lib.hid hb
      have HG := Lib.hid hg
      clear hO h0 h1 hz hb hg
      go_wp2_with (fail)
      have hr : (((wr.setCell ⟨W.heap.size, 0, none⟩ (.slice (some ⟨g, 0, none⟩) n c)).setCell ⟨W.heap.size, 1, none⟩ (.bool false)).setCell ⟨W.heap.size, 2, none⟩ (.int .i64 (-1))).heap[W.heap.size]? = some (.cells #[.slice (some ⟨g, 0, none⟩) n c, .bool false, .int .i64 (-1)] 46 (0, 0)) := by
        simp [World.setCell, Array.getElem?_modify, H0.out]
      have hne : g ≠ W.heap.size := by have := HG.out; omega
      have hk : (((wr.setCell ⟨W.heap.size, 0, none⟩ (.slice (some ⟨g, 0, none⟩) n c)).setCell ⟨W.heap.size, 1, none⟩ (.bool false)).setCell ⟨W.heap.size, 2, none⟩ (.int .i64 (-1))).heap[g]? = wr.heap[g]? :=
        (Below.heap_setCell _ _ _ _ hne).trans ((Below.heap_setCell _ _ _ _ hne).trans (Below.heap_setCell _ _ _ _ hne))
      have hb5 := ((HB.out.setCell (p := ⟨W.heap.size, 0, none⟩) (Nat.le_refl _) (.slice (some ⟨g, 0, none⟩) n c)).setCell (p := ⟨W.heap.size, 1, none⟩) (Nat.le_refl _) (.bool false)).setCell (p := ⟨W.heap.size, 2, none⟩) (Nat.le_refl _) (.int .i64 (-1))
      exact bodyPost_ret (v := .tuple #[dkV (some ⟨g, 0, none⟩) n c false (-1), Value.int .i64 0]) (results_dk Try.results25 hr _ rfl rfl) rfl ⟨_, _, rfl, (HO.out.kept hk).mono (by omega), hb5⟩
end Go.Proofs.Ytkljfampkkfgdaa
