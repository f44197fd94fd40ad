/- Slices of bytes of a call's own: made of a string, appended to, read as a string. -/
import Derived.Test.YtcocengpekndjaaDoorPrEight
import Derived.Lib.FrozenHead
namespace Go.Proofs.YtcocengpekndjaaDoor
open Go.RowKit
/-- Cells are stored one after the other, the row's mark lying behind them. -/
theorem storeCells_mark (P : Program) (g o : Nat) (t : TypeId) (fz : Nat × Nat) : ∀ (vs : List Value) (i : Nat) (cur : Array Value) (w : World), w.heap[g]? = some (.cells cur t fz) → (fz = (0, 0) ∨ cur.size ≤ fz.1) → o + i + vs.length ≤ cur.size → (∀ v ∈ vs, v.oneCell' = true) →
    (storeCells ⟨g, o, none⟩ vs i).run P w = .ok () (w.setRow g (cur.toList.take (o + i) ++ vs ++ cur.toList.drop (o + i + vs.length)).toArray)
  | [], i, cur, w, hg, _, _, _ => by
    simp only [storeCells, List.append_nil, List.length_nil, Nat.add_zero, List.take_append_drop, Array.toArray_toList]
    rw [setRow_self w g cur t fz hg]
    rfl
  | v :: rest, i, cur, w, hg, hfz, hl, h1 => by
    have hi : o + i < cur.size := by simp at hl; omega
    have hadd : (⟨g, o, none⟩ : Addr).add i = ⟨g, o + i, none⟩ := by unfold Addr.add; split <;> simp_all
    have hcell : w.cell? ⟨g, o + i, none⟩ = some cur[o + i] := by simp [World.cell?, hg, hi]
    have hfro : w.frozen? ⟨g, o + i, none⟩ = false := by
      obtain ⟨lo, hi'⟩ := fz
      simp only [World.frozen?, hg, Bool.and_eq_false_iff, decide_eq_false_iff_not]
      rcases hfz with h | h
      · cases h; right; omega
      · left; simp only at h; omega
    have hst : (store ((⟨g, o, none⟩ : Addr).add i) v).run P w = .ok () (w.setRow g (cur.setIfInBounds (o + i) v)) := by
      rw [hadd, run_store P w _ v _ (h1 v (by simp)), hcell]
      simp [hfro, setCell_eq_setRow w g (o + i) cur t fz v hg]
    have ih := storeCells_mark P g o t fz rest (i + 1) (cur.setIfInBounds (o + i) v) (w.setRow g (cur.setIfInBounds (o + i) v)) (setRow_heap w g cur _ t _ hg) (by simpa using hfz) (by simp at hl ⊢; omega) (fun x hx => h1 x (by simp [hx]))
    simp only [storeCells, Sem.run_bind, hst, Result.andThen_ok, ih, setRow_setRow]
    congr 3
    have e := list_seg_step cur.toList (o + i) v rest (by simp at hl ⊢; omega)
    simpa [Array.toList_setIfInBounds, Nat.add_assoc] using e
/-- A slice of bytes that lies in a block from base on; the block may be marked behind its end. -/
def OwnBy (w : World) (base : Nat) (v : Value) (b : Bs) : Prop :=
  ∃ g cap cur fz, v = .slice (some ⟨g, 0, none⟩) b.length cap ∧ base ≤ g ∧ w.heap[g]? = some (.cells cur 5 fz) ∧ (fz = (0, 0) ∨ cur.size ≤ fz.1) ∧ b.length ≤ cap ∧ cap ≤ maxLen ∧ cur.size = cap ∧ cur.toList.take b.length = cellsB b
theorem OwnBy.next {w w' : World} {base : Nat} {v : Value} {b : Bs} (h : OwnBy w base v b) (hB : Below w.heap.size w w') : OwnBy w' base v b := by
  obtain ⟨g, cap, cur, fz, e, hg, hh, r⟩ := h
  exact ⟨g, cap, cur, fz, e, hg, (hB.block g (Array.getElem?_eq_some_iff.1 hh).1).trans hh, r⟩
theorem OwnBy.cells {w : World} {base g n c : Nat} {b : Bs} (h : OwnBy w base (.slice (some ⟨g, 0, none⟩) n c) b) {j : Nat} (hj : j < b.length) : w.cell? ⟨g, j, none⟩ = some (.int .u8 (b[j].toNat : Int)) := by
  obtain ⟨g', cap, cur, fz, e, hg, hh, _, _, _, _, ht⟩ := h
  cases e
  rw [cell_of_row w g j cur _ fz hh, ← Array.getElem?_toList, ← cellsB_get hj, ← ht, List.getElem?_take, if_pos hj]
theorem OwnBy.grown {w w' : World} {base : Nat} {v : Value} {b : Bs} (h : OwnBy w base v b) (hg : w.grownBy w' v.ownBlock) (hs : base ≤ w.heap.size) : Below base w w' := by
  obtain ⟨g, cap, cur, fz, rfl, hbg, hh, _⟩ := h
  exact ⟨hg.os, hg.tape, hg.output, hg.size, fun i hi => hg.block i (by omega) (by simp [Value.ownBlock]; omega)⟩
theorem OwnBy.size {w : World} {base : Nat} {v : Value} {b : Bs} (h : OwnBy w base v b) : b.length ≤ maxLen := by
  obtain ⟨g, cap, cur, fz, e, hg, hh, _, h1, h2, _⟩ := h; omega
set_option maxRecDepth 10000 in
/-- The bytes of a string. -/
theorem bytes_of (s : Bs) (W : World) (hs : s.length ≤ 1000000) : ∃ v W', (convert 9 67 (.string ⟨s.toArray⟩)).run Tryd.prog W = .ok v W' ∧ OwnBy W' W.heap.size v s ∧ Below W.heap.size W W' := by
  have hsz : (ByteArray.mk s.toArray).size = s.length := bs_size s
  have hge := grownCap_ge W (ByteArray.mk s.toArray).size 0 5
  have hle := grownCap_le_maxLen W (ByteArray.mk s.toArray).size 0 5 (by rw [hsz]; unfold maxLen; omega)
  have h := run_bytes_of_string (P := Tryd.prog) W 9 67 5 ⟨s.toArray⟩ (by kernel_rfl) (by kernel_rfl) (by kernel_rfl)
  generalize grownCap W (ByteArray.mk s.toArray).size 0 5 = cap at *
  rw [hsz] at h hge
  have hb : bytesRow ⟨s.toArray⟩ cap = (cellsB s).toArray ++ Array.replicate (cap - s.length) (.int .u8 0) := by
    unfold bytesRow
    rw [hsz]
    congr 1
    apply Array.toList_inj.1
    rw [Array.toList_map]
    rfl
  rw [hb] at h
  refine ⟨_, _, h, ⟨W.heap.size, cap, _, _, rfl, Nat.le_refl _, heap_alloc_new W.drew _, .inr (Nat.le_refl _), hge, hle, ?_, ?_⟩, ?_⟩
  · rw [Array.size_append, List.size_toArray, cellsB_length, Array.size_replicate]; omega
  · rw [Array.toList_append, List.take_append_of_le_length (by rw [cellsB_length]; exact Nat.le_refl _)]
    exact List.take_of_length_le (by rw [cellsB_length]; exact Nat.le_refl _)
  · exact (Below.drawn W 1 _).trans (Below.new1 W.drew _)
set_option maxRecDepth 10000 in
/-- Bytes appended to such a slice. -/
theorem append_by (W : World) (ty : TypeId) (base : Nat) (v : Value) (b : Bs) (hown : OwnBy W base v b) (ad : Addr) (m c : Nat) (b2 : Bs) (hl : b2.length = m) (hnews : ∀ j u, (cellsB b2)[j]? = some u → W.cell? (ad.add j) = some u)
    (hs : b.length + m ≤ 1000000) (hbase : base ≤ W.heap.size) :
    ∃ v' W', (Builtin.append_ #[67, 67] ty #[v, .slice (some ad) m c]).run Tryd.prog W = .ok v' W' ∧ OwnBy W' base v' (b ++ b2) ∧ W.grownBy W' v.ownBlock := by
  obtain ⟨i0, hi0, hz0, hz1, hz2⟩ := info_parts infoU8
  obtain ⟨g, cap, cur, fz, rfl, hbg, hg, hfz, hbc, hcm, hcs, htake⟩ := hown
  have hnl : (cellsB b2).length = m * i0.size := by rw [cellsB_length, hz1, hl, Nat.mul_one]
  by_cases hroom : b.length + m ≤ cap
  · have hf := run_firstCells_some (P := Tryd.prog) W i0.size m ad m c (cellsB b2) hnl hnews
    have hst := storeCells_mark Tryd.prog g b.length 5 fz (cellsB b2) 0 cur W hg hfz (by rw [cellsB_length]; omega) (cellsB_one b2)
    simp only [Nat.add_zero] at hst
    have hr : (Builtin.append_ #[67, 67] ty #[.slice (some ⟨g, 0, none⟩) b.length cap, .slice (some ad) m c]).run Tryd.prog W =
        .ok (.slice (some ⟨g, 0, none⟩) (b.length + m) cap) (W.setRow g (cur.toList.take b.length ++ cellsB b2 ++ cur.toList.drop (b.length + (cellsB b2).length)).toArray) := by
      rw [hz1] at hf
      simp [Builtin.append_, run_underlying (show Tryd.prog.underlying 67 = some (.slice 5) by kernel_rfl), sizeOf, typeInfo, hi0, hz1, Builtin.lenOf, hroom, hf, Addr.add_lit, hst]
    refine ⟨_, _, hr, ⟨g, cap, _, fz, by rw [List.length_append, hl], hbg, setRow_heap W g cur _ _ _ hg, ?_, by rw [List.length_append, hl]; exact hroom, hcm, ?_, ?_⟩, ⟨rfl, rfl, rfl, by simp, fun k _ hk => setRow_other W g k _ (fun e => hk (by simp [Value.ownBlock, e]))⟩⟩
    · have : (cur.toList.take b.length ++ cellsB b2 ++ cur.toList.drop (b.length + (cellsB b2).length)).toArray.size = cur.size := by
        simp only [List.size_toArray, List.length_append, List.length_take, List.length_drop, Array.length_toList, cellsB_length]; omega
      rw [this]; exact hfz
    · simp only [List.size_toArray, List.length_append, List.length_take, List.length_drop, Array.length_toList, cellsB_length]; omega
    · rw [htake, show cellsB (b ++ b2) = cellsB b ++ cellsB b2 from by simp [cellsB]]
      have : (b ++ b2).length = (cellsB b ++ cellsB b2).length := by rw [List.length_append, List.length_append, cellsB_length, cellsB_length]
      rw [this]; exact List.take_left
  · have holds : ∀ j u, (cellsB b)[j]? = some u → W.cell? ((⟨g, 0, none⟩ : Addr).add j) = some u := fun j u hu => by
      rw [Addr.add_mid, Nat.zero_add, cell_of_row W g j cur _ fz hg, ← Array.getElem?_toList]
      rw [← htake, List.getElem?_take] at hu
      split at hu
      · exact hu
      · cases hu
    have hge := grownCap_ge W (b.length + m) cap 5
    have hle := grownCap_le_maxLen W (b.length + m) cap 5 (by unfold maxLen; omega)
    have hr := run_append_grow (P := Tryd.prog) W 67 ty 5 i0 (.int .u8 0) (by kernel_rfl) hi0 hz0 ⟨g, 0, none⟩ b.length cap (cellsB b) (by rw [cellsB_length, hz1, Nat.mul_one]) holds ad m c (cellsB b2) hnl hnews (by omega) (by omega) (growslice_fits (by omega) (by rw [hz2]; omega))
    generalize grownCap W (b.length + m) cap 5 = cap2 at *
    refine ⟨_, _, hr, ⟨W.heap.size, cap2, _, (0, 0), by rw [List.length_append, hl], hbase, heap_alloc_new W.drew _, .inl rfl, by rw [List.length_append, hl]; exact hge, hle, ?_, ?_⟩, ⟨rfl, rfl, rfl, by simp, fun k hk _ => heap_alloc_old W.drew _ hk⟩⟩
    · simp only [Array.size_append, List.size_toArray, size_zeroCells, cellsB_length, hl]
      rw [show (Value.int .u8 0).cells.size = 1 from rfl]; omega
    · simp only [Array.toList_append, List.append_assoc]
      rw [← List.append_assoc, show cellsB (b ++ b2) = cellsB b ++ cellsB b2 from by simp [cellsB]]
      have : (b ++ b2).length = (cellsB b ++ cellsB b2).length := by rw [List.length_append, List.length_append, cellsB_length, cellsB_length]
      rw [this]; exact List.take_left
section
variable {ops : Array Oper} {rest : List Oper} {o : Oper} {a : Act} {w : World} {Q : Exit → Act → World → Prop}
theorem wpList_append_by (hgd : o.guard = none) (s x : Operand) (ho : o.op = .call { callee := .builtin .append, args := #[s, x], argTypes := #[67, 67] })
    (base : Nat) (v : Value) (b : Bs) (hs : a.eval s = v) (hown : OwnBy w base v b) (ad : Addr) (m c : Nat) (b2 : Bs) (hx : a.eval x = .slice (some ad) m c) (hl : b2.length = m) (hnews : ∀ j u, (cellsB b2)[j]? = some u → w.cell? (ad.add j) = some u)
    (hsz : b.length + m ≤ 1000000) (hbase : base ≤ w.heap.size)
    (h : ∀ v' w', OwnBy w' base v' (b ++ b2) → Below base w w' → wpList Tryd.prog ops Q rest (a.put o.dst v') w') : wpList Tryd.prog ops Q (o :: rest) a w := by
  refine wpList_plain hgd fun _ hK => ?_
  obtain ⟨v', w', hr, h2, h3⟩ := append_by w o.type base v b hown ad m c b2 hl hnews hsz hbase
  unfold Oper.wp execOp
  simp only [ho, resolve, invoke, builtin, Sem.run_bind, Sem.run_pure, Result.andThen_ok, List.map_toArray, List.map_cons, List.map_nil, hs, hx, hr]
  exact hK _ _ (h v' w' h2 (hown.grown h3 hbase))
theorem wpList_bytes_of (hgd : o.guard = none) (x : Operand) (ho : o.op = .convert 9 67 x) (s : Bs) (hx : a.eval x = .string ⟨s.toArray⟩) (hs : s.length ≤ 1000000)
    (h : ∀ v' w', OwnBy w' w.heap.size v' s → Below w.heap.size w w' → wpList Tryd.prog ops Q rest (a.put o.dst v') w') : wpList Tryd.prog ops Q (o :: rest) a w := by
  refine wpList_plain hgd fun _ hK => ?_
  obtain ⟨v', w', hr, h2, h3⟩ := bytes_of s w hs
  unfold Oper.wp execOp
  simp only [ho, hx, hr, Sem.run_bind, Sem.run_pure, Result.andThen_ok]
  exact hK _ _ (h v' w' h2 h3)
end
end Go.Proofs.YtcocengpekndjaaDoor
