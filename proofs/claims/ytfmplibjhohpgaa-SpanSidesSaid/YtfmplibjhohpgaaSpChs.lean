/- Lists of changes in memory. -/
import Derived.Test.YtfmplibjhohpgaaSpApplyL
import Derived.Test.YtfmplibjhohpgaaSpDoAny
namespace Go.Proofs.Ytfmplibjhohpgaa
open Go.RowKit Go.Shelf

/-- The four cells of a change. -/
def ChAt (w : World) (e : Addr) (x : Ch) : Prop :=
  w.cell? e = some (.int .i64 x.lo) ∧ w.cell? ⟨e.block, e.off + 1, none⟩ = some (.int .i64 x.hi) ∧ w.cell? ⟨e.block, e.off + 2, none⟩ = some (.int .i64 x.frm) ∧ w.cell? ⟨e.block, e.off + 3, none⟩ = some (.int .i64 x.to)
/-- A slice with the address A holds the changes L. -/
def Chs (w : World) (A : Option Addr) (L : List Ch) : Prop :=
  L = [] ∨ ∃ a : Addr, A = some a ∧ a.block < w.heap.size ∧ ∀ i (h : i < L.length), ChAt w (a.add (i * 4)) L[i]
theorem ChAt.below {n₀ : Nat} {w w' : World} (hB : Below n₀ w w') {e : Addr} {x : Ch} (he : e.block < n₀) (h : ChAt w e x) : ChAt w' e x :=
  ⟨(hB.cell he).trans h.1, (hB.cell (p := ⟨e.block, e.off + 1, none⟩) he).trans h.2.1, (hB.cell (p := ⟨e.block, e.off + 2, none⟩) he).trans h.2.2.1, (hB.cell (p := ⟨e.block, e.off + 3, none⟩) he).trans h.2.2.2⟩
theorem Chs.below {w w' : World} (hB : Below w.heap.size w w') {A : Option Addr} {L : List Ch} (h : Chs w A L) : Chs w' A L := by
  rcases h with h | ⟨a, rfl, hb, h⟩
  · exact .inl h
  · exact .inr ⟨a, rfl, Nat.lt_of_lt_of_le hb hB.size, fun i hi => (h i hi).below hB (by rw [add_block]; exact hb)⟩
theorem Chs.at_ {w : World} {a : Addr} {L : List Ch} (h : Chs w (some a) L) {i : Nat} (hi : i < L.length) : a.block < w.heap.size ∧ ChAt w (a.add (i * 4)) L[i] := by
  rcases h with h | ⟨a', ha, hb, h⟩
  · rw [h] at hi; simp at hi
  · cases ha; exact ⟨hb, h i hi⟩
theorem Chs.some_ {w : World} {A : Option Addr} {L : List Ch} (h : Chs w A L) {i : Nat} (hi : i < L.length) : ∃ a, A = some a := by
  rcases h with hh | ⟨a, hh, _⟩
  · rw [hh] at hi; simp at hi
  · exact ⟨a, hh⟩
/-- The box of a change. -/
def BoxCh (W : World) (b : Nat) (x : Ch) : Prop := W.heap[b]? = some (.cells #[.int .i64 x.lo, .int .i64 x.hi, .int .i64 x.frm, .int .i64 x.to] 74 (0, 0))
theorem BoxCh.new (w : World) (x : Ch) : BoxCh (w.alloc (.cells #[.int .i64 x.lo, .int .i64 x.hi, .int .i64 x.frm, .int .i64 x.to] 74)) w.heap.size x := heap_alloc_new w _
theorem BoxCh.lt {W : World} {b : Nat} {x : Ch} (h : BoxCh W b x) : b < W.heap.size := (Array.getElem?_eq_some_iff.1 h).1
theorem BoxCh.next {W W' : World} {b : Nat} {x : Ch} (h : BoxCh W b x) (hB : Below W.heap.size W W') : BoxCh W' b x := (hB.block b h.lt).trans h
theorem BoxCh.c0 {W : World} {b : Nat} {x : Ch} (h : BoxCh W b x) : W.cell? ⟨b, 0, none⟩ = some (.int .i64 x.lo) := cell_of_row W b 0 _ _ _ h
theorem BoxCh.c1 {W : World} {b : Nat} {x : Ch} (h : BoxCh W b x) : W.cell? ⟨b, 1, none⟩ = some (.int .i64 x.hi) := cell_of_row W b 1 _ _ _ h
theorem BoxCh.c2 {W : World} {b : Nat} {x : Ch} (h : BoxCh W b x) : W.cell? ⟨b, 2, none⟩ = some (.int .i64 x.frm) := cell_of_row W b 2 _ _ _ h
theorem BoxCh.c3 {W : World} {b : Nat} {x : Ch} (h : BoxCh W b x) : W.cell? ⟨b, 3, none⟩ = some (.int .i64 x.to) := cell_of_row W b 3 _ _ _ h
end Go.Proofs.Ytfmplibjhohpgaa
