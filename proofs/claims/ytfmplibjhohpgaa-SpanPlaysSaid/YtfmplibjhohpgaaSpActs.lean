/- Lists of updates: in memory, and what they do to a map. -/
import Derived.Test.YtfmplibjhohpgaaSpSwapAny
namespace Go.Proofs.Ytfmplibjhohpgaa
open Go.RowKit

/-- An update. -/
structure Ac where
  swap : Bool
  lo : Int
  hi : Int
  frm : Int
  to : Int
/-- The five cells of an update. -/
def ActAt (w : World) (e : Addr) (x : Ac) : Prop :=
  w.cell? e = some (.bool x.swap) ∧ w.cell? ⟨e.block, e.off + 1, none⟩ = some (.int .i64 x.lo) ∧ w.cell? ⟨e.block, e.off + 2, none⟩ = some (.int .i64 x.hi) ∧ w.cell? ⟨e.block, e.off + 3, none⟩ = some (.int .i64 x.frm) ∧ w.cell? ⟨e.block, e.off + 4, none⟩ = some (.int .i64 x.to)
/-- A slice with the address A holds the updates L. -/
def Acts (w : World) (A : Option Addr) (L : List Ac) : Prop :=
  L = [] ∨ ∃ a : Addr, A = some a ∧ a.block < w.heap.size ∧ ∀ i (h : i < L.length), ActAt w (a.add (i * 5)) L[i]
theorem ActAt.below {n₀ : Nat} {w w' : World} (hB : Below n₀ w w') {e : Addr} {x : Ac} (he : e.block < n₀) (h : ActAt w e x) : ActAt w' e x :=
  ⟨(hB.cell he).trans h.1, (hB.cell (p := ⟨e.block, e.off + 1, none⟩) he).trans h.2.1, (hB.cell (p := ⟨e.block, e.off + 2, none⟩) he).trans h.2.2.1, (hB.cell (p := ⟨e.block, e.off + 3, none⟩) he).trans h.2.2.2.1, (hB.cell (p := ⟨e.block, e.off + 4, none⟩) he).trans h.2.2.2.2⟩
theorem Acts.below {w w' : World} (hB : Below w.heap.size w w') {A : Option Addr} {L : List Ac} (h : Acts w A L) : Acts w' A L := by
  rcases h with h | ⟨a, rfl, hb, h⟩
  · exact .inl h
  · exact .inr ⟨a, rfl, Nat.lt_of_lt_of_le hb hB.size, fun i hi => (h i hi).below hB (by rw [add_block]; exact hb)⟩
theorem Acts.at_ {w : World} {a : Addr} {L : List Ac} (h : Acts w (some a) L) {i : Nat} (hi : i < L.length) : a.block < w.heap.size ∧ ActAt w (a.add (i * 5)) L[i] := by
  rcases h with h | ⟨a', ha, hb, h⟩
  · rw [h] at hi; simp at hi
  · cases ha; exact ⟨hb, h i hi⟩
/-- What an update returns: an error, and the runs. -/
def actR (L : List (Int × Int)) (x : Ac) : Int × List (Int × Int) :=
  if x.swap = true then ((swapR L x.lo x.hi x.frm x.to).1, (swapR L x.lo x.hi x.frm x.to).2.2) else setR L x.lo x.hi x.to
def actL (L : List (Int × Int)) (x : Ac) : List (Int × Int) := if (actR L x).1 = 0 then (actR L x).2 else L
/-- The runs after updates, of which those with an error do nothing. -/
def moreL (L : List (Int × Int)) (l : List Ac) : List (Int × Int) := l.foldl actL L
theorem moreL_snoc (L : List (Int × Int)) (l : List Ac) (x : Ac) : moreL L (l ++ [x]) = actL (moreL L l) x := by simp [moreL]
theorem actR_good {L : List (Int × Int)} (h : L = [] ∨ Good L) (x : Ac) : (actR L x).2 = [] ∨ Good (actR L x).2 := by
  unfold actR; split
  · exact swapR_good h _ _ _ _
  · exact setR_good h _ _ _
end Go.Proofs.Ytfmplibjhohpgaa
