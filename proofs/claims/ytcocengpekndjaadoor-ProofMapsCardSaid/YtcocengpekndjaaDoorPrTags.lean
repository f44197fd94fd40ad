/- Rows of tags: slices of bytes that are read. -/
import Derived.Test.YtcocengpekndjaaDoorPrOpenB
import Derived.Test.YtcocengpekndjaaDoorPrBytes
namespace Go.Proofs.YtcocengpekndjaaDoor
open Go.RowKit
/-- The bytes ts lie at A. -/
def Tags (w : World) (A : Option Addr) (ts : List UInt8) : Prop := ts = [] ∨ ∃ a, A = some a ∧ ∀ i (h : i < ts.length), w.cell? (a.add i) = some (.int .u8 (ts[i].toNat : Int))
theorem Tags.next {w w' : World} {A : Option Addr} {ts : List UInt8} (h : Tags w A ts) (hB : Below w.heap.size w w') : Tags w' A ts := by
  rcases h with h | ⟨a, e, h⟩
  · exact .inl h
  · exact .inr ⟨a, e, fun i hi => cell_kept hB (h i hi)⟩
theorem Tags.cell {w : World} {a : Addr} {ts : List UInt8} (h : Tags w (some a) ts) {i : Nat} (hi : i < ts.length) : w.cell? (a.add i) = some (.int .u8 (ts[i].toNat : Int)) := by
  rcases h with h | ⟨a', e, h⟩
  · rw [h] at hi; simp at hi
  · cases e; exact h i hi
section
open Go.ChangeShapes Go.WideShapes Go.RowKit Go.Deep
variable {H : Type} {enc : TypeId × Value → H} {w : World}
set_option maxRecDepth 20000 in
/-- A row of bytes, read. -/
theorem open_tags {r : Reach} {b0 : Nat} {held : Bool} {v : Value} {d : DataW H} {p : List MemPlace} (hval : Value.okWide Tryd.prog w r b0 67 v) (h : DataW.Trod enc Tryd.prog w 0 (fun _ => true) held 67 v d p) :
    ∃ A l c, v = .slice A (List.length l) c ∧ Tags w A l ∧ l.length ≤ c := by
  obtain ⟨A, len, c, rfl⟩ := okWide_slice (show Tryd.prog.underlying 67 = some (.slice 5) by kernel_rfl) hval
  obtain ⟨fuel, hf⟩ := h
  rcases open_slice (show Tryd.prog.underlying 67 = some (.slice 5) by kernel_rfl) hf with ⟨hcs, _⟩ | ⟨a, len', cap', m, n, D, Pl, hcs, hb, hl, hm, hmm, hx, hi⟩
  · simp [Value.cells] at hcs
    obtain ⟨rfl, rfl, rfl⟩ := hcs
    exact ⟨none, [], 0, rfl, .inl rfl, Nat.le_refl _⟩
  · simp [Value.cells] at hcs
    obtain ⟨rfl, rfl, rfl⟩ := hcs
    simp only [if_true] at hmm
    subst hmm
    have each : ∀ i, i < len → ∃ s : UInt8, w.cell? (a.add i) = some (.int .u8 (s.toNat : Int)) := fun i h' => by
      obtain ⟨cs', h1, h2⟩ := hi i (by omega)
      rw [Tryd.cellsByte, Nat.mul_one] at h1
      obtain ⟨z, rfl, _, wf⟩ := DataW.trod_int und_byte h2
      obtain ⟨_, _, hat⟩ := World.cells?_some h1
      have c0 := hat 0 (by simp)
      have a0 : (a.add i).add 0 = a.add i := by rw [Addr.add, if_pos rfl]
      rw [a0] at c0
      have wf' : 0 ≤ z ∧ z ≤ 255 := by simpa [Lit.wf, IntKind.min, IntKind.max, IntKind.signed, IntKind.bits] using wf
      refine ⟨z.toNat.toUInt8, ?_⟩
      rw [toUInt8_int wf'.1 wf'.2]
      simpa using c0
    obtain ⟨q, hq⟩ := choose_lt each
    refine ⟨some a, (List.range len).map q, _, by rw [List.length_map, List.length_range], .inr ⟨a, rfl, fun j hj => ?_⟩, by simpa using hl⟩
    simp only [List.length_map, List.length_range] at hj
    simp only [List.getElem_map, List.getElem_range]
    exact hq j hj
end
end Go.Proofs.YtcocengpekndjaaDoor
