/- The journal layer: rows of Bools as arguments, read. -/
import Derived.Test.YtkljfampkkfgdaaJOpenB
import Derived.Test.YtkljfampkkfgdaaJKeepsL
import Derived.ChangeArms
namespace Go.Proofs.Ytkljfampkkfgdaa
section
open Go.ChangeShapes Go.WideShapes Go.RowKit Go.Deep
variable {H : Type} {enc : TypeId × Value → H} {w : World}
set_option maxRecDepth 20000 in
theorem open_bools {r : Reach} {b0 : Nat} {held : Bool} {v : Value} {d : DataW H} {p : List MemPlace} (hval : Value.okWide Try.prog w r b0 58 v) (h : DataW.Trod enc Try.prog w 0 (fun _ => true) held 58 v d p) :
    ∃ A c, ∃ l : List Bool, v = .slice A l.length c ∧ Bools w A l ∧ l.length ≤ c := by
  obtain ⟨A, len, c, rfl⟩ := okWide_slice (show Try.prog.underlying 58 = some (.slice 4) by kernel_rfl) hval
  obtain ⟨fuel, hf⟩ := h
  rcases open_slice (show Try.prog.underlying 58 = some (.slice 4) by kernel_rfl) hf with ⟨hcs, _⟩ | ⟨a, len', cap', m, n, D, Pl, hcs, hb, hl, hm, hmm, hx, hi⟩
  · simp [Value.cells] at hcs
    obtain ⟨rfl, rfl, rfl⟩ := hcs
    exact ⟨none, 0, [], rfl, .inl rfl, Nat.le_refl _⟩
  · simp [Value.cells] at hcs
    obtain ⟨rfl, rfl, rfl⟩ := hcs
    simp only [if_true] at hmm
    subst hmm
    have each : ∀ i, i < len → ∃ z : Bool, w.cell? (a.add i) = some (.bool z) := fun i h' => by
      obtain ⟨cs', h1, h2⟩ := hi i (by omega)
      rw [Try.cellsBool, Nat.mul_one] at h1
      obtain ⟨z, rfl, _⟩ := DataW.trod_bool Try.underlying4 h2
      obtain ⟨_, _, hat⟩ := World.cells?_some h1
      have c0 := hat 0 (by simp)
      rw [show (a.add i).add 0 = a.add i from by rw [Addr.add, if_pos rfl]] at c0
      exact ⟨z, by simpa using c0⟩
    obtain ⟨q, hq⟩ := choose_lt each
    refine ⟨some a, _, (List.range len).map q, by rw [List.length_map, List.length_range], .inr ⟨a, rfl, fun i h' => ?_⟩, by simpa using hl⟩
    rw [List.length_map, List.length_range] at h'
    rw [List.getElem_map, List.getElem_range]
    exact hq i h'
end
end Go.Proofs.Ytkljfampkkfgdaa
