/- A slice of runs as an argument: its cells. -/
import Derived.Test.YtfmplibjhohpgaaSpFroms
import Derived.Deep.Slices
import Derived.Deep.Fields
import Derived.ChangeSame
import Derived.ProofKit
namespace Go.Proofs.Ytfmplibjhohpgaa
open Go.ChangeShapes Go.WideShapes Go.RowKit Go.Deep

theorem Try.own : ownKnob Try.prog.godebug = none := by kernel_rfl
theorem Try.laidOut : laidOutB Try.prog = true := by kernel_rfl
theorem Try.cellsRun : Try.prog.cellsOf 35 = 3 := by kernel_rfl
theorem Try.cellsInt : Try.prog.cellsOf 3 = 1 := by kernel_rfl
instance : Inhabited Rn := ⟨⟨0, 0, 0⟩⟩
theorem block_lt_of_cell {w : World} {a : Addr} {v : Value} (h : w.cell? a = some v) : a.block < w.heap.size := by
  refine Classical.byContradiction fun hn => ?_
  have e : w.heap[a.block]? = none := Array.getElem?_eq_none (by omega)
  simp [World.cell?, e] at h
set_option maxRecDepth 20000 in
/-- One run, read. -/
theorem read_run {H : Type} {enc : TypeId × Value → H} {w : World} {base : Nat} {spare : Nat → Bool} {held : Bool} {n : Nat} {cs : List Value} {x : DataW H × List MemPlace} {a : Addr}
    (hc : w.cells? base a 3 = some cs) (h : DataW.trod enc Try.prog w base spare held n 35 cs = some x) : ∃ r : Rn, RunAt w a r ∧ a.block < w.heap.size := by
  obtain ⟨_, hl, hat⟩ := World.cells?_some hc
  obtain ⟨xs, k, rfl, hx, _, hxl, hf⟩ := DataW.trod_struct Try.underlying35 h
  replace hxl : xs.length = 3 := hxl
  match xs, hxl, cs, hl with
  | [y0, y1, y2], _, [v0, v1, v2], _ =>
    have g0 : DataW.trod enc Try.prog w base spare held k 3 [v0] = some y0 := by have g := hf 0 _ rfl; simpa [Try.cellsInt] using g
    have g1 : DataW.trod enc Try.prog w base spare held k 3 [v1] = some y1 := by have g := hf 1 _ rfl; simpa [Try.cellsInt] using g
    have g2 : DataW.trod enc Try.prog w base spare held k 3 [v2] = some y2 := by have g := hf 2 _ rfl; simpa [Try.cellsInt] using g
    obtain ⟨z0, e0, _⟩ := DataW.trod_int Try.underlying3 g0
    obtain ⟨z1, e1, _⟩ := DataW.trod_int Try.underlying3 g1
    obtain ⟨z2, e2, _⟩ := DataW.trod_int Try.underlying3 g2
    simp only [List.cons.injEq, and_true] at e0 e1 e2
    subst e0 e1 e2
    have c0 := hat 0 (by omega)
    have c1 := hat 1 (by omega)
    have c2 := hat 2 (by omega)
    have a0 : a.add 0 = a := by unfold Addr.add; rw [if_pos rfl]
    have aj : ∀ j, j ≠ 0 → a.add j = ⟨a.block, a.off + j, none⟩ := fun j hj => by unfold Addr.add; rw [if_neg hj]
    rw [a0] at c0
    rw [aj 1 (by decide)] at c1
    rw [aj 2 (by decide)] at c2
    have c0' : w.cell? a = some (.int .i64 z0) := by simpa using c0
    refine ⟨⟨z0, z1, z2⟩, ⟨c0', by simpa using c1, by simpa using c2⟩, ?_⟩
    exact block_lt_of_cell c0'
/-- A slice of runs, read. -/
theorem open_runs {H : Type} {enc : TypeId × Value → H} {w : World} {held : Bool} {A : Option Addr} {len c : Nat} {d : DataW H} {p : List MemPlace}
    (h : DataW.Trod enc Try.prog w 0 (fun _ => true) held 22 (.slice A len c) d p) : ∃ L : List Rn, L.length = len ∧ Runs w A L ∧ L.length ≤ c ∧ (A = none → c = 0 ∧ L = []) := by
  obtain ⟨fuel, hf⟩ := h
  rcases open_slice Try.underlying22 hf with ⟨hcs, _⟩ | ⟨a, len', cap', m, n, D, Pl, hcs, hb, hl, hm, hmm, hx, hi⟩
  · simp [Value.cells] at hcs
    obtain ⟨rfl, rfl, rfl⟩ := hcs
    exact ⟨[], rfl, .inl rfl, Nat.le_refl _, fun _ => ⟨rfl, rfl⟩⟩
  · simp [Value.cells] at hcs
    obtain ⟨rfl, rfl, rfl⟩ := hcs
    simp only [if_true] at hmm
    subst hmm
    have each : ∀ i, i < len → ∃ r : Rn, RunAt w (a.add (i * 3)) r ∧ (a.add (i * 3)).block < w.heap.size := fun i h' => by
      obtain ⟨cs', h1, h2⟩ := hi i (by omega)
      rw [Try.cellsRun] at h1
      exact read_run h1 h2
    obtain ⟨q, hq⟩ := choose_lt each
    refine ⟨(List.range len).map q, by simp, ?_, by simpa using hl, fun e => by cases e⟩
    by_cases h0 : len = 0
    · subst h0; exact .inl rfl
    · refine .inr ⟨a, rfl, ?_, fun i h' => ?_⟩
      · have := (hq 0 (by omega)).2
        rwa [add_block] at this
      · rw [List.length_map, List.length_range] at h'
        rw [List.getElem_map, List.getElem_range]
        exact (hq i h').1
end Go.Proofs.Ytfmplibjhohpgaa
