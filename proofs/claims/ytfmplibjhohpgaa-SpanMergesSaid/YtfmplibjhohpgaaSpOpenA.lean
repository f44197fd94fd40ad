/- A slice of runs as an argument: its cells. A slice of updates as an argument, and an update by value: the cells. -/
import Derived.Test.YtfmplibjhohpgaaSpFroms
import Derived.Deep.Slices
import Derived.Deep.Fields
import Derived.ChangeSame
import Derived.ProofKit
import Derived.Test.YtfmplibjhohpgaaSpLaws
import Derived.Lib.SmallJoins
namespace Go.Proofs.Ytfmplibjhohpgaa
section
open Go.ChangeShapes Go.WideShapes Go.RowKit Go.Deep

theorem Try.own : ownKnob Try.prog.godebug = none := by kernel_rfl
theorem Try.laidOut : laidOutB Try.prog = true := by kernel_rfl
theorem Try.cellsRun : Try.prog.cellsOf 35 = 3 := by kernel_rfl
theorem Try.cellsInt : Try.prog.cellsOf 3 = 1 := by kernel_rfl
instance : Inhabited Rn := ⟨⟨0, 0, 0⟩⟩
theorem block_lt_of_cell {w : World} {a : Addr} {v : Value} (h : w.cell? a = some v) : a.block < w.heap.size := by
  refine Classical.byContradiction fun hn => ?_
  have e : w.heap[a.block]? = none := Array.getElem?_eq_none (by omega)
  simp [World.cell?, e] at h
set_option maxRecDepth 20000 in
/-- One run, read. -/
theorem read_run {H : Type} {enc : TypeId × Value → H} {w : World} {base : Nat} {spare : Nat → Bool} {held : Bool} {n : Nat} {cs : List Value} {x : DataW H × List MemPlace} {a : Addr}
    (hc : w.cells? base a 3 = some cs) (h : DataW.trod enc Try.prog w base spare held n 35 cs = some x) : ∃ r : Rn, RunAt w a r ∧ a.block < w.heap.size := by
  obtain ⟨_, hl, hat⟩ := World.cells?_some hc
  obtain ⟨xs, k, rfl, hx, _, hxl, hf⟩ := DataW.trod_struct Try.underlying35 h
  replace hxl : xs.length = 3 := hxl
  match xs, hxl, cs, hl with
  | [y0, y1, y2], _, [v0, v1, v2], _ =>
    have g0 : DataW.trod enc Try.prog w base spare held k 3 [v0] = some y0 := by have g := hf 0 _ rfl; simpa [Try.cellsInt] using g
    have g1 : DataW.trod enc Try.prog w base spare held k 3 [v1] = some y1 := by have g := hf 1 _ rfl; simpa [Try.cellsInt] using g
    have g2 : DataW.trod enc Try.prog w base spare held k 3 [v2] = some y2 := by have g := hf 2 _ rfl; simpa [Try.cellsInt] using g
    obtain ⟨z0, e0, _⟩ := DataW.trod_int Try.underlying3 g0
    obtain ⟨z1, e1, _⟩ := DataW.trod_int Try.underlying3 g1
    obtain ⟨z2, e2, _⟩ := DataW.trod_int Try.underlying3 g2
    simp only [List.cons.injEq, and_true] at e0 e1 e2
    subst e0 e1 e2
    have c0 := hat 0 (by omega)
    have c1 := hat 1 (by omega)
    have c2 := hat 2 (by omega)
    have a0 : a.add 0 = a := by unfold Addr.add; rw [if_pos rfl]
    have aj : ∀ j, j ≠ 0 → a.add j = ⟨a.block, a.off + j, none⟩ := fun j hj => by unfold Addr.add; rw [if_neg hj]
    rw [a0] at c0
    rw [aj 1 (by decide)] at c1
    rw [aj 2 (by decide)] at c2
    have c0' : w.cell? a = some (.int .i64 z0) := by simpa using c0
    refine ⟨⟨z0, z1, z2⟩, ⟨c0', by simpa using c1, by simpa using c2⟩, ?_⟩
    exact block_lt_of_cell c0'
/-- A slice of runs, read. -/
theorem open_runs {H : Type} {enc : TypeId × Value → H} {w : World} {held : Bool} {A : Option Addr} {len c : Nat} {d : DataW H} {p : List MemPlace}
    (h : DataW.Trod enc Try.prog w 0 (fun _ => true) held 22 (.slice A len c) d p) : ∃ L : List Rn, L.length = len ∧ Runs w A L ∧ L.length ≤ c ∧ (A = none → c = 0 ∧ L = []) := by
  obtain ⟨fuel, hf⟩ := h
  rcases open_slice Try.underlying22 hf with ⟨hcs, _⟩ | ⟨a, len', cap', m, n, D, Pl, hcs, hb, hl, hm, hmm, hx, hi⟩
  · simp [Value.cells] at hcs
    obtain ⟨rfl, rfl, rfl⟩ := hcs
    exact ⟨[], rfl, .inl rfl, Nat.le_refl _, fun _ => ⟨rfl, rfl⟩⟩
  · simp [Value.cells] at hcs
    obtain ⟨rfl, rfl, rfl⟩ := hcs
    simp only [if_true] at hmm
    subst hmm
    have each : ∀ i, i < len → ∃ r : Rn, RunAt w (a.add (i * 3)) r ∧ (a.add (i * 3)).block < w.heap.size := fun i h' => by
      obtain ⟨cs', h1, h2⟩ := hi i (by omega)
      rw [Try.cellsRun] at h1
      exact read_run h1 h2
    obtain ⟨q, hq⟩ := choose_lt each
    refine ⟨(List.range len).map q, by simp, ?_, by simpa using hl, fun e => by cases e⟩
    by_cases h0 : len = 0
    · subst h0; exact .inl rfl
    · refine .inr ⟨a, rfl, ?_, fun i h' => ?_⟩
      · have := (hq 0 (by omega)).2
        rwa [add_block] at this
      · rw [List.length_map, List.length_range] at h'
        rw [List.getElem_map, List.getElem_range]
        exact (hq i h').1
end
section
open Go.ChangeShapes Go.WideShapes Go.RowKit Go.Deep

theorem Try.cellsAct : Try.prog.cellsOf 40 = 5 := by kernel_rfl
theorem Try.cellsBool : Try.prog.cellsOf 4 = 1 := by kernel_rfl
instance : Inhabited Ac := ⟨⟨false, 0, 0, 0, 0⟩⟩
/-- An update as a value. -/
def actV (x : Ac) : Value := .agg #[.bool x.swap, .int .i64 x.lo, .int .i64 x.hi, .int .i64 x.frm, .int .i64 x.to]
set_option maxRecDepth 20000 in
/-- The five cells of an update, read. -/
theorem cells_act {H : Type} {enc : TypeId × Value → H} {w : World} {base : Nat} {spare : Nat → Bool} {held : Bool} {n : Nat} {cs : List Value} {x : DataW H × List MemPlace}
    (hl : cs.length = 5) (h : DataW.trod enc Try.prog w base spare held n 40 cs = some x) : ∃ r : Ac, cs = [.bool r.swap, .int .i64 r.lo, .int .i64 r.hi, .int .i64 r.frm, .int .i64 r.to] := by
  obtain ⟨xs, k, rfl, hx, _, hxl, hf⟩ := DataW.trod_struct Try.underlying40 h
  replace hxl : xs.length = 5 := hxl
  match xs, hxl, cs, hl with
  | [y0, y1, y2, y3, y4], _, [v0, v1, v2, v3, v4], _ =>
    have g0 : DataW.trod enc Try.prog w base spare held k 4 [v0] = some y0 := by have g := hf 0 _ rfl; simpa [Try.cellsBool] using g
    have g1 : DataW.trod enc Try.prog w base spare held k 3 [v1] = some y1 := by have g := hf 1 _ rfl; simpa [Try.cellsInt] using g
    have g2 : DataW.trod enc Try.prog w base spare held k 3 [v2] = some y2 := by have g := hf 2 _ rfl; simpa [Try.cellsInt] using g
    have g3 : DataW.trod enc Try.prog w base spare held k 3 [v3] = some y3 := by have g := hf 3 _ rfl; simpa [Try.cellsInt] using g
    have g4 : DataW.trod enc Try.prog w base spare held k 3 [v4] = some y4 := by have g := hf 4 _ rfl; simpa [Try.cellsInt] using g
    obtain ⟨b, e0, _⟩ := DataW.trod_bool Try.underlying4 g0
    obtain ⟨z1, e1, _⟩ := DataW.trod_int Try.underlying3 g1
    obtain ⟨z2, e2, _⟩ := DataW.trod_int Try.underlying3 g2
    obtain ⟨z3, e3, _⟩ := DataW.trod_int Try.underlying3 g3
    obtain ⟨z4, e4, _⟩ := DataW.trod_int Try.underlying3 g4
    simp only [List.cons.injEq, and_true] at e0 e1 e2 e3 e4
    subst e0 e1 e2 e3 e4
    exact ⟨⟨b, z1, z2, z3, z4⟩, rfl⟩
/-- An update in memory, read. -/
theorem read_act {H : Type} {enc : TypeId × Value → H} {w : World} {base : Nat} {spare : Nat → Bool} {held : Bool} {n : Nat} {cs : List Value} {x : DataW H × List MemPlace} {a : Addr}
    (hc : w.cells? base a 5 = some cs) (h : DataW.trod enc Try.prog w base spare held n 40 cs = some x) : ∃ r : Ac, ActAt w a r ∧ a.block < w.heap.size := by
  obtain ⟨_, hl, hat⟩ := World.cells?_some hc
  obtain ⟨r, rfl⟩ := cells_act hl h
  have a0 : a.add 0 = a := by unfold Addr.add; rw [if_pos rfl]
  have aj : ∀ j, j ≠ 0 → a.add j = ⟨a.block, a.off + j, none⟩ := fun j hj => by unfold Addr.add; rw [if_neg hj]
  have c0 := hat 0 (by simp)
  have c1 := hat 1 (by simp)
  have c2 := hat 2 (by simp)
  have c3 := hat 3 (by simp)
  have c4 := hat 4 (by simp)
  rw [a0] at c0
  rw [aj 1 (by decide)] at c1
  rw [aj 2 (by decide)] at c2
  rw [aj 3 (by decide)] at c3
  rw [aj 4 (by decide)] at c4
  have c0' : w.cell? a = some (.bool r.swap) := by simpa using c0
  exact ⟨r, ⟨c0', by simpa using c1, by simpa using c2, by simpa using c3, by simpa using c4⟩, block_lt_of_cell c0'⟩
/-- A slice of updates, read. -/
theorem open_acts {H : Type} {enc : TypeId × Value → H} {w : World} {held : Bool} {A : Option Addr} {len c : Nat} {d : DataW H} {p : List MemPlace}
    (h : DataW.Trod enc Try.prog w 0 (fun _ => true) held 38 (.slice A len c) d p) : ∃ L : List Ac, L.length = len ∧ Acts w A L ∧ L.length ≤ c ∧ (A = none → c = 0 ∧ L = []) := by
  obtain ⟨fuel, hf⟩ := h
  rcases open_slice Try.underlying38 hf with ⟨hcs, _⟩ | ⟨a, len', cap', m, n, D, Pl, hcs, hb, hl, hm, hmm, hx, hi⟩
  · simp [Value.cells] at hcs
    obtain ⟨rfl, rfl, rfl⟩ := hcs
    exact ⟨[], rfl, .inl rfl, Nat.le_refl _, fun _ => ⟨rfl, rfl⟩⟩
  · simp [Value.cells] at hcs
    obtain ⟨rfl, rfl, rfl⟩ := hcs
    simp only [if_true] at hmm
    subst hmm
    have each : ∀ i, i < len → ∃ r : Ac, ActAt w (a.add (i * 5)) r ∧ (a.add (i * 5)).block < w.heap.size := fun i h' => by
      obtain ⟨cs', h1, h2⟩ := hi i (by omega)
      rw [Try.cellsAct] at h1
      exact read_act h1 h2
    obtain ⟨q, hq⟩ := choose_lt each
    refine ⟨(List.range len).map q, by simp, ?_, by simpa using hl, fun e => by cases e⟩
    by_cases h0 : len = 0
    · subst h0; exact .inl rfl
    · refine .inr ⟨a, rfl, ?_, fun i h' => ?_⟩
      · have := (hq 0 (by omega)).2
        rwa [add_block] at this
      · rw [List.length_map, List.length_range] at h'
        rw [List.getElem_map, List.getElem_range]
        exact (hq i h').1
set_option maxRecDepth 20000 in
/-- An update by value, read. -/
theorem open_act {H : Type} {enc : TypeId × Value → H} {w : World} {base b0 : Nat} {spare : Nat → Bool} {held : Bool} {r : Reach} {v : Value} {d : DataW H} {p : List MemPlace}
    (hv : Value.okWide Try.prog w r b0 40 v) (h : DataW.Trod enc Try.prog w base spare held 40 v d p) : ∃ x : Ac, v = actV x := by
  obtain ⟨cs, rfl, hsz⟩ := okWide_struct Try.underlying40 hv
  obtain ⟨fuel, hf⟩ := h
  obtain ⟨l⟩ := cs
  rw [Try.cellsAct] at hsz
  have hl : l.length = 5 := hsz
  obtain ⟨x, hx⟩ := cells_act (cs := l) hl (by simpa [Value.cells] using hf)
  exact ⟨x, by rw [hx]; rfl⟩
end
end Go.Proofs.Ytfmplibjhohpgaa
