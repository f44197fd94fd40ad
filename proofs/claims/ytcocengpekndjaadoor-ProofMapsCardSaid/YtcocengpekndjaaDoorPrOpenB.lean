/- Claims, rows of strings, of runs and of bytes as arguments. -/
import Derived.Test.YtcocengpekndjaaDoorPrOpen
import Derived.Test.YtcocengpekndjaaDoorPrStrs
import Derived.Test.YtcocengpekndjaaDoorPrAcc
import Derived.Deep.Slices
import Derived.Deep.Fields
namespace Go.Proofs.YtcocengpekndjaaDoor
section
open Go.ChangeShapes Go.WideShapes Go.RowKit Go.Deep
theorem Tryd.cellsRun : Tryd.prog.cellsOf 34 = 3 := by kernel_rfl
theorem Tryd.cellsInt : Tryd.prog.cellsOf 3 = 1 := by kernel_rfl
theorem Tryd.cellsStr : Tryd.prog.cellsOf 9 = 1 := by kernel_rfl
theorem Tryd.cellsHs : Tryd.prog.cellsOf 35 = 1 := by kernel_rfl
theorem Tryd.cellsRuns : Tryd.prog.cellsOf 41 = 1 := by kernel_rfl
instance : Inhabited Rn := ⟨⟨0, 0, 0⟩⟩
theorem block_lt_of_cell {w : World} {a : Addr} {v : Value} (h : w.cell? a = some v) : a.block < w.heap.size := by
  refine Classical.byContradiction fun hn => ?_
  have e : w.heap[a.block]? = none := Array.getElem?_eq_none (by omega)
  simp [World.cell?, e] at h
/-- Numbers of 64 bits. -/
def I64 (z : Int) : Prop := IntKind.i64.min ≤ z ∧ z ≤ IntKind.i64.max
theorem I64.range {z : Int} (h : I64 z) : -9223372036854775808 ≤ z ∧ z < 9223372036854775808 := by
  obtain ⟨h1, h2⟩ := h
  have e1 : IntKind.i64.min = -9223372036854775808 := by decide
  have e2 : IntKind.i64.max = 9223372036854775807 := by decide
  omega
theorem i64_max {z : Int} (h : IntKind.i64.min ≤ z ∧ z ≤ IntKind.i64.max) : z ≤ 9223372036854775807 := by
  have e : IntKind.i64.max = 9223372036854775807 := by decide
  omega
theorem u8_range {z : Int} (h : IntKind.u8.min ≤ z ∧ z ≤ IntKind.u8.max) : 0 ≤ z ∧ z ≤ 255 := by
  have e1 : IntKind.u8.min = 0 := by decide
  have e2 : IntKind.u8.max = 255 := by decide
  omega
variable {H : Type} {enc : TypeId × Value → H} {w : World}
theorem field_int {base : Nat} {spare : Nat → Bool} {held : Bool} {k : Nat} {v : Value} {y : DataW H × List MemPlace} (hf : DataW.trod enc Tryd.prog w base spare held k 3 [v] = some y) : ∃ z, v = .int .i64 z ∧ I64 z := by
  obtain ⟨z, e, _, wf⟩ := DataW.trod_int Tryd.underlying3 hf
  simp only [List.cons.injEq, and_true] at e
  exact ⟨z, e, by simpa [Lit.wf, I64] using wf⟩
theorem field_hashes {held : Bool} {k : Nat} {v : Value} {y : DataW H × List MemPlace} (hf : DataW.trod enc Tryd.prog w 0 (fun _ => true) held k 35 [v] = some y) : ∃ A l c, v = .slice A (List.length l) c ∧ Hs w A l ∧ l.length ≤ c := by
  obtain ⟨A, len, c, rfl⟩ : ∃ A len c, v = .slice A len c := by
    rcases open_slice (show Tryd.prog.underlying 35 = some (.slice 30) by kernel_rfl) hf with ⟨hcs, _⟩ | ⟨a, len', cap', m, n, D, Pl, hcs, _⟩
    · exact ⟨_, _, _, (List.cons.injEq _ _ _ _ ▸ hcs).1⟩
    · exact ⟨_, _, _, (List.cons.injEq _ _ _ _ ▸ hcs).1⟩
  obtain ⟨d, p⟩ := y
  obtain ⟨l, rfl, hs, hc⟩ := read_hashes (A := A) (len := len) (c := c) (d := d) (p := p) ⟨k, hf⟩
  exact ⟨A, l, c, rfl, hs, hc⟩
set_option maxRecDepth 20000 in
/-- The three cells of a run, read. -/
theorem cells_run {base : Nat} {spare : Nat → Bool} {held : Bool} {n : Nat} {cs : List Value} {x : DataW H × List MemPlace} (hl : cs.length = 3) (h : DataW.trod enc Tryd.prog w base spare held n 34 cs = some x) :
    ∃ r : Rn, cs = [.int .i64 r.lo, .int .i64 r.hi, .int .i64 r.tag] ∧ I64 r.lo ∧ I64 r.hi ∧ I64 r.tag := by
  obtain ⟨xs, k, rfl, hx, _, hxl, hf⟩ := DataW.trod_struct Tryd.underlying34 h
  replace hxl : xs.length = 3 := hxl
  match xs, hxl, cs, hl with
  | [y0, y1, y2], _, [v0, v1, v2], _ =>
    have g0 : DataW.trod enc Tryd.prog w base spare held k 3 [v0] = some y0 := by have g := hf 0 _ rfl; simpa [Tryd.cellsInt] using g
    have g1 : DataW.trod enc Tryd.prog w base spare held k 3 [v1] = some y1 := by have g := hf 1 _ rfl; simpa [Tryd.cellsInt] using g
    have g2 : DataW.trod enc Tryd.prog w base spare held k 3 [v2] = some y2 := by have g := hf 2 _ rfl; simpa [Tryd.cellsInt] using g
    obtain ⟨z0, rfl, e0⟩ := field_int g0
    obtain ⟨z1, rfl, e1⟩ := field_int g1
    obtain ⟨z2, rfl, e2⟩ := field_int g2
    exact ⟨⟨z0, z1, z2⟩, rfl, e0, e1, e2⟩
/-- A run in memory, read. -/
theorem read_run {base : Nat} {spare : Nat → Bool} {held : Bool} {n : Nat} {cs : List Value} {x : DataW H × List MemPlace} {a : Addr} (hc : w.cells? base a 3 = some cs) (h : DataW.trod enc Tryd.prog w base spare held n 34 cs = some x) :
    ∃ r : Rn, RunAt w a r ∧ a.block < w.heap.size ∧ I64 r.lo ∧ I64 r.hi ∧ I64 r.tag := by
  obtain ⟨_, hl, hat⟩ := World.cells?_some hc
  obtain ⟨r, rfl, e0, e1, e2⟩ := cells_run hl h
  have c0 := hat 0 (by simp)
  have c1 := hat 1 (by simp)
  have c2 := hat 2 (by simp)
  have a0 : a.add 0 = a := by unfold Addr.add; rw [if_pos rfl]
  have aj : ∀ j, j ≠ 0 → a.add j = ⟨a.block, a.off + j, none⟩ := fun j hj => by unfold Addr.add; rw [if_neg hj]
  rw [a0] at c0
  rw [aj 1 (by decide)] at c1
  rw [aj 2 (by decide)] at c2
  have c0' : w.cell? a = some (.int .i64 r.lo) := by simpa using c0
  exact ⟨r, ⟨c0', by simpa using c1, by simpa using c2⟩, block_lt_of_cell c0', e0, e1, e2⟩
/-- A row of runs, read. -/
theorem field_runs {held : Bool} {k : Nat} {v : Value} {y : DataW H × List MemPlace} (hf : DataW.trod enc Tryd.prog w 0 (fun _ => true) held k 41 [v] = some y) :
    ∃ A c, ∃ R : List Rn, v = .slice A (List.length R) c ∧ Runs w A R ∧ R.length ≤ c ∧ ∀ r ∈ R, I64 r.lo ∧ I64 r.hi ∧ I64 r.tag := by
  rcases open_slice (show Tryd.prog.underlying 41 = some (.slice 34) by kernel_rfl) hf with ⟨hcs, _⟩ | ⟨a, len, c, m, n, D, Pl, hcs, hb, hl, hm, hmm, hx, hi⟩
  · simp only [List.cons.injEq, and_true] at hcs
    subst hcs
    exact ⟨none, 0, [], rfl, .inl rfl, Nat.le_refl _, nofun⟩
  · simp only [List.cons.injEq, and_true] at hcs
    subst hcs
    simp only [if_true] at hmm
    subst hmm
    have each : ∀ i, i < len → ∃ r : Rn, RunAt w (a.add (i * 3)) r ∧ (a.add (i * 3)).block < w.heap.size ∧ I64 r.lo ∧ I64 r.hi ∧ I64 r.tag := fun i h' => by
      obtain ⟨cs', h1, h2⟩ := hi i (by omega)
      rw [Tryd.cellsRun] at h1
      exact read_run h1 h2
    obtain ⟨q, hq⟩ := choose_lt each
    refine ⟨some a, _, (List.range len).map q, by rw [List.length_map, List.length_range], ?_, by simpa using hl, fun r hr => ?_⟩
    · by_cases h0 : len = 0
      · subst h0; exact .inl rfl
      · refine .inr ⟨a, rfl, ?_, fun i h' => ?_⟩
        · have := (hq 0 (by omega)).2.1
          rwa [add_block] at this
        · rw [List.length_map, List.length_range] at h'
          rw [List.getElem_map, List.getElem_range]
          exact (hq i h').1
    · obtain ⟨i, hi, rfl⟩ := List.mem_map.1 hr
      exact (hq i (List.mem_range.1 hi)).2.2
set_option maxRecDepth 20000 in
/-- A row of strings, read. -/
theorem open_strs {r : Reach} {b0 : Nat} {held : Bool} {v : Value} {d : DataW H} {p : List MemPlace} (hval : Value.okWide Tryd.prog w r b0 57 v) (h : DataW.Trod enc Tryd.prog w 0 (fun _ => true) held 57 v d p) :
    ∃ A l c, v = .slice A (List.length l) c ∧ Strs w A l ∧ l.length ≤ c ∧ ((∃ a, A = some a) ∨ (A = none ∧ c = 0)) := by
  obtain ⟨A, len, c, rfl⟩ := okWide_slice (show Tryd.prog.underlying 57 = some (.slice 9) by kernel_rfl) hval
  obtain ⟨fuel, hf⟩ := h
  rcases open_slice (show Tryd.prog.underlying 57 = some (.slice 9) by kernel_rfl) hf with ⟨hcs, _⟩ | ⟨a, len', cap', m, n, D, Pl, hcs, hb, hl, hm, hmm, hx, hi⟩
  · simp [Value.cells] at hcs
    obtain ⟨rfl, rfl, rfl⟩ := hcs
    exact ⟨none, [], 0, rfl, .inl rfl, Nat.le_refl _, .inr ⟨rfl, rfl⟩⟩
  · simp [Value.cells] at hcs
    obtain ⟨rfl, rfl, rfl⟩ := hcs
    simp only [if_true] at hmm
    subst hmm
    have each : ∀ i, i < len → ∃ s : Bs, w.cell? (a.add i) = some (.string ⟨s.toArray⟩) := fun i h' => by
      obtain ⟨cs', h1, h2⟩ := hi i (by omega)
      rw [Tryd.cellsStr, Nat.mul_one] at h1
      obtain ⟨s, rfl, _⟩ := DataW.trod_string Tryd.underlying9 h2
      obtain ⟨_, _, hat⟩ := World.cells?_some h1
      have c0 := hat 0 (by simp)
      have a0 : (a.add i).add 0 = a.add i := by rw [Addr.add, if_pos rfl]
      rw [a0] at c0
      exact ⟨s.data.toList, by simpa using c0⟩
    obtain ⟨q, hq⟩ := choose_lt each
    refine ⟨some a, (List.range len).map q, _, by rw [List.length_map, List.length_range], .inr ⟨a, rfl, fun j u hu => ?_⟩, by simpa using hl, .inl ⟨a, rfl⟩⟩
    obtain ⟨hj, e⟩ := List.getElem?_eq_some_iff.1 hu
    simp only [List.length_map, List.length_range] at hj
    simp only [List.getElem_map, List.getElem_range] at e
    rw [hq j hj, e]
set_option maxRecDepth 20000 in
/-- A claim of a piece, read. -/
theorem open_claim {r : Reach} {b0 : Nat} {held : Bool} {v : Value} {d : DataW H} {p : List MemPlace} (hval : Value.okWide Tryd.prog w r b0 37 v) (h : DataW.Trod enc Tryd.prog w 0 (fun _ => true) held 37 v d p) :
    ∃ X ix ct sz A l c, v = claim1V X ix ct sz A (List.length l) c ∧ Hs w A l ∧ l.length ≤ c ∧ ((I64 X.lo ∧ I64 X.hi ∧ I64 X.tag) ∧ I64 ix ∧ I64 ct ∧ I64 sz) := by
  obtain ⟨cs, rfl, _⟩ := okWide_struct Tryd.underlying37 hval
  obtain ⟨fuel, hf⟩ := h
  obtain ⟨xs, k, rfl, hx, hcl, hxl, hf⟩ := DataW.trod_struct Tryd.underlying37 hf
  replace hxl : xs.length = 5 := hxl
  rw [show Value.cells (.agg cs) = cs from rfl] at hcl hf
  have hl : cs.toList.length = 7 := hcl.trans (by kernel_rfl)
  obtain ⟨l, hl'⟩ : ∃ l, cs.toList = l := ⟨_, rfl⟩
  have hcs : cs = l.toArray := by rw [← hl']
  rw [hl'] at hf hl
  match xs, hxl, l, hl with
  | [y0, y1, y2, y3, y4], _, [v0, v1, v2, v3, v4, v5, v6], _ =>
    have g0 : DataW.trod enc Tryd.prog w 0 (fun _ => true) held k 34 [v0, v1, v2] = some y0 := by have g := hf 0 _ rfl; simpa [Tryd.cellsRun] using g
    have g1 : DataW.trod enc Tryd.prog w 0 (fun _ => true) held k 3 [v3] = some y1 := by have g := hf 1 _ rfl; simpa [Tryd.cellsInt] using g
    have g2 : DataW.trod enc Tryd.prog w 0 (fun _ => true) held k 3 [v4] = some y2 := by have g := hf 2 _ rfl; simpa [Tryd.cellsInt] using g
    have g3 : DataW.trod enc Tryd.prog w 0 (fun _ => true) held k 3 [v5] = some y3 := by have g := hf 3 _ rfl; simpa [Tryd.cellsInt] using g
    have g4 : DataW.trod enc Tryd.prog w 0 (fun _ => true) held k 35 [v6] = some y4 := by have g := hf 4 _ rfl; simpa [Tryd.cellsHs] using g
    obtain ⟨X, e, e0⟩ := cells_run rfl g0
    simp only [List.cons.injEq, and_true] at e
    obtain ⟨rfl, rfl, rfl⟩ := e
    obtain ⟨z1, rfl, e1⟩ := field_int g1
    obtain ⟨z2, rfl, e2⟩ := field_int g2
    obtain ⟨z3, rfl, e3⟩ := field_int g3
    obtain ⟨A, l, c, rfl, hs, hc⟩ := field_hashes g4
    exact ⟨X, z1, z2, z3, A, l, c, by rw [hcs], hs, hc, e0, e1, e2, e3⟩
set_option maxRecDepth 20000 in
/-- A claim of a range, read. -/
theorem open_rclaim {r : Reach} {b0 : Nat} {held : Bool} {v : Value} {d : DataW H} {p : List MemPlace} (hval : Value.okWide Tryd.prog w r b0 43 v) (h : DataW.Trod enc Tryd.prog w 0 (fun _ => true) held 43 v d p) :
    ∃ A R c fi ct sz PA l pc, v = claimV A (List.length R) c fi ct sz PA (List.length l) pc ∧ Runs w A R ∧ R.length ≤ c ∧ Hs w PA l ∧ l.length ≤ pc ∧ ((∀ r ∈ R, I64 r.lo ∧ I64 r.hi ∧ I64 r.tag) ∧ I64 fi ∧ I64 ct ∧ I64 sz) := by
  obtain ⟨cs, rfl, _⟩ := okWide_struct Tryd.underlying43 hval
  obtain ⟨fuel, hf⟩ := h
  obtain ⟨xs, k, rfl, hx, hcl, hxl, hf⟩ := DataW.trod_struct Tryd.underlying43 hf
  replace hxl : xs.length = 5 := hxl
  rw [show Value.cells (.agg cs) = cs from rfl] at hcl hf
  have hl : cs.toList.length = 5 := hcl.trans (by kernel_rfl)
  obtain ⟨l, hl'⟩ : ∃ l, cs.toList = l := ⟨_, rfl⟩
  have hcs : cs = l.toArray := by rw [← hl']
  rw [hl'] at hf hl
  match xs, hxl, l, hl with
  | [y0, y1, y2, y3, y4], _, [v0, v1, v2, v3, v4], _ =>
    have g0 : DataW.trod enc Tryd.prog w 0 (fun _ => true) held k 41 [v0] = some y0 := by have g := hf 0 _ rfl; simpa [Tryd.cellsRuns] using g
    have g1 : DataW.trod enc Tryd.prog w 0 (fun _ => true) held k 3 [v1] = some y1 := by have g := hf 1 _ rfl; simpa [Tryd.cellsInt] using g
    have g2 : DataW.trod enc Tryd.prog w 0 (fun _ => true) held k 3 [v2] = some y2 := by have g := hf 2 _ rfl; simpa [Tryd.cellsInt] using g
    have g3 : DataW.trod enc Tryd.prog w 0 (fun _ => true) held k 3 [v3] = some y3 := by have g := hf 3 _ rfl; simpa [Tryd.cellsInt] using g
    have g4 : DataW.trod enc Tryd.prog w 0 (fun _ => true) held k 35 [v4] = some y4 := by have g := hf 4 _ rfl; simpa [Tryd.cellsHs] using g
    obtain ⟨A, c, R, rfl, hR, hc, e0⟩ := field_runs g0
    obtain ⟨z1, rfl, e1⟩ := field_int g1
    obtain ⟨z2, rfl, e2⟩ := field_int g2
    obtain ⟨z3, rfl, e3⟩ := field_int g3
    obtain ⟨PA, l, pc, rfl, hs, hpc⟩ := field_hashes g4
    exact ⟨A, R, c, z1, z2, z3, PA, l, pc, by rw [hcs], hR, hc, hs, hpc, e0, e1, e2, e3⟩
end
end Go.Proofs.YtcocengpekndjaaDoor
