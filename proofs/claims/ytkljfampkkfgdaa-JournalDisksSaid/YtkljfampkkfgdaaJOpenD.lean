/- The journal layer: rows of calls as arguments, read. The journal layer: rows of rows of numbers, and of calls for a disk, as arguments, read. -/
import Derived.Test.YtkljfampkkfgdaaJOpenB
import Derived.Test.YtkljfampkkfgdaaJActs
import Derived.ChangeArms
import Derived.SizedLaws
namespace Go.Proofs.Ytkljfampkkfgdaa
section
section
open Go.ChangeShapes Go.WideShapes Go.RowKit Go.Deep
variable {H : Type} {enc : TypeId × Value → H} {w : World}
theorem Try.bytesInt : Try.prog.bytesOf 3 = 8 := by kernel_rfl
theorem Try.cellsU8 : Try.prog.cellsOf 5 = 1 := by kernel_rfl
theorem Try.cellsInts : Try.prog.cellsOf 51 = 1 := by kernel_rfl
theorem Try.cellsActs : Try.prog.cellsOf 70 = 4 := by kernel_rfl
theorem Try.cellsCalls : Try.prog.cellsOf 53 = 5 := by kernel_rfl
theorem weightsAll_mem {P : Program} {e : TypeId} : ∀ {l : List (DataW H)} {d : DataW H}, d ∈ l → ∀ n ∈ d.weights P e, n ∈ DataW.weightsAll P e l
  | d' :: r, d, hd, n, hn => by
    simp only [DataW.weightsAll, List.mem_append]
    rcases List.mem_cons.1 hd with rfl | h
    · exact Or.inl hn
    · exact Or.inr (weightsAll_mem h n hn)
set_option maxRecDepth 20000 in
/-- A row of numbers of bounded weight, read. -/
theorem read_keep {k : Nat} {held : Bool} {v : Value} {y : DataW H × List MemPlace} (hf : DataW.trod enc Try.prog w 0 (fun _ => true) held k 51 [v] = some y) (hw : ∀ n ∈ y.1.weights Try.prog 51, n ≤ reachBytes) :
    ∃ A c, ∃ l : List Int, v = .slice A l.length c ∧ KeepOk w A c l := by
  rcases open_slice (show Try.prog.underlying 51 = some (.slice 3) by kernel_rfl) hf with ⟨hcs, _⟩ | ⟨a, len, c, m, n, D, Pl, hcs, hb, hl, hm, hmm, hx, hi⟩
  · simp only [List.cons.injEq, and_true] at hcs
    subst hcs
    exact ⟨none, 0, [], rfl, .inl rfl, .inr ⟨rfl, rfl⟩, by decide⟩
  · simp only [List.cons.injEq, and_true] at hcs
    subst hcs
    simp only [if_true] at hmm
    subst hmm
    have each : ∀ i, i < len → ∃ z : Int, w.cell? (a.add i) = some (.int .i64 z) := fun i h' => by
      obtain ⟨cs', h1, h2⟩ := hi i (by omega)
      rw [Try.cellsInt, Nat.mul_one] at h1
      obtain ⟨_, hlc, hat⟩ := World.cells?_some h1
      match cs', hlc with
      | [x], _ =>
        obtain ⟨z, rfl, hz⟩ := read_int h2
        have c0 := hat 0 (by simp)
        rw [show (a.add i).add 0 = a.add i from by rw [Addr.add, if_pos rfl]] at c0
        exact ⟨z, by simpa using c0⟩
    obtain ⟨q, hq⟩ := choose_lt each
    refine ⟨some a, _, (List.range len).map q, by rw [List.length_map, List.length_range], .inr ⟨a, rfl, fun j u hu => ?_⟩, .inl ⟨a, rfl⟩, ?_⟩
    · obtain ⟨hj, e⟩ := List.getElem?_eq_some_iff.1 hu
      simp only [List.length_map, List.length_range] at hj
      simp only [List.getElem_map, List.getElem_range] at e
      rw [hq j hj, e]
    · have := hw _ (by rw [hx]; simp only [DataW.weights, show Try.prog.underlying 51 = some (.slice 3) by kernel_rfl]; exact List.mem_cons_self)
      rw [Try.bytesInt] at this
      simp only [List.length_map, List.length_range, reachBytes] at this ⊢
      omega
set_option maxRecDepth 20000 in
theorem read_u8 {base : Nat} {spare : Nat → Bool} {held : Bool} {k : Nat} {v : Value} {y : DataW H × List MemPlace} (hf : DataW.trod enc Try.prog w base spare held k 5 [v] = some y) : ∃ z : Int, v = .int .u8 z ∧ 0 ≤ z := by
  obtain ⟨z, e, _, wf⟩ := DataW.trod_int Try.underlying5 hf
  simp only [List.cons.injEq, and_true] at e
  have h1 : IntKind.u8.min ≤ z ∧ z ≤ IntKind.u8.max := by simpa [Lit.wf] using wf
  have e1 : IntKind.u8.min = 0 := by decide
  exact ⟨z, e, by omega⟩
set_option maxRecDepth 20000 in
theorem cells_act {k : Nat} {held : Bool} {cs : List Value} {x : DataW H × List MemPlace} (hl : cs.length = 4) (h : DataW.trod enc Try.prog w 0 (fun _ => true) held k 70 cs = some x) (hw : ∀ n ∈ x.1.weights Try.prog 70, n ≤ reachBytes) :
    ∃ r : Ac, cs = [.int .u8 r.kd, .string ⟨r.T.toArray⟩, .int .i64 r.n, .slice r.A r.keep.length r.kc] ∧ AcOk w r := by
  obtain ⟨xs, k, rfl, hx, _, hxl, hf⟩ := DataW.trod_struct Try.underlying70 h
  replace hxl : xs.length = 4 := hxl
  match xs, hxl, cs, hl with
  | [y0, y1, y2, y3], _, [v0, v1, v2, v3], _ =>
    have g0 : DataW.trod enc Try.prog w 0 (fun _ => true) held k 5 [v0] = some y0 := by have g := hf 0 _ rfl; simpa [Try.cellsU8] using g
    have g1 : DataW.trod enc Try.prog w 0 (fun _ => true) held k 9 [v1] = some y1 := by have g := hf 1 _ rfl; simpa [Try.cellsStr] using g
    have g2 : DataW.trod enc Try.prog w 0 (fun _ => true) held k 3 [v2] = some y2 := by have g := hf 2 _ rfl; simpa [Try.cellsInt] using g
    have g3 : DataW.trod enc Try.prog w 0 (fun _ => true) held k 51 [v3] = some y3 := by have g := hf 3 _ rfl; simpa [Try.cellsInts] using g
    obtain ⟨z0, e0, p0⟩ := read_u8 g0
    obtain ⟨s1, e1, _⟩ := DataW.trod_string Try.underlying9 g1
    obtain ⟨z2, e2, p2⟩ := read_int g2
    obtain ⟨A, c, l, e3, p3⟩ := read_keep g3 fun n hn => hw n (by
      rw [hx]
      simp only [DataW.weights, Try.underlying70]
      exact DataW.weights_mem_each (j := 3) (t := 51) (d := y3.1) rfl rfl n hn)
    simp only [List.cons.injEq, and_true] at e1
    subst e0 e1 e2 e3
    exact ⟨⟨z0, s1.data.toList, z2, A, c, l⟩, by simp, p0, p2.range.2, p3⟩
set_option maxRecDepth 20000 in
theorem open_acts {r : Reach} {b0 : Nat} {held : Bool} {v : Value} {d : DataW H} {p : List MemPlace} (hval : Value.okWide Try.prog w r b0 63 v) (h : DataW.Trod enc Try.prog w 0 (fun _ => true) held 63 v d p)
    (hw : ∀ n ∈ d.weights Try.prog 63, n ≤ reachBytes) : ∃ A c, ∃ L : List Ac, v = .slice A L.length c ∧ Acts w A L := by
  have hu : Try.prog.underlying 63 = some (.slice 70) := by kernel_rfl
  obtain ⟨A, len, c, rfl⟩ := okWide_slice hu hval
  obtain ⟨fuel, hf⟩ := h
  rcases open_slice hu hf with ⟨hcs, _⟩ | ⟨a, len', cap', m, n, D, Pl, hcs, hb, hl, hm, hmm, hx, hi⟩
  · simp [Value.cells] at hcs
    obtain ⟨rfl, rfl, rfl⟩ := hcs
    exact ⟨none, 0, [], rfl, .inl rfl⟩
  · simp [Value.cells] at hcs
    obtain ⟨rfl, rfl, rfl⟩ := hcs
    simp only [if_true] at hmm
    subst hmm
    obtain ⟨rfl, -⟩ := Prod.mk.inj hx
    have each : ∀ i, i < len → ∃ x : Ac, ActAt w (a.add (i * 4)) x ∧ AcOk w x ∧ (a.add (i * 4)).block < w.heap.size := fun i h' => by
      obtain ⟨cs', h1, h2⟩ := hi i (by omega)
      rw [Try.cellsActs] at h1
      obtain ⟨_, hlc, hat⟩ := World.cells?_some h1
      obtain ⟨x, rfl, hok⟩ := cells_act hlc h2 fun n hn => hw n (by
        simp only [DataW.weights, hu]
        exact List.mem_cons_of_mem _ (List.mem_append_left _ (weightsAll_mem (List.mem_map.2 ⟨i, List.mem_range.2 h', rfl⟩) n hn)))
      have a0 : (a.add (i * 4)).add 0 = a.add (i * 4) := by rw [Addr.add, if_pos rfl]
      have aj : ∀ j, j ≠ 0 → (a.add (i * 4)).add j = ⟨(a.add (i * 4)).block, (a.add (i * 4)).off + j, none⟩ := fun j hj => by rw [Addr.add, if_neg hj]
      have c0 := hat 0 (by simp)
      have c1 := hat 1 (by simp)
      have c2 := hat 2 (by simp)
      have c3 := hat 3 (by simp)
      rw [a0] at c0
      rw [aj 1 (by decide)] at c1
      rw [aj 2 (by decide)] at c2
      rw [aj 3 (by decide)] at c3
      have c0' : w.cell? (a.add (i * 4)) = some (.int .u8 x.kd) := by simpa using c0
      exact ⟨x, ⟨c0', by simpa using c1, by simpa using c2, by simpa using c3⟩, hok, block_lt_of_cell c0'⟩
    obtain ⟨q, hq⟩ := choose_lt each
    refine ⟨some a, _, (List.range len).map q, by rw [List.length_map, List.length_range], ?_⟩
    by_cases h0 : len = 0
    · subst h0; exact .inl rfl
    · refine .inr ⟨a, rfl, ?_, fun i h' => ?_⟩
      · have := (hq 0 (by omega)).2.2
        rwa [add_block'] at this
      · rw [List.length_map, List.length_range] at h'
        rw [List.getElem_map, List.getElem_range]
        exact ⟨(hq i h').1, (hq i h').2.1⟩
end
end
section
section
open Go.ChangeShapes Go.WideShapes Go.RowKit Go.Deep
variable {H : Type} {enc : TypeId × Value → H} {w : World}
set_option maxRecDepth 20000 in
theorem open_intss {r : Reach} {b0 : Nat} {held : Bool} {v : Value} {d : DataW H} {p : List MemPlace} (hval : Value.okWide Try.prog w r b0 72 v) (h : DataW.Trod enc Try.prog w 0 (fun _ => true) held 72 v d p)
    (hw : ∀ n ∈ d.weights Try.prog 72, n ≤ reachBytes) : ∃ A c, ∃ L : List (Option Addr × Nat × List Int), v = .slice A L.length c ∧ Intss w A L := by
  have hu : Try.prog.underlying 72 = some (.slice 51) := by kernel_rfl
  obtain ⟨A, len, c, rfl⟩ := okWide_slice hu hval
  obtain ⟨fuel, hf⟩ := h
  rcases open_slice hu hf with ⟨hcs, _⟩ | ⟨a, len', cap', m, n, D, Pl, hcs, hb, hl, hm, hmm, hx, hi⟩
  · simp [Value.cells] at hcs
    obtain ⟨rfl, rfl, rfl⟩ := hcs
    exact ⟨none, 0, [], rfl, .inl rfl⟩
  · simp [Value.cells] at hcs
    obtain ⟨rfl, rfl, rfl⟩ := hcs
    simp only [if_true] at hmm
    subst hmm
    obtain ⟨rfl, -⟩ := Prod.mk.inj hx
    have each : ∀ i, i < len → ∃ x : Option Addr × Nat × List Int, w.cell? (a.add i) = some (.slice x.1 x.2.2.length x.2.1) ∧ KeepOk w x.1 x.2.1 x.2.2 := fun i h' => by
      obtain ⟨cs', h1, h2⟩ := hi i (by omega)
      rw [Try.cellsInts, Nat.mul_one] at h1
      obtain ⟨_, hlc, hat⟩ := World.cells?_some h1
      match cs', hlc with
      | [y], _ =>
        obtain ⟨KA, kc, kl, rfl, hk⟩ := read_keep h2 fun n hn => hw n (by
          simp only [DataW.weights, hu]
          exact List.mem_cons_of_mem _ (List.mem_append_left _ (weightsAll_mem (List.mem_map.2 ⟨i, List.mem_range.2 h', rfl⟩) n hn)))
        have c0 := hat 0 (by simp)
        rw [show (a.add i).add 0 = a.add i from by rw [Addr.add, if_pos rfl]] at c0
        exact ⟨⟨KA, kc, kl⟩, by simpa using c0, hk⟩
    obtain ⟨q, hq⟩ := choose_lt each
    refine ⟨some a, _, (List.range len).map q, by rw [List.length_map, List.length_range], ?_⟩
    by_cases h0 : len = 0
    · subst h0; exact .inl rfl
    · refine .inr ⟨a, rfl, ?_, fun i h' => ?_⟩
      · have := block_lt_of_cell (hq 0 (by omega)).1
        rwa [add_block'] at this
      · rw [List.length_map, List.length_range] at h'
        rw [List.getElem_map, List.getElem_range]
        exact hq i h'
set_option maxRecDepth 20000 in
theorem cells_call {k : Nat} {held : Bool} {cs : List Value} {x : DataW H × List MemPlace} (hl : cs.length = 5) (h : DataW.trod enc Try.prog w 0 (fun _ => true) held k 53 cs = some x) (hw : ∀ n ∈ x.1.weights Try.prog 53, n ≤ reachBytes) :
    ∃ r : Ca, cs = [.int .u8 r.kd, .int .i64 r.b, .string ⟨r.T.toArray⟩, .int .i64 r.n, .slice r.A r.keep.length r.kc] ∧ CaOk w r := by
  obtain ⟨xs, k, rfl, hx, _, hxl, hf⟩ := DataW.trod_struct Try.underlying53 h
  replace hxl : xs.length = 5 := hxl
  match xs, hxl, cs, hl with
  | [y0, y1, y2, y3, y4], _, [v0, v1, v2, v3, v4], _ =>
    have g0 : DataW.trod enc Try.prog w 0 (fun _ => true) held k 5 [v0] = some y0 := by have g := hf 0 _ rfl; simpa [Try.cellsU8] using g
    have g1 : DataW.trod enc Try.prog w 0 (fun _ => true) held k 3 [v1] = some y1 := by have g := hf 1 _ rfl; simpa [Try.cellsInt] using g
    have g2 : DataW.trod enc Try.prog w 0 (fun _ => true) held k 9 [v2] = some y2 := by have g := hf 2 _ rfl; simpa [Try.cellsStr] using g
    have g3 : DataW.trod enc Try.prog w 0 (fun _ => true) held k 3 [v3] = some y3 := by have g := hf 3 _ rfl; simpa [Try.cellsInt] using g
    have g4 : DataW.trod enc Try.prog w 0 (fun _ => true) held k 51 [v4] = some y4 := by have g := hf 4 _ rfl; simpa [Try.cellsInts] using g
    obtain ⟨z0, e0, p0⟩ := read_u8 g0
    obtain ⟨z1, e1, -⟩ := read_int g1
    obtain ⟨s2, e2, _⟩ := DataW.trod_string Try.underlying9 g2
    obtain ⟨z3, e3, p3⟩ := read_int g3
    obtain ⟨A, c, l, e4, p4⟩ := read_keep g4 fun n hn => hw n (by
      rw [hx]
      simp only [DataW.weights, Try.underlying53]
      exact DataW.weights_mem_each (j := 4) (t := 51) (d := y4.1) rfl rfl n hn)
    simp only [List.cons.injEq, and_true] at e2
    subst e0 e1 e2 e3 e4
    exact ⟨⟨z0, z1, s2.data.toList, z3, A, c, l⟩, by simp, p0, p3.range.2, p4⟩
set_option maxRecDepth 20000 in
theorem open_calls {r : Reach} {b0 : Nat} {held : Bool} {v : Value} {d : DataW H} {p : List MemPlace} (hval : Value.okWide Try.prog w r b0 41 v) (h : DataW.Trod enc Try.prog w 0 (fun _ => true) held 41 v d p)
    (hw : ∀ n ∈ d.weights Try.prog 41, n ≤ reachBytes) : ∃ A c, ∃ L : List Ca, v = .slice A L.length c ∧ CallsL w A L := by
  have hu : Try.prog.underlying 41 = some (.slice 53) := by kernel_rfl
  obtain ⟨A, len, c, rfl⟩ := okWide_slice hu hval
  obtain ⟨fuel, hf⟩ := h
  rcases open_slice hu hf with ⟨hcs, _⟩ | ⟨a, len', cap', m, n, D, Pl, hcs, hb, hl, hm, hmm, hx, hi⟩
  · simp [Value.cells] at hcs
    obtain ⟨rfl, rfl, rfl⟩ := hcs
    exact ⟨none, 0, [], rfl, .inl rfl⟩
  · simp [Value.cells] at hcs
    obtain ⟨rfl, rfl, rfl⟩ := hcs
    simp only [if_true] at hmm
    subst hmm
    obtain ⟨rfl, -⟩ := Prod.mk.inj hx
    have each : ∀ i, i < len → ∃ x : Ca, CallAt w (a.add (i * 5)) x ∧ CaOk w x ∧ (a.add (i * 5)).block < w.heap.size := fun i h' => by
      obtain ⟨cs', h1, h2⟩ := hi i (by omega)
      rw [Try.cellsCalls] at h1
      obtain ⟨_, hlc, hat⟩ := World.cells?_some h1
      obtain ⟨x, rfl, hok⟩ := cells_call hlc h2 fun n hn => hw n (by
        simp only [DataW.weights, hu]
        exact List.mem_cons_of_mem _ (List.mem_append_left _ (weightsAll_mem (List.mem_map.2 ⟨i, List.mem_range.2 h', rfl⟩) n hn)))
      have a0 : (a.add (i * 5)).add 0 = a.add (i * 5) := by rw [Addr.add, if_pos rfl]
      have aj : ∀ j, j ≠ 0 → (a.add (i * 5)).add j = ⟨(a.add (i * 5)).block, (a.add (i * 5)).off + j, none⟩ := fun j hj => by rw [Addr.add, if_neg hj]
      have c0 := hat 0 (by simp)
      have c1 := hat 1 (by simp)
      have c2 := hat 2 (by simp)
      have c3 := hat 3 (by simp)
      have c4 := hat 4 (by simp)
      rw [a0] at c0
      rw [aj 1 (by decide)] at c1
      rw [aj 2 (by decide)] at c2
      rw [aj 3 (by decide)] at c3
      rw [aj 4 (by decide)] at c4
      have c0' : w.cell? (a.add (i * 5)) = some (.int .u8 x.kd) := by simpa using c0
      exact ⟨x, ⟨c0', by simpa using c1, by simpa using c2, by simpa using c3, by simpa using c4⟩, hok, block_lt_of_cell c0'⟩
    obtain ⟨q, hq⟩ := choose_lt each
    refine ⟨some a, _, (List.range len).map q, by rw [List.length_map, List.length_range], ?_⟩
    by_cases h0 : len = 0
    · subst h0; exact .inl rfl
    · refine .inr ⟨a, rfl, ?_, fun i h' => ?_⟩
      · have := (hq 0 (by omega)).2.2
        rwa [add_block'] at this
      · rw [List.length_map, List.length_range] at h'
        rw [List.getElem_map, List.getElem_range]
        exact ⟨(hq i h').1, (hq i h').2.1⟩
end
end
end Go.Proofs.Ytkljfampkkfgdaa
