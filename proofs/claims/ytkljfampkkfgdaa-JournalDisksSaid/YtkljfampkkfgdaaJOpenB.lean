/- The journal layer: arguments, read. -/
import Derived.Test.YtkljfampkkfgdaaJOwn
import Derived.Deep.Slices
import Derived.Deep.Fields
import Derived.OpenShut
import Derived.ChangeMaps5
import Derived.ProofKit
import Derived.ChangeSame
namespace Go.Proofs.Ytkljfampkkfgdaa
section
open Go.ChangeShapes Go.WideShapes Go.RowKit Go.Deep
section
variable {H : Type} {enc : TypeId × Value → H} {P : Program} {w : World} {base : Nat} {spare : Nat → Bool} {held : Bool}
theorem trodAll_six {t t1 t2 t3 t4 t5 : TypeId} {args : Array Value} {ds : List (DataW H)} {ps : List MemPlace} (h : DataW.TrodAll enc P w base spare held [t, t1, t2, t3, t4, t5] args.toList ds ps) :
    ∃ v v1 v2 v3 v4 v5 d d1 d2 d3 d4 d5 p p1 p2 p3 p4 p5, args = #[v, v1, v2, v3, v4, v5] ∧ ds = [d, d1, d2, d3, d4, d5] ∧ ps = p ++ (p1 ++ (p2 ++ (p3 ++ (p4 ++ p5)))) ∧ DataW.Trod enc P w base spare held t v d p ∧ DataW.Trod enc P w base spare held t1 v1 d1 p1 ∧ DataW.Trod enc P w base spare held t2 v2 d2 p2 ∧ DataW.Trod enc P w base spare held t3 v3 d3 p3 ∧ DataW.Trod enc P w base spare held t4 v4 d4 p4 ∧ DataW.Trod enc P w base spare held t5 v5 d5 p5 := by
  obtain ⟨v, vs, d, ds', p, ps', hv, rfl, rfl, h0, h⟩ := trodAll_cons h
  obtain ⟨v1, vs1, d1, ds1, p1, ps1, rfl, rfl, rfl, h1, h⟩ := trodAll_cons h
  obtain ⟨v2, vs2, d2, ds2, p2, ps2, rfl, rfl, rfl, h2, h⟩ := trodAll_cons h
  obtain ⟨v3, vs3, d3, ds3, p3, ps3, rfl, rfl, rfl, h3, h⟩ := trodAll_cons h
  obtain ⟨v4, vs4, d4, ds4, p4, ps4, rfl, rfl, rfl, h4, h⟩ := trodAll_cons h
  obtain ⟨v5, vs5, d5, ds5, p5, ps5, rfl, rfl, rfl, h5, h⟩ := trodAll_cons h
  obtain ⟨rfl, rfl, rfl⟩ := trodAll_nil h
  exact ⟨v, v1, v2, v3, v4, v5, d, d1, d2, d3, d4, d5, p, p1, p2, p3, p4, p5, Array.ext' hv, rfl, by simp, h0, h1, h2, h3, h4, h5⟩
theorem trodAll_mk6 {t t1 t2 t3 t4 t5 : TypeId} {v v1 v2 v3 v4 v5 : Value} {d d1 d2 d3 d4 d5 : DataW H} {p p1 p2 p3 p4 p5 : List MemPlace} (h : DataW.Trod enc P w base spare held t v d p) (h1 : DataW.Trod enc P w base spare held t1 v1 d1 p1) (h2 : DataW.Trod enc P w base spare held t2 v2 d2 p2)
    (h3 : DataW.Trod enc P w base spare held t3 v3 d3 p3) (h4 : DataW.Trod enc P w base spare held t4 v4 d4 p4) (h5 : DataW.Trod enc P w base spare held t5 v5 d5 p5) : DataW.TrodAll enc P w base spare held [t, t1, t2, t3, t4, t5] [v, v1, v2, v3, v4, v5] [d, d1, d2, d3, d4, d5] (p ++ (p1 ++ (p2 ++ (p3 ++ (p4 ++ p5))))) :=
  trodAll_cons_mk h (trodAll_cons_mk h1 (trodAll_cons_mk h2 (trodAll_cons_mk h3 (trodAll_cons_mk h4 (trodAll_mk1 h5)))))
end
theorem Try.own : ownKnob Try.prog.godebug = none := by kernel_rfl
theorem Try.laidOut : laidOutB Try.prog = true := by kernel_rfl
theorem Try.cellsInt : Try.prog.cellsOf 3 = 1 := by kernel_rfl
theorem Try.cellsBool : Try.prog.cellsOf 4 = 1 := by kernel_rfl
theorem Try.cellsStr : Try.prog.cellsOf 9 = 1 := by kernel_rfl
theorem block_of_cell {w : World} {a : Addr} {v : Value} (h : w.cell? a = some v) : a.block < w.heap.size := block_lt_of_cell h
/-- Numbers of 64 bits. -/
def I64 (z : Int) : Prop := IntKind.i64.min ≤ z ∧ z ≤ IntKind.i64.max
theorem I64.range {z : Int} (h : I64 z) : -9223372036854775808 ≤ z ∧ z < 9223372036854775808 := by
  obtain ⟨h1, h2⟩ := h
  have e1 : IntKind.i64.min = -9223372036854775808 := by decide
  have e2 : IntKind.i64.max = 9223372036854775807 := by decide
  omega
variable {H : Type} {enc : TypeId × Value → H} {w : World}
theorem read_int {base : Nat} {spare : Nat → Bool} {held : Bool} {k : Nat} {v : Value} {y : DataW H × List MemPlace} (hf : DataW.trod enc Try.prog w base spare held k 3 [v] = some y) : ∃ z, v = .int .i64 z ∧ I64 z := by
  obtain ⟨z, e, _, wf⟩ := DataW.trod_int Try.underlying3 hf
  simp only [List.cons.injEq, and_true] at e
  exact ⟨z, e, by simpa [Lit.wf, I64] using wf⟩
set_option maxRecDepth 20000 in
/-- A row of strings, read. -/
theorem open_strs {r : Reach} {b0 : Nat} {held : Bool} {v : Value} {d : DataW H} {p : List MemPlace} (hval : Value.okWide Try.prog w r b0 22 v) (h : DataW.Trod enc Try.prog w 0 (fun _ => true) held 22 v d p) :
    ∃ A l c, v = .slice A (List.length l) c ∧ Strs w A l ∧ l.length ≤ c ∧ ((∃ a, A = some a) ∨ (A = none ∧ c = 0)) := by
  obtain ⟨A, len, c, rfl⟩ := okWide_slice (show Try.prog.underlying 22 = some (.slice 9) by kernel_rfl) hval
  obtain ⟨fuel, hf⟩ := h
  rcases open_slice (show Try.prog.underlying 22 = some (.slice 9) by kernel_rfl) hf with ⟨hcs, _⟩ | ⟨a, len', cap', m, n, D, Pl, hcs, hb, hl, hm, hmm, hx, hi⟩
  · simp [Value.cells] at hcs
    obtain ⟨rfl, rfl, rfl⟩ := hcs
    exact ⟨none, [], 0, rfl, .inl rfl, Nat.le_refl _, .inr ⟨rfl, rfl⟩⟩
  · simp [Value.cells] at hcs
    obtain ⟨rfl, rfl, rfl⟩ := hcs
    simp only [if_true] at hmm
    subst hmm
    have each : ∀ i, i < len → ∃ s : Bs, w.cell? (a.add i) = some (.string ⟨s.toArray⟩) := fun i h' => by
      obtain ⟨cs', h1, h2⟩ := hi i (by omega)
      rw [Try.cellsStr, Nat.mul_one] at h1
      obtain ⟨s, rfl, _⟩ := DataW.trod_string Try.underlying9 h2
      obtain ⟨_, _, hat⟩ := World.cells?_some h1
      have c0 := hat 0 (by simp)
      have a0 : (a.add i).add 0 = a.add i := by rw [Addr.add, if_pos rfl]
      rw [a0] at c0
      exact ⟨s.data.toList, by simpa using c0⟩
    obtain ⟨q, hq⟩ := choose_lt each
    refine ⟨some a, (List.range len).map q, _, by rw [List.length_map, List.length_range], .inr ⟨a, rfl, fun j u hu => ?_⟩, by simpa using hl, .inl ⟨a, rfl⟩⟩
    obtain ⟨hj, e⟩ := List.getElem?_eq_some_iff.1 hu
    simp only [List.length_map, List.length_range] at hj
    simp only [List.getElem_map, List.getElem_range] at e
    rw [hq j hj, e]
set_option maxRecDepth 20000 in
/-- A row of numbers, read. -/
theorem read_ints {k : Nat} {held : Bool} {v : Value} {y : DataW H × List MemPlace} (hf : DataW.trod enc Try.prog w 0 (fun _ => true) held k 51 [v] = some y) :
    ∃ A c, ∃ l : List Int, v = .slice A l.length c ∧ Ints w A l ∧ l.length ≤ c ∧ ((∃ a, A = some a) ∨ (A = none ∧ c = 0)) ∧ c ≤ maxLen ∧ ∀ z ∈ l, I64 z := by
  rcases open_slice (show Try.prog.underlying 51 = some (.slice 3) by kernel_rfl) hf with ⟨hcs, _⟩ | ⟨a, len, c, m, n, D, Pl, hcs, hb, hl, hm, hmm, hx, hi⟩
  · simp only [List.cons.injEq, and_true] at hcs
    subst hcs
    exact ⟨none, 0, [], rfl, .inl rfl, Nat.le_refl _, .inr ⟨rfl, rfl⟩, Nat.zero_le _, nofun⟩
  · simp only [List.cons.injEq, and_true] at hcs
    subst hcs
    simp only [if_true] at hmm
    subst hmm
    have each : ∀ i, i < len → ∃ z : Int, w.cell? (a.add i) = some (.int .i64 z) ∧ I64 z := fun i h' => by
      obtain ⟨cs', h1, h2⟩ := hi i (by omega)
      rw [Try.cellsInt, Nat.mul_one] at h1
      obtain ⟨_, hlc, hat⟩ := World.cells?_some h1
      match cs', hlc with
      | [x], _ =>
        obtain ⟨z, rfl, hz⟩ := read_int h2
        have c0 := hat 0 (by simp)
        rw [show (a.add i).add 0 = a.add i from by rw [Addr.add, if_pos rfl]] at c0
        exact ⟨z, by simpa using c0, hz⟩
    obtain ⟨q, hq⟩ := choose_lt each
    refine ⟨some a, _, (List.range len).map q, by rw [List.length_map, List.length_range], .inr ⟨a, rfl, fun j u hu => ?_⟩, by simpa using hl, .inl ⟨a, rfl⟩, hm, fun z hz => ?_⟩
    · obtain ⟨hj, e⟩ := List.getElem?_eq_some_iff.1 hu
      simp only [List.length_map, List.length_range] at hj
      simp only [List.getElem_map, List.getElem_range] at e
      rw [(hq j hj).1, e]
    · obtain ⟨i, hi, rfl⟩ := List.mem_map.1 hz
      exact (hq i (List.mem_range.1 hi)).2
set_option maxRecDepth 20000 in
theorem open_introw {r : Reach} {b0 : Nat} {held : Bool} {v : Value} {d : DataW H} {p : List MemPlace} (hval : Value.okWide Try.prog w r b0 51 v) (h : DataW.Trod enc Try.prog w 0 (fun _ => true) held 51 v d p) :
    ∃ A c, ∃ l : List Int, v = .slice A l.length c ∧ Ints w A l ∧ l.length ≤ c ∧ ((∃ a, A = some a) ∨ (A = none ∧ c = 0)) ∧ c ≤ maxLen ∧ ∀ z ∈ l, I64 z := by
  obtain ⟨A, len, c, rfl⟩ := okWide_slice (show Try.prog.underlying 51 = some (.slice 3) by kernel_rfl) hval
  obtain ⟨fuel, hf⟩ := h
  exact read_ints hf
set_option maxRecDepth 20000 in
theorem open_text {r : Reach} {b0 base : Nat} {sp : Nat → Bool} {held : Bool} {v : Value} {d : DataW H} {p : List MemPlace} (hval : Value.okWide Try.prog w r b0 9 v) (h : DataW.Trod enc Try.prog w base sp held 9 v d p) :
    ∃ s : Bs, v = .string ⟨s.toArray⟩ := by
  obtain ⟨s, rfl, _, _, _⟩ := Go.ChangeMaps.open_string Try.underlying9 hval h
  exact ⟨s.data.toList, by simp⟩
end
end Go.Proofs.Ytkljfampkkfgdaa
