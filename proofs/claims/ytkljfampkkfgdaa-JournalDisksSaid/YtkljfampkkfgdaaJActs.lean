/- The journal layer: a copy of a row of numbers, of any length that fits into memory. The journal layer: rows of calls as the laws' arguments. -/
import Derived.Test.YtkljfampkkfgdaaJCrash
import Derived.Deep.RegionLaw
import Derived.Deep.RegionHeldLaw
namespace Go.Proofs.Ytkljfampkkfgdaa
section
open Go.RowKit
def cellsZ (l : List Int) : List Value := l.map (Value.int .i64)
theorem infoInt : (Try.prog.info? 3).map (fun i => (i.zero, i.size, i.bytes)) = some (some (.int .i64 0), 1, 8) := by kernel_rfl
theorem cellsZ_one (l : List Int) : ∀ u ∈ cellsZ l, u.oneCell' = true := fun u hu => by
  obtain ⟨z, _, rfl⟩ := List.mem_map.1 hu
  rfl
/-- A copy of the row l, made since there were base blocks. -/
def CopyZ (base : Nat) (n : Nat) (l : List Int) (v : Value) (w : World) : Prop := ∃ A c, v = .slice A n c ∧ Ints w A l ∧ ∀ a, 0 < n → A = some a → base ≤ a.block ∧ a.block < w.heap.size
theorem run_append_ints (base : Nat) (w : World) (ty : TypeId) (g : Nat) (hg : w.heap[g]? = some (.cells #[] 3 (0, 0))) (hb : base ≤ g) (A : Option Addr) (l : List Int) (n c : Nat) (hn : l.length = n) (hA : Ints w A l) (hA2 : (∃ a, A = some a) ∨ (A = none ∧ c = 0)) (hs : n * 8 ≤ 140737488355328) :
    ∃ v' w', (Builtin.append_ #[51, 51] ty #[.slice (some ⟨g, 0, none⟩) 0 0, .slice A n c]).run Try.prog w = .ok v' w' ∧ CopyZ base n l v' w' ∧ Below base w w' := by
  subst hn
  obtain ⟨i0, hi0, hz0, hz1, hz2⟩ := info_parts infoInt
  have hO : w.ownsRow base 3 1 (.slice (some ⟨g, 0, none⟩) 0 0) 0 [] := ⟨rfl, .inr ⟨g, 0, _, rfl, hb, hg, Nat.le_refl _, Nat.zero_le _, rfl, rfl⟩⟩
  have hgl : g < w.heap.size := (Array.getElem?_eq_some_iff.1 hg).1
  by_cases hA0 : A = none
  · subst hA0
    obtain rfl : c = 0 := by
      rcases hA2 with ⟨a, e⟩ | ⟨_, e⟩
      · cases e
      · exact e
    obtain rfl : l = [] := by
      rcases hA with h | ⟨a, e, _⟩
      · exact h
      · cases e
    exact ⟨_, w, run_append_owned_none (P := Try.prog) (w := w) base 51 ty 3 i0 1 (by kernel_rfl) hi0 _ 0 [] hO, ⟨_, _, rfl, .inl rfl, fun a h => by cases h⟩, Below.refl _ _⟩
  obtain ⟨a, rfl⟩ : ∃ a, A = some a := by
    rcases hA2 with h | ⟨e, _⟩
    · exact h
    · exact absurd e hA0
  have hcell : ∀ j u, (cellsZ l)[j]? = some u → w.cell? (a.add j) = some u := by
    rcases hA with h | ⟨a', ea, h⟩
    · intro j u hu; rw [h] at hu; simp [cellsZ] at hu
    · cases ea; exact h
  obtain ⟨v', w', hr, r1, r2, _⟩ := run_append_own (P := Try.prog) (w := w) base 51 ty 3 i0 (.int .i64 0) 1 8 (by kernel_rfl) hi0 hz0 hz1 hz2 rfl (by decide) _ 0 [] hO a l.length c (cellsZ l) (by simp [cellsZ]) hcell (cellsZ_one l) (by unfold maxLen; omega) (by omega) (by omega)
  rw [Nat.zero_add, List.nil_append] at r1
  refine ⟨v', w', hr, ?_, below_own hO r2 (by omega)⟩
  rcases r1.2 with ⟨e, h0⟩ | ⟨g', cap, cur, e, q1, q2, q3, q4, q5, q6⟩
  · have : l = [] := List.eq_nil_of_length_eq_zero h0
    subst this
    exact ⟨none, 0, e, .inl rfl, fun a h => by cases h⟩
  · refine ⟨some ⟨g', 0, none⟩, cap, e, .inr ⟨_, rfl, fun j u hu => World.ownsRow.cells r1 (g := g') (by rw [e]; rfl) j u hu⟩, fun a _ ha => ?_⟩
    cases ha
    exact ⟨q1, (Array.getElem?_eq_some_iff.1 q2).1⟩
/-- The same at a step of a region that draws its order. -/
theorem step_append_ints {ops : Array Oper} {o : Oper} {a : Act} {w : World} {K : Act → World → Prop} {Q : Exit → Act → World → Prop} {E : Prop} (hgd : o.guard = none) (s x : Operand)
    (ho : o.op = .call { callee := .builtin .append, args := #[s, x], argTypes := #[51, 51] }) (base g : Nat) (hb : base ≤ g) (A : Option Addr) (l : List Int) (n c : Nat)
    (hs : a.eval s = .slice (some ⟨g, 0, none⟩) 0 0) (hx : a.eval x = .slice A n c) (hg : w.heap[g]? = some (.cells #[] 3 (0, 0))) (hn : l.length = n) (hA : Ints w A l) (hA2 : (∃ a, A = some a) ∨ (A = none ∧ c = 0)) (hz : n * 8 ≤ 140737488355328)
    (h : ∀ v' w', CopyZ base n l v' w' → Below base w w' → K (a.put o.dst v') w') : if Region.wanted o (yielded ops a.tmps) = true then Oper.wp Try.prog o a w K Q else E := by
  have hw : Region.wanted o (yielded ops a.tmps) = true := by simp [Region.wanted, hgd]
  rw [if_pos hw]
  obtain ⟨v', w', hr, h2, h3⟩ := run_append_ints base w o.type g hg hb A l n c hn hA hA2 hz
  unfold Oper.wp execOp
  simp only [ho, resolve, invoke, builtin, Sem.run_bind, Sem.run_pure, Result.andThen_ok, List.map_toArray, List.map_cons, List.map_nil, hs, hx, hr]
  exact h v' w' h2 h3
end
section
open Go.RowKit
/-- A row of numbers that came in: bounded by the form's own reach. -/
structure KeepOk (w : World) (A : Option Addr) (kc : Nat) (l : List Int) : Prop where
  ints : Ints w A l
  nil : (∃ a, A = some a) ∨ (A = none ∧ kc = 0)
  few : l.length * 8 ≤ 140737488351232
theorem KeepOk.next {w w' : World} {A : Option Addr} {kc : Nat} {l : List Int} (h : KeepOk w A kc l) (hB : Below w.heap.size w w') : KeepOk w' A kc l := ⟨h.ints.next hB, h.nil, h.few⟩
/-- A call for a journal. -/
structure Ac where
  kd : Int
  T : Bs
  n : Int
  A : Option Addr
  kc : Nat
  keep : List Int
instance : Inhabited Ac := ⟨⟨0, [], 0, none, 0, []⟩⟩
def ActAt (w : World) (e : Addr) (x : Ac) : Prop :=
  w.cell? e = some (.int .u8 x.kd) ∧ w.cell? ⟨e.block, e.off + 1, none⟩ = some (.string ⟨x.T.toArray⟩) ∧ w.cell? ⟨e.block, e.off + 2, none⟩ = some (.int .i64 x.n) ∧ w.cell? ⟨e.block, e.off + 3, none⟩ = some (.slice x.A x.keep.length x.kc)
structure AcOk (w : World) (x : Ac) : Prop where
  kd : 0 ≤ x.kd
  n : x.n < 9223372036854775808
  keep : KeepOk w x.A x.kc x.keep
def Acts (w : World) (A : Option Addr) (L : List Ac) : Prop :=
  L = [] ∨ ∃ a : Addr, A = some a ∧ a.block < w.heap.size ∧ ∀ i (h : i < L.length), ActAt w (a.add (i * 4)) L[i] ∧ AcOk w L[i]
theorem add_block' (a : Addr) (j : Nat) : (a.add j).block = a.block := by unfold Addr.add; split <;> rfl
theorem ActAt.next {w w' : World} (hB : Below w.heap.size w w') {e : Addr} {x : Ac} (h : ActAt w e x) : ActAt w' e x :=
  ⟨cell_kept hB h.1, cell_kept hB h.2.1, cell_kept hB h.2.2.1, cell_kept hB h.2.2.2⟩
theorem Acts.next {w w' : World} {A : Option Addr} {L : List Ac} (h : Acts w A L) (hB : Below w.heap.size w w') : Acts w' A L := by
  rcases h with h | ⟨a, rfl, hb, h⟩
  · exact .inl h
  · exact .inr ⟨a, rfl, Nat.lt_of_lt_of_le hb hB.size, fun i hi => ⟨(h i hi).1.next hB, ⟨(h i hi).2.kd, (h i hi).2.n, (h i hi).2.keep.next hB⟩⟩⟩
theorem Acts.some_ {w : World} {A : Option Addr} {L : List Ac} (h : Acts w A L) {i : Nat} (hi : i < L.length) : ∃ a, A = some a := by
  rcases h with h | ⟨a, e, _⟩
  · rw [h] at hi; cases hi
  · exact ⟨a, e⟩
theorem Acts.at_ {w : World} {a : Addr} {L : List Ac} (h : Acts w (some a) L) {i : Nat} (hi : i < L.length) : a.block < w.heap.size ∧ ActAt w (a.add (i * 4)) L[i] ∧ AcOk w L[i] := by
  rcases h with h | ⟨a', ha, hb, h⟩
  · rw [h] at hi; simp at hi
  · cases ha; exact ⟨hb, h i hi⟩
/-- A call for a disk. -/
structure Ca where
  kd : Int
  b : Int
  T : Bs
  n : Int
  A : Option Addr
  kc : Nat
  keep : List Int
instance : Inhabited Ca := ⟨⟨0, 0, [], 0, none, 0, []⟩⟩
def CallAt (w : World) (e : Addr) (x : Ca) : Prop :=
  w.cell? e = some (.int .u8 x.kd) ∧ w.cell? ⟨e.block, e.off + 1, none⟩ = some (.int .i64 x.b) ∧ w.cell? ⟨e.block, e.off + 2, none⟩ = some (.string ⟨x.T.toArray⟩) ∧ w.cell? ⟨e.block, e.off + 3, none⟩ = some (.int .i64 x.n) ∧ w.cell? ⟨e.block, e.off + 4, none⟩ = some (.slice x.A x.keep.length x.kc)
structure CaOk (w : World) (x : Ca) : Prop where
  kd : 0 ≤ x.kd
  n : x.n < 9223372036854775808
  keep : KeepOk w x.A x.kc x.keep
def CallsL (w : World) (A : Option Addr) (L : List Ca) : Prop :=
  L = [] ∨ ∃ a : Addr, A = some a ∧ a.block < w.heap.size ∧ ∀ i (h : i < L.length), CallAt w (a.add (i * 5)) L[i] ∧ CaOk w L[i]
theorem CallAt.next {w w' : World} (hB : Below w.heap.size w w') {e : Addr} {x : Ca} (h : CallAt w e x) : CallAt w' e x :=
  ⟨cell_kept hB h.1, cell_kept hB h.2.1, cell_kept hB h.2.2.1, cell_kept hB h.2.2.2.1, cell_kept hB h.2.2.2.2⟩
theorem CallsL.next {w w' : World} {A : Option Addr} {L : List Ca} (h : CallsL w A L) (hB : Below w.heap.size w w') : CallsL w' A L := by
  rcases h with h | ⟨a, rfl, hb, h⟩
  · exact .inl h
  · exact .inr ⟨a, rfl, Nat.lt_of_lt_of_le hb hB.size, fun i hi => ⟨(h i hi).1.next hB, ⟨(h i hi).2.kd, (h i hi).2.n, (h i hi).2.keep.next hB⟩⟩⟩
theorem CallsL.some_ {w : World} {A : Option Addr} {L : List Ca} (h : CallsL w A L) {i : Nat} (hi : i < L.length) : ∃ a, A = some a := by
  rcases h with h | ⟨a, e, _⟩
  · rw [h] at hi; cases hi
  · exact ⟨a, e⟩
theorem CallsL.at_ {w : World} {a : Addr} {L : List Ca} (h : CallsL w (some a) L) {i : Nat} (hi : i < L.length) : a.block < w.heap.size ∧ CallAt w (a.add (i * 5)) L[i] ∧ CaOk w L[i] := by
  rcases h with h | ⟨a', ha, hb, h⟩
  · rw [h] at hi; simp at hi
  · cases ha; exact ⟨hb, h i hi⟩
/-- A row of rows of numbers. -/
def Intss (w : World) (A : Option Addr) (L : List (Option Addr × Nat × List Int)) : Prop :=
  L = [] ∨ ∃ a : Addr, A = some a ∧ a.block < w.heap.size ∧ ∀ i (h : i < L.length), w.cell? (a.add i) = some (.slice L[i].1 L[i].2.2.length L[i].2.1) ∧ KeepOk w L[i].1 L[i].2.1 L[i].2.2
theorem Intss.some_ {w : World} {A : Option Addr} {L : List (Option Addr × Nat × List Int)} (h : Intss w A L) {i : Nat} (hi : i < L.length) : ∃ a, A = some a := by
  rcases h with h | ⟨a, e, _⟩
  · rw [h] at hi; cases hi
  · exact ⟨a, e⟩
theorem Intss.at_ {w : World} {a : Addr} {L : List (Option Addr × Nat × List Int)} (h : Intss w (some a) L) {i : Nat} (hi : i < L.length) : w.cell? (a.add i) = some (.slice L[i].1 L[i].2.2.length L[i].2.1) ∧ KeepOk w L[i].1 L[i].2.1 L[i].2.2 := by
  rcases h with h | ⟨a', ha, hb, h⟩
  · rw [h] at hi; simp at hi
  · cases ha; exact h i hi
end
end Go.Proofs.Ytkljfampkkfgdaa
