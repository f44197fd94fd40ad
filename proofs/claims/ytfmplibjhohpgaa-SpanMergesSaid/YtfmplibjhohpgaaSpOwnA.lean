/- Slices of updates that a call owns, and append onto one. -/
import Derived.Test.YtfmplibjhohpgaaSpLaws
import Derived.Laws.AppendOwnNone
import Derived.Laws.AppendOwn
namespace Go.Proofs.Ytfmplibjhohpgaa
open Go.RowKit Go.Shelf

def cellsA (L : List Ac) : List Value := L.flatMap fun x => [.bool x.swap, .int .i64 x.lo, .int .i64 x.hi, .int .i64 x.frm, .int .i64 x.to]
theorem infoA : (Try.prog.info? 40).map (fun i => (i.zero, i.size, i.bytes)) = some (some (.agg #[.bool false, .int .i64 0, .int .i64 0, .int .i64 0, .int .i64 0]), 5, 40) := by kernel_rfl
theorem cellsA_cons (x : Ac) (L : List Ac) : cellsA (x :: L) = [.bool x.swap, .int .i64 x.lo, .int .i64 x.hi, .int .i64 x.frm, .int .i64 x.to] ++ cellsA L := by simp [cellsA]
theorem cellsA_append (L M : List Ac) : cellsA (L ++ M) = cellsA L ++ cellsA M := by simp [cellsA]
theorem cellsA_length (L : List Ac) : (cellsA L).length = L.length * 5 := by
  induction L with
  | nil => rfl
  | cons x L ih => rw [cellsA_cons, List.length_append, ih]; simp; omega
theorem cellsA_one (L : List Ac) : ∀ u ∈ cellsA L, u.oneCell' = true := by
  intro u hu
  simp only [cellsA, List.mem_flatMap, List.mem_cons, List.not_mem_nil, or_false] at hu
  obtain ⟨x, _, h | h | h | h | h⟩ := hu <;> subst h <;> rfl
theorem cells_of_acts {w : World} {a : Addr} {L : List Ac} (h : Acts w (some a) L) : ∀ j u, (cellsA L)[j]? = some u → w.cell? (a.add j) = some u := by
  rcases h with h | ⟨a', ha, _, h⟩
  · subst h; intro j u hj; simp [cellsA] at hj
  · cases ha
    have key : ∀ (L : List Ac) (k : Nat), (∀ i (hi : i < L.length), ActAt w (a.add ((k + i) * 5)) L[i]) → ∀ j u, (cellsA L)[j]? = some u → w.cell? (a.add (k * 5 + j)) = some u := by
      intro L
      induction L with
      | nil => intro k _ j u hj; simp [cellsA] at hj
      | cons x L ih =>
        intro k hk j u hj
        have ea : ∀ m, m ≠ 0 → (⟨(a.add (k * 5)).block, (a.add (k * 5)).off + m, none⟩ : Addr) = (a.add (k * 5)).add m := by
          intro m hm; unfold Addr.add; rw [if_neg hm]
        obtain ⟨k0, k1, k2, k3, k4⟩ := hk 0 (by simp)
        rw [Nat.add_zero] at k0 k1 k2 k3 k4
        rw [ea 1 (by decide), add_add'] at k1
        rw [ea 2 (by decide), add_add'] at k2
        rw [ea 3 (by decide), add_add'] at k3
        rw [ea 4 (by decide), add_add'] at k4
        rw [cellsA_cons] at hj
        match j, hj with
        | 0, hj => simp at hj; subst hj; exact k0
        | 1, hj => simp at hj; subst hj; exact k1
        | 2, hj => simp at hj; subst hj; exact k2
        | 3, hj => simp at hj; subst hj; exact k3
        | 4, hj => simp at hj; subst hj; exact k4
        | j + 5, hj =>
          have := ih (k + 1) (fun i hi => by have := hk (i + 1) (by simpa using hi); rw [show k + 1 + i = k + (i + 1) from by omega]; simpa using this) j u (by simpa using hj)
          rw [show k * 5 + (j + 5) = (k + 1) * 5 + j from by omega]; exact this
    have := key L 0 (fun i hi => by rw [Nat.zero_add]; exact h i hi)
    intro j u hj
    have h2 := this j u hj
    rwa [Nat.zero_mul, Nat.zero_add] at h2
/-- The slice v owns the updates L, in blocks from base on. -/
def OwnActs (w : World) (base : Nat) (v : Value) (L : List Ac) : Prop := w.ownsRow base 40 5 v L.length (cellsA L)
theorem OwnActs.empty (w : World) {base : Nat} (hb : base ≤ w.heap.size) : OwnActs (w.alloc (.cells #[] 40)) base (.slice (some ⟨w.heap.size, 0, none⟩) 0 0) [] :=
  ⟨rfl, .inr ⟨w.heap.size, 0, #[], rfl, hb, heap_alloc_new w _, Nat.le_refl _, Nat.zero_le _, rfl, rfl⟩⟩
theorem OwnActs.acts {w : World} {base : Nat} {v : Value} {L : List Ac} (h : OwnActs w base v L) : ∃ A c, v = .slice A L.length c ∧ L.length ≤ c ∧ Acts w A L := by
  obtain ⟨h1, h2⟩ := h
  rcases h2 with ⟨h2, h3⟩ | ⟨g, cap, cur, e, hg, hh, hc, _, hs, ht⟩
  · exact ⟨none, 0, by rw [h2, h3], by omega, .inl (List.eq_nil_of_length_eq_zero h3)⟩
  · refine ⟨_, cap, e, hc, .inr ⟨⟨g, 0, none⟩, rfl, (Array.getElem?_eq_some_iff.1 hh).1, fun i hi => ?_⟩⟩
    have key : ∀ j v, (cellsA L)[i * 5 + j]? = some v → j < 5 → w.cell? ⟨g, i * 5 + j, none⟩ = some v := by
      intro j v hv hj
      rw [cell_of_row w g (i * 5 + j) cur _ _ hh]
      rw [← ht, List.getElem?_take, if_pos (by omega)] at hv
      rw [← hv, Array.getElem?_toList]
    have hcell : ∀ (L : List Ac) (i : Nat) (hi : i < L.length), (cellsA L)[i * 5]? = some (.bool L[i].swap) ∧ (cellsA L)[i * 5 + 1]? = some (.int .i64 L[i].lo) ∧ (cellsA L)[i * 5 + 2]? = some (.int .i64 L[i].hi) ∧ (cellsA L)[i * 5 + 3]? = some (.int .i64 L[i].frm) ∧ (cellsA L)[i * 5 + 4]? = some (.int .i64 L[i].to) := by
      intro L
      induction L with
      | nil => intro i hi; simp at hi
      | cons x L ih =>
        intro i hi
        cases i with
        | zero => simp [cellsA]
        | succ i =>
          have := ih i (by simpa using hi)
          rw [cellsA_cons, show (i + 1) * 5 = 5 + i * 5 from by omega]
          simp only [List.getElem_cons_succ]
          refine ⟨?_, ?_, ?_, ?_, ?_⟩
          · rw [List.getElem?_append_right (by simp)]; simpa using this.1
          · rw [List.getElem?_append_right (by simp; omega)]; rw [← this.2.1]; congr 1; simp; omega
          · rw [List.getElem?_append_right (by simp; omega)]; rw [← this.2.2.1]; congr 1; simp; omega
          · rw [List.getElem?_append_right (by simp; omega)]; rw [← this.2.2.2.1]; congr 1; simp; omega
          · rw [List.getElem?_append_right (by simp; omega)]; rw [← this.2.2.2.2]; congr 1; simp; omega
    obtain ⟨q0, q1, q2, q3, q4⟩ := hcell L i hi
    have e5 : (⟨g, 0, none⟩ : Addr).add (i * 5) = ⟨g, i * 5, none⟩ := by
      unfold Addr.add
      by_cases h0 : i * 5 = 0
      · rw [if_pos h0, h0]
      · rw [if_neg h0]; simp
    rw [e5]
    exact ⟨key 0 _ q0 (by decide), key 1 _ q1 (by decide), key 2 _ q2 (by decide), key 3 _ q3 (by decide), key 4 _ q4 (by decide)⟩
theorem OwnActs.below {w w' : World} {base : Nat} {v : Value} {L : List Ac} (h : OwnActs w base v L) (hB : Below w.heap.size w w') : OwnActs w' base v L := by
  obtain ⟨h1, h2⟩ := h
  refine ⟨h1, ?_⟩
  rcases h2 with h2 | ⟨g, cap, cur, e, hg, hh, rest⟩
  · exact .inl h2
  · have hlt := (Array.getElem?_eq_some_iff.1 hh).1
    exact .inr ⟨g, cap, cur, e, hg, (hB.block g hlt).trans hh, rest⟩
/-- append of updates onto a slice that the call owns: no condition on the slice that is read. -/
theorem wp_append_acts {o : Oper} {a : Act} {K : Act → World → Prop} {Q : Exit → Act → World → Prop} (w : World) (s x : Operand)
    (ho : o.op = .call { callee := .builtin .append, args := #[s, x], argTypes := #[38, 38] })
    (base : Nat) (v : Value) (L l : List Ac) (A : Option Addr) (m c : Nat) (hs : a.eval s = v) (hown : OwnActs w base v L) (hx : a.eval x = .slice A m c) (hl : l.length = m) (hA : Acts w A l) (hn : A = none → c = 0)
    (hmc : m ≤ c) (hb1 : (L.length : Int) ≤ 10000) (hb2 : (m : Int) ≤ 10000) (hbase : base ≤ w.heap.size)
    (h : ∀ v' w', OwnActs w' base v' (L ++ l) → w.grownBy w' v.ownBlock → K (a.put o.dst v') w') : o.wp Try.prog a w K Q := by
  obtain ⟨i0, hi0, hz0, hz1, hz2⟩ := info_parts infoA
  cases A with
  | none =>
    have hc := hn rfl
    subst hc
    have hm : m = 0 := by omega
    subst hm
    have : l = [] := List.eq_nil_of_length_eq_zero hl
    subst this
    have hrun := run_append_owned_none (P := Try.prog) (w := w) base 38 o.type _ i0 5 Try.underlying38 hi0 v L.length (cellsA L) hown
    unfold Oper.wp
    simp [execOp, ho, resolve, invoke, builtin, hs, hx, hrun, Result.andThen]
    exact h v w (by rw [List.append_nil]; exact hown) ⟨rfl, rfl, rfl, Nat.le_refl _, fun _ _ _ => rfl⟩
  | some ad =>
    refine wp_append_own w s x _ ho base _ i0 _ 5 40 Try.underlying38 hi0 hz0 hz1 hz2 rfl (by decide) v L.length (cellsA L) hs hown ad m c (cellsA l) hx (by rw [cellsA_length, hl]) (cells_of_acts hA) (cellsA_one l) (by unfold maxLen; omega) (by omega) hbase fun v' w' h1 h2 _ => h v' w' ?_ h2
    unfold OwnActs
    rw [List.length_append, hl, cellsA_append]
    exact h1
end Go.Proofs.Ytfmplibjhohpgaa
