/- Rows of maps, the versions of SpanPlays; and what keeps a version: nodes and runs stay. -/
import Derived.Test.YtfmplibjhohpgaaSpStep
import Derived.Test.YtfmplibjhohpgaaSpPlayed
import Derived.Laws.AppendOwn
namespace Go.Proofs.Ytfmplibjhohpgaa
open Go.RowKit Go.Shelf

/-- A version: the program's map, the address and the room of the document's runs, the runs. -/
structure Hs where
  p : Option Addr
  A : Option Addr
  c : Nat
  L : List (Int × Int)
def HsOk (W : World) (h : Hs) : Prop := Rep W h.p h.L ∧ RunsT W h.A (lay 0 h.L) ∧ h.L.length ≤ h.c
/-- Blocks of nodes and of runs stay. -/
def Safe (W W' : World) : Prop := W.heap.size ≤ W'.heap.size ∧ ∀ (i : Nat) cs t fr, W.heap[i]? = some (.cells cs t fr) → t = 116 ∨ t = 35 → W'.heap[i]? = some (.cells cs t fr)
section
variable {W W' W'' : World} {base : Nat}
theorem heap_lt {i : Nat} {o : Obj} (h : W.heap[i]? = some o) : i < W.heap.size := (Array.getElem?_eq_some_iff.1 h).1
theorem cell_same {q : Addr} (h : W'.heap[q.block]? = W.heap[q.block]?) : W'.cell? q = W.cell? q := by simp only [World.cell?, h]
theorem Safe.refl (W : World) : Safe W W := ⟨Nat.le_refl _, fun _ _ _ _ h _ => h⟩
theorem Safe.trans (h : Safe W W') (h' : Safe W' W'') : Safe W W'' := ⟨Nat.le_trans h.1 h'.1, fun i cs t fr hi ht => h'.2 i cs t fr (h.2 i cs t fr hi ht) ht⟩
theorem Safe.below (h : Below W.heap.size W W') : Safe W W' := ⟨h.size, fun i _ _ _ hi _ => (h.block i (heap_lt hi)).trans hi⟩
theorem Safe.set {b : Nat} {cs : Array Value} {t : TypeId} {fr : Nat × Nat} (hb : W.heap[b]? = some (.cells cs t fr)) (h1 : t ≠ 116) (h2 : t ≠ 35) (i : Nat) (v : Value) : Safe W (W.setCell ⟨b, i, none⟩ v) := by
  refine ⟨by simp [World.setCell], fun j cs' t' fr' hj ht => ?_⟩
  have hne : j ≠ b := by
    rintro rfl
    rw [hb] at hj
    cases hj
    rcases ht with ht | ht
    · exact h1 ht
    · exact h2 ht
  exact (Below.heap_setCell W ⟨b, i, none⟩ v j hne).trans hj
theorem Safe.grown {v : Value} {t : TypeId} {s n : Nat} {xs : List Value} (ho : W.ownsRow base t s v n xs) (h1 : t ≠ 116) (h2 : t ≠ 35) (hg : W.grownBy W' v.ownBlock) : Safe W W' := by
  refine ⟨hg.size, fun j cs' t' fr' hj ht => (hg.block j (heap_lt hj) ?_).trans hj⟩
  rcases ho.2 with ⟨e, _⟩ | ⟨g, cap, cur, e, _, hh, _⟩
  · rw [e]; simp [Value.ownBlock]
  · rw [e]
    simp only [Value.ownBlock]
    intro c
    simp only [Option.some.injEq] at c
    subst c
    rw [hh] at hj
    cases hj
    rcases ht with ht | ht
    · exact h1 ht
    · exact h2 ht
theorem below_row {v : Value} {t : TypeId} {s n : Nat} {xs : List Value} (ho : W.ownsRow base t s v n xs) (hg : W.grownBy W' v.ownBlock) (hs : base ≤ W.heap.size) : Below base W W' := by
  refine ⟨hg.os, hg.tape, hg.output, hg.size, fun i hi => hg.block i (Nat.lt_of_lt_of_le hi hs) ?_⟩
  rcases ho.2 with ⟨e, _⟩ | ⟨g, cap, cur, e, hb, _⟩
  · rw [e]; simp [Value.ownBlock]
  · rw [e]; simp only [Value.ownBlock]; intro c; simp only [Option.some.injEq] at c; omega
theorem row_keep {v : Value} {t : TypeId} {s n : Nat} {xs : List Value} (ho : W.ownsRow base t s v n xs) (h : ∀ g cs fr, base ≤ g → W.heap[g]? = some (.cells cs t fr) → W'.heap[g]? = some (.cells cs t fr)) : W'.ownsRow base t s v n xs := by
  obtain ⟨h1, h2⟩ := ho
  refine ⟨h1, ?_⟩
  rcases h2 with h2 | ⟨g, cap, cur, e, hg, hh, rest⟩
  · exact .inl h2
  · exact .inr ⟨g, cap, cur, e, hg, h _ _ _ hg hh, rest⟩
theorem row_grown {v : Value} {t : TypeId} {s n : Nat} {xs : List Value} (ho : W.ownsRow base t s v n xs) {v' : Value} {t' : TypeId} {s' n' : Nat} {xs' : List Value} (ho' : W.ownsRow base t' s' v' n' xs') (hg : W.grownBy W' v'.ownBlock) (ht : t ≠ t') : W'.ownsRow base t s v n xs := by
  refine row_keep ho fun g cs fr _ hh => (hg.block g (heap_lt hh) ?_).trans hh
  rcases ho'.2 with ⟨e, _⟩ | ⟨g', cap, cur, e, hb, hh', _⟩
  · rw [e]; simp [Value.ownBlock]
  · rw [e]; simp only [Value.ownBlock]; intro c; simp only [Option.some.injEq] at c; subst c; rw [hh] at hh'; cases hh'; exact ht rfl
theorem IsTree.safe (hS : Safe W W') {n : Nat} : ∀ {p : Option Addr} {T : Tr}, IsTree n W p T → IsTree n W' p T
  | _, .nil, ht => ht
  | _, .node _ _ _ _, ⟨b', pl, pr, hp, hb, hn, hl, hr⟩ => ⟨b', pl, pr, hp, hb, hS.2 _ _ _ _ hn (.inl rfl), IsTree.safe hS hl, IsTree.safe hS hr⟩
theorem Rep.safe {p : Option Addr} {L : List (Int × Int)} (h : Rep W p L) (hS : Safe W W') : Rep W' p L := by
  obtain ⟨T, h1, h2⟩ := h; exact ⟨T, IsTree.mono hS.1 (IsTree.safe hS h1), h2⟩
theorem RunsT.safe {A : Option Addr} {L : List Rn} (h : RunsT W A L) (hS : Safe W W') : RunsT W' A L := by
  refine ⟨?_, fun a e => ?_⟩
  · rcases h.1 with h1 | ⟨a, rfl, h1, h2⟩
    · exact .inl h1
    · obtain ⟨cur, hc⟩ := h.2 a rfl
      have hs := (hS.2 _ _ _ _ hc (.inr rfl)).trans hc.symm
      refine .inr ⟨a, rfl, Nat.lt_of_lt_of_le h1 hS.1, fun j hj => ?_⟩
      obtain ⟨g0, g1, g2⟩ := h2 j hj
      have hf : (a.add (j * 3)).block = a.block := add_block _ _
      rw [← hf] at hs
      exact ⟨(cell_same hs).trans g0, (cell_same (q := ⟨(a.add (j * 3)).block, (a.add (j * 3)).off + 1, none⟩) hs).trans g1, (cell_same (q := ⟨(a.add (j * 3)).block, (a.add (j * 3)).off + 2, none⟩) hs).trans g2⟩
  · obtain ⟨cur, hc⟩ := h.2 a e
    exact ⟨cur, hS.2 _ _ _ _ hc (.inr rfl)⟩
theorem HsOk.safe {h : Hs} (hk : HsOk W h) (hS : Safe W W') : HsOk W' h := ⟨hk.1.safe hS, hk.2.1.safe hS, hk.2.2⟩
/-- The slice v owns the maps of the versions. -/
def OwnV (W : World) (base : Nat) (v : Value) (H : List Hs) : Prop := W.ownsRow base 26 1 v H.length (H.map fun h => .pointer h.p)
/-- The slice v owns the document's maps of the versions. -/
def OwnM (W : World) (base : Nat) (v : Value) (H : List Hs) : Prop := W.ownsRow base 31 2 v H.length (H.flatMap fun h => [.int .i64 (Tr.total h.L), .slice h.A h.L.length h.c])
variable {v : Value} {H : List Hs}
theorem OwnV.below (h : OwnV W base v H) (hB : Below W.heap.size W W') : OwnV W' base v H := row_keep h fun _ _ _ _ hh => (hB.block _ (heap_lt hh)).trans hh
theorem OwnM.below (h : OwnM W base v H) (hB : Below W.heap.size W W') : OwnM W' base v H := row_keep h fun _ _ _ _ hh => (hB.block _ (heap_lt hh)).trans hh
theorem OwnV.far (h : OwnV W base v H) {b : Nat} (hb : b < base) (i : Nat) (z : Value) : OwnV (W.setCell ⟨b, i, none⟩ z) base v H := row_keep h fun g _ _ hg hh => (Below.heap_setCell W ⟨b, i, none⟩ z g (fun e => by dsimp only at e; omega)).trans hh
theorem OwnM.far (h : OwnM W base v H) {b : Nat} (hb : b < base) (i : Nat) (z : Value) : OwnM (W.setCell ⟨b, i, none⟩ z) base v H := row_keep h fun g _ _ hg hh => (Below.heap_setCell W ⟨b, i, none⟩ z g (fun e => by dsimp only at e; omega)).trans hh
theorem OwnV.one (p A : Option Addr) (c : Nat) (L : List (Int × Int)) (hb : base ≤ W.heap.size) : OwnV (W.alloc (.cells #[.pointer p] 26)) base (.slice (some ⟨W.heap.size, 0, none⟩) 1 1) [⟨p, A, c, L⟩] :=
  ⟨rfl, .inr ⟨W.heap.size, 1, #[.pointer p], rfl, hb, heap_alloc_new W _, Nat.le_refl _, by unfold maxLen; omega, rfl, rfl⟩⟩
theorem OwnM.one (p A : Option Addr) (c : Nat) (L : List (Int × Int)) (hb : base ≤ W.heap.size) : OwnM (W.alloc (.cells #[.int .i64 (Tr.total L), .slice A L.length c] 31)) base (.slice (some ⟨W.heap.size, 0, none⟩) 1 1) [⟨p, A, c, L⟩] :=
  ⟨rfl, .inr ⟨W.heap.size, 1, #[.int .i64 (Tr.total L), .slice A L.length c], rfl, hb, heap_alloc_new W _, Nat.le_refl _, by unfold maxLen; omega, rfl, rfl⟩⟩
theorem row_cell {t : TypeId} {s n : Nat} {xs : List Value} (h : W.ownsRow base t s v n xs) (hn : n ≠ 0) : ∃ g c, v = .slice (some ⟨g, 0, none⟩) n c ∧ n ≤ c ∧ g < W.heap.size ∧ ∀ i u, xs[i]? = some u → W.cell? ⟨g, i, none⟩ = some u := by
  rcases h.2 with ⟨_, h3⟩ | ⟨g, cap, cur, e, hg, hh, hc, _, hs, ht⟩
  · exact absurd h3 hn
  · refine ⟨g, cap, e, hc, heap_lt hh, fun i u hu => ?_⟩
    rw [cell_of_row W g i cur _ _ hh]
    rw [← ht, List.getElem?_take] at hu
    split at hu
    · rw [← hu, Array.getElem?_toList]
    · cases hu
theorem flat_two (H : List Hs) : ∀ i (hi : i < H.length), (H.flatMap fun h => [Value.int .i64 (Tr.total h.L), .slice h.A h.L.length h.c])[i * 2]? = some (.int .i64 (Tr.total H[i].L)) ∧ (H.flatMap fun h => [Value.int .i64 (Tr.total h.L), .slice h.A h.L.length h.c])[i * 2 + 1]? = some (.slice H[i].A H[i].L.length H[i].c) := by
  induction H with
  | nil => intro i hi; simp at hi
  | cons x H ih =>
    intro i hi
    cases i with
    | zero => simp
    | succ i =>
      have := ih i (by simpa using hi)
      simp only [List.flatMap_cons, List.getElem_cons_succ]
      refine ⟨?_, ?_⟩
      · rw [List.getElem?_append_right (by simp; omega)]; rw [← this.1]; congr 1; simp; omega
      · rw [List.getElem?_append_right (by simp; omega)]; rw [← this.2]; congr 1; simp; omega
theorem OwnV.at_ (h : OwnV W base v H) (hn : H.length ≠ 0) : ∃ g c, v = .slice (some ⟨g, 0, none⟩) H.length c ∧ H.length ≤ c ∧ g < W.heap.size ∧ ∀ i (hi : i < H.length), W.cell? ⟨g, i, none⟩ = some (.pointer H[i].p) := by
  obtain ⟨g, c, e, hc, hg, hx⟩ := row_cell h hn
  exact ⟨g, c, e, hc, hg, fun i hi => hx i _ (by simp [hi])⟩
theorem OwnM.at_ (h : OwnM W base v H) (hn : H.length ≠ 0) : ∃ g c, v = .slice (some ⟨g, 0, none⟩) H.length c ∧ H.length ≤ c ∧ g < W.heap.size ∧ ∀ i (hi : i < H.length), W.cell? ⟨g, i * 2, none⟩ = some (.int .i64 (Tr.total H[i].L)) ∧ W.cell? ⟨g, i * 2 + 1, none⟩ = some (.slice H[i].A H[i].L.length H[i].c) := by
  obtain ⟨g, c, e, hc, hg, hx⟩ := row_cell h hn
  exact ⟨g, c, e, hc, hg, fun i hi => ⟨hx _ _ (flat_two H i hi).1, hx _ _ (flat_two H i hi).2⟩⟩
/-- Both boxes, by what keeps nodes and runs and the blocks below a limit. -/
theorem Both.safe {a b : Nat} {L : List (Int × Int)} {p A : Option Addr} {c : Nat} (h : Both W a b L p A c) (hS : Safe W W') (hB : Below base W W') (ha : a < base) (hb : b < base) : Both W' a b L p A c :=
  ⟨(hB.block _ ha).trans h.1, h.2.1.below' hB hb, h.2.2.1.safe hS, h.2.2.2.1.safe hS, h.2.2.2.2⟩
end
theorem infoV : (Try.prog.info? 26).map (fun i => (i.zero, i.size, i.bytes)) = some (some (.agg #[.pointer none]), 1, 8) := by kernel_rfl
theorem infoM : (Try.prog.info? 31).map (fun i => (i.zero, i.size, i.bytes)) = some (some (.agg #[.int .i64 0, .slice none 0 0]), 2, 32) := by kernel_rfl
section
variable {o : Oper} {a : Act} {K : Act → World → Prop} {Q : Exit → Act → World → Prop} (w : World) {base : Nat}
theorem wp_append_v (s x : Operand) (ho : o.op = .call { callee := .builtin .append, args := #[s, x], argTypes := #[59, 59] }) (v : Value) (H : List Hs) (h : Hs) (g : Nat)
    (hs : a.eval s = v) (hown : OwnV w base v H) (hx : a.eval x = .slice (some ⟨g, 0, none⟩) 1 1) (hg : Boxed w g 26 (.pointer h.p)) (hb : (H.length : Int) ≤ 10000) (hbase : base ≤ w.heap.size)
    (k : ∀ v' w', OwnV w' base v' (H ++ [h]) → w.grownBy w' v.ownBlock → K (a.put o.dst v') w') : o.wp Try.prog a w K Q := by
  obtain ⟨i0, hi0, hz0, hz1, hz2⟩ := info_parts infoV
  refine wp_append_own w s x _ ho base _ i0 _ 1 8 Try.underlying59 hi0 hz0 hz1 hz2 rfl (by decide) v H.length _ hs hown ⟨g, 0, none⟩ 1 1 [.pointer h.p] hx rfl ?_ (by simp [Value.oneCell']) (by unfold maxLen; omega) (by omega) hbase fun v' w' h1 h2 _ => k v' w' ?_ h2
  · intro j u hj
    match j with
    | 0 => simp at hj; subst hj; exact hg.cell
    | j + 1 => simp at hj
  · unfold OwnV
    simpa using h1
theorem wp_append_m (s x : Operand) (ho : o.op = .call { callee := .builtin .append, args := #[s, x], argTypes := #[60, 60] }) (v : Value) (H : List Hs) (h : Hs) (g : Nat)
    (hs : a.eval s = v) (hown : OwnM w base v H) (hx : a.eval x = .slice (some ⟨g, 0, none⟩) 1 1) (hg : BoxM w g (Tr.total h.L) (.slice h.A h.L.length h.c)) (hb : (H.length : Int) ≤ 10000) (hbase : base ≤ w.heap.size)
    (k : ∀ v' w', OwnM w' base v' (H ++ [h]) → w.grownBy w' v.ownBlock → K (a.put o.dst v') w') : o.wp Try.prog a w K Q := by
  obtain ⟨i0, hi0, hz0, hz1, hz2⟩ := info_parts infoM
  refine wp_append_own w s x _ ho base _ i0 _ 2 32 Try.underlying60 hi0 hz0 hz1 hz2 rfl (by decide) v H.length _ hs hown ⟨g, 0, none⟩ 1 1 [.int .i64 (Tr.total h.L), .slice h.A h.L.length h.c] hx rfl ?_ (by simp [Value.oneCell']) (by unfold maxLen; omega) (by omega) hbase fun v' w' h1 h2 _ => k v' w' ?_ h2
  · intro j u hj
    match j with
    | 0 => simp at hj; subst hj; exact hg.c0
    | 1 => simp at hj; subst hj; exact hg.c1
    | j + 2 => simp at hj
  · unfold OwnM
    simpa using h1
end
end Go.Proofs.Ytfmplibjhohpgaa
