/- Lists of changes in memory. Slices of changes that a call owns; Changed of the reference. -/
import Derived.Test.YtfmplibjhohpgaaSpLaws
import Derived.Test.YtfmplibjhohpgaaSpDoAny
namespace Go.Proofs.Ytfmplibjhohpgaa
section
open Go.RowKit Go.Shelf

/-- The four cells of a change. -/
def ChAt (w : World) (e : Addr) (x : Ch) : Prop :=
  w.cell? e = some (.int .i64 x.lo) ∧ w.cell? ⟨e.block, e.off + 1, none⟩ = some (.int .i64 x.hi) ∧ w.cell? ⟨e.block, e.off + 2, none⟩ = some (.int .i64 x.frm) ∧ w.cell? ⟨e.block, e.off + 3, none⟩ = some (.int .i64 x.to)
/-- A slice with the address A holds the changes L. -/
def Chs (w : World) (A : Option Addr) (L : List Ch) : Prop :=
  L = [] ∨ ∃ a : Addr, A = some a ∧ a.block < w.heap.size ∧ ∀ i (h : i < L.length), ChAt w (a.add (i * 4)) L[i]
theorem ChAt.below {n₀ : Nat} {w w' : World} (hB : Below n₀ w w') {e : Addr} {x : Ch} (he : e.block < n₀) (h : ChAt w e x) : ChAt w' e x :=
  ⟨(hB.cell he).trans h.1, (hB.cell (p := ⟨e.block, e.off + 1, none⟩) he).trans h.2.1, (hB.cell (p := ⟨e.block, e.off + 2, none⟩) he).trans h.2.2.1, (hB.cell (p := ⟨e.block, e.off + 3, none⟩) he).trans h.2.2.2⟩
theorem Chs.below {w w' : World} (hB : Below w.heap.size w w') {A : Option Addr} {L : List Ch} (h : Chs w A L) : Chs w' A L := by
  rcases h with h | ⟨a, rfl, hb, h⟩
  · exact .inl h
  · exact .inr ⟨a, rfl, Nat.lt_of_lt_of_le hb hB.size, fun i hi => (h i hi).below hB (by rw [add_block]; exact hb)⟩
theorem Chs.at_ {w : World} {a : Addr} {L : List Ch} (h : Chs w (some a) L) {i : Nat} (hi : i < L.length) : a.block < w.heap.size ∧ ChAt w (a.add (i * 4)) L[i] := by
  rcases h with h | ⟨a', ha, hb, h⟩
  · rw [h] at hi; simp at hi
  · cases ha; exact ⟨hb, h i hi⟩
theorem Chs.some_ {w : World} {A : Option Addr} {L : List Ch} (h : Chs w A L) {i : Nat} (hi : i < L.length) : ∃ a, A = some a := by
  rcases h with hh | ⟨a, hh, _⟩
  · rw [hh] at hi; simp at hi
  · exact ⟨a, hh⟩
/-- The box of a change. -/
def BoxCh (W : World) (b : Nat) (x : Ch) : Prop := W.heap[b]? = some (.cells #[.int .i64 x.lo, .int .i64 x.hi, .int .i64 x.frm, .int .i64 x.to] 74 (0, 0))
theorem BoxCh.new (w : World) (x : Ch) : BoxCh (w.alloc (.cells #[.int .i64 x.lo, .int .i64 x.hi, .int .i64 x.frm, .int .i64 x.to] 74)) w.heap.size x := heap_alloc_new w _
theorem BoxCh.lt {W : World} {b : Nat} {x : Ch} (h : BoxCh W b x) : b < W.heap.size := (Array.getElem?_eq_some_iff.1 h).1
theorem BoxCh.next {W W' : World} {b : Nat} {x : Ch} (h : BoxCh W b x) (hB : Below W.heap.size W W') : BoxCh W' b x := (hB.block b h.lt).trans h
theorem BoxCh.c0 {W : World} {b : Nat} {x : Ch} (h : BoxCh W b x) : W.cell? ⟨b, 0, none⟩ = some (.int .i64 x.lo) := cell_of_row W b 0 _ _ _ h
theorem BoxCh.c1 {W : World} {b : Nat} {x : Ch} (h : BoxCh W b x) : W.cell? ⟨b, 1, none⟩ = some (.int .i64 x.hi) := cell_of_row W b 1 _ _ _ h
theorem BoxCh.c2 {W : World} {b : Nat} {x : Ch} (h : BoxCh W b x) : W.cell? ⟨b, 2, none⟩ = some (.int .i64 x.frm) := cell_of_row W b 2 _ _ _ h
theorem BoxCh.c3 {W : World} {b : Nat} {x : Ch} (h : BoxCh W b x) : W.cell? ⟨b, 3, none⟩ = some (.int .i64 x.to) := cell_of_row W b 3 _ _ _ h
end
section
open Go.RowKit Go.Shelf

def cellsCh (L : List Ch) : List Value := L.flatMap fun x => [.int .i64 x.lo, .int .i64 x.hi, .int .i64 x.frm, .int .i64 x.to]
theorem infoCh : (Try.prog.info? 74).map (fun i => (i.zero, i.size, i.bytes)) = some (some (.agg #[.int .i64 0, .int .i64 0, .int .i64 0, .int .i64 0]), 4, 32) := by kernel_rfl
theorem cellsCh_cons (x : Ch) (L : List Ch) : cellsCh (x :: L) = [.int .i64 x.lo, .int .i64 x.hi, .int .i64 x.frm, .int .i64 x.to] ++ cellsCh L := by simp [cellsCh]
theorem cellsCh_length (L : List Ch) : (cellsCh L).length = L.length * 4 := by
  induction L with
  | nil => rfl
  | cons x L ih => rw [cellsCh_cons, List.length_append, ih]; simp; omega
theorem cellsCh_one (L : List Ch) : ∀ u ∈ cellsCh L, u.oneCell' = true := by
  intro u hu
  simp only [cellsCh, List.mem_flatMap, List.mem_cons, List.not_mem_nil, or_false] at hu
  obtain ⟨x, _, h | h | h | h⟩ := hu <;> subst h <;> rfl
theorem cells_of_chs {w : World} {a : Addr} {L : List Ch} (h : Chs w (some a) L) : ∀ j u, (cellsCh L)[j]? = some u → w.cell? (a.add j) = some u := by
  rcases h with h | ⟨a', ha, _, h⟩
  · subst h; intro j u hj; simp [cellsCh] at hj
  · cases ha
    have key : ∀ (L : List Ch) (k : Nat), (∀ i (hi : i < L.length), ChAt w (a.add ((k + i) * 4)) L[i]) → ∀ j u, (cellsCh L)[j]? = some u → w.cell? (a.add (k * 4 + j)) = some u := by
      intro L
      induction L with
      | nil => intro k _ j u hj; simp [cellsCh] at hj
      | cons x L ih =>
        intro k hk j u hj
        have ea : ∀ m, m ≠ 0 → (⟨(a.add (k * 4)).block, (a.add (k * 4)).off + m, none⟩ : Addr) = (a.add (k * 4)).add m := by
          intro m hm; unfold Addr.add; rw [if_neg hm]
        obtain ⟨k0, k1, k2, k3⟩ := hk 0 (by simp)
        rw [Nat.add_zero] at k0 k1 k2 k3
        rw [ea 1 (by decide), add_add'] at k1
        rw [ea 2 (by decide), add_add'] at k2
        rw [ea 3 (by decide), add_add'] at k3
        rw [cellsCh_cons] at hj
        match j, hj with
        | 0, hj => simp at hj; subst hj; exact k0
        | 1, hj => simp at hj; subst hj; exact k1
        | 2, hj => simp at hj; subst hj; exact k2
        | 3, hj => simp at hj; subst hj; exact k3
        | j + 4, hj =>
          have := ih (k + 1) (fun i hi => by have := hk (i + 1) (by simpa using hi); rw [show k + 1 + i = k + (i + 1) from by omega]; simpa using this) j u (by simpa using hj)
          rw [show k * 4 + (j + 4) = (k + 1) * 4 + j from by omega]; exact this
    have := key L 0 (fun i hi => by rw [Nat.zero_add]; exact h i hi)
    intro j u hj
    have h2 := this j u hj
    rwa [Nat.zero_mul, Nat.zero_add] at h2
/-- The slice v owns the changes L, in blocks from base on. -/
def OwnChs (w : World) (base : Nat) (v : Value) (L : List Ch) : Prop := w.ownsRow base 74 4 v L.length (cellsCh L)
theorem OwnChs.empty (w : World) : (w.alloc (.cells #[] 74)).ownsRow w.heap.size 74 4 (.slice (some ⟨w.heap.size, 0, none⟩) 0 0) 0 (cellsCh []) :=
  ⟨rfl, .inr ⟨w.heap.size, 0, #[], rfl, Nat.le_refl _, heap_alloc_new w _, Nat.le_refl _, Nat.zero_le _, rfl, rfl⟩⟩
theorem OwnChs.of_empty {w : World} {base n : Nat} {v : Value} {L : List Ch} (hn : L.length = n) (h : w.ownsRow base 74 4 v (0 + n) (cellsCh [] ++ cellsCh L)) : OwnChs w base v L := by
  rw [Nat.zero_add, show cellsCh [] ++ cellsCh L = cellsCh L from rfl, ← hn] at h
  exact h
theorem OwnChs.chs {w : World} {base : Nat} {v : Value} {L : List Ch} (h : OwnChs w base v L) : ∃ A c, v = .slice A L.length c ∧ L.length ≤ c ∧ Chs w A L := by
  obtain ⟨h1, h2⟩ := h
  rcases h2 with ⟨h2, h3⟩ | ⟨g, cap, cur, e, hg, hh, hc, _, hs, ht⟩
  · exact ⟨none, 0, by rw [h2, h3], by omega, .inl (List.eq_nil_of_length_eq_zero h3)⟩
  · refine ⟨_, cap, e, hc, .inr ⟨⟨g, 0, none⟩, rfl, (Array.getElem?_eq_some_iff.1 hh).1, fun i hi => ?_⟩⟩
    have key : ∀ j v, (cellsCh L)[i * 4 + j]? = some v → j < 4 → w.cell? ⟨g, i * 4 + j, none⟩ = some v := by
      intro j v hv hj
      rw [cell_of_row w g (i * 4 + j) cur _ _ hh]
      rw [← ht, List.getElem?_take, if_pos (by omega)] at hv
      rw [← hv, Array.getElem?_toList]
    have hcell : ∀ (L : List Ch) (i : Nat) (hi : i < L.length), (cellsCh L)[i * 4]? = some (.int .i64 L[i].lo) ∧ (cellsCh L)[i * 4 + 1]? = some (.int .i64 L[i].hi) ∧ (cellsCh L)[i * 4 + 2]? = some (.int .i64 L[i].frm) ∧ (cellsCh L)[i * 4 + 3]? = some (.int .i64 L[i].to) := by
      intro L
      induction L with
      | nil => intro i hi; simp at hi
      | cons x L ih =>
        intro i hi
        cases i with
        | zero => simp [cellsCh]
        | succ i =>
          have := ih i (by simpa using hi)
          rw [cellsCh_cons, show (i + 1) * 4 = 4 + i * 4 from by omega]
          simp only [List.getElem_cons_succ]
          refine ⟨?_, ?_, ?_, ?_⟩
          · rw [List.getElem?_append_right (by simp)]; simpa using this.1
          · rw [List.getElem?_append_right (by simp; omega)]; rw [← this.2.1]; congr 1; simp; omega
          · rw [List.getElem?_append_right (by simp; omega)]; rw [← this.2.2.1]; congr 1; simp; omega
          · rw [List.getElem?_append_right (by simp; omega)]; rw [← this.2.2.2]; congr 1; simp; omega
    obtain ⟨k0, k1, k2, k3⟩ := hcell L i hi
    have ea : (⟨g, 0, none⟩ : Addr).add (i * 4) = ⟨g, i * 4, none⟩ := by
      unfold Addr.add; split
      · rename_i h0; rw [h0]
      · simp
    rw [ea]
    exact ⟨key 0 _ k0 (by omega), key 1 _ k1 (by omega), key 2 _ k2 (by omega), key 3 _ k3 (by omega)⟩
set_option maxRecDepth 100000 in
set_option maxHeartbeats 1000000 in
theorem changed_same (L : List Ch) (A B : Option Addr) (c d : Nat) (w : World) (hA : Chs w A L) (hB : Chs w B L) (hc : L.length ≤ c) (hd : L.length ≤ d) (hm : (L.length : Int) ≤ 1000000) :
    Calls Try.prog 46 #[.slice A L.length c, .slice B L.length d] w fun e w' => e = .returned (.bool true) ∧ Quiet w w' := by
  obtain ⟨n, hn⟩ : ∃ n, L.length = n := ⟨_, rfl⟩
  rw [hn] at hc hd hm ⊢
  have HN := Lib.hid hn
  clear hn
  go_enter Try.func46, Try.ntmps46
  go_wp2_with (fail)
  go_loopw [5] (fun i wr => ∃ k : Nat, k ≤ n ∧ i = .int .i64 k ∧ Quiet w wr) (fun i _ => n - (intOf i).toNat)
  case atStart => exact ⟨0, by omega, rfl, Quiet.refl _⟩
  case round =>
    obtain ⟨k, hk, rfl, q, rfl⟩ := hrel
    by_cases hlt : k < n
    · have hkL : k < L.length := by have := HN.out; omega
      obtain ⟨a, rfl⟩ := hA.some_ hkL
      obtain ⟨b, rfl⟩ := hB.some_ hkL
      obtain ⟨_, f0, f1, f2, f3⟩ := hA.at_ hkL
      obtain ⟨_, g0, g1, g2, g3⟩ := hB.at_ hkL
      generalize L[k] = X at *
      have k0 : (0 : Int) ≤ (k : Int) := by omega
      have k1 : (k : Int) < (n : Int) := by omega
      go_wp2_with (fail)
      go_quiet (fail)
      go_wp2_with (fail)
      go_roundw
      case rel => exact ⟨k + 1, by omega, by go_num, _, rfl⟩
      case measure => simp [intOf]; omega
    · obtain rfl : k = n := by omega
      go_wp2_with (fail)
      go_ret
      exact ⟨rfl, _, rfl⟩
end
end Go.Proofs.Ytfmplibjhohpgaa
