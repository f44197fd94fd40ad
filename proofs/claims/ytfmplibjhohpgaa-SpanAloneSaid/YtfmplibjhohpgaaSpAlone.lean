/- The walk over SpanAlone. -/
import Derived.Test.YtfmplibjhohpgaaSpMerge
import Derived.Test.YtfmplibjhohpgaaSpRefDiff
import Derived.Test.YtfmplibjhohpgaaSpBuilt
import Derived.Laws.AppendOwnNone
import Derived.Deep.DeepCutAuto
namespace Go.Proofs.Ytfmplibjhohpgaa
open Go.RowKit Go.Shelf
attribute [local go_sem] Oper.semAt_some

/-- A row of which the numbers in one place of each element can be read and written. -/
def RowG (w : World) (g : Nat) (t : TypeId) (s f n : Nat) : Prop := ∃ cur, w.heap[g]? = some (.cells cur t (0, 0)) ∧ ∀ j, j < n → ∃ x, cur[j * s + f]? = some (.int .i64 x)
section
variable {w w' : World} {g s f n : Nat} {t : TypeId}
theorem RowG.lt (h : RowG w g t s f n) : g < w.heap.size := by obtain ⟨cur, h, _⟩ := h; exact (Array.getElem?_eq_some_iff.1 h).1
theorem RowG.cell (h : RowG w g t s f n) {j : Nat} (hj : j < n) : ∃ x, w.cell? ⟨g, j * s + f, none⟩ = some (.int .i64 x) := by
  obtain ⟨cur, h, h2⟩ := h
  obtain ⟨x, hx⟩ := h2 j hj
  exact ⟨x, (cell_of_row w g (j * s + f) cur _ _ h).trans hx⟩
theorem RowG.frozen (h : RowG w g t s f n) (i : Nat) : w.frozen? ⟨g, i, none⟩ = false := by obtain ⟨cur, h, h2⟩ := h; simp [World.frozen?, h]
theorem RowG.next (h : RowG w g t s f n) (hB : Below w.heap.size w w') : RowG w' g t s f n := by
  obtain ⟨cur, h1, h2⟩ := h
  exact ⟨cur, (hB.block g (Array.getElem?_eq_some_iff.1 h1).1).trans h1, h2⟩
theorem RowG.set (h : RowG w g t s f n) (i : Nat) (x : Int) : RowG (w.setCell ⟨g, i, none⟩ (.int .i64 x)) g t s f n := by
  obtain ⟨cur, h1, h2⟩ := h
  refine ⟨cur.setIfInBounds i (.int .i64 x), by simp [World.setCell, Array.getElem?_modify, h1], fun j hj => ?_⟩
  obtain ⟨y, hy⟩ := h2 j hj
  rw [Array.getElem?_setIfInBounds]
  by_cases hi : i = j * s + f
  · rw [if_pos hi, if_pos (by rw [hi]; exact (Array.getElem?_eq_some_iff.1 hy).1)]; exact ⟨x, rfl⟩
  · rw [if_neg hi]; exact ⟨y, hy⟩
theorem RowG.far (h : RowG w g t s f n) {b : Nat} (hne : ¬ g = b) (i : Nat) (z : Value) : RowG (w.setCell ⟨b, i, none⟩ z) g t s f n := by
  obtain ⟨cur, h1, h2⟩ := h
  exact ⟨cur, (Below.heap_setCell w ⟨b, i, none⟩ z g hne).trans h1, h2⟩
theorem RowG.typed (h : RowG w g t s f n) : ∃ cs, w.heap[g]? = some (.cells cs t (0, 0)) := by obtain ⟨cur, h, _⟩ := h; exact ⟨cur, h⟩
end
/-- A slice with room, and what can be done with its elements. -/
def Sro (w : World) (lo hi : Nat) (t : TypeId) (s f : Nat) (A : Option Addr) (n : Nat) : Prop := n = 0 ∨ ∃ g, A = some ⟨g, 0, none⟩ ∧ lo ≤ g ∧ g < hi ∧ RowG w g t s f n
def RowO (w : World) (t : TypeId) (s f : Nat) (A : Option Addr) (n : Nat) : Prop := ∀ g, A = some ⟨g, 0, none⟩ → n ≠ 0 → RowG w g t s f n
theorem Sro.row {w : World} {lo hi : Nat} {t : TypeId} {s f : Nat} {A : Option Addr} {n : Nat} (h : Sro w lo hi t s f A n) : RowO w t s f A n := by
  rcases h with h | ⟨g, e, _, _, h⟩
  · exact fun _ _ hn => (hn h).elim
  · intro g' e' _; rw [e] at e'; cases e'; exact h
theorem RowO.next {w w' : World} {t : TypeId} {s f : Nat} {A : Option Addr} {n : Nat} (h : RowO w t s f A n) (hB : Below w.heap.size w w') : RowO w' t s f A n := fun g e hn => (h g e hn).next hB
theorem sro_of {w : World} {base s f n c : Nat} {t : TypeId} {A : Option Addr} {xs : List Value} (h : w.ownsRow base t s (.slice A n c) n xs) (hf : ∀ j, j < n → ∃ x, xs[j * s + f]? = some (.int .i64 x)) : Sro w base w.heap.size t s f A n := by
  rcases h.2 with ⟨_, h3⟩ | ⟨g, cap, cur, e, hg, hh, hc, _, hs, ht⟩
  · exact .inl h3
  · simp only [Value.slice.injEq] at e
    refine .inr ⟨g, e.1, hg, (Array.getElem?_eq_some_iff.1 hh).1, cur, hh, fun j hj => ?_⟩
    obtain ⟨x, hx⟩ := hf j hj
    rw [← ht, List.getElem?_take] at hx
    split at hx
    · exact ⟨x, by rw [← Array.getElem?_toList]; exact hx⟩
    · cases hx
theorem OwnRuns.sro {w : World} {base n c : Nat} {A : Option Addr} {L : List Rn} (h : OwnRuns w base (.slice A n c) L) (hn : L.length = n) : Sro w base w.heap.size 35 3 1 A n := by
  subst hn
  refine sro_of h ?_
  have key : ∀ (L : List Rn) (j : Nat), j < L.length → ∃ x, (cellsR L)[j * 3 + 1]? = some (.int .i64 x) := by
    intro L
    induction L with
    | nil => intro j hj; simp at hj
    | cons x L ih =>
      intro j hj
      have e : cellsR (x :: L) = [.int .i64 x.lo, .int .i64 x.hi, .int .i64 x.tag] ++ cellsR L := by simp [cellsR]
      rw [e]
      cases j with
      | zero => exact ⟨_, rfl⟩
      | succ j =>
        obtain ⟨y, hy⟩ := ih j (by simpa using hj)
        exact ⟨y, by rw [show (j + 1) * 3 + 1 = (j * 3 + 1) + 3 from by omega]; simpa using hy⟩
  exact key L
theorem OwnChs.sro {w : World} {base n c f : Nat} {A : Option Addr} {L : List Ch} (h : OwnChs w base (.slice A n c) L) (hn : L.length = n) (hf : f < 4) : Sro w base w.heap.size 74 4 f A n := by
  subst hn
  refine sro_of h ?_
  have key : ∀ (L : List Ch) (j : Nat), j < L.length → ∃ x, (cellsCh L)[j * 4 + f]? = some (.int .i64 x) := by
    intro L
    induction L with
    | nil => intro j hj; simp at hj
    | cons x L ih =>
      intro j hj
      rw [cellsCh_cons]
      cases j with
      | zero =>
        rw [Nat.zero_mul, Nat.zero_add]
        match f, hf with
        | 0, _ => exact ⟨_, rfl⟩
        | 1, _ => exact ⟨_, rfl⟩
        | 2, _ => exact ⟨_, rfl⟩
        | 3, _ => exact ⟨_, rfl⟩
      | succ j =>
        obtain ⟨y, hy⟩ := ih j (by simpa using hj)
        exact ⟨y, by rw [show (j + 1) * 4 + f = (j * 4 + f) + 4 from by omega]; simpa using hy⟩
  exact key L
theorem row_add0 (g j : Nat) : (⟨g, 0, none⟩ : Addr).add j = ⟨g, j, none⟩ := by
  unfold Addr.add
  by_cases h : j = 0
  · rw [if_pos h, h]
  · rw [if_neg h]; simp
/-- append of an own row, empty or not, onto an empty own row. -/
theorem wpList_copy {P : Program} {ops : Array Oper} {rest : List Oper} {o : Oper} {a : Act} {Q : Exit → Act → World → Prop} (w : World) (hgd : o.guard = none) (s x : Operand) (t : TypeId)
    (ho : o.op = .call { callee := .builtin .append, args := #[s, x], argTypes := #[t, t] })
    (base : Nat) (e : TypeId) (i : TypeInfo) (z : Value) (size bytes : Nat) (ht : P.underlying t = some (.slice e)) (hi : P.info? e = some i) (hz : i.zero = some z)
    (hsize : i.size = size) (hby : i.bytes = bytes) (hzs : z.cells.size = size) (hsz : 0 < size)
    (v : Value) (hs : a.eval s = v) (hown : w.ownsRow base e size v 0 []) {base' : Nat}
    (A : Option Addr) (m c : Nat) (news : List Value) (hx : a.eval x = .slice A m c) (hsrc : w.ownsRow base' e size (.slice A m c) m news) (hl : news.length = m * size) (h1 : ∀ u ∈ news, u.oneCell' = true)
    (h63 : m ≤ maxLen) (hbytes : m * bytes ≤ 140737488355328) (hbase : base ≤ w.heap.size)
    (h : ∀ v' w', w'.ownsRow base e size v' m news → w.grownBy w' v.ownBlock → wpList P ops Q rest (a.put o.dst v') w') : wpList P ops Q (o :: rest) a w := by
  rcases hsrc.2 with ⟨h2, h3⟩ | ⟨g, cap, cur, he, hg, hh, hc, _, hs2, ht2⟩
  · subst h3
    simp only [Value.slice.injEq] at h2
    obtain ⟨rfl, _, rfl⟩ := h2
    have : news = [] := List.eq_nil_of_length_eq_zero (by simpa using hl)
    subst this
    refine wpList_plain hgd fun _ hK => ?_
    have hrun := run_append_owned_none (P := P) (w := w) base t o.type _ i size ht hi v 0 [] hown
    unfold Oper.wp
    simp [execOp, ho, resolve, invoke, builtin, hs, hx, hrun, Result.andThen]
    exact hK _ _ (h v w hown ⟨rfl, rfl, rfl, Nat.le_refl _, fun _ _ _ => rfl⟩)
  · simp only [Value.slice.injEq] at he
    obtain ⟨rfl, _, rfl⟩ := he
    refine wpList_append_own w hgd s x t ho base e i z size bytes ht hi hz hsize hby hzs hsz v 0 [] hs hown ⟨g, 0, none⟩ m c news hx hl ?_ h1 (by omega) (by rw [Nat.zero_add]; exact hbytes) hbase fun v' w' h2 h3 _ => ?_
    · intro j u hu
      rw [row_add0, cell_of_row w g j cur _ _ hh]
      rw [← ht2, List.getElem?_take] at hu
      split at hu
      · rw [← hu, Array.getElem?_toList]
      · cases hu
    · rw [Nat.zero_add, List.nil_append] at h2
      exact h v' w' h2 h3
theorem cell_types {w : World} {g s f n : Nat} {t u : TypeId} {cs : Array Value} {P : Prop} (h : w.heap[g]? = some (.cells cs t (0, 0))) (h' : RowG w g u s f n) (hne : t ≠ u) : P := by
  obtain ⟨cur, h2, _⟩ := h'
  rw [h] at h2
  cases h2
  exact (hne rfl).elim
theorem OwnChs.toChs {w : World} {base : Nat} {A : Option Addr} {n c : Nat} {L : List Ch} (h : OwnChs w base (.slice A n c) L) : Chs w A L := by
  obtain ⟨A', c', e, _, hR⟩ := h.chs
  cases e; exact hR
/-- What the loops leave as it is. -/
structure AL (w : World) (b7 b9 n1 n2 : Nat) (pa pb : Option Addr) (La Lb : List (Int × Int)) (v18 v19 : Value) (V : List Rn) (D : List Ch) (W : World) : Prop where
  ra : Rep W pa La
  rb : Rep W pb Lb
  x7 : Boxed W b7 26 (.pointer pa)
  x9 : Boxed W b9 26 (.pointer pb)
  f : OwnRuns W n1 v18 V
  ch : OwnChs W n2 v19 D
  bl : Below w.heap.size w W
theorem AL.set {w : World} {b7 b9 n1 n2 : Nat} {pa pb : Option Addr} {La Lb : List (Int × Int)} {v18 v19 : Value} {V : List Rn} {D : List Ch} {W : World} (h : AL w b7 b9 n1 n2 pa pb La Lb v18 v19 V D W)
    {g : Nat} {cs : Array Value} {t : TypeId} (hg : W.heap[g]? = some (.cells cs t (0, 0))) (t1 : t ≠ 116) (t2 : t ≠ 26) (g1 : g < n1) (g2 : g < n2) (g3 : w.heap.size ≤ g) (i : Nat) (z : Value) :
    AL w b7 b9 n1 n2 pa pb La Lb v18 v19 V D (W.setCell ⟨g, i, none⟩ z) := by
  have bx : ∀ {b : Nat} {u : Value}, Boxed W b 26 u → ¬ b = g := fun hb e => by
    subst e
    have h' : W.heap[_]? = _ := hb
    rw [hg] at h'
    cases h'
    exact t2 rfl
  exact ⟨h.ra.set_ ⟨_, _, _, hg, t1⟩ _ _ _, h.rb.set_ ⟨_, _, _, hg, t1⟩ _ _ _, boxed_far h.x7 (bx h.x7), boxed_far h.x9 (bx h.x9), h.f.set (p := ⟨g, i, none⟩) g1 _, h.ch.set (p := ⟨g, i, none⟩) g2 _, h.bl.setCell (p := ⟨g, i, none⟩) g3 _⟩
theorem built_some_ (w : World) (size : Int) (A : Option Addr) (l : List Ac) (c : Nat) (hA : Acts w A l) (hlc : l.length ≤ c) :
    Calls Try.prog 22 #[.int .i64 size, .slice A l.length c] w fun e w' => ∃ q b, e = .returned (.tuple #[.agg #[.pointer q], .bool b]) ∧ Below w.heap.size w w' := by
  by_cases h : (1 ≤ size ∧ size ≤ 1099511627776) ∧ (l.length : Int) ≤ 60
  · exact (built_yes w size A l c h.1.1 h.1.2 hA hlc h.2).mono fun e w' ⟨q, h1, h2, h3⟩ => ⟨q, true, h1, h3⟩
  · exact (built_no w size A _ c h).mono fun e w' ⟨q, M, h1, h2, h3⟩ => ⟨q, false, h1, h3⟩
set_option maxRecDepth 100000 in
set_option maxHeartbeats 400000 in
theorem alone_no (w : World) (size : Int) (A B : Option Addr) (l k : List Ac) (m c n d : Nat) (_hm : l.length = m) (hn : k.length = n) (_hA : Acts w A l) (hB : Acts w B k) (_hmc : m ≤ c) (hnd : n ≤ d) (h : ¬ ((1 ≤ size ∧ size ≤ 1099511627776) ∧ (m : Int) ≤ 60)) :
    Calls Try.prog 15 #[.int .i64 size, .slice A m c, .slice B n d] w (FromsPost w) := by
  have hb2 : ∀ W, Below w.heap.size w W → Calls Try.prog 22 #[.int .i64 size, .slice B n d] W fun e w' => ∃ q b, e = .returned (.tuple #[.agg #[.pointer q], .bool b]) ∧ Below W.heap.size W w' := fun W hW => by
    have := built_some_ W size B k d (hB.below hW) (by omega)
    rwa [hn] at this
  have H2 := Lib.hid hb2
  have H := Lib.hid h
  clear hb2 h _hA hB _hm hn
  go_enter Try.func15, Try.ntmps15
  go_wp2_with (fail)
  go_at_call 22
  refine (built_no _ size A m c H.out).mono ?_
  rintro e w1 ⟨q, M, rfl, _, b1⟩
  go_upto_region 2 with (fail)
  generalize hb : World.alloc w1 _ = w2
  have dw2 : Below w1.heap.size w1 w2 := hb ▸ Below.alloc1 w1 _
  have y : Boxed w2 w1.heap.size 26 (.pointer q) := hb ▸ Boxed.new w1 _ _
  clear hb
  have B2 := Below.next b1 dw2
  go_wp2_with (fail)
  go_at_call 22
  refine (H2.out _ B2).mono ?_
  rintro e w3 ⟨q3, b, rfl, b3⟩
  have B3 := Below.next B2 b3
  go_upto_region 3 with (fail)
  generalize hb : World.alloc w3 _ = w4
  have dw4 : Below w3.heap.size w3 w4 := hb ▸ Below.alloc1 w3 _
  have y4 : Boxed w4 w3.heap.size 26 (.pointer q3) := hb ▸ Boxed.new w3 _ _
  clear hb
  have B4 := Below.next B3 dw4
  go_wp2_with (fail)
  go_at_call 18
  refine (awake_any _).mono ?_
  rintro e wz ⟨rfl, bz⟩
  go_wp2_with (fail)
  go_ret
  exact ⟨rfl, Below.next B4 bz⟩
set_option maxRecDepth 100000 in
set_option maxHeartbeats 400000 in
theorem alone_no2 (w : World) (size : Int) (A B : Option Addr) (l : List Ac) (m c n d : Nat) (hm : l.length = m) (hA : Acts w A l) (hmc : m ≤ c) (h : ¬ ((1 ≤ size ∧ size ≤ 1099511627776) ∧ (n : Int) ≤ 60)) (h1 : 1 ≤ size) (h2 : size ≤ 1099511627776) (hl : (m : Int) ≤ 60) :
    Calls Try.prog 15 #[.int .i64 size, .slice A m c, .slice B n d] w (FromsPost w) := by
  have hb1 : Calls Try.prog 22 #[.int .i64 size, .slice A m c] w fun e w' => ∃ q, e = .returned (.tuple #[.agg #[.pointer q], .bool true]) ∧ Below w.heap.size w w' := by
    have := built_yes w size A l c h1 h2 hA (by omega) (by omega)
    rw [hm] at this
    exact this.mono fun e w' ⟨q, h1, _, h3⟩ => ⟨q, h1, h3⟩
  have H1 := Lib.hid hb1
  have H := Lib.hid h
  clear hb1 h hA hm
  go_enter Try.func15, Try.ntmps15
  go_wp2_with (fail)
  go_at_call 22
  refine H1.out.mono ?_
  rintro e w1 ⟨q, rfl, b1⟩
  go_upto_region 2 with (fail)
  generalize hb : World.alloc w1 _ = w2
  have dw2 : Below w1.heap.size w1 w2 := hb ▸ Below.alloc1 w1 _
  have y : Boxed w2 w1.heap.size 26 (.pointer q) := hb ▸ Boxed.new w1 _ _
  clear hb
  have B2 := Below.next b1 dw2
  go_wp2_with (fail)
  go_at_call 22
  refine (built_no _ size B n d H.out).mono ?_
  rintro e w3 ⟨q3, M, rfl, _, b3⟩
  have B3 := Below.next B2 b3
  go_upto_region 3 with (fail)
  generalize hb : World.alloc w3 _ = w4
  have dw4 : Below w3.heap.size w3 w4 := hb ▸ Below.alloc1 w3 _
  have y4 : Boxed w4 w3.heap.size 26 (.pointer q3) := hb ▸ Boxed.new w3 _ _
  clear hb
  have B4 := Below.next B3 dw4
  go_wp2_with (fail)
  go_at_call 18
  refine (awake_any _).mono ?_
  rintro e wz ⟨rfl, bz⟩
  go_wp2_with (fail)
  go_ret
  exact ⟨rfl, Below.next B4 bz⟩
set_option maxRecDepth 100000 in
set_option maxHeartbeats 8000000 in
theorem alone_main (w : World) (size : Int) (A B : Option Addr) (l k : List Ac) (m c n d : Nat) (hm : l.length = m) (hn : k.length = n) (hA : Acts w A l) (hB : Acts w B k) (hmc : m ≤ c) (hnd : n ≤ d) (h1 : 1 ≤ size) (h2 : size ≤ 1099511627776) (hl : (m : Int) ≤ 60) (hk : (n : Int) ≤ 60) :
    Calls Try.prog 15 #[.int .i64 size, .slice A m c, .slice B n d] w (FromsPost w) := by
  obtain ⟨gM, tM⟩ := bltL_facts h1 h2 l
  obtain ⟨gN, tN⟩ := bltL_facts h1 h2 k
  have g0 : Good [(size, 0)] := ⟨by simp, Tr.OkL.cons.2 ⟨⟨h1, by simp, by simp⟩, by simp [Tr.OkL]⟩, ⟨by simp, trivial⟩, by simp [Tr.total_cons, Tr.total_nil]; omega, by simp⟩
  have lM := moreL_length l g0
  have lN := moreL_length k g0
  have hpl : Calls Try.prog 22 #[.int .i64 size, .slice A m c] w fun e w' => ∃ q, e = .returned (.tuple #[.agg #[.pointer q], .bool true]) ∧ Rep w' q (moreL [(size, 0)] l) ∧ Below w.heap.size w w' := by
    have := built_yes w size A l c h1 h2 hA (by omega) (by omega)
    rwa [hm] at this
  have hpk : ∀ W, Below w.heap.size w W → Calls Try.prog 22 #[.int .i64 size, .slice B n d] W fun e w' => ∃ q, e = .returned (.tuple #[.agg #[.pointer q], .bool true]) ∧ Rep w' q (moreL [(size, 0)] k) ∧ Below W.heap.size W w' := fun W hW => by
    have := built_yes W size B k d h1 h2 (hB.below hW) (by omega) (by omega)
    rwa [hn] at this
  simp only [List.length_cons, List.length_nil] at lM lN
  generalize moreL [(size, 0)] l = M at *
  generalize moreL [(size, 0)] k = N at *
  have ht : Tr.total M = Tr.total N := by omega
  obtain ⟨D, hD⟩ : ∃ D, diffL (zipL M N) = D := ⟨_, rfl⟩
  have r1 : diffR M N = (0, D) := by
    rw [← hD]; unfold diffR; rw [if_neg (by simp [gM.1, gN.1]), if_neg (by simp [ht])]
  have dl : D.length ≤ 8192 := by rw [← hD]; have := diffL_length (zipL M N); have := zipL_length M N; omega
  obtain ⟨V, e1, hV⟩ : ∃ V e1, runsR M 0 size 1048576 = (V, e1) := ⟨_, _, rfl⟩
  have vl : V.length ≤ 4096 := by
    have e : V = (runsR M 0 size 1048576).1 := by rw [hV]
    rw [e]
    unfold runsR
    split
    · have := clipL_length 0 size 0 M
      simp only [List.length_take]; omega
    · simp
  obtain ⟨R, hR⟩ : ∃ R, mergeR M N M = R := ⟨_, rfl⟩
  have hRD : R.2.2.length ≤ 20000 := by
    rw [← hR]; unfold mergeR
    by_cases q1 : M = [] ∨ N = [] ∨ M = []
    · rw [if_pos q1]; simp
    rw [if_neg q1]
    by_cases q2 : Tr.total N ≠ Tr.total M ∨ Tr.total M ≠ Tr.total M
    · rw [if_pos q2]; simp
    rw [if_neg q2]
    by_cases q3 : 4096 < ((mergeL M (zipL N M)).1.length : Int)
    · rw [if_pos q3]; simp
    rw [if_neg q3]
    exact (mergeL_count (Z2 := []) gM.2.1 gN.2.1 gM.2.1 ht.symm rfl gM.2.2.2.2 gN.2.2.2.2 gM.2.2.2.2 (by rw [List.append_nil])).2
  obtain ⟨err, RL, RD⟩ := R
  dsimp only at hRD
  obtain ⟨nv, hnv⟩ : ∃ nv, V.length = nv := ⟨_, rfl⟩
  obtain ⟨nd, hnd'⟩ : ∃ nd, D.length = nd := ⟨_, rfl⟩
  obtain ⟨nc, hnc⟩ : ∃ nc, RD.length = nc := ⟨_, rfl⟩
  rw [hnv] at vl
  rw [hnd'] at dl
  rw [hnc] at hRD
  have bv : (nv : Int) ≤ 4096 := by omega
  have bd : (nd : Int) ≤ 8192 := by omega
  have bc : (nc : Int) ≤ 20000 := by omega
  have hru : ∀ (W : World) (p : Option Addr), Rep W p M → Calls Try.prog 33 #[.agg #[.pointer p], .int .i64 0, .int .i64 size, .int .i64 1048576] W fun e w' => ∃ A c, e = .returned (.tuple #[.slice A nv c, .int .i64 e1]) ∧ nv ≤ c ∧ OwnRuns w' W.heap.size (.slice A nv c) V ∧ Below W.heap.size W w' := fun W p h => by
    have := runs_any W p M 0 size 1048576 h
    rw [hV] at this
    refine this.mono fun e w' ⟨v, h3, h4, h5⟩ => ?_
    obtain ⟨A', c', rfl, hc, _⟩ := h4.runs
    rw [hnv] at hc h4 h3
    exact ⟨A', c', h3, hc, h4, h5⟩
  have hdf : ∀ (W : World) (p q : Option Addr), Rep W p M → Rep W q N → Calls Try.prog 34 #[.agg #[.pointer p], .agg #[.pointer q]] W fun e w' => ∃ A c, e = .returned (.tuple #[.slice A nd c, .int .i64 0]) ∧ nd ≤ c ∧ OwnChs w' W.heap.size (.slice A nd c) D ∧ Below W.heap.size W w' := fun W p q h3 h4 => by
    have := diff_any W p q M N h3 h4 (.inr gM) (.inr gN)
    unfold DiffPost at this
    rw [r1] at this
    refine this.mono fun e w' ⟨v, h3, h4, h5⟩ => ?_
    obtain ⟨A', c', rfl, hc, _⟩ := h4.chs
    dsimp only at hc h4 h3
    rw [hnd'] at hc h4 h3
    exact ⟨A', c', h3, hc, h4, h5⟩
  have hmg : ∀ (W : World) (p q : Option Addr), Rep W p M → Rep W q N → Calls Try.prog 44 #[.agg #[.pointer p], .agg #[.pointer q], .agg #[.pointer p]] W fun e w' => ∃ r A c, e = .returned (.tuple #[.agg #[.pointer r], .slice A nc c, .int .i64 err]) ∧ nc ≤ c ∧ OwnChs w' W.heap.size (.slice A nc c) RD ∧ Below W.heap.size W w' := fun W p q h3 h4 => by
    have := merge_any W p q p M N M h3 h4 h3 (.inr gM) (.inr gN) (.inr gM)
    unfold MergePost at this
    rw [hR] at this
    refine this.mono fun e w' ⟨r, v, h3, h7, h4, h5⟩ => ?_
    obtain ⟨A', c', rfl, hc, _⟩ := h4.chs
    dsimp only at hc h4 h3
    rw [hnc] at hc h4 h3
    exact ⟨r, A', c', h3, hc, h4, h5⟩
  have hak : ∀ (W : World) (A B : Option Addr) (c d : Nat), Runs W A V → Runs W B V → nv ≤ c → nv ≤ d → Calls Try.prog 42 #[.slice A nv c, .slice B nv d] W fun e w' => e = .returned (.bool true) ∧ Below W.heap.size W w' := fun W A B c d h3 h4 h5 h6 => by
    have := ralike_any V V A B c d W h3 h4 (by omega) (by omega) (by omega) (by omega)
    rw [hnv] at this
    exact this.mono fun e w' ⟨⟨x, h7, h8⟩, h9⟩ => ⟨by rw [h7, h8.2 rfl], h9⟩
  have hck : ∀ (W : World) (A B : Option Addr) (c d : Nat), Chs W A D → Chs W B D → nd ≤ c → nd ≤ d → Calls Try.prog 46 #[.slice A nd c, .slice B nd d] W fun e w' => e = .returned (.bool true) ∧ Below W.heap.size W w' := fun W A B c d h3 h4 h5 h6 => by
    have := changed_same D A B c d W h3 h4 (by omega) (by omega) (by omega)
    rw [hnd'] at this
    exact this.mono fun e w' ⟨h7, h8⟩ => ⟨h7, h8.below _⟩
  have HPL := Lib.hid hpl
  have HPK := Lib.hid hpk
  have HRU := Lib.hid hru
  have HDF := Lib.hid hdf
  have HMG := Lib.hid hmg
  have HAK := Lib.hid hak
  have HCK := Lib.hid hck
  have HNV := Lib.hid hnv
  have HND := Lib.hid hnd'
  have HNC := Lib.hid hnc
  clear hpl hpk hru hdf hmg hak hck hnv hnd' hnc gM gN tM tN g0 lM lN ht hD r1 hV hR hA hB hm hn dl vl hRD
  go_enter Try.func15, Try.ntmps15
  go_wp2_with (fail)
  go_at_call 22
  refine HPL.out.mono ?_
  rintro e w1 ⟨q, rfl, hq, b1⟩
  have s1 := b1.size
  go_upto_region 2 with (fail)
  generalize hb : World.alloc w1 _ = w2
  have dw2 : Below w1.heap.size w1 w2 := hb ▸ Below.alloc1 w1 _
  have y2 : Boxed w2 w1.heap.size 26 (.pointer q) := hb ▸ Boxed.new w1 _ _
  clear hb
  have B2 := Below.next b1 dw2
  have s12 := dw2.size
  have hq2 := hq.below dw2
  clear b1 hq
  go_wp2_with (fail)
  go_at_call 22
  refine (HPK.out _ B2).mono ?_
  rintro e w3 ⟨p, rfl, hp, b3⟩
  go_upto_region 3 with (fail)
  generalize hb : World.alloc w3 _ = w4
  have dw4 : Below w3.heap.size w3 w4 := hb ▸ Below.alloc1 w3 _
  have x4 : Boxed w4 w3.heap.size 26 (.pointer p) := hb ▸ Boxed.new w3 _ _
  clear hb
  have b34 := Below.next b3 dw4
  have y4 := bx_next y2 b34
  have B4 := Below.next B2 b34
  have s24 := b34.size
  have hq4 := hq2.below b34
  have hp4 := hp.below dw4
  clear y2 B2 hq2 hp b3 b34
  have c7 := y4.cell
  have c9 := x4.cell
  go_wp2_with (fail)
  go_at_call 33
  refine (HRU.out w4 q hq4).mono ?_
  rintro e w5 ⟨Ar, cr, rfl, hcr, hr5, b5⟩
  have y5 := bx_next y4 b5
  have x5 := bx_next x4 b5
  have B5 := Below.next B4 b5
  have hq5 := hq4.below b5
  have hp5 := hp4.below b5
  have s45 := b5.size
  clear y4 x4 hq4 hp4 b5 c7 c9
  have c7 := y5.cell
  have c9 := x5.cell
  go_wp2_with (fail)
  go_at_call 34
  refine (HDF.out w5 q p hq5 hp5).mono ?_
  rintro e w6 ⟨Ad, cd, rfl, hcd, hd6, b6⟩
  have y6 := bx_next y5 b6
  have x6 := bx_next x5 b6
  have B6 := Below.next B5 b6
  have hq6 := hq5.below b6
  have hp6 := hp5.below b6
  have hr6 := hr5.next b6
  have s56 := b6.size
  clear y5 x5 hq5 hp5 b6 c7 c9
  have c7 := y6.cell
  have c9 := x6.cell
  go_wp2_with (fail)
  go_at_call 44
  refine (HMG.out w6 q p hq6 hp6).mono ?_
  rintro e w7 ⟨pm, Ac, cc, rfl, hcc, hc7, b7⟩
  go_upto_region 8 with (fail)
  generalize hb : World.alloc w7 _ = w8
  have d8 : Below w7.heap.size w7 w8 := hb ▸ Below.alloc1 w7 _
  clear hb
  have b78 := Below.next b7 d8
  have y8 := bx_next y6 b78
  have x8 := bx_next x6 b78
  have B8 := Below.next B6 b78
  have hq8 := hq6.below b78
  have hp8 := hp6.below b78
  have hr8 := hr6.next b78
  have hd8 := hd6.next b78
  have hc8 := hc7.next d8
  have s68 := b78.size
  have G2 : ∀ g, Ad = some ⟨g, 0, none⟩ → nd ≠ 0 → g < w6.heap.size := fun g e hn => ((hd6.sro HND.out (f := 3) (by decide)).row g e hn).lt
  have S1 := hr8.sro HNV.out
  have S2 := hd8.sro HND.out (f := 3) (by decide)
  have S3 := hc8.sro HNC.out (f := 2) (by decide)
  clear y6 x6 hq6 hp6 hr5 hr6 hd6 hc7 b7 d8 b78 c7 c9
  obtain ⟨i0, hi0, hz0, hz1, hz2⟩ := info_parts infoRun
  obtain ⟨j0, hj0, hw0, hw1, hw2⟩ := info_parts infoCh
  have HE := Lib.hid (OwnRuns.empty w8)
  have HR8 := Lib.hid (show (w8.alloc (.cells #[] 35)).ownsRow w4.heap.size 35 3 (.slice Ar nv cr) nv (cellsR V) from by have := hr8.next (Below.alloc1 w8 (.cells #[] 35)); unfold OwnRuns at this; rwa [HNV.out] at this)
  go_upto_region 9 with (at_builtin; (refine wpList_copy _ rfl _ _ 22 rfl w8.heap.size 35 i0 (.agg #[.int .i64 0, .int .i64 0, .int .i64 0]) 3 24 Try.underlying22 hi0 hz0 hz1 hz2 rfl (by decide) _ rfl HE.out Ar nv cr (cellsR V) rfl HR8.out (by rw [cellsR_length, HNV.out]) (cellsR_one V) (by unfold maxLen; omega) (by omega) (by rw [World.size_alloc]; omega) ?_); intro v18 w9 hown hgrow; have hBx : Below w8.heap.size w8 w9 := Below.grown_ hgrow; have hO : OwnRuns w9 w8.heap.size v18 V := (by unfold OwnRuns; rw [HNV.out]; exact hown); obtain ⟨Af, cf, rfl, hcf, hRf⟩ := hO.runs; rw [HNV.out] at hO hcf; rw [HNV.out]; clear hown hgrow hRf)
  have y9 := bx_next y8 hBx
  have x9 := bx_next x8 hBx
  have B9 := Below.next B8 hBx
  have hq9 := hq8.below hBx
  have hp9 := hp8.below hBx
  have hr9 := hr8.next hBx
  have hd9 := hd8.next hBx
  have hc9 := hc8.next hBx
  have s89 := hBx.size
  have R89 := hBx
  clear y8 x8 B8 hq8 hp8 hr8 hd8 hc8 hBx HE HR8
  have HE := Lib.hid (OwnChs.empty w9)
  have HD9 := Lib.hid (show (w9.alloc (.cells #[] 74)).ownsRow w5.heap.size 74 4 (.slice Ad nd cd) nd (cellsCh D) from by have := hd9.next (Below.alloc1 w9 (.cells #[] 74)); unfold OwnChs at this; rwa [HND.out] at this)
  go_upto_region 10 with (at_builtin; (refine wpList_copy _ rfl _ _ 68 rfl w9.heap.size 74 j0 (.agg #[.int .i64 0, .int .i64 0, .int .i64 0, .int .i64 0]) 4 32 Try.underlying68 hj0 hw0 hw1 hw2 rfl (by decide) _ rfl HE.out Ad nd cd (cellsCh D) rfl HD9.out (by rw [cellsCh_length, HND.out]) (cellsCh_one D) (by unfold maxLen; omega) (by omega) (by rw [World.size_alloc]; omega) ?_); intro v19 w10 hown hgrow; have hBx : Below w9.heap.size w9 w10 := Below.grown_ hgrow; have hOC : OwnChs w10 w9.heap.size v19 D := (by unfold OwnChs; rw [HND.out]; exact hown); obtain ⟨Ag, cg, rfl, hcg, hRf⟩ := hOC.chs; rw [HND.out] at hOC hcg; rw [HND.out]; clear hown hgrow hRf)
  have hAL : AL w w1.heap.size w3.heap.size w8.heap.size w9.heap.size q p M N (.slice Af nv cf) (.slice Ag nd cg) V D w10 := ⟨hq9.below hBx, hp9.below hBx, bx_next y9 hBx, bx_next x9 hBx, hO.next hBx, hOC, Below.next B9 hBx⟩
  have O1 := (S1.row.next (w' := w9) R89).next hBx
  have O2 := (S2.row.next (w' := w9) R89).next hBx
  have O3 := (S3.row.next (w' := w9) R89).next hBx
  clear y9 x9 B9 hq9 hp9 hr9 hd9 hc9 hBx HE HD9 hO hOC R89
  generalize w1.heap.size = b7 at *
  generalize w3.heap.size = b9 at *
  go_wp2_with (fail)
  go_loopw [20] (fun i W => ∃ k : Nat, k ≤ nv ∧ i = .int .i64 k ∧ AL w b7 b9 w8.heap.size w9.heap.size q p M N (.slice Af nv cf) (.slice Ag nd cg) V D W ∧ RowO W 35 3 1 Ar nv ∧ RowO W 74 4 3 Ad nd ∧ RowO W 74 4 2 Ac nc) (fun i _ => nv - (intOf i).toNat)
  case atStart => exact ⟨0, Nat.zero_le _, rfl, hAL, O1, O2, O3⟩
  case round =>
    obtain ⟨k, hk, rfl, hA, O1', O2', O3'⟩ := hrel
    clear hAL O1 O2 O3
    by_cases hlt : k < nv
    · have k1 : (k : Int) < (nv : Int) := by omega
      obtain ⟨g, rfl, g1, g2, -⟩ := S1.resolve_left (by omega)
      have hJ := O1' g rfl (by omega)
      obtain ⟨x, hx⟩ := hJ.cell hlt
      have gf := hJ.frozen
      have gz := hJ.lt
      obtain ⟨cs, ht⟩ := hJ.typed
      have HT := Lib.hid ht
      clear ht
      go_wp2_with (fail)
      exact ⟨⟨k + 1, by omega, by go_num, hA.set HT.out (by decide) (by decide) g2 (by omega) (by omega) _ _, fun g' e _ => by cases e; exact hJ.set _ _, fun g' e hn => (O2' g' e hn).far (fun c => by subst c; exact cell_types HT.out (O2' _ e hn) (by decide)) _ _, fun g' e hn => (O3' g' e hn).far (fun c => by subst c; exact cell_types HT.out (O3' _ e hn) (by decide)) _ _⟩, by simp [intOf]; omega⟩
    · obtain rfl : nv = k := by omega
      clear hlt O1' S1
      go_wp2_with (fail)
      obtain ⟨wL, hwL⟩ : ∃ x, x = wr := ⟨wr, rfl⟩
      subst hwL
      go_loopw [21] (fun i W => ∃ k : Nat, k ≤ nd ∧ i = .int .i64 k ∧ AL w b7 b9 w8.heap.size w9.heap.size q p M N (.slice Af nv cf) (.slice Ag nd cg) V D W ∧ RowO W 74 4 3 Ad nd ∧ RowO W 74 4 2 Ac nc) (fun i _ => nd - (intOf i).toNat)
      case atStart => exact ⟨0, Nat.zero_le _, rfl, hA, O2', O3'⟩
      case round =>
        obtain ⟨j, hj, rfl, hA2, P2, P3⟩ := hrel
        clear hA O2' O3'
        by_cases hlt : j < nd
        · have k1 : (j : Int) < (nd : Int) := by omega
          obtain ⟨g, rfl, g1, g2, -⟩ := S2.resolve_left (by omega)
          have hJ := P2 g rfl (by omega)
          have G2' := G2 g rfl (by omega)
          obtain ⟨x, hx⟩ := hJ.cell hlt
          have gf := hJ.frozen
          have gz := hJ.lt
          obtain ⟨cs, ht⟩ := hJ.typed
          have HT := Lib.hid ht
          clear ht
          go_wp2_with (fail)
          exact ⟨⟨j + 1, by omega, by go_num, hA2.set HT.out (by decide) (by decide) (by omega) (by omega) (by omega) _ _, fun g' e _ => by cases e; exact hJ.set _ _, fun g' e hn => (P3 g' e hn).far (fun c => by subst c; rcases S3 with h | ⟨g3, e3, h3, _⟩; exact hn h; rw [e3] at e; cases e; omega) _ _⟩, by simp [intOf]; omega⟩
        · obtain rfl : nd = j := by omega
          clear hlt P2 S2
          go_wp2_with (fail)
          obtain ⟨wM, hwM⟩ : ∃ x, x = wr := ⟨wr, rfl⟩
          subst hwM
          go_loopw [22] (fun i W => ∃ k : Nat, k ≤ nc ∧ i = .int .i64 k ∧ AL w b7 b9 w8.heap.size w9.heap.size q p M N (.slice Af nv cf) (.slice Ag nd cg) V D W ∧ RowO W 74 4 2 Ac nc) (fun i _ => nc - (intOf i).toNat)
          case atStart => exact ⟨0, Nat.zero_le _, rfl, hA2, P3⟩
          case round =>
            obtain ⟨t, ht0, rfl, hA3, Q3⟩ := hrel
            clear hA2 P3
            by_cases hlt : t < nc
            · have k1 : (t : Int) < (nc : Int) := by omega
              obtain ⟨g, rfl, g1, g2, -⟩ := S3.resolve_left (by omega)
              have hJ := Q3 g rfl (by omega)
              obtain ⟨x, hx⟩ := hJ.cell hlt
              have gf := hJ.frozen
              have gz := hJ.lt
              obtain ⟨cs, ht⟩ := hJ.typed
              have HT := Lib.hid ht
              clear ht
              go_wp2_with (fail)
              exact ⟨⟨t + 1, by omega, by go_num, hA3.set HT.out (by decide) (by decide) (by omega) (by omega) (by omega) _ _, fun g' e _ => by cases e; exact hJ.set _ _⟩, by simp [intOf]; omega⟩
            · obtain rfl : nc = t := by omega
              clear hlt Q3 S3
              have c7 := hA3.x7.cell
              have c9 := hA3.x9.cell
              have HA3 := Lib.hid hA3
              clear hA3
              go_wp2_with (fail)
              go_at_call 33
              refine (HRU.out _ q HA3.out.ra).mono ?_
              rintro e wA ⟨As, c's, rfl, hcs, hrs, bA⟩
              have hq1 := HA3.out.ra.below bA
              have hp1 := HA3.out.rb.below bA
              have f1 := HA3.out.f.next bA
              have ch1 := HA3.out.ch.next bA
              have BA := Below.next HA3.out.bl bA
              have c7' := (bx_next HA3.out.x7 bA).cell
              have c9' := (bx_next HA3.out.x9 bA).cell
              clear c7 c9 HA3
              go_wp2_with (fail)
              go_at_call 34
              refine (HDF.out wA q p hq1 hp1).mono ?_
              rintro e wB ⟨At, ct, rfl, hct, hdt, bB⟩
              have f2 := f1.next bB
              have ch2 := ch1.next bB
              have rs2 := hrs.next bB
              have BB := Below.next BA bB
              clear c7' c9' f1 ch1 hrs hq1 hp1 BA
              go_wp2_with (fail)
              go_at_call 42
              refine (HAK.out wB Af As cf c's f2.toRuns rs2.toRuns hcf hcs).mono ?_
              rintro e wC ⟨rfl, bC⟩
              have ch3 := (ch2.next bC).toChs
              have dt3 := (hdt.next bC).toChs
              have BC := Below.next BB bC
              go_wp2_with (fail)
              go_at_call 46
              refine (HCK.out wC Ag At cg ct ch3 dt3 hcg hct).mono ?_
              rintro e wD ⟨rfl, bD⟩
              have BD := Below.next BC bD
              go_wp2_with (fail)
              go_at_call 18
              refine (awake_any _).mono ?_
              rintro e wz ⟨rfl, bz⟩
              go_wp2_with (fail)
              go_ret
              exact ⟨rfl, Below.next BD bz⟩
/-- SpanAlone answers true. -/
theorem spanAlone_any (w : World) (size : Int) (A B : Option Addr) (l k : List Ac) (c d : Nat) (hA : Acts w A l) (hB : Acts w B k) (hmc : l.length ≤ c) (hnd : k.length ≤ d) :
    Calls Try.prog 15 #[.int .i64 size, .slice A l.length c, .slice B k.length d] w (FromsPost w) := by
  by_cases h : (1 ≤ size ∧ size ≤ 1099511627776) ∧ (l.length : Int) ≤ 60
  · by_cases h2 : (1 ≤ size ∧ size ≤ 1099511627776) ∧ (k.length : Int) ≤ 60
    · exact alone_main w size A B l k _ c _ d rfl rfl hA hB hmc hnd h.1.1 h.1.2 h.2 h2.2
    · exact alone_no2 w size A B l _ c _ d rfl hA hmc h2 h.1.1 h.1.2 h.2
  · exact alone_no w size A B l k _ c _ d rfl rfl hA hB hmc hnd h
end Go.Proofs.Ytfmplibjhohpgaa
