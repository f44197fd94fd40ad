/- Lists of updates: in memory, and what they do to a map. Plain laws of updates, Find and Count on lists of runs. No program in sight. Plain laws of counts of all tags in a range, and of its runs. No program in sight. The reference's updates on plain lists of runs: they compute what Set and Swap compute. No program in sight. What the reference's Get, Runs, Count and Find compute on plain lists of runs. No program in sight. Changes of a map on plain lists of runs: Apply of the program and of the reference compute the same. No program in sight. -/
import Derived.Test.YtfmplibjhohpgaaSpSwapAny
namespace Go.Proofs.Ytfmplibjhohpgaa
section
open Go.RowKit

/-- An update. -/
structure Ac where
  swap : Bool
  lo : Int
  hi : Int
  frm : Int
  to : Int
/-- The five cells of an update. -/
def ActAt (w : World) (e : Addr) (x : Ac) : Prop :=
  w.cell? e = some (.bool x.swap) ∧ w.cell? ⟨e.block, e.off + 1, none⟩ = some (.int .i64 x.lo) ∧ w.cell? ⟨e.block, e.off + 2, none⟩ = some (.int .i64 x.hi) ∧ w.cell? ⟨e.block, e.off + 3, none⟩ = some (.int .i64 x.frm) ∧ w.cell? ⟨e.block, e.off + 4, none⟩ = some (.int .i64 x.to)
/-- A slice with the address A holds the updates L. -/
def Acts (w : World) (A : Option Addr) (L : List Ac) : Prop :=
  L = [] ∨ ∃ a : Addr, A = some a ∧ a.block < w.heap.size ∧ ∀ i (h : i < L.length), ActAt w (a.add (i * 5)) L[i]
theorem ActAt.below {n₀ : Nat} {w w' : World} (hB : Below n₀ w w') {e : Addr} {x : Ac} (he : e.block < n₀) (h : ActAt w e x) : ActAt w' e x :=
  ⟨(hB.cell he).trans h.1, (hB.cell (p := ⟨e.block, e.off + 1, none⟩) he).trans h.2.1, (hB.cell (p := ⟨e.block, e.off + 2, none⟩) he).trans h.2.2.1, (hB.cell (p := ⟨e.block, e.off + 3, none⟩) he).trans h.2.2.2.1, (hB.cell (p := ⟨e.block, e.off + 4, none⟩) he).trans h.2.2.2.2⟩
theorem Acts.below {w w' : World} (hB : Below w.heap.size w w') {A : Option Addr} {L : List Ac} (h : Acts w A L) : Acts w' A L := by
  rcases h with h | ⟨a, rfl, hb, h⟩
  · exact .inl h
  · exact .inr ⟨a, rfl, Nat.lt_of_lt_of_le hb hB.size, fun i hi => (h i hi).below hB (by rw [add_block]; exact hb)⟩
theorem Acts.at_ {w : World} {a : Addr} {L : List Ac} (h : Acts w (some a) L) {i : Nat} (hi : i < L.length) : a.block < w.heap.size ∧ ActAt w (a.add (i * 5)) L[i] := by
  rcases h with h | ⟨a', ha, hb, h⟩
  · rw [h] at hi; simp at hi
  · cases ha; exact ⟨hb, h i hi⟩
/-- What an update returns: an error, and the runs. -/
def actR (L : List (Int × Int)) (x : Ac) : Int × List (Int × Int) :=
  if x.swap = true then ((swapR L x.lo x.hi x.frm x.to).1, (swapR L x.lo x.hi x.frm x.to).2.2) else setR L x.lo x.hi x.to
def actL (L : List (Int × Int)) (x : Ac) : List (Int × Int) := if (actR L x).1 = 0 then (actR L x).2 else L
/-- The runs after updates, of which those with an error do nothing. -/
def moreL (L : List (Int × Int)) (l : List Ac) : List (Int × Int) := l.foldl actL L
theorem moreL_snoc (L : List (Int × Int)) (l : List Ac) (x : Ac) : moreL L (l ++ [x]) = actL (moreL L l) x := by simp [moreL]
theorem actR_good {L : List (Int × Int)} (h : L = [] ∨ Good L) (x : Ac) : (actR L x).2 = [] ∨ Good (actR L x).2 := by
  unfold actR; split
  · exact swapR_good h _ _ _ _
  · exact setR_good h _ _ _
end
section
open Tr (total totalOf OkL)

/-- An update of a usable map: an error and nothing, or a usable map with the pieces that the document says. -/
theorem actR_cases {L : List (Int × Int)} (g : Good L) (x : Ac) :
    ((actR L x).1 ≠ 0 ∧ (actR L x).2 = []) ∨ ((actR L x).1 = 0 ∧ Good (actR L x).2 ∧ total (actR L x).2 = total L ∧ ∀ p, 0 ≤ p → atL (actR L x).2 p = if (x.lo ≤ p ∧ p < x.hi) ∧ (x.swap = true → atL L p = x.frm) then x.to else atL L p) := by
  obtain ⟨g1, g2, g3, g4, g5⟩ := g
  have gt := total_pos g2 g1
  unfold actR
  by_cases hs : x.swap = true
  · rw [if_pos hs]
    unfold swapR
    rw [if_neg g1]
    by_cases h1 : x.lo < 0 ∨ x.hi < x.lo ∨ total L < x.hi
    · rw [if_pos h1]; exact .inl ⟨by simp, rfl⟩
    rw [if_neg h1]
    by_cases h2 : (x.frm < 0 ∨ 16 ≤ x.frm) ∨ (x.to < 0 ∨ 16 ≤ x.to)
    · rw [if_pos h2]; exact .inl ⟨by simp, rfl⟩
    rw [if_neg h2]
    by_cases h3 : 4096 < ((swapL L x.lo x.hi x.frm x.to).length : Int)
    · rw [if_pos h3]; exact .inl ⟨by simp, rfl⟩
    rw [if_neg h3]
    have t := swapL_total (from_ := x.frm) g2 (by omega : 0 ≤ x.lo) (by omega : x.lo ≤ x.hi) (by omega) (by omega : 0 ≤ x.to) (by omega)
    refine .inr ⟨rfl, ⟨ne_of_total (by rw [t]; exact gt), swapL_ok g2 (by omega) (by omega), swapL_norm g2 g3 (by omega) (by omega), by rw [t]; exact g4, by dsimp only; omega⟩, t, fun p p0 => ?_⟩
    have := swapL_at (from_ := x.frm) g2 (by omega : 0 ≤ x.lo) (by omega : x.lo ≤ x.hi) (by omega) (by omega : 0 ≤ x.to) (by omega) p p0
    refine Eq.trans this ?_
    by_cases c : x.lo ≤ p ∧ p < x.hi ∧ atL L p = x.frm
    · rw [if_pos c, if_pos ⟨⟨c.1, c.2.1⟩, fun _ => c.2.2⟩]
    · rw [if_neg c, if_neg (fun h => c ⟨h.1.1, h.1.2, h.2 hs⟩)]
  · rw [if_neg hs]
    unfold setR
    rw [if_neg g1]
    by_cases h1 : x.lo < 0 ∨ x.hi < x.lo ∨ total L < x.hi
    · rw [if_pos h1]; exact .inl ⟨by simp, rfl⟩
    rw [if_neg h1]
    by_cases h2 : x.to < 0 ∨ 16 ≤ x.to
    · rw [if_pos h2]; exact .inl ⟨by simp, rfl⟩
    rw [if_neg h2]
    by_cases h3 : 4096 < ((setL L x.lo x.hi x.to).length : Int)
    · rw [if_pos h3]; exact .inl ⟨by simp, rfl⟩
    rw [if_neg h3]
    have t := setL_total (tag := x.to) g2 (by omega : 0 ≤ x.lo) (by omega : x.lo ≤ x.hi) (by omega)
    refine .inr ⟨rfl, ⟨ne_of_total (by rw [t]; exact gt), setL_ok g2 (by omega) (by omega) (by omega), setL_norm g3, by rw [t]; exact g4, by dsimp only; omega⟩, t, fun p p0 => ?_⟩
    have := setL_at (tag := x.to) g2 (by omega : 0 ≤ x.lo) (by omega : x.lo ≤ x.hi) (by omega) (by omega) (by omega) p p0
    refine Eq.trans this ?_
    by_cases c : x.lo ≤ p ∧ p < x.hi
    · rw [if_pos c, if_pos ⟨c, fun h => (hs h).elim⟩]
    · rw [if_neg c, if_neg (fun h => c h.1)]
theorem actL_facts {L : List (Int × Int)} (g : Good L) (x : Ac) : Good (actL L x) ∧ total (actL L x) = total L := by
  unfold actL
  rcases actR_cases g x with ⟨h, _⟩ | ⟨h, h1, h2, _⟩
  · rw [if_neg h]; exact ⟨g, rfl⟩
  · rw [if_pos h]; exact ⟨h1, h2⟩
theorem moreL_facts (l : List Ac) : ∀ {L : List (Int × Int)}, Good L → Good (moreL L l) ∧ total (moreL L l) = total L := by
  induction l with
  | nil => exact fun g => ⟨g, rfl⟩
  | cons x l ih =>
    intro L g
    obtain ⟨g1, g2⟩ := actL_facts g x
    obtain ⟨i1, i2⟩ := ih g1
    exact ⟨i1, i2.trans g2⟩
/-- The runs of a map of a size after updates. -/
theorem bltL_facts {size : Int} (h1 : 1 ≤ size) (h2 : size ≤ 1099511627776) (l : List Ac) : Good (moreL [(size, 0)] l) ∧ total (moreL [(size, 0)] l) = size := by
  have g : Good [(size, 0)] := ⟨by simp, OkL.cons.2 ⟨⟨h1, by simp, by simp⟩, by simp [OkL]⟩, ⟨by simp, trivial⟩, by simp [Tr.total_cons, Tr.total_nil]; omega, by simp⟩
  obtain ⟨a, b⟩ := moreL_facts l g
  exact ⟨a, b.trans (by simp [Tr.total_cons, Tr.total_nil])⟩
theorem takeP_zero (L : List (Int × Int)) : takeP 0 L = [] := by cases L <;> simp [takeP]
theorem takeP_all {L : List (Int × Int)} (h : OkL L) {k : Int} (hk : total L ≤ k) : takeP k L = L := by
  induction L generalizing k with
  | nil => rfl
  | cons x l ih =>
    have h' := OkL.cons.1 h
    have := total_nonneg h'.2
    rw [Tr.total_cons] at hk
    simp only [takeP]
    rw [if_neg (by omega), if_neg (by omega), ih h'.2 (by omega)]
/-- What Find finds has the tag, and as many pieces with it ahead. -/
theorem findL_found (tag : Int) {L : List (Int × Int)} (h : OkL L) {k a p : Int} (hk : 0 ≤ k) (hf : findL tag L k a = (p, true)) :
    a ≤ p ∧ p - a < total L ∧ atL L (p - a) = tag ∧ totalOf tag (takeP (p - a) L) = k := by
  induction L generalizing k a with
  | nil => simp [findL] at hf
  | cons x l ih =>
    have h' := OkL.cons.1 h
    have := total_nonneg h'.2
    rw [Tr.total_cons]
    simp only [findL] at hf
    by_cases hx : x.2 = tag
    · rw [if_pos hx] at hf
      by_cases h1 : k < x.1
      · rw [if_pos h1] at hf
        simp only [Prod.mk.injEq, and_true] at hf
        subst hf
        rw [show a + k - a = k from by omega]
        refine ⟨by omega, by omega, ?_, ?_⟩
        · simp only [atL]; rw [if_pos h1]; exact hx
        · simp only [takeP]
          by_cases h2 : k ≤ 0
          · rw [if_pos h2]; simp [totalOf]; omega
          · rw [if_neg h2, if_pos h1, Tr.totalOf_cons, if_pos hx]; simp [totalOf]
      · rw [if_neg h1] at hf
        obtain ⟨i1, i2, i3, i4⟩ := ih h'.2 (by omega) hf
        refine ⟨by omega, by omega, ?_, ?_⟩
        · simp only [atL]; rw [if_neg (by omega), show p - a - x.1 = p - (a + x.1) from by omega]; exact i3
        · simp only [takeP]; rw [if_neg (by omega), if_neg (by omega), Tr.totalOf_cons, if_pos hx, show p - a - x.1 = p - (a + x.1) from by omega, i4]; omega
    · rw [if_neg hx] at hf
      obtain ⟨i1, i2, i3, i4⟩ := ih h'.2 hk hf
      refine ⟨by omega, by omega, ?_, ?_⟩
      · simp only [atL]; rw [if_neg (by omega), show p - a - x.1 = p - (a + x.1) from by omega]; exact i3
      · simp only [takeP]; rw [if_neg (by omega), if_neg (by omega), Tr.totalOf_cons, if_neg hx, show p - a - x.1 = p - (a + x.1) from by omega, i4]; omega
/-- Find finds nothing only where there are not as many pieces. -/
theorem findL_not (tag : Int) {L : List (Int × Int)} (h : OkL L) {k a p : Int} (hk : 0 ≤ k) (hf : findL tag L k a = (p, false)) : p = 0 ∧ totalOf tag L ≤ k := by
  induction L generalizing k a with
  | nil =>
    simp only [findL, Prod.mk.injEq, and_true] at hf
    exact ⟨hf.symm, by simpa [totalOf] using hk⟩
  | cons x l ih =>
    have h' := OkL.cons.1 h
    simp only [findL] at hf
    rw [Tr.totalOf_cons]
    by_cases hx : x.2 = tag
    · rw [if_pos hx] at hf
      by_cases h1 : k < x.1
      · rw [if_pos h1] at hf; simp at hf
      · rw [if_neg h1] at hf
        obtain ⟨i1, i2⟩ := ih h'.2 (by omega) hf
        exact ⟨i1, by rw [if_pos hx]; omega⟩
    · rw [if_neg hx] at hf
      obtain ⟨i1, i2⟩ := ih h'.2 hk hf
      exact ⟨i1, by rw [if_neg hx]; omega⟩
/-- Find finds a piece by its tag and the number of pieces with it ahead. -/
theorem findL_at {L : List (Int × Int)} (h : OkL L) {q a : Int} (h0 : 0 ≤ q) (h1 : q < total L) : findL (atL L q) L (totalOf (atL L q) (takeP q L)) a = (a + q, true) := by
  induction L generalizing q a with
  | nil => rw [Tr.total_nil] at h1; omega
  | cons x l ih =>
    have h' := OkL.cons.1 h
    rw [Tr.total_cons] at h1
    by_cases c : q < x.1
    · have e : atL (x :: l) q = x.2 := by simp only [atL]; rw [if_pos c]
      have e2 : totalOf x.2 (takeP q (x :: l)) = q := by
        simp only [takeP]
        by_cases h2 : q ≤ 0
        · rw [if_pos h2]; simp [totalOf]; omega
        · rw [if_neg h2, if_pos c, Tr.totalOf_cons]; simp [totalOf]
      rw [e, e2]
      simp only [findL, if_true]
      rw [if_pos c]
    · have e : atL (x :: l) q = atL l (q - x.1) := by simp only [atL]; rw [if_neg c]
      have i := ih h'.2 (q := q - x.1) (a := a + x.1) (by omega) (by omega)
      have n := totalOf_nonneg (takeP_ok h'.2 (q - x.1)) (atL l (q - x.1))
      have e2 : takeP q (x :: l) = x :: takeP (q - x.1) l := by simp only [takeP]; rw [if_neg (by omega), if_neg c]
      rw [e, e2, Tr.totalOf_cons]
      simp only [findL]
      by_cases hx : x.2 = atL l (q - x.1)
      · rw [if_pos hx, if_pos hx, if_neg (by omega), show x.1 + totalOf (atL l (q - x.1)) (takeP (q - x.1) l) - x.1 = totalOf (atL l (q - x.1)) (takeP (q - x.1) l) from by omega, i, show a + x.1 + (q - x.1) = a + q from by omega]
      · rw [if_neg hx, if_neg hx, show 0 + totalOf (atL l (q - x.1)) (takeP (q - x.1) l) = totalOf (atL l (q - x.1)) (takeP (q - x.1) l) from by omega, i, show a + x.1 + (q - x.1) = a + q from by omega]
theorem atL_tag {L : List (Int × Int)} (h : OkL L) {q : Int} (h1 : q < total L) : 0 ≤ atL L q ∧ atL L q < 16 := by
  induction L generalizing q with
  | nil => simp [atL]
  | cons x l ih =>
    have h' := OkL.cons.1 h
    rw [Tr.total_cons] at h1
    simp only [atL]
    split
    · exact h'.1.2
    · exact ih h'.2 (by omega)
end
section
open Tr (total totalOf OkL)

theorem takeP_neg {L : List (Int × Int)} {k : Int} (h : k ≤ 0) : takeP k L = [] := by
  cases L with
  | nil => rfl
  | cons x l => simp only [takeP]; rw [if_pos h]
/-- What Count counts is in the runs of the range. -/
theorem upTo_clip (tag : Int) {lo hi : Int} (hle : lo ≤ hi) (A : List (Int × Int)) (h : OkL A) : ∀ k, totalOf tag (takeP (hi - k) A) - totalOf tag (takeP (lo - k) A) = totalOf tag (segs (clipL lo hi k A)) := by
  induction A with
  | nil => intro k; simp [takeP, clipL, segs, totalOf]
  | cons x A ih =>
    intro k
    have h' := OkL.cons.1 h
    have i := ih h'.2 (k + x.1)
    have e1 : ∀ j, totalOf tag (takeP (j - k) (x :: A)) = (if x.2 = tag then max 0 (min (j - k) x.1) else 0) + totalOf tag (takeP (j - (k + x.1)) A) := by
      intro j
      simp only [takeP]
      by_cases c1 : j - k ≤ 0
      · rw [if_pos c1, takeP_neg (by omega : j - (k + x.1) ≤ 0)]
        rw [show totalOf tag [] = 0 from rfl]
        split <;> omega
      · rw [if_neg c1]
        by_cases c2 : j - k < x.1
        · rw [if_pos c2, takeP_neg (by omega : j - (k + x.1) ≤ 0), Tr.totalOf_cons, show totalOf tag [] = 0 from rfl]
          dsimp only
          split <;> omega
        · rw [if_neg c2, Tr.totalOf_cons, show j - k - x.1 = j - (k + x.1) from by omega]
          split <;> omega
    rw [e1, e1]
    simp only [clipL]
    rw [segs_append, Tr.totalOf_append, ← i]
    have e2 : totalOf tag (segs (if max k lo < min (k + x.1) hi then [⟨max k lo, min (k + x.1) hi, x.2⟩] else [])) = if x.2 = tag then max 0 (min (k + x.1) hi - max k lo) else 0 := by
      by_cases c : max k lo < min (k + x.1) hi
      · rw [if_pos c]
        simp only [segs, List.map_cons, List.map_nil, Tr.totalOf_cons]
        rw [show totalOf tag [] = 0 from rfl]
        split <;> omega
      · rw [if_neg c]
        rw [show totalOf tag (segs []) = 0 from rfl]
        split <;> omega
    rw [e2]
    split <;> omega
/-- The neighbors among clipped runs differ. -/
theorem clipL_norm {lo hi : Int} {A : List (Int × Int)} (h : OkL A) (hn : Norm A) : ∀ k, Norm (segs (clipL lo hi k A)) := by
  induction A with
  | nil => intro k; exact trivial
  | cons x A ih =>
    intro k
    have h' := OkL.cons.1 h
    have i := ih h'.2 hn.2 (k + x.1)
    simp only [clipL]
    by_cases c : max k lo < min (k + x.1) hi
    · rw [if_pos c]
      refine ⟨?_, i⟩
      intro y hy
      cases A with
      | nil => simp [clipL] at hy
      | cons z A =>
        have hz := (OkL.cons.1 h'.2).1
        have hne := hn.1 z rfl
        by_cases c2 : hi ≤ k + x.1
        · rw [clipL_right h'.2 c2] at hy; simp at hy
        · have e : clipL lo hi (k + x.1) (z :: A) = ⟨max (k + x.1) lo, min (k + x.1 + z.1) hi, z.2⟩ :: clipL lo hi (k + x.1 + z.1) A := by
            simp only [clipL]; rw [if_pos (by omega)]; rfl
          rw [e] at hy
          simp at hy
          subst hy
          exact hne
    · rw [if_neg c]; exact i
/-- The counts of the first tags. -/
def sumT (S : List (Int × Int)) : Nat → Int
  | 0 => 0
  | k + 1 => sumT S k + totalOf k S
theorem sumT_cons (x : Int × Int) (S : List (Int × Int)) (h : 0 ≤ x.2) : ∀ k : Nat, sumT (x :: S) k = (if x.2 < k then x.1 else 0) + sumT S k
  | 0 => by simp only [sumT]; rw [if_neg (by omega)]; omega
  | k + 1 => by
    simp only [sumT]
    rw [sumT_cons x S h k, Tr.totalOf_cons]
    by_cases c : x.2 = k
    · rw [if_pos c, if_neg (by omega), if_pos (by omega)]; omega
    · rw [if_neg c]
      by_cases c2 : x.2 < k
      · rw [if_pos c2, if_pos (by omega)]; omega
      · rw [if_neg c2, if_neg (by omega)]; omega
theorem sumT_facts {S : List (Int × Int)} (h : OkL S) : sumT S 16 = total S ∧ ∀ k : Nat, 0 ≤ sumT S k ∧ sumT S k ≤ total S := by
  induction S with
  | nil => exact ⟨by decide, fun k => by
      have : ∀ k, sumT [] k = 0 := by
        intro k
        induction k with
        | zero => rfl
        | succ k ih => simp only [sumT]; rw [ih]; rfl
      rw [this, Tr.total_nil]; omega⟩
  | cons x S ih =>
    have h' := OkL.cons.1 h
    obtain ⟨i1, i2⟩ := ih h'.2
    have t := total_nonneg h'.2
    refine ⟨?_, fun k => ?_⟩
    · rw [sumT_cons x S h'.1.2.1, i1, Tr.total_cons, if_pos (by have := h'.1.2.2; exact_mod_cast this)]
    · have := i2 k
      rw [sumT_cons x S h'.1.2.1, Tr.total_cons]
      split <;> omega
/-- Runs that divide a range, neighbors differing: what a walk over them sees. -/
theorem chain_walk {lo hi : Int} {V : List Rn} (h : Chain lo V hi) (hn : Norm (segs V)) :
    (∀ h : 0 < V.length, V[0].lo = lo) ∧ (V.length = 0 → lo = hi) ∧ (∀ j (h : j + 1 < V.length), V[j + 1].lo = V[j].hi ∧ V[j].tag ≠ V[j + 1].tag) ∧ ∀ j (h : j < V.length), j + 1 = V.length → V[j].hi = hi := by
  induction V generalizing lo with
  | nil => exact ⟨fun h => by simp at h, fun _ => h, fun j h => by simp at h, fun j h => by simp at h⟩
  | cons x V ih =>
    obtain ⟨h1, h2, h3⟩ := h
    obtain ⟨i1, i2, i3, i4⟩ := ih h3 hn.2
    refine ⟨fun _ => h1, fun h => by simp at h, fun j hj => ?_, fun j hj e => ?_⟩
    · cases j with
      | zero =>
        have hv : 0 < V.length := by simpa using hj
        refine ⟨i1 hv, ?_⟩
        show x.tag ≠ V[0].tag
        refine hn.1 (V[0].hi - V[0].lo, V[0].tag) ?_
        cases V with
        | nil => simp at hv
        | cons y V => rfl
      | succ j => exact i3 j (by simpa using hj)
    · cases j with
      | zero =>
        have hv : V.length = 0 := by simp at e; exact List.length_eq_zero_iff.2 e
        exact i2 hv
      | succ j => exact i4 j (by simpa using hj) (by simpa using e)
theorem segs_take_succ (tag : Int) {V : List Rn} {j : Nat} (h : j < V.length) : totalOf tag (segs (V.take (j + 1))) = totalOf tag (segs (V.take j)) + if V[j].tag = tag then V[j].hi - V[j].lo else 0 := by
  rw [List.take_succ_eq_append_getElem h, segs_append, Tr.totalOf_append]
  simp only [segs, List.map_cons, List.map_nil, Tr.totalOf_cons]
  rw [show totalOf tag [] = 0 from rfl]
  split <;> omega
theorem segs_take_le (tag : Int) {V : List Rn} (h : OkL (segs V)) (j : Nat) : 0 ≤ totalOf tag (segs (V.take j)) ∧ totalOf tag (segs (V.take j)) ≤ totalOf tag (segs V) := by
  have e : segs V = segs (V.take j) ++ segs (V.drop j) := by rw [← segs_append, List.take_append_drop]
  have h2 := h
  rw [e] at h2
  obtain ⟨o1, o2⟩ := OkL.append.1 h2
  have n1 := totalOf_nonneg o1 tag
  have n2 := totalOf_nonneg o2 tag
  rw [e, Tr.totalOf_append]
  omega
end
section
open Tr (total totalOf OkL)

/-- A list of runs with one behind it, if it has pieces. -/
def joinRn (l : List Rn) (x : Rn) : List Rn := if x.lo < x.hi then pushRn l x else l
def loA (lo : Int) (x : Rn) : Int := max x.lo (min lo x.hi)
def hiB (hi : Int) (x : Rn) : Int := min x.hi (max hi x.lo)
def tagT (any : Bool) (from_ to : Int) (x : Rn) : Int := if any = true ∨ x.tag = from_ then to else x.tag
def stepR (any : Bool) (lo hi from_ to : Int) (out : List Rn) (x : Rn) : List Rn :=
  joinRn (joinRn (joinRn out ⟨x.lo, loA lo x, x.tag⟩) ⟨loA lo x, hiB hi x, tagT any from_ to x⟩) ⟨max (loA lo x) (hiB hi x), x.hi, x.tag⟩
def refL (any : Bool) (lo hi from_ to : Int) (V : List Rn) : List Rn := V.foldl (stepR any lo hi from_ to) []
def addN (any : Bool) (lo hi from_ : Int) (x : Rn) : Int := if any = true ∨ x.tag = from_ then max 0 (hiB hi x - loA lo x) else 0
def refN (any : Bool) (lo hi from_ : Int) (V : List Rn) : Int := (V.map (addN any lo hi from_)).sum
theorem refL_snoc (any : Bool) (lo hi from_ to : Int) (V : List Rn) (x : Rn) : refL any lo hi from_ to (V ++ [x]) = stepR any lo hi from_ to (refL any lo hi from_ to V) x := by simp [refL]
theorem refN_snoc (any : Bool) (lo hi from_ : Int) (V : List Rn) (x : Rn) : refN any lo hi from_ (V ++ [x]) = refN any lo hi from_ V + addN any lo hi from_ x := by simp [refN]
theorem joinRn_chain {lo : Int} {l : List Rn} {x : Rn} (h : Chain lo l x.lo) (hx : x.lo ≤ x.hi) : Chain lo (joinRn l x) x.hi := by
  unfold joinRn
  split
  · rename_i c; exact pushRn_chain h c
  · have e : x.lo = x.hi := by omega
    rw [← e]; exact h
theorem concatL_none (a : List (Int × Int)) : concatL a [] = a := by
  rcases nil_or_snoc a with rfl | ⟨a, x, rfl⟩
  · rfl
  · rw [concatL_snoc]; rfl
theorem joinRn_segs {lo : Int} {l : List Rn} {x : Rn} (h : Chain lo l x.lo) (hx : x.lo ≤ x.hi) : segs (joinRn l x) = concatL (segs l) (leafL (x.hi - x.lo) x.tag) := by
  unfold joinRn leafL
  by_cases c : x.lo < x.hi
  · rw [if_pos c, if_neg (by omega), pushRn_segs h]
  · rw [if_neg c, if_pos (by omega), concatL_none]
theorem joinRn_length (l : List Rn) (x : Rn) : (joinRn l x).length ≤ l.length + 1 := by
  unfold joinRn; split
  · exact pushRn_length l x
  · omega
theorem stepR_length (any : Bool) (lo hi from_ to : Int) (l : List Rn) (x : Rn) : (stepR any lo hi from_ to l x).length ≤ l.length + 3 := by
  have h1 := joinRn_length l ⟨x.lo, loA lo x, x.tag⟩
  have h2 := joinRn_length (joinRn l ⟨x.lo, loA lo x, x.tag⟩) ⟨loA lo x, hiB hi x, tagT any from_ to x⟩
  have h3 := joinRn_length (joinRn (joinRn l ⟨x.lo, loA lo x, x.tag⟩) ⟨loA lo x, hiB hi x, tagT any from_ to x⟩) ⟨max (loA lo x) (hiB hi x), x.hi, x.tag⟩
  unfold stepR
  omega
theorem clamp {lo hi : Int} {x : Rn} (h : lo ≤ hi) (hx : x.lo ≤ x.hi) : x.lo ≤ loA lo x ∧ loA lo x ≤ hiB hi x ∧ hiB hi x ≤ x.hi ∧ max (loA lo x) (hiB hi x) = hiB hi x := by
  unfold loA hiB; omega
theorem lay_snoc (k : Int) (P : List (Int × Int)) (x : Int × Int) : lay k (P ++ [x]) = lay k P ++ [⟨k + total P, k + total P + x.1, x.2⟩] := by
  induction P generalizing k with
  | nil => simp [lay, Tr.total]
  | cons y P ih =>
    rw [List.cons_append]
    simp only [lay]
    rw [ih, Tr.total_cons, List.cons_append]
    congr 4 <;> omega
theorem chain_lay {lo hi : Int} {l : List Rn} (h : Chain lo l hi) : lay lo (segs l) = l := by
  induction l generalizing lo with
  | nil => rfl
  | cons x l ih =>
    obtain ⟨h1, h2, h3⟩ := h
    show (⟨lo, lo + (x.hi - x.lo), x.tag⟩ : Rn) :: lay (lo + (x.hi - x.lo)) (segs l) = x :: l
    rw [show lo + (x.hi - x.lo) = x.hi from by omega, ih h3]
    congr 1
    exact Rn.ext_ h1.symm rfl rfl
/-- The pieces of the reference's list. -/
theorem refL_facts {any : Bool} {lo hi from_ to : Int} (h1 : lo ≤ hi) (t0 : 0 ≤ to) (t1 : to < 16) (P : List (Int × Int)) (ho : OkL P) :
    Chain 0 (refL any lo hi from_ to (lay 0 P)) (total P) ∧ OkL (segs (refL any lo hi from_ to (lay 0 P))) ∧ Norm (segs (refL any lo hi from_ to (lay 0 P))) ∧
      ∀ p, 0 ≤ p → p < total P → atL (segs (refL any lo hi from_ to (lay 0 P))) p = if (lo ≤ p ∧ p < hi) ∧ (any = true ∨ atL P p = from_) then to else atL P p := by
  obtain ⟨n, hn⟩ : ∃ n, P.length = n := ⟨_, rfl⟩
  induction n generalizing P with
  | zero =>
    obtain rfl := List.eq_nil_of_length_eq_zero hn
    exact ⟨rfl, by simp [refL, lay, segs, OkL], trivial, fun p h0 h1 => by rw [Tr.total_nil] at h1; omega⟩
  | succ n ih =>
    rcases nil_or_snoc P with rfl | ⟨P, x, rfl⟩
    · simp at hn
    obtain ⟨o1, o2⟩ := OkL.append.1 ho
    have ox := (OkL.cons.1 o2).1
    obtain ⟨i1, i2, i3, i4⟩ := ih P o1 (by simpa using hn)
    have kp := total_nonneg o1
    generalize hS : refL any lo hi from_ to (lay 0 P) = S at *
    rw [lay_snoc, refL_snoc, hS, Tr.total_append, Tr.total_cons, Tr.total_nil, Int.zero_add]
    generalize hK : total P = K at *
    have cl := clamp (lo := lo) (hi := hi) (x := ⟨K, K + x.1, x.2⟩) h1 (by dsimp only; omega)
    have va : loA lo ⟨K, K + x.1, x.2⟩ = max K (min lo (K + x.1)) := rfl
    have vb : hiB hi ⟨K, K + x.1, x.2⟩ = min (K + x.1) (max hi K) := rfl
    unfold stepR
    dsimp only at cl ⊢
    generalize loA lo ⟨K, K + x.1, x.2⟩ = a at *
    generalize hiB hi ⟨K, K + x.1, x.2⟩ = b at *
    obtain ⟨c1, c2, c3, c4⟩ := cl
    rw [c4]
    have tt : 0 ≤ tagT any from_ to ⟨K, K + x.1, x.2⟩ ∧ tagT any from_ to ⟨K, K + x.1, x.2⟩ < 16 := by
      unfold tagT; split
      · exact ⟨t0, t1⟩
      · exact ox.2
    have vt : tagT any from_ to ⟨K, K + x.1, x.2⟩ = if any = true ∨ x.2 = from_ then to else x.2 := rfl
    generalize tagT any from_ to ⟨K, K + x.1, x.2⟩ = t at *
    have j1 := joinRn_chain (x := ⟨K, a, x.2⟩) i1 c1
    have j2 := joinRn_chain (x := ⟨a, b, t⟩) j1 c2
    have j3 := joinRn_chain (x := ⟨b, K + x.1, x.2⟩) j2 c3
    have s1 := joinRn_segs (x := ⟨K, a, x.2⟩) i1 c1
    have s2 := joinRn_segs (x := ⟨a, b, t⟩) j1 c2
    have s3 := joinRn_segs (x := ⟨b, K + x.1, x.2⟩) j2 c3
    dsimp only at j3 s1 s2 s3
    rw [s1] at s2
    rw [s2] at s3
    have f1 := leafL_ok (by omega : 0 ≤ a - K) ox.2.1 ox.2.2
    have f2 := leafL_ok (by omega : 0 ≤ b - a) tt.1 tt.2
    have f3 := leafL_ok (by omega : 0 ≤ K + x.1 - b) ox.2.1 ox.2.2
    have e1 := concatL_ok i2 f1
    have e2 := concatL_ok e1 f2
    have tS : total (segs S) = K := by rw [i1.total]; omega
    rw [s3]
    refine ⟨by rw [show K + (x.1 + 0) = K + x.1 from by omega]; exact j3, concatL_ok e2 f3, concatL_norm (concatL_norm (concatL_norm i3 (leafL_norm _ _)) (leafL_norm _ _)) (leafL_norm _ _), fun p p0 p1 => ?_⟩
    rw [concatL_at e2 f3 p p0, concatL_total, concatL_total, leafL_total, leafL_total, tS, atL_append o1 p p0, hK]
    by_cases q1 : p < K
    · rw [if_pos (by omega), concatL_at e1 f2 p p0, concatL_total, leafL_total, tS, if_pos (by omega), concatL_at i2 f1 p p0, tS, if_pos q1, if_pos q1]
      exact i4 p p0 q1
    · have ax : atL [x] (p - K) = x.2 := by simp only [atL]; rw [if_pos (by omega)]
      rw [if_neg q1, ax]
      by_cases q2 : p < b
      · rw [if_pos (by omega), concatL_at e1 f2 p p0, concatL_total, leafL_total, tS]
        by_cases q3 : p < a
        · rw [if_pos (by omega), concatL_at i2 f1 p p0, tS, if_neg q1, leafL_at (by omega) (by omega), if_neg (by omega)]
        · rw [if_neg (by omega), leafL_at (by omega) (by omega), vt]
          by_cases q4 : any = true ∨ x.2 = from_
          · rw [if_pos q4, if_pos ⟨by omega, q4⟩]
          · rw [if_neg q4, if_neg (fun h => q4 h.2)]
      · rw [if_neg (by omega), leafL_at (by omega) (by omega), if_neg (by omega)]
/-- The reference's Swap computes what Swap computes. -/
theorem refL_swap {L : List (Int × Int)} (g : Good L) {lo hi from_ to : Int} (h0 : 0 ≤ lo) (h1 : lo ≤ hi) (h2 : hi ≤ total L) (t0 : 0 ≤ to) (t1 : to < 16) : refL false lo hi from_ to (lay 0 L) = lay 0 (swapL L lo hi from_ to) := by
  obtain ⟨f1, f2, f3, f4⟩ := refL_facts (any := false) (from_ := from_) h1 t0 t1 L g.2.1
  have e : segs (refL false lo hi from_ to (lay 0 L)) = swapL L lo hi from_ to := by
    refine canon f2 (swapL_ok g.2.1 t0 t1) f3 (swapL_norm g.2.1 g.2.2.1 t0 t1) ?_ fun p p0 p1 => ?_
    · rw [f1.total, swapL_total g.2.1 h0 h1 h2 t0 t1]; omega
    · rw [f1.total] at p1
      rw [f4 p p0 (by omega), swapL_at g.2.1 h0 h1 h2 t0 t1 p p0]
      by_cases c : lo ≤ p ∧ p < hi ∧ atL L p = from_
      · rw [if_pos c, if_pos ⟨⟨c.1, c.2.1⟩, .inr c.2.2⟩]
      · rw [if_neg c, if_neg (fun h => c ⟨h.1.1, h.1.2, h.2.resolve_left (by simp)⟩)]
  rw [← e, chain_lay f1]
/-- The reference's Set computes what Set computes. -/
theorem refL_set {L : List (Int × Int)} (g : Good L) {lo hi from_ to : Int} (h0 : 0 ≤ lo) (h1 : lo ≤ hi) (h2 : hi ≤ total L) (t0 : 0 ≤ to) (t1 : to < 16) : refL true lo hi from_ to (lay 0 L) = lay 0 (setL L lo hi to) := by
  obtain ⟨f1, f2, f3, f4⟩ := refL_facts (any := true) (from_ := from_) h1 t0 t1 L g.2.1
  have e : segs (refL true lo hi from_ to (lay 0 L)) = setL L lo hi to := by
    refine canon f2 (setL_ok g.2.1 h1 t0 t1) f3 (setL_norm g.2.2.1) ?_ fun p p0 p1 => ?_
    · rw [f1.total, setL_total g.2.1 h0 h1 h2]; omega
    · rw [f1.total] at p1
      rw [f4 p p0 (by omega), setL_at g.2.1 h0 h1 h2 t0 t1 p p0]
      by_cases c : lo ≤ p ∧ p < hi
      · rw [if_pos c, if_pos ⟨c, .inl rfl⟩]
      · rw [if_neg c, if_neg (fun h => c h.1)]
  rw [← e, chain_lay f1]
theorem refN_clip (lo hi from_ : Int) (A : List (Int × Int)) : ∀ k, OkL A → refN false lo hi from_ (lay k A) = totalOf from_ (segs (clipL lo hi k A)) := by
  induction A with
  | nil => intro k _; rfl
  | cons x A ih =>
    intro k h
    have h' := OkL.cons.1 h
    have i := ih (k + x.1) h'.2
    simp only [lay, refN, List.map_cons, List.sum_cons]
    unfold refN at i
    rw [i]
    simp only [clipL]
    rw [segs_append, Tr.totalOf_append]
    congr 1
    unfold addN loA hiB
    dsimp only
    by_cases c : max k lo < min (k + x.1) hi
    · rw [if_pos c]
      simp only [segs, List.map_cons, List.map_nil, Tr.totalOf_cons]
      rw [show totalOf from_ [] = 0 from rfl]
      by_cases q : x.2 = from_
      · rw [if_pos (.inr q), if_pos q]; omega
      · rw [if_neg (by simp [q]), if_neg q]; rfl
    · rw [if_neg c]
      rw [show totalOf from_ (segs []) = 0 from rfl]
      by_cases q : x.2 = from_
      · rw [if_pos (.inr q)]; omega
      · rw [if_neg (by simp [q])]
theorem refN_bounds (any : Bool) (lo hi from_ : Int) (A : List (Int × Int)) : ∀ k, OkL A → 0 ≤ refN any lo hi from_ (lay k A) ∧ refN any lo hi from_ (lay k A) ≤ total A := by
  induction A with
  | nil => intro k _; simp [refN, lay, Tr.total]
  | cons x A ih =>
    intro k h
    have h' := OkL.cons.1 h
    obtain ⟨i1, i2⟩ := ih (k + x.1) h'.2
    simp only [lay, refN, List.map_cons, List.sum_cons]
    unfold refN at i1 i2
    rw [Tr.total_cons]
    have : 0 ≤ addN any lo hi from_ ⟨k, k + x.1, x.2⟩ ∧ addN any lo hi from_ ⟨k, k + x.1, x.2⟩ ≤ x.1 := by
      unfold addN loA hiB
      dsimp only
      split <;> omega
    omega
end
section
open Tr (total totalOf OkL)

theorem lay_get (L : List (Int × Int)) : ∀ (j : Int) (k : Nat) (h : k < (lay j L).length) (h' : k < L.length), (lay j L)[k] = ⟨j + total (L.take k), j + total (L.take k) + L[k].1, L[k].2⟩ := by
  induction L with
  | nil => intro j k h h'; simp at h'
  | cons x L ih =>
    intro j k h h'
    cases k with
    | zero => simp [lay, Tr.total_nil]
    | succ k =>
      have h2 : k < L.length := by simpa using h'
      have := ih (j + x.1) k (by rw [lay_length]; exact h2) h2
      simp only [lay, List.getElem_cons_succ, List.take_succ_cons, Tr.total_cons]
      rw [this]
      refine Rn.ext_ ?_ ?_ rfl <;> dsimp only <;> omega
theorem total_take_succ {L : List (Int × Int)} {k : Nat} (h : k < L.length) : total (L.take (k + 1)) = total (L.take k) + L[k].1 := by
  rw [List.take_succ_eq_append_getElem h, Tr.total_append, Tr.total_cons, Tr.total_nil]; omega
theorem OkL.take_ {L : List (Int × Int)} (h : OkL L) (k : Nat) : OkL (L.take k) := fun x hx => h x (List.mem_of_mem_take hx)
theorem atL_take {L : List (Int × Int)} (h : OkL L) {k : Nat} (hk : k < L.length) {p : Int} (h0 : total (L.take k) ≤ p) (h1 : p < total (L.take k) + L[k].1) : atL L p = L[k].2 := by
  have t := total_nonneg (OkL.take_ h k)
  have e : L = L.take k ++ (L[k] :: L.drop (k + 1)) := by rw [← List.drop_eq_getElem_cons hk, List.take_append_drop]
  have := atL_append (OkL.take_ h k) (b := L[k] :: L.drop (k + 1)) p (by omega)
  rw [← e, if_neg (by omega)] at this
  rw [this]
  simp only [atL]
  rw [if_pos (by omega)]
theorem take_ok {L : List (Int × Int)} (h : OkL L) {k : Nat} (hk : k < L.length) : 1 ≤ L[k].1 := (h _ (List.getElem_mem hk)).1
def rrunsL (lo hi : Int) (V : List Rn) : List Rn := V.foldl (fun l x => joinRn l ⟨max lo x.lo, min hi x.hi, x.tag⟩) []
theorem rrunsL_snoc (lo hi : Int) (V : List Rn) (x : Rn) : rrunsL lo hi (V ++ [x]) = joinRn (rrunsL lo hi V) ⟨max lo x.lo, min hi x.hi, x.tag⟩ := by simp [rrunsL]
theorem norm_last {A : List (Int × Int)} {a b : Int × Int} (h : Norm (A ++ [a] ++ [b])) : a.2 ≠ b.2 := by
  induction A with
  | nil => exact h.1 b rfl
  | cons x A ih => exact ih h.2
theorem pushRn_norm {l : List Rn} {r : Rn} (h : Norm (segs (l ++ [r]))) : pushRn l r = l ++ [r] := by
  rcases nil_or_snoc l with rfl | ⟨l, y, rfl⟩
  · rfl
  · rw [pushRn_snoc, if_neg]
    rw [segs_append, segs_append] at h
    exact norm_last (a := (y.hi - y.lo, y.tag)) (b := (r.hi - r.lo, r.tag)) h
/-- The reference's Runs computes the clipped runs. -/
theorem rrunsL_clip {lo hi : Int} {P : List (Int × Int)} (h : OkL P) (hn : Norm P) : rrunsL lo hi (lay 0 P) = clipL lo hi 0 P := by
  obtain ⟨n, hl⟩ : ∃ n, P.length = n := ⟨_, rfl⟩
  induction n generalizing P with
  | zero => obtain rfl := List.eq_nil_of_length_eq_zero hl; rfl
  | succ n ih =>
    rcases nil_or_snoc P with rfl | ⟨P, x, rfl⟩
    · simp at hl
    obtain ⟨o1, o2⟩ := OkL.append.1 h
    have n1 : Norm P := by
      clear ih h hl o1 o2
      induction P with
      | nil => trivial
      | cons z P ih2 =>
        refine ⟨fun y hy => hn.1 y ?_, ih2 hn.2⟩
        cases P with
        | nil => simp at hy
        | cons y' P => simpa using hy
    have i := ih o1 n1 (by simpa using hl)
    have nn := clipL_norm (lo := lo) (hi := hi) h hn 0
    rw [lay_snoc, rrunsL_snoc, i, clipL_append]
    rw [clipL_append] at nn
    simp only [clipL, List.append_nil, Int.zero_add] at nn ⊢
    unfold joinRn
    dsimp only
    rw [show max lo (total P) = max (total P) lo from by omega, show min hi (total P + x.1) = min (total P + x.1) hi from by omega]
    by_cases c : max (total P) lo < min (total P + x.1) hi
    · rw [if_pos c, if_pos c]
      rw [if_pos c] at nn
      exact pushRn_norm nn
    · rw [if_neg c, if_neg c, List.append_nil]
theorem findL_step (tag : Int) {L : List (Int × Int)} {k : Nat} (hk : k < L.length) (q a : Int) : findL tag (L.drop k) q a = if L[k].2 = tag then (if q < L[k].1 then (a + q, true) else findL tag (L.drop (k + 1)) (q - L[k].1) (a + L[k].1)) else findL tag (L.drop (k + 1)) q (a + L[k].1) := by
  rw [List.drop_eq_getElem_cons hk]; rfl
end
section
open Tr (total totalOf OkL)

/-- A change. -/
structure Ch where
  lo : Int
  hi : Int
  frm : Int
  to : Int
/-- What a change does to a usable map: an error, or the runs. -/
def chR (L : List (Int × Int)) (x : Ch) : Int × List (Int × Int) :=
  if x.lo < 0 ∨ x.hi ≤ x.lo ∨ total L < x.hi then (3, []) else if (x.frm < 0 ∨ 16 ≤ x.frm) ∨ (x.to < 0 ∨ 16 ≤ x.to) then (2, [])
  else if totalOf x.frm (segs (clipL x.lo x.hi 0 L)) ≠ x.hi - x.lo then (30, []) else setR L x.lo x.hi x.to
/-- What changes do to a usable map: the first error, or the runs. -/
def applyR : List (Int × Int) → List Ch → Int × List (Int × Int)
  | L, [] => (0, L)
  | L, x :: l => if (chR L x).1 = 0 then applyR (chR L x).2 l else ((chR L x).1, [])
/-- What Apply returns. -/
def applyTop (L : List (Int × Int)) (l : List Ch) : Int × List (Int × Int) := if L = [] then (1, []) else applyR L l
theorem chR_good {L : List (Int × Int)} (g : Good L) (x : Ch) : ((chR L x).1 ≠ 0 ∧ (chR L x).2 = []) ∨ ((chR L x).1 = 0 ∧ Good (chR L x).2 ∧ total (chR L x).2 = total L) := by
  unfold chR
  by_cases h1 : x.lo < 0 ∨ x.hi ≤ x.lo ∨ total L < x.hi
  · rw [if_pos h1]; exact .inl ⟨by simp, rfl⟩
  rw [if_neg h1]
  by_cases h2 : (x.frm < 0 ∨ 16 ≤ x.frm) ∨ (x.to < 0 ∨ 16 ≤ x.to)
  · rw [if_pos h2]; exact .inl ⟨by simp, rfl⟩
  rw [if_neg h2]
  by_cases h3 : totalOf x.frm (segs (clipL x.lo x.hi 0 L)) ≠ x.hi - x.lo
  · rw [if_pos h3]; exact .inl ⟨by simp, rfl⟩
  rw [if_neg h3]
  have := actR_cases g ⟨false, x.lo, x.hi, 0, x.to⟩
  rw [show actR L ⟨false, x.lo, x.hi, 0, x.to⟩ = setR L x.lo x.hi x.to from rfl] at this
  rcases this with h | ⟨a, b, c, _⟩
  · exact .inl h
  · exact .inr ⟨a, b, c⟩
theorem all_tag {S : List (Int × Int)} (h : OkL S) {t : Int} (ht : totalOf t S = total S) : ∀ p, 0 ≤ p → p < total S → atL S p = t := by
  induction S with
  | nil => intro p h0 h1; rw [Tr.total_nil] at h1; omega
  | cons x S ih =>
    have h' := OkL.cons.1 h
    have t1 := totalOf_le h'.2 t
    rw [Tr.totalOf_cons, Tr.total_cons] at ht
    have hx : x.2 = t := by
      refine Classical.byContradiction fun hn => ?_
      rw [if_neg hn] at ht
      omega
    rw [if_pos hx] at ht
    intro p h0 h1
    simp only [atL]
    by_cases c : p < x.1
    · rw [if_pos c]; exact hx
    · rw [if_neg c]
      rw [Tr.total_cons] at h1
      exact ih h'.2 (by omega) (p - x.1) (by omega) (by omega)
/-- Where all pieces of a range have a tag, Swap of it is Set. -/
theorem swap_is_set {L : List (Int × Int)} (g : Good L) {lo hi from_ to : Int} (h0 : 0 ≤ lo) (h1 : lo ≤ hi) (h2 : hi ≤ total L) (f0 : 0 ≤ from_) (f1 : from_ < 16) (t0 : 0 ≤ to) (t1 : to < 16) (hc : totalOf from_ (segs (clipL lo hi 0 L)) = hi - lo) :
    (swapR L lo hi from_ to).1 = (setR L lo hi to).1 ∧ (swapR L lo hi from_ to).2.2 = (setR L lo hi to).2 := by
  have ch : Chain lo (clipL lo hi 0 L) hi := by
    have := clipL_chain (lo := lo) (hi := hi) (k := 0) g.2.1 (by omega) (by omega)
    rwa [show max 0 lo = lo from by omega] at this
  obtain ⟨oV, aV⟩ := clipL_facts (lo := lo) (hi := hi) (k := 0) g.2.1
  have tt := ch.total
  have all := all_tag oV (hc.trans tt.symm)
  have e : swapL L lo hi from_ to = setL L lo hi to := by
    refine canon (swapL_ok g.2.1 t0 t1) (setL_ok g.2.1 h1 t0 t1) (swapL_norm g.2.1 g.2.2.1 t0 t1) (setL_norm g.2.2.1) ?_ fun p p0 p1 => ?_
    · rw [swapL_total g.2.1 h0 h1 h2 t0 t1, setL_total g.2.1 h0 h1 h2]
    · rw [swapL_at g.2.1 h0 h1 h2 t0 t1 p p0, setL_at g.2.1 h0 h1 h2 t0 t1 p p0]
      by_cases c : lo ≤ p ∧ p < hi
      · have a1 := all (p - lo) (by omega) (by rw [tt]; omega)
        have a2 := aV (p - lo) (by omega) (by omega) (by omega)
        rw [a1, show max 0 lo - 0 + (p - lo) = p from by omega] at a2
        rw [if_pos ⟨c.1, c.2, a2.symm⟩, if_pos c]
      · rw [if_neg (fun h => c ⟨h.1, h.2.1⟩), if_neg c]
  have e1 : swapR L lo hi from_ to = if 4096 < ((swapL L lo hi from_ to).length : Int) then (5, 0, []) else (0, midN from_ (clipL lo hi 0 L), swapL L lo hi from_ to) := by
    unfold swapR; rw [if_neg g.1, if_neg (by omega), if_neg (by omega)]
  have e2 : setR L lo hi to = if 4096 < ((setL L lo hi to).length : Int) then (5, []) else (0, setL L lo hi to) := by
    unfold setR; rw [if_neg g.1, if_neg (by omega), if_neg (by omega)]
  rw [e1, e2, e]
  by_cases h4 : 4096 < ((setL L lo hi to).length : Int)
  · rw [if_pos h4, if_pos h4]; exact ⟨rfl, rfl⟩
  · rw [if_neg h4, if_neg h4]; exact ⟨rfl, rfl⟩
theorem applyR_step {L : List (Int × Int)} {l : List Ch} {j : Nat} (h : j < l.length) : applyR L (l.drop j) = if (chR L l[j]).1 = 0 then applyR (chR L l[j]).2 (l.drop (j + 1)) else ((chR L l[j]).1, []) := by
  rw [List.drop_eq_getElem_cons h]; rfl
theorem applyTop_good {L : List (Int × Int)} (h : L = [] ∨ Good L) (l : List Ch) : (applyTop L l).2 = [] ∨ Good (applyTop L l).2 := by
  unfold applyTop
  rcases h with rfl | g
  · rw [if_pos rfl]; exact .inl rfl
  · rw [if_neg g.1]
    induction l generalizing L with
    | nil => exact .inr g
    | cons x l ih =>
      simp only [applyR]
      rcases chR_good g x with ⟨h, _⟩ | ⟨h, g2, _⟩
      · rw [if_neg h]; exact .inl rfl
      · rw [if_pos h]; exact ih g2
/-- A change of a map: what Count says of its range. -/
theorem count_clip {L : List (Int × Int)} (g : Good L) {lo hi tag : Int} (h0 : 0 ≤ lo) (h1 : lo ≤ hi) (h2 : hi ≤ total L) (t0 : 0 ≤ tag) (t1 : tag < 16) : countR L lo hi tag = (totalOf tag (segs (clipL lo hi 0 L)), 0) := by
  unfold countR
  rw [show rangesR L lo hi = 0 from by unfold rangesR; rw [if_neg g.1, if_neg (by omega)], if_pos rfl, if_neg (by omega)]
  have := upTo_clip tag h1 _ g.2.1 0
  rw [Int.sub_zero, Int.sub_zero] at this
  unfold upTo
  rw [this]
end
end Go.Proofs.Ytfmplibjhohpgaa
