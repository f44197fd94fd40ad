/- Plain laws of updates, Find and Count on lists of runs. No program in sight. -/
import Derived.Test.YtfmplibjhohpgaaSpActs
namespace Go.Proofs.Ytfmplibjhohpgaa
open Tr (total totalOf OkL)

/-- An update of a usable map: an error and nothing, or a usable map with the pieces that the document says. -/
theorem actR_cases {L : List (Int × Int)} (g : Good L) (x : Ac) :
    ((actR L x).1 ≠ 0 ∧ (actR L x).2 = []) ∨ ((actR L x).1 = 0 ∧ Good (actR L x).2 ∧ total (actR L x).2 = total L ∧ ∀ p, 0 ≤ p → atL (actR L x).2 p = if (x.lo ≤ p ∧ p < x.hi) ∧ (x.swap = true → atL L p = x.frm) then x.to else atL L p) := by
  obtain ⟨g1, g2, g3, g4, g5⟩ := g
  have gt := total_pos g2 g1
  unfold actR
  by_cases hs : x.swap = true
  · rw [if_pos hs]
    unfold swapR
    rw [if_neg g1]
    by_cases h1 : x.lo < 0 ∨ x.hi < x.lo ∨ total L < x.hi
    · rw [if_pos h1]; exact .inl ⟨by simp, rfl⟩
    rw [if_neg h1]
    by_cases h2 : (x.frm < 0 ∨ 16 ≤ x.frm) ∨ (x.to < 0 ∨ 16 ≤ x.to)
    · rw [if_pos h2]; exact .inl ⟨by simp, rfl⟩
    rw [if_neg h2]
    by_cases h3 : 4096 < ((swapL L x.lo x.hi x.frm x.to).length : Int)
    · rw [if_pos h3]; exact .inl ⟨by simp, rfl⟩
    rw [if_neg h3]
    have t := swapL_total (from_ := x.frm) g2 (by omega : 0 ≤ x.lo) (by omega : x.lo ≤ x.hi) (by omega) (by omega : 0 ≤ x.to) (by omega)
    refine .inr ⟨rfl, ⟨ne_of_total (by rw [t]; exact gt), swapL_ok g2 (by omega) (by omega), swapL_norm g2 g3 (by omega) (by omega), by rw [t]; exact g4, by dsimp only; omega⟩, t, fun p p0 => ?_⟩
    have := swapL_at (from_ := x.frm) g2 (by omega : 0 ≤ x.lo) (by omega : x.lo ≤ x.hi) (by omega) (by omega : 0 ≤ x.to) (by omega) p p0
    refine Eq.trans this ?_
    by_cases c : x.lo ≤ p ∧ p < x.hi ∧ atL L p = x.frm
    · rw [if_pos c, if_pos ⟨⟨c.1, c.2.1⟩, fun _ => c.2.2⟩]
    · rw [if_neg c, if_neg (fun h => c ⟨h.1.1, h.1.2, h.2 hs⟩)]
  · rw [if_neg hs]
    unfold setR
    rw [if_neg g1]
    by_cases h1 : x.lo < 0 ∨ x.hi < x.lo ∨ total L < x.hi
    · rw [if_pos h1]; exact .inl ⟨by simp, rfl⟩
    rw [if_neg h1]
    by_cases h2 : x.to < 0 ∨ 16 ≤ x.to
    · rw [if_pos h2]; exact .inl ⟨by simp, rfl⟩
    rw [if_neg h2]
    by_cases h3 : 4096 < ((setL L x.lo x.hi x.to).length : Int)
    · rw [if_pos h3]; exact .inl ⟨by simp, rfl⟩
    rw [if_neg h3]
    have t := setL_total (tag := x.to) g2 (by omega : 0 ≤ x.lo) (by omega : x.lo ≤ x.hi) (by omega)
    refine .inr ⟨rfl, ⟨ne_of_total (by rw [t]; exact gt), setL_ok g2 (by omega) (by omega) (by omega), setL_norm g3, by rw [t]; exact g4, by dsimp only; omega⟩, t, fun p p0 => ?_⟩
    have := setL_at (tag := x.to) g2 (by omega : 0 ≤ x.lo) (by omega : x.lo ≤ x.hi) (by omega) (by omega) (by omega) p p0
    refine Eq.trans this ?_
    by_cases c : x.lo ≤ p ∧ p < x.hi
    · rw [if_pos c, if_pos ⟨c, fun h => (hs h).elim⟩]
    · rw [if_neg c, if_neg (fun h => c h.1)]
theorem actL_facts {L : List (Int × Int)} (g : Good L) (x : Ac) : Good (actL L x) ∧ total (actL L x) = total L := by
  unfold actL
  rcases actR_cases g x with ⟨h, _⟩ | ⟨h, h1, h2, _⟩
  · rw [if_neg h]; exact ⟨g, rfl⟩
  · rw [if_pos h]; exact ⟨h1, h2⟩
theorem moreL_facts (l : List Ac) : ∀ {L : List (Int × Int)}, Good L → Good (moreL L l) ∧ total (moreL L l) = total L := by
  induction l with
  | nil => exact fun g => ⟨g, rfl⟩
  | cons x l ih =>
    intro L g
    obtain ⟨g1, g2⟩ := actL_facts g x
    obtain ⟨i1, i2⟩ := ih g1
    exact ⟨i1, i2.trans g2⟩
/-- The runs of a map of a size after updates. -/
theorem bltL_facts {size : Int} (h1 : 1 ≤ size) (h2 : size ≤ 1099511627776) (l : List Ac) : Good (moreL [(size, 0)] l) ∧ total (moreL [(size, 0)] l) = size := by
  have g : Good [(size, 0)] := ⟨by simp, OkL.cons.2 ⟨⟨h1, by simp, by simp⟩, by simp [OkL]⟩, ⟨by simp, trivial⟩, by simp [Tr.total_cons, Tr.total_nil]; omega, by simp⟩
  obtain ⟨a, b⟩ := moreL_facts l g
  exact ⟨a, b.trans (by simp [Tr.total_cons, Tr.total_nil])⟩
theorem takeP_zero (L : List (Int × Int)) : takeP 0 L = [] := by cases L <;> simp [takeP]
theorem takeP_all {L : List (Int × Int)} (h : OkL L) {k : Int} (hk : total L ≤ k) : takeP k L = L := by
  induction L generalizing k with
  | nil => rfl
  | cons x l ih =>
    have h' := OkL.cons.1 h
    have := total_nonneg h'.2
    rw [Tr.total_cons] at hk
    simp only [takeP]
    rw [if_neg (by omega), if_neg (by omega), ih h'.2 (by omega)]
/-- What Find finds has the tag, and as many pieces with it ahead. -/
theorem findL_found (tag : Int) {L : List (Int × Int)} (h : OkL L) {k a p : Int} (hk : 0 ≤ k) (hf : findL tag L k a = (p, true)) :
    a ≤ p ∧ p - a < total L ∧ atL L (p - a) = tag ∧ totalOf tag (takeP (p - a) L) = k := by
  induction L generalizing k a with
  | nil => simp [findL] at hf
  | cons x l ih =>
    have h' := OkL.cons.1 h
    have := total_nonneg h'.2
    rw [Tr.total_cons]
    simp only [findL] at hf
    by_cases hx : x.2 = tag
    · rw [if_pos hx] at hf
      by_cases h1 : k < x.1
      · rw [if_pos h1] at hf
        simp only [Prod.mk.injEq, and_true] at hf
        subst hf
        rw [show a + k - a = k from by omega]
        refine ⟨by omega, by omega, ?_, ?_⟩
        · simp only [atL]; rw [if_pos h1]; exact hx
        · simp only [takeP]
          by_cases h2 : k ≤ 0
          · rw [if_pos h2]; simp [totalOf]; omega
          · rw [if_neg h2, if_pos h1, Tr.totalOf_cons, if_pos hx]; simp [totalOf]
      · rw [if_neg h1] at hf
        obtain ⟨i1, i2, i3, i4⟩ := ih h'.2 (by omega) hf
        refine ⟨by omega, by omega, ?_, ?_⟩
        · simp only [atL]; rw [if_neg (by omega), show p - a - x.1 = p - (a + x.1) from by omega]; exact i3
        · simp only [takeP]; rw [if_neg (by omega), if_neg (by omega), Tr.totalOf_cons, if_pos hx, show p - a - x.1 = p - (a + x.1) from by omega, i4]; omega
    · rw [if_neg hx] at hf
      obtain ⟨i1, i2, i3, i4⟩ := ih h'.2 hk hf
      refine ⟨by omega, by omega, ?_, ?_⟩
      · simp only [atL]; rw [if_neg (by omega), show p - a - x.1 = p - (a + x.1) from by omega]; exact i3
      · simp only [takeP]; rw [if_neg (by omega), if_neg (by omega), Tr.totalOf_cons, if_neg hx, show p - a - x.1 = p - (a + x.1) from by omega, i4]; omega
/-- Find finds nothing only where there are not as many pieces. -/
theorem findL_not (tag : Int) {L : List (Int × Int)} (h : OkL L) {k a p : Int} (hk : 0 ≤ k) (hf : findL tag L k a = (p, false)) : p = 0 ∧ totalOf tag L ≤ k := by
  induction L generalizing k a with
  | nil =>
    simp only [findL, Prod.mk.injEq, and_true] at hf
    exact ⟨hf.symm, by simpa [totalOf] using hk⟩
  | cons x l ih =>
    have h' := OkL.cons.1 h
    simp only [findL] at hf
    rw [Tr.totalOf_cons]
    by_cases hx : x.2 = tag
    · rw [if_pos hx] at hf
      by_cases h1 : k < x.1
      · rw [if_pos h1] at hf; simp at hf
      · rw [if_neg h1] at hf
        obtain ⟨i1, i2⟩ := ih h'.2 (by omega) hf
        exact ⟨i1, by rw [if_pos hx]; omega⟩
    · rw [if_neg hx] at hf
      obtain ⟨i1, i2⟩ := ih h'.2 hk hf
      exact ⟨i1, by rw [if_neg hx]; omega⟩
/-- Find finds a piece by its tag and the number of pieces with it ahead. -/
theorem findL_at {L : List (Int × Int)} (h : OkL L) {q a : Int} (h0 : 0 ≤ q) (h1 : q < total L) : findL (atL L q) L (totalOf (atL L q) (takeP q L)) a = (a + q, true) := by
  induction L generalizing q a with
  | nil => rw [Tr.total_nil] at h1; omega
  | cons x l ih =>
    have h' := OkL.cons.1 h
    rw [Tr.total_cons] at h1
    by_cases c : q < x.1
    · have e : atL (x :: l) q = x.2 := by simp only [atL]; rw [if_pos c]
      have e2 : totalOf x.2 (takeP q (x :: l)) = q := by
        simp only [takeP]
        by_cases h2 : q ≤ 0
        · rw [if_pos h2]; simp [totalOf]; omega
        · rw [if_neg h2, if_pos c, Tr.totalOf_cons]; simp [totalOf]
      rw [e, e2]
      simp only [findL, if_true]
      rw [if_pos c]
    · have e : atL (x :: l) q = atL l (q - x.1) := by simp only [atL]; rw [if_neg c]
      have i := ih h'.2 (q := q - x.1) (a := a + x.1) (by omega) (by omega)
      have n := totalOf_nonneg (takeP_ok h'.2 (q - x.1)) (atL l (q - x.1))
      have e2 : takeP q (x :: l) = x :: takeP (q - x.1) l := by simp only [takeP]; rw [if_neg (by omega), if_neg c]
      rw [e, e2, Tr.totalOf_cons]
      simp only [findL]
      by_cases hx : x.2 = atL l (q - x.1)
      · rw [if_pos hx, if_pos hx, if_neg (by omega), show x.1 + totalOf (atL l (q - x.1)) (takeP (q - x.1) l) - x.1 = totalOf (atL l (q - x.1)) (takeP (q - x.1) l) from by omega, i, show a + x.1 + (q - x.1) = a + q from by omega]
      · rw [if_neg hx, if_neg hx, show 0 + totalOf (atL l (q - x.1)) (takeP (q - x.1) l) = totalOf (atL l (q - x.1)) (takeP (q - x.1) l) from by omega, i, show a + x.1 + (q - x.1) = a + q from by omega]
theorem atL_tag {L : List (Int × Int)} (h : OkL L) {q : Int} (h1 : q < total L) : 0 ≤ atL L q ∧ atL L q < 16 := by
  induction L generalizing q with
  | nil => simp [atL]
  | cons x l ih =>
    have h' := OkL.cons.1 h
    rw [Tr.total_cons] at h1
    simp only [atL]
    split
    · exact h'.1.2
    · exact ih h'.2 (by omega)
end Go.Proofs.Ytfmplibjhohpgaa
