/- Changes of a map on plain lists of runs: Apply of the program and of the reference compute the same. No program in sight. -/
import Derived.Test.YtfmplibjhohpgaaSpRefAskL
namespace Go.Proofs.Ytfmplibjhohpgaa
open Tr (total totalOf OkL)

/-- A change. -/
structure Ch where
  lo : Int
  hi : Int
  frm : Int
  to : Int
/-- What a change does to a usable map: an error, or the runs. -/
def chR (L : List (Int × Int)) (x : Ch) : Int × List (Int × Int) :=
  if x.lo < 0 ∨ x.hi ≤ x.lo ∨ total L < x.hi then (3, []) else if (x.frm < 0 ∨ 16 ≤ x.frm) ∨ (x.to < 0 ∨ 16 ≤ x.to) then (2, [])
  else if totalOf x.frm (segs (clipL x.lo x.hi 0 L)) ≠ x.hi - x.lo then (30, []) else setR L x.lo x.hi x.to
/-- What changes do to a usable map: the first error, or the runs. -/
def applyR : List (Int × Int) → List Ch → Int × List (Int × Int)
  | L, [] => (0, L)
  | L, x :: l => if (chR L x).1 = 0 then applyR (chR L x).2 l else ((chR L x).1, [])
/-- What Apply returns. -/
def applyTop (L : List (Int × Int)) (l : List Ch) : Int × List (Int × Int) := if L = [] then (1, []) else applyR L l
theorem chR_good {L : List (Int × Int)} (g : Good L) (x : Ch) : ((chR L x).1 ≠ 0 ∧ (chR L x).2 = []) ∨ ((chR L x).1 = 0 ∧ Good (chR L x).2 ∧ total (chR L x).2 = total L) := by
  unfold chR
  by_cases h1 : x.lo < 0 ∨ x.hi ≤ x.lo ∨ total L < x.hi
  · rw [if_pos h1]; exact .inl ⟨by simp, rfl⟩
  rw [if_neg h1]
  by_cases h2 : (x.frm < 0 ∨ 16 ≤ x.frm) ∨ (x.to < 0 ∨ 16 ≤ x.to)
  · rw [if_pos h2]; exact .inl ⟨by simp, rfl⟩
  rw [if_neg h2]
  by_cases h3 : totalOf x.frm (segs (clipL x.lo x.hi 0 L)) ≠ x.hi - x.lo
  · rw [if_pos h3]; exact .inl ⟨by simp, rfl⟩
  rw [if_neg h3]
  have := actR_cases g ⟨false, x.lo, x.hi, 0, x.to⟩
  rw [show actR L ⟨false, x.lo, x.hi, 0, x.to⟩ = setR L x.lo x.hi x.to from rfl] at this
  rcases this with h | ⟨a, b, c, _⟩
  · exact .inl h
  · exact .inr ⟨a, b, c⟩
theorem all_tag {S : List (Int × Int)} (h : OkL S) {t : Int} (ht : totalOf t S = total S) : ∀ p, 0 ≤ p → p < total S → atL S p = t := by
  induction S with
  | nil => intro p h0 h1; rw [Tr.total_nil] at h1; omega
  | cons x S ih =>
    have h' := OkL.cons.1 h
    have t1 := totalOf_le h'.2 t
    rw [Tr.totalOf_cons, Tr.total_cons] at ht
    have hx : x.2 = t := by
      refine Classical.byContradiction fun hn => ?_
      rw [if_neg hn] at ht
      omega
    rw [if_pos hx] at ht
    intro p h0 h1
    simp only [atL]
    by_cases c : p < x.1
    · rw [if_pos c]; exact hx
    · rw [if_neg c]
      rw [Tr.total_cons] at h1
      exact ih h'.2 (by omega) (p - x.1) (by omega) (by omega)
/-- Where all pieces of a range have a tag, Swap of it is Set. -/
theorem swap_is_set {L : List (Int × Int)} (g : Good L) {lo hi from_ to : Int} (h0 : 0 ≤ lo) (h1 : lo ≤ hi) (h2 : hi ≤ total L) (f0 : 0 ≤ from_) (f1 : from_ < 16) (t0 : 0 ≤ to) (t1 : to < 16) (hc : totalOf from_ (segs (clipL lo hi 0 L)) = hi - lo) :
    (swapR L lo hi from_ to).1 = (setR L lo hi to).1 ∧ (swapR L lo hi from_ to).2.2 = (setR L lo hi to).2 := by
  have ch : Chain lo (clipL lo hi 0 L) hi := by
    have := clipL_chain (lo := lo) (hi := hi) (k := 0) g.2.1 (by omega) (by omega)
    rwa [show max 0 lo = lo from by omega] at this
  obtain ⟨oV, aV⟩ := clipL_facts (lo := lo) (hi := hi) (k := 0) g.2.1
  have tt := ch.total
  have all := all_tag oV (hc.trans tt.symm)
  have e : swapL L lo hi from_ to = setL L lo hi to := by
    refine canon (swapL_ok g.2.1 t0 t1) (setL_ok g.2.1 h1 t0 t1) (swapL_norm g.2.1 g.2.2.1 t0 t1) (setL_norm g.2.2.1) ?_ fun p p0 p1 => ?_
    · rw [swapL_total g.2.1 h0 h1 h2 t0 t1, setL_total g.2.1 h0 h1 h2]
    · rw [swapL_at g.2.1 h0 h1 h2 t0 t1 p p0, setL_at g.2.1 h0 h1 h2 t0 t1 p p0]
      by_cases c : lo ≤ p ∧ p < hi
      · have a1 := all (p - lo) (by omega) (by rw [tt]; omega)
        have a2 := aV (p - lo) (by omega) (by omega) (by omega)
        rw [a1, show max 0 lo - 0 + (p - lo) = p from by omega] at a2
        rw [if_pos ⟨c.1, c.2, a2.symm⟩, if_pos c]
      · rw [if_neg (fun h => c ⟨h.1, h.2.1⟩), if_neg c]
  have e1 : swapR L lo hi from_ to = if 4096 < ((swapL L lo hi from_ to).length : Int) then (5, 0, []) else (0, midN from_ (clipL lo hi 0 L), swapL L lo hi from_ to) := by
    unfold swapR; rw [if_neg g.1, if_neg (by omega), if_neg (by omega)]
  have e2 : setR L lo hi to = if 4096 < ((setL L lo hi to).length : Int) then (5, []) else (0, setL L lo hi to) := by
    unfold setR; rw [if_neg g.1, if_neg (by omega), if_neg (by omega)]
  rw [e1, e2, e]
  by_cases h4 : 4096 < ((setL L lo hi to).length : Int)
  · rw [if_pos h4, if_pos h4]; exact ⟨rfl, rfl⟩
  · rw [if_neg h4, if_neg h4]; exact ⟨rfl, rfl⟩
theorem applyR_step {L : List (Int × Int)} {l : List Ch} {j : Nat} (h : j < l.length) : applyR L (l.drop j) = if (chR L l[j]).1 = 0 then applyR (chR L l[j]).2 (l.drop (j + 1)) else ((chR L l[j]).1, []) := by
  rw [List.drop_eq_getElem_cons h]; rfl
theorem applyTop_good {L : List (Int × Int)} (h : L = [] ∨ Good L) (l : List Ch) : (applyTop L l).2 = [] ∨ Good (applyTop L l).2 := by
  unfold applyTop
  rcases h with rfl | g
  · rw [if_pos rfl]; exact .inl rfl
  · rw [if_neg g.1]
    induction l generalizing L with
    | nil => exact .inr g
    | cons x l ih =>
      simp only [applyR]
      rcases chR_good g x with ⟨h, _⟩ | ⟨h, g2, _⟩
      · rw [if_neg h]; exact .inl rfl
      · rw [if_pos h]; exact ih g2
/-- A change of a map: what Count says of its range. -/
theorem count_clip {L : List (Int × Int)} (g : Good L) {lo hi tag : Int} (h0 : 0 ≤ lo) (h1 : lo ≤ hi) (h2 : hi ≤ total L) (t0 : 0 ≤ tag) (t1 : tag < 16) : countR L lo hi tag = (totalOf tag (segs (clipL lo hi 0 L)), 0) := by
  unfold countR
  rw [show rangesR L lo hi = 0 from by unfold rangesR; rw [if_neg g.1, if_neg (by omega)], if_pos rfl, if_neg (by omega)]
  have := upTo_clip tag h1 _ g.2.1 0
  rw [Int.sub_zero, Int.sub_zero] at this
  unfold upTo
  rw [this]
end Go.Proofs.Ytfmplibjhohpgaa
