/- Plain lists of runs: what the calls of package span compute. No program in sight. -/
import Derived.Test.YtfmplibjhohpgaaSpPure
namespace Go.Proofs.Ytfmplibjhohpgaa
open Tr (total totalOf OkL)

/-- The runs of a usable map. -/
def Good (L : List (Int × Int)) : Prop := L ≠ [] ∧ OkL L ∧ Norm L ∧ total L ≤ 1099511627776 ∧ (L.length : Int) ≤ 4096
def leafL (len tag : Int) : List (Int × Int) := if len = 0 then [] else [(len, tag)]
/-- A list of runs after Set. -/
def setL (L : List (Int × Int)) (lo hi tag : Int) : List (Int × Int) := concatL (concatL (takeP lo L) (leafL (hi - lo) tag)) (dropP (hi - lo) (dropP lo L))
theorem leafL_ok {len tag : Int} (h0 : 0 ≤ len) (h1 : 0 ≤ tag) (h2 : tag < 16) : OkL (leafL len tag) := by
  unfold leafL; split
  · simp [OkL]
  · exact OkL.cons.2 ⟨⟨by simp; omega, h1, h2⟩, by simp [OkL]⟩
theorem leafL_norm (len tag : Int) : Norm (leafL len tag) := by
  unfold leafL; split
  · trivial
  · exact ⟨by simp, trivial⟩
theorem leafL_total (len tag : Int) : total (leafL len tag) = len := by
  unfold leafL; split
  · rename_i h; rw [h]; rfl
  · simp [Tr.total_cons, Tr.total_nil]
theorem leafL_at {len tag p : Int} (h0 : 0 ≤ p) (h1 : p < len) : atL (leafL len tag) p = tag := by
  unfold leafL; rw [if_neg (by omega)]; simp only [atL]; rw [if_pos h1]
section
variable {L : List (Int × Int)} (ho : OkL L) (hn : Norm L) {lo hi tag : Int} (h0 : 0 ≤ lo) (h1 : lo ≤ hi) (h2 : hi ≤ total L) (t0 : 0 ≤ tag) (t1 : tag < 16)
include ho h1 t0 t1
theorem setL_ok : OkL (setL L lo hi tag) := concatL_ok (concatL_ok (takeP_ok ho _) (leafL_ok (by omega) t0 t1)) (dropP_ok (dropP_ok ho _) _)
omit ho h1 t0 t1
include hn
theorem setL_norm : Norm (setL L lo hi tag) := concatL_norm (concatL_norm (takeP_norm hn _) (leafL_norm _ _)) (dropP_norm (dropP_norm hn _) _)
omit hn
include ho h0 h1 h2
theorem setL_total : total (setL L lo hi tag) = total L := by
  have e := dropP_total ho h0 (by omega)
  unfold setL
  rw [concatL_total, concatL_total, takeP_total ho h0 (by omega), leafL_total, dropP_total (dropP_ok ho _) (by omega) (by rw [e]; omega), e]; omega
include t0 t1
/-- The pieces after Set. -/
theorem setL_at (p : Int) (p0 : 0 ≤ p) : atL (setL L lo hi tag) p = if lo ≤ p ∧ p < hi then tag else atL L p := by
  have e1 := takeP_total ho h0 (by omega : lo ≤ total L)
  have o1 := takeP_ok ho lo
  have o2 := leafL_ok (by omega : 0 ≤ hi - lo) t0 t1
  have o3 := dropP_ok (dropP_ok ho lo) (hi - lo)
  unfold setL
  rw [concatL_at (concatL_ok o1 o2) o3 p p0, concatL_total, e1, leafL_total]
  by_cases h : p < hi
  · rw [if_pos (by omega), concatL_at o1 o2 p p0, e1]
    by_cases h' : p < lo
    · rw [if_pos h', if_neg (by omega), takeP_at p0 h']
    · rw [if_neg h', if_pos ⟨by omega, h⟩, leafL_at (by omega) (by omega)]
  · rw [if_neg (by omega), if_neg (by omega), dropP_at (dropP_ok ho _) (by omega) (by omega), dropP_at ho h0 (by omega)]
    congr 1; omega
end
theorem total_pos {L : List (Int × Int)} (h : OkL L) (hne : L ≠ []) : 1 ≤ total L := by
  cases L with
  | nil => exact (hne rfl).elim
  | cons x l => have h' := OkL.cons.1 h; have := total_nonneg h'.2; rw [Tr.total_cons]; omega
theorem ne_of_total {L : List (Int × Int)} (h : 1 ≤ total L) : L ≠ [] := by
  rintro rfl; rw [Tr.total_nil] at h; omega
/-- What Set returns: an error, and the runs of the map (none, if it is unusable). -/
def setR (L : List (Int × Int)) (lo hi tag : Int) : Int × List (Int × Int) :=
  if L = [] then (1, []) else if lo < 0 ∨ hi < lo ∨ total L < hi then (3, []) else if tag < 0 ∨ 16 ≤ tag then (2, [])
  else if 4096 < ((setL L lo hi tag).length : Int) then (5, []) else (0, setL L lo hi tag)
def newR (size : Int) : Int × List (Int × Int) := if 1 ≤ size ∧ size ≤ 1099511627776 then (0, [(size, 0)]) else (2, [])
theorem newR_good (size : Int) : (newR size).2 = [] ∨ Good (newR size).2 := by
  unfold newR; split
  · rename_i h
    refine .inr ⟨by simp, OkL.cons.2 ⟨⟨h.1, by simp, by simp⟩, by simp [OkL]⟩, ⟨by simp, trivial⟩, by simp [Tr.total_cons, Tr.total_nil]; omega, by simp⟩
  · exact .inl rfl
theorem setR_good {L : List (Int × Int)} (h : L = [] ∨ Good L) (lo hi tag : Int) : (setR L lo hi tag).2 = [] ∨ Good (setR L lo hi tag).2 := by
  unfold setR
  split
  · exact .inl rfl
  · rename_i h1
    split
    · exact .inl rfl
    · rename_i h2
      split
      · exact .inl rfl
      · rename_i h3
        split
        · exact .inl rfl
        · rename_i h4
          obtain ⟨g1, g2, g3, g4, g5⟩ := h.resolve_left h1
          have e := setL_total g2 (tag := tag) (by omega : 0 ≤ lo) (by omega : lo ≤ hi) (by omega)
          exact .inr ⟨ne_of_total (by rw [e]; exact total_pos g2 g1), setL_ok g2 (by omega) (by omega) (by omega), setL_norm g3, by rw [e]; exact g4, Int.not_lt.1 h4⟩
end Go.Proofs.Ytfmplibjhohpgaa
