/- Plain laws of counts of all tags in a range, and of its runs. No program in sight. -/
import Derived.Test.YtfmplibjhohpgaaSpLaws
namespace Go.Proofs.Ytfmplibjhohpgaa
open Tr (total totalOf OkL)

theorem takeP_neg {L : List (Int × Int)} {k : Int} (h : k ≤ 0) : takeP k L = [] := by
  cases L with
  | nil => rfl
  | cons x l => simp only [takeP]; rw [if_pos h]
/-- What Count counts is in the runs of the range. -/
theorem upTo_clip (tag : Int) {lo hi : Int} (hle : lo ≤ hi) (A : List (Int × Int)) (h : OkL A) : ∀ k, totalOf tag (takeP (hi - k) A) - totalOf tag (takeP (lo - k) A) = totalOf tag (segs (clipL lo hi k A)) := by
  induction A with
  | nil => intro k; simp [takeP, clipL, segs, totalOf]
  | cons x A ih =>
    intro k
    have h' := OkL.cons.1 h
    have i := ih h'.2 (k + x.1)
    have e1 : ∀ j, totalOf tag (takeP (j - k) (x :: A)) = (if x.2 = tag then max 0 (min (j - k) x.1) else 0) + totalOf tag (takeP (j - (k + x.1)) A) := by
      intro j
      simp only [takeP]
      by_cases c1 : j - k ≤ 0
      · rw [if_pos c1, takeP_neg (by omega : j - (k + x.1) ≤ 0)]
        rw [show totalOf tag [] = 0 from rfl]
        split <;> omega
      · rw [if_neg c1]
        by_cases c2 : j - k < x.1
        · rw [if_pos c2, takeP_neg (by omega : j - (k + x.1) ≤ 0), Tr.totalOf_cons, show totalOf tag [] = 0 from rfl]
          dsimp only
          split <;> omega
        · rw [if_neg c2, Tr.totalOf_cons, show j - k - x.1 = j - (k + x.1) from by omega]
          split <;> omega
    rw [e1, e1]
    simp only [clipL]
    rw [segs_append, Tr.totalOf_append, ← i]
    have e2 : totalOf tag (segs (if max k lo < min (k + x.1) hi then [⟨max k lo, min (k + x.1) hi, x.2⟩] else [])) = if x.2 = tag then max 0 (min (k + x.1) hi - max k lo) else 0 := by
      by_cases c : max k lo < min (k + x.1) hi
      · rw [if_pos c]
        simp only [segs, List.map_cons, List.map_nil, Tr.totalOf_cons]
        rw [show totalOf tag [] = 0 from rfl]
        split <;> omega
      · rw [if_neg c]
        rw [show totalOf tag (segs []) = 0 from rfl]
        split <;> omega
    rw [e2]
    split <;> omega
/-- The neighbors among clipped runs differ. -/
theorem clipL_norm {lo hi : Int} {A : List (Int × Int)} (h : OkL A) (hn : Norm A) : ∀ k, Norm (segs (clipL lo hi k A)) := by
  induction A with
  | nil => intro k; exact trivial
  | cons x A ih =>
    intro k
    have h' := OkL.cons.1 h
    have i := ih h'.2 hn.2 (k + x.1)
    simp only [clipL]
    by_cases c : max k lo < min (k + x.1) hi
    · rw [if_pos c]
      refine ⟨?_, i⟩
      intro y hy
      cases A with
      | nil => simp [clipL] at hy
      | cons z A =>
        have hz := (OkL.cons.1 h'.2).1
        have hne := hn.1 z rfl
        by_cases c2 : hi ≤ k + x.1
        · rw [clipL_right h'.2 c2] at hy; simp at hy
        · have e : clipL lo hi (k + x.1) (z :: A) = ⟨max (k + x.1) lo, min (k + x.1 + z.1) hi, z.2⟩ :: clipL lo hi (k + x.1 + z.1) A := by
            simp only [clipL]; rw [if_pos (by omega)]; rfl
          rw [e] at hy
          simp at hy
          subst hy
          exact hne
    · rw [if_neg c]; exact i
/-- The counts of the first tags. -/
def sumT (S : List (Int × Int)) : Nat → Int
  | 0 => 0
  | k + 1 => sumT S k + totalOf k S
theorem sumT_cons (x : Int × Int) (S : List (Int × Int)) (h : 0 ≤ x.2) : ∀ k : Nat, sumT (x :: S) k = (if x.2 < k then x.1 else 0) + sumT S k
  | 0 => by simp only [sumT]; rw [if_neg (by omega)]; omega
  | k + 1 => by
    simp only [sumT]
    rw [sumT_cons x S h k, Tr.totalOf_cons]
    by_cases c : x.2 = k
    · rw [if_pos c, if_neg (by omega), if_pos (by omega)]; omega
    · rw [if_neg c]
      by_cases c2 : x.2 < k
      · rw [if_pos c2, if_pos (by omega)]; omega
      · rw [if_neg c2, if_neg (by omega)]; omega
theorem sumT_facts {S : List (Int × Int)} (h : OkL S) : sumT S 16 = total S ∧ ∀ k : Nat, 0 ≤ sumT S k ∧ sumT S k ≤ total S := by
  induction S with
  | nil => exact ⟨by decide, fun k => by
      have : ∀ k, sumT [] k = 0 := by
        intro k
        induction k with
        | zero => rfl
        | succ k ih => simp only [sumT]; rw [ih]; rfl
      rw [this, Tr.total_nil]; omega⟩
  | cons x S ih =>
    have h' := OkL.cons.1 h
    obtain ⟨i1, i2⟩ := ih h'.2
    have t := total_nonneg h'.2
    refine ⟨?_, fun k => ?_⟩
    · rw [sumT_cons x S h'.1.2.1, i1, Tr.total_cons, if_pos (by have := h'.1.2.2; exact_mod_cast this)]
    · have := i2 k
      rw [sumT_cons x S h'.1.2.1, Tr.total_cons]
      split <;> omega
/-- Runs that divide a range, neighbors differing: what a walk over them sees. -/
theorem chain_walk {lo hi : Int} {V : List Rn} (h : Chain lo V hi) (hn : Norm (segs V)) :
    (∀ h : 0 < V.length, V[0].lo = lo) ∧ (V.length = 0 → lo = hi) ∧ (∀ j (h : j + 1 < V.length), V[j + 1].lo = V[j].hi ∧ V[j].tag ≠ V[j + 1].tag) ∧ ∀ j (h : j < V.length), j + 1 = V.length → V[j].hi = hi := by
  induction V generalizing lo with
  | nil => exact ⟨fun h => by simp at h, fun _ => h, fun j h => by simp at h, fun j h => by simp at h⟩
  | cons x V ih =>
    obtain ⟨h1, h2, h3⟩ := h
    obtain ⟨i1, i2, i3, i4⟩ := ih h3 hn.2
    refine ⟨fun _ => h1, fun h => by simp at h, fun j hj => ?_, fun j hj e => ?_⟩
    · cases j with
      | zero =>
        have hv : 0 < V.length := by simpa using hj
        refine ⟨i1 hv, ?_⟩
        show x.tag ≠ V[0].tag
        refine hn.1 (V[0].hi - V[0].lo, V[0].tag) ?_
        cases V with
        | nil => simp at hv
        | cons y V => rfl
      | succ j => exact i3 j (by simpa using hj)
    · cases j with
      | zero =>
        have hv : V.length = 0 := by simp at e; exact List.length_eq_zero_iff.2 e
        exact i2 hv
      | succ j => exact i4 j (by simpa using hj) (by simpa using e)
theorem segs_take_succ (tag : Int) {V : List Rn} {j : Nat} (h : j < V.length) : totalOf tag (segs (V.take (j + 1))) = totalOf tag (segs (V.take j)) + if V[j].tag = tag then V[j].hi - V[j].lo else 0 := by
  rw [List.take_succ_eq_append_getElem h, segs_append, Tr.totalOf_append]
  simp only [segs, List.map_cons, List.map_nil, Tr.totalOf_cons]
  rw [show totalOf tag [] = 0 from rfl]
  split <;> omega
theorem segs_take_le (tag : Int) {V : List Rn} (h : OkL (segs V)) (j : Nat) : 0 ≤ totalOf tag (segs (V.take j)) ∧ totalOf tag (segs (V.take j)) ≤ totalOf tag (segs V) := by
  have e : segs V = segs (V.take j) ++ segs (V.drop j) := by rw [← segs_append, List.take_append_drop]
  have h2 := h
  rw [e] at h2
  obtain ⟨o1, o2⟩ := OkL.append.1 h2
  have n1 := totalOf_nonneg o1 tag
  have n2 := totalOf_nonneg o2 tag
  rw [e, Tr.totalOf_append]
  omega
end Go.Proofs.Ytfmplibjhohpgaa
