/- A list of runs of three pieces each: From accepts it. No program in sight. -/
import Derived.Test.YtfmplibjhohpgaaSpRefL
import Derived.Test.YtfmplibjhohpgaaSpRfrom
namespace Go.Proofs.Ytfmplibjhohpgaa
open Tr (total totalOf OkL)

def fullL : Nat → List (Int × Int)
  | 0 => []
  | k + 1 => fullL k ++ [(3, (k : Int) % 3)]
theorem fullL_length (k : Nat) : (fullL k).length = k := by
  induction k with
  | zero => rfl
  | succ k ih => simp [fullL, ih]
theorem fullL_total (k : Nat) : total (fullL k) = 3 * k := by
  induction k with
  | zero => rfl
  | succ k ih => simp only [fullL, Tr.total_append, ih, Tr.total_cons, Tr.total_nil]; omega
theorem fullL_ok (k : Nat) : OkL (fullL k) := by
  induction k with
  | zero => intro x hx; simp [fullL] at hx
  | succ k ih => exact OkL.append.2 ⟨ih, one_ok (by omega) (by omega) (by omega)⟩
theorem norm_snoc {l : List (Int × Int)} {x : Int × Int} (h : Norm l) (hx : ∀ y, l.getLast? = some y → y.2 ≠ x.2) : Norm (l ++ [x]) := by
  induction l with
  | nil => exact one_norm x
  | cons z l ih =>
    cases l with
    | nil => exact ⟨fun y hy => by simp at hy; subst hy; exact hx z rfl, one_norm x⟩
    | cons y l => exact ⟨fun y' hy => h.1 y' (by simpa using hy), ih h.2 (fun y' hy => hx y' (by simpa using hy))⟩
theorem fullL_norm (k : Nat) : Norm (fullL k) := by
  induction k with
  | zero => trivial
  | succ k ih =>
    refine norm_snoc ih fun y hy => ?_
    cases k with
    | zero => simp [fullL] at hy
    | succ k =>
      simp only [fullL, List.getLast?_append, List.getLast?_singleton, Option.some_or, Option.some.injEq] at hy
      subst hy
      dsimp only
      omega
theorem fullL_good {k : Nat} (h1 : 1 ≤ k) (h2 : k ≤ 4096) : Good (fullL k) := by
  refine ⟨fun e => ?_, fullL_ok k, fullL_norm k, by rw [fullL_total]; omega, by rw [fullL_length]; omega⟩
  have := fullL_length k
  rw [e] at this
  simp at this
  omega
theorem lay_full (k : Nat) : lay 0 (fullL (k + 1)) = lay 0 (fullL k) ++ [⟨3 * k, 3 * k + 3, (k : Int) % 3⟩] := by
  show lay 0 (fullL k ++ [(3, (k : Int) % 3)]) = _
  rw [lay_snoc, fullL_total]
  simp
theorem rscan_lay {L : List (Int × Int)} (h : OkL L) (hn : Norm L) : ∀ (k t : Int), (∀ y, L.head? = some y → y.2 ≠ t) → rscan k t (lay k L) = some (k + total L) := by
  induction L with
  | nil => intro k t _; simp [lay, rscan, Tr.total]
  | cons x L ih =>
    intro k t ht
    have h' := OkL.cons.1 h
    simp only [lay, rscan]
    rw [if_neg]
    · rw [ih h'.2 hn.2 (k + x.1) x.2 (fun y hy => (hn.1 y hy).symm), Tr.total_cons]
      congr 1
      omega
    · have := ht x rfl
      unfold rbad
      dsimp only
      omega
theorem segs_lay (L : List (Int × Int)) : ∀ k, segs (lay k L) = L := by
  induction L with
  | nil => intro k; rfl
  | cons x L ih =>
    intro k
    show (k + x.1 - k, x.2) :: segs (lay (k + x.1) L) = _
    rw [ih, show k + x.1 - k = x.1 from by omega]
/-- From accepts the runs of a map. -/
theorem fromR_lay {L : List (Int × Int)} (g : Good L) : fromR (total L) (lay 0 L) = (0, L) := by
  have h1 := total_pos g.2.1 g.1
  rw [fromR_rscan ⟨h1, g.2.2.2.1⟩, rscan_lay g.2.1 g.2.2.1 0 (-1) (fun y hy => by
    have := g.2.1 y (List.mem_of_mem_head? hy); omega), if_pos (by rw [Int.zero_add]), lay_length, if_neg (by have := g.2.2.2.2; omega), segs_lay]
end Go.Proofs.Ytfmplibjhohpgaa
