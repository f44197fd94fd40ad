/- Runs of package span, whatever the map and its arguments. -/
import Derived.Test.YtfmplibjhohpgaaSpRunsOf
namespace Go.Proofs.Ytfmplibjhohpgaa
open Go.RowKit

/-- The runs of a list that begins at a piece, clipped to a range. -/
def clipL (lo hi : Int) : Int → List (Int × Int) → List Rn
  | _, [] => []
  | k, x :: l => (if max k lo < min (k + x.1) hi then [⟨max k lo, min (k + x.1) hi, x.2⟩] else []) ++ clipL lo hi (k + x.1) l
theorem clipL_append (lo hi k : Int) (A B : List (Int × Int)) : clipL lo hi k (A ++ B) = clipL lo hi k A ++ clipL lo hi (k + Tr.total A) B := by
  induction A generalizing k with
  | nil => simp [clipL, Tr.total_nil]
  | cons x A ih => simp only [List.cons_append, clipL, ih, Tr.total_cons, List.append_assoc]; congr 3; omega
theorem clipL_right {lo hi k : Int} {A : List (Int × Int)} (h : Tr.OkL A) (hk : hi ≤ k) : clipL lo hi k A = [] := by
  induction A generalizing k with
  | nil => rfl
  | cons x A ih =>
    have h' := Tr.OkL.cons.1 h
    simp only [clipL]
    rw [if_neg (by omega), ih h'.2 (by omega)]; rfl
theorem clipL_left {lo hi k : Int} {A : List (Int × Int)} (h : Tr.OkL A) (hk : k + Tr.total A ≤ lo) : clipL lo hi k A = [] := by
  induction A generalizing k with
  | nil => rfl
  | cons x A ih =>
    have h' := Tr.OkL.cons.1 h
    have := total_nonneg h'.2
    rw [Tr.total_cons] at hk
    simp only [clipL]
    rw [if_neg (by omega), ih h'.2 (by omega)]; rfl
theorem vis_clipL (lo hi : Int) : ∀ (T : Tr) (k : Int), T.Ok → vis lo hi T k = clipL lo hi k T.list
  | .nil, k, _ => rfl
  | .node l len tag r, k, o => by
    have oL := (Tr.ok_list _).1 o
    have pL := Tr.pcs_list (.node l len tag r)
    simp only [vis]
    split
    · rename_i h; rw [clipL_right oL h]
    · split
      · rename_i h h'; rw [clipL_left oL (by rw [← pL]; exact h')]
      · obtain ⟨o1, o2, _⟩ := o
        rw [vis_clipL lo hi l k o1, vis_clipL lo hi r _ o2]
        simp only [Tr.list]
        rw [clipL_append, ← Tr.pcs_list]
        simp only [clipL, List.append_assoc]
theorem clipL_length (lo hi k : Int) (A : List (Int × Int)) : (clipL lo hi k A).length ≤ A.length := by
  induction A generalizing k with
  | nil => simp [clipL]
  | cons x A ih =>
    have := ih (k + x.1)
    simp only [clipL, List.length_append, List.length_cons]
    split <;> simp <;> omega
/-- A list of runs with their places. -/
def lay : Int → List (Int × Int) → List Rn
  | _, [] => []
  | k, x :: l => ⟨k, k + x.1, x.2⟩ :: lay (k + x.1) l
theorem lay_length (k : Int) (A : List (Int × Int)) : (lay k A).length = A.length := by
  induction A generalizing k with
  | nil => rfl
  | cons x A ih => simp [lay, ih]
theorem clipL_all {lo hi k : Int} {A : List (Int × Int)} (h : Tr.OkL A) (h1 : lo ≤ k) (h2 : k + Tr.total A ≤ hi) : clipL lo hi k A = lay k A := by
  induction A generalizing k with
  | nil => rfl
  | cons x A ih =>
    have h' := Tr.OkL.cons.1 h
    have := total_nonneg h'.2
    rw [Tr.total_cons] at h2
    simp only [clipL, lay]
    rw [if_pos (by omega), ih h'.2 (by omega) (by omega), show max k lo = k from by omega, show min (k + x.1) hi = k + x.1 from by omega]; rfl
/-- What Runs returns. -/
def runsR (L : List (Int × Int)) (lo hi most : Int) : List Rn × Int := if rangesR L lo hi = 0 then ((clipL lo hi 0 L).take most.toNat, 0) else ([], rangesR L lo hi)
theorem runs_any (w : World) (p : Option Addr) (L : List (Int × Int)) (lo hi most : Int) (h : Rep w p L) :
    Calls Try.prog 33 #[.agg #[.pointer p], .int .i64 lo, .int .i64 hi, .int .i64 most] w fun e w' => ∃ v, e = .returned (.tuple #[v, .int .i64 (runsR L lo hi most).2]) ∧ OwnRuns w' w.heap.size v (runsR L lo hi most).1 ∧ Below w.heap.size w w' := by
  by_cases hx : rangesR L lo hi = 0
  · have e : runsR L lo hi most = ((clipL lo hi 0 L).take most.toNat, 0) := by unfold runsR; rw [if_pos hx]
    obtain ⟨a, rfl⟩ : ∃ a, p = some a := by
      cases p with
      | none => unfold rangesR at hx; rw [if_pos (h.nil_iff.1 rfl)] at hx; cases hx
      | some a => exact ⟨a, rfl⟩
    obtain ⟨g, T, hT, nT, bT, oT, eT, pT, p1, p2, nm⟩ := h.good
    have hv := vis_clipL lo hi T 0 oT
    rw [eT] at hv
    have hl := clipL_length lo hi 0 L
    have hg := g.2.2.2.2
    rw [e]
    have := runs_yes w a L lo hi most h hx T hT oT p2 (by rw [hv]; omega)
    rw [hv] at this
    exact this
  · have e : runsR L lo hi most = ([], rangesR L lo hi) := by unfold runsR; rw [if_neg hx]
    rw [e]
    exact (runs_err w p L lo hi most h _ rfl (by simpa using hx)).mono fun e w' ⟨h1, h2⟩ => ⟨_, h1, World.ownsRow_nil _ _ _ _, h2⟩
end Go.Proofs.Ytfmplibjhohpgaa
