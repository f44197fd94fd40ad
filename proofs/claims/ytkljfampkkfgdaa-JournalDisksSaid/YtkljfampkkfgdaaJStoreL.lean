/- The journal layer: writes in a row, plainly. -/
import Derived.Test.YtkljfampkkfgdaaJUnit
namespace Go.Proofs.Ytkljfampkkfgdaa
/-- Writes, one after the other, up to the first error. -/
def writesM : List (Int × Bs) → Dk → Int × Dk
  | [], D => (0, D)
  | x :: l, D => if (writeM D x.1 x.2).1 = 0 then writesM l (writeM D x.1 x.2).2 else writeM D x.1 x.2
theorem writesM_append (l m : List (Int × Bs)) : ∀ D, writesM (l ++ m) D = if (writesM l D).1 = 0 then writesM m (writesM l D).2 else writesM l D := by
  induction l with
  | nil => intro D; simp [writesM]
  | cons x l ih =>
    intro D
    rw [List.cons_append, writesM, writesM]
    split
    · exact ih _
    · rename_i h
      first | rfl | rw [if_neg h]
/-- The writes that lay a string. -/
def strW (from_ : Int) (e q : Int) (s : Bs) (k : Nat) : List (Int × Bs) := (List.range k).map fun (i : Nat) => (from_ + (i : Int), unitM e q i s)
def storeM (D : Dk) (from_ e q : Int) (s : Bs) : Int × Dk := writesM (strW from_ e q s (unitsM s.length)) D
theorem strW_succ (from_ e q : Int) (s : Bs) (k : Nat) : strW from_ e q s (k + 1) = strW from_ e q s k ++ [(from_ + k, unitM e q k s)] := by simp [strW, List.range_succ]
theorem writesM_snoc {l : List (Int × Bs)} {D : Dk} (h : (writesM l D).1 = 0) (x : Int × Bs) : writesM (l ++ [x]) D = writeM (writesM l D).2 x.1 x.2 := by
  rw [writesM_append, if_pos h, writesM]
  split
  · rename_i h2
    rw [writesM, ← h2]
  · rfl
theorem writesM_stop {l m : List (Int × Bs)} {D : Dk} (h : (writesM l D).1 ≠ 0) : writesM (l ++ m) D = writesM l D := by rw [writesM_append, if_neg h]
theorem strW_split (from_ e q : Int) (s : Bs) {k n : Nat} (h : k ≤ n) : ∃ m, strW from_ e q s n = strW from_ e q s k ++ m := by
  obtain ⟨j, rfl⟩ := Nat.exists_eq_add_of_le h
  refine ⟨(List.range j).map fun (i : Nat) => (from_ + ((k + i : Nat) : Int), unitM e q (k + i) s), ?_⟩
  simp only [strW, List.range_add, List.map_append, List.map_map, Function.comp_def]
theorem writeM_few {D : Dk} {m : Nat} (h : Few m D) (n : Int) (s : Bs) : Few (m + 1) (writeM D n s).2 := by
  have h' : Few (m + 1) D := fun x hx => Nat.le_trans (h x hx) (Nat.le_succ m)
  unfold writeM
  repeat' split
  all_goals try exact h'
  intro x hx
  simp only at hx
  obtain ⟨i, hi, rfl⟩ := List.getElem_of_mem hx
  rw [List.getElem_modify]
  rw [List.length_modify] at hi
  split
  · simp only [List.length_append, List.length_singleton]
    exact Nat.succ_le_succ (h _ (List.getElem_mem hi))
  · exact h' _ (List.getElem_mem hi)
theorem writesM_few {l : List (Int × Bs)} : ∀ {D : Dk} {m : Nat}, Few m D → Few (m + l.length) (writesM l D).2 := by
  induction l with
  | nil => intro D m h; exact h
  | cons x l ih =>
    intro D m h
    rw [writesM]
    split
    · have := ih (writeM_few h x.1 x.2)
      rw [List.length_cons, show m + (l.length + 1) = m + 1 + l.length from by omega]; exact this
    · have := writeM_few h x.1 x.2
      exact fun y hy => Nat.le_trans (this y hy) (by rw [List.length_cons]; omega)
theorem writeM_length (D : Dk) (n : Int) (s : Bs) : (writeM D n s).2.sec.length = D.sec.length := by
  unfold writeM
  repeat' split
  all_goals simp
theorem writesM_length {l : List (Int × Bs)} : ∀ {D : Dk}, (writesM l D).2.sec.length = D.sec.length := by
  induction l with
  | nil => intro D; rfl
  | cons x l ih =>
    intro D
    rw [writesM]
    split
    · rw [ih, writeM_length]
    · exact writeM_length ..
end Go.Proofs.Ytkljfampkkfgdaa
