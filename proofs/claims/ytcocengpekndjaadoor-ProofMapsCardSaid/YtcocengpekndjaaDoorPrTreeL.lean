/- Merkle trees over lists of hashes, as plain functions: tops, outer hashes, rebuilding, extensions. SHA-256 as a plain function, in the terms that a walk leaves. What a proof shows: a rebuilt tree hash gives the hashed strings and the outer hashes, if no two strings have one hash. What a proof of an extension shows. -/
import Derived.Laws.BitsAllLaws
namespace Go.Proofs.YtcocengpekndjaaDoor
section
/-- A string of bytes; a hash is one of 32. -/
abbrev Bs := List UInt8
/-- The greatest power of two that is less than n, found by doubling k. -/
def halfL (k n : Nat) : Nat := if h : 0 < k ∧ 2 * k < n then halfL (2 * k) n else k
termination_by n - k
decreasing_by omega
def half (n : Nat) : Nat := halfL 1 n
theorem halfL_step {k n : Nat} (h : 0 < k) (h2 : 2 * k < n) : halfL k n = halfL (2 * k) n := by rw [halfL, dif_pos ⟨h, h2⟩]
theorem halfL_stop {k n : Nat} (h2 : ¬ 2 * k < n) : halfL k n = k := by rw [halfL, dif_neg (fun h => h2 h.2)]
theorem halfL_range (m : Nat) : ∀ (k n : Nat), n - k ≤ m → 0 < k → k < n → k ≤ halfL k n ∧ halfL k n < n := by
  induction m with
  | zero => intro k n h h0 h1; omega
  | succ m ih =>
    intro k n h h0 h1
    by_cases h2 : 2 * k < n
    · rw [halfL_step h0 h2]
      have := ih (2 * k) n (by omega) (by omega) h2
      omega
    · rw [halfL_stop h2]; omega
theorem half_range {n : Nat} (h : 2 ≤ n) : 1 ≤ half n ∧ half n < n := halfL_range n 1 n (by omega) (by decide) (by omega)
section
variable (S : Bs → Bs)
/-- The hash of a leaf; the hash of two hashes. -/
def leafM (s : Bs) : Bs := S (0 :: s)
def joinM (a b : Bs) : Bs := S (1 :: (a ++ b))
/-- The tree hash of hashes of leaves. -/
def topM (l : List Bs) : Bs := if h : 2 ≤ l.length then joinM S (topM (l.take (half l.length))) (topM (l.drop (half l.length))) else (l[0]?).getD (S [])
termination_by l.length
decreasing_by
  · have := half_range h; rw [List.length_take]; omega
  · have := half_range h; rw [List.length_drop]; omega
theorem topM_nil : topM S [] = S [] := by rw [topM]; rfl
theorem topM_one (h : Bs) : topM S [h] = h := by rw [topM]; rfl
theorem topM_two {l : List Bs} (h : 2 ≤ l.length) : topM S l = joinM S (topM S (l.take (half l.length))) (topM S (l.drop (half l.length))) := by rw [topM, dif_pos h]
/-- The outer hashes for the positions from i to j - 1. -/
def visitM (l : List Bs) (i j : Int) : List Bs :=
  if _h : j ≤ 0 ∨ (l.length : Int) ≤ i then [topM S l] else if _h2 : i ≤ 0 ∧ (l.length : Int) ≤ j then [] else
    visitM (l.take (half l.length)) i j ++ visitM (l.drop (half l.length)) (i - (half l.length : Nat)) (j - (half l.length : Nat))
termination_by l.length
decreasing_by
  · have := half_range (n := l.length) (by omega); rw [List.length_take]; omega
  · have := half_range (n := l.length) (by omega); rw [List.length_drop]; omega
theorem visitM_out {l : List Bs} {i j : Int} (h : j ≤ 0 ∨ (l.length : Int) ≤ i) : visitM S l i j = [topM S l] := by rw [visitM, dif_pos h]
theorem visitM_in {l : List Bs} {i j : Int} (h : ¬ (j ≤ 0 ∨ (l.length : Int) ≤ i)) (h2 : i ≤ 0 ∧ (l.length : Int) ≤ j) : visitM S l i j = [] := by rw [visitM, dif_neg h, dif_pos h2]
theorem visitM_two {l : List Bs} {i j : Int} (h : ¬ (j ≤ 0 ∨ (l.length : Int) ≤ i)) (h2 : ¬ (i ≤ 0 ∧ (l.length : Int) ≤ j)) :
    visitM S l i j = visitM S (l.take (half l.length)) i j ++ visitM S (l.drop (half l.length)) (i - (half l.length : Nat)) (j - (half l.length : Nat)) := by rw [visitM, dif_neg h, dif_neg h2]
/-- A path that is read: what is left of it, and whether it was too short. -/
abbrev Rd := List Bs × Bool
def zeroH : Bs := List.replicate 32 0
def nextM : Rd → Bs × Rd
  | ([], _) => (zeroH, ([], true))
  | (h :: p, s) => (h, (p, s))
/-- The tree hash of n leaves, of which those from i on are known; the outer hashes are read. -/
def rebuildM (n : Nat) (i : Int) (known : List Bs) (r : Rd) : Bs × Rd :=
  if _h : i + known.length ≤ 0 ∨ (n : Int) ≤ i then nextM r else if _h2 : i ≤ 0 ∧ (n : Int) ≤ i + known.length then (topM S ((known.drop (-i).toNat).take n), r) else
    let a := rebuildM (half n) i known r
    let b := rebuildM (n - half n) (i - (half n : Nat)) known a.2
    (joinM S a.1 b.1, b.2)
termination_by n
decreasing_by
  · have := half_range (n := n) (by omega); omega
  · have := half_range (n := n) (by omega); omega
theorem rebuildM_out {n : Nat} {i : Int} {known : List Bs} {r : Rd} (h : i + known.length ≤ 0 ∨ (n : Int) ≤ i) : rebuildM S n i known r = nextM r := by rw [rebuildM, dif_pos h]
theorem rebuildM_in {n : Nat} {i : Int} {known : List Bs} {r : Rd} (h : ¬ (i + known.length ≤ 0 ∨ (n : Int) ≤ i)) (h2 : i ≤ 0 ∧ (n : Int) ≤ i + known.length) : rebuildM S n i known r = (topM S ((known.drop (-i).toNat).take n), r) := by rw [rebuildM, dif_neg h, dif_pos h2]
theorem rebuildM_two {n : Nat} {i : Int} {known : List Bs} {r : Rd} (h : ¬ (i + known.length ≤ 0 ∨ (n : Int) ≤ i)) (h2 : ¬ (i ≤ 0 ∧ (n : Int) ≤ i + known.length)) :
    rebuildM S n i known r = (joinM S (rebuildM S (half n) i known r).1 (rebuildM S (n - half n) (i - (half n : Nat)) known (rebuildM S (half n) i known r).2).1, (rebuildM S (n - half n) (i - (half n : Nat)) known (rebuildM S (half n) i known r).2).2) := by
  rw [rebuildM, dif_neg h, dif_neg h2]
/-- The reference's way: the tree hash, and how many hashes were used; none if there are too few. -/
def foldM (n : Nat) (i : Int) (known : List Bs) (path : List Bs) : Option (Bs × Nat) :=
  if _h : i + known.length ≤ 0 ∨ (n : Int) ≤ i ∨ known = [] ∨ n = 0 then (match path with | [] => none | x :: _ => some (x, 1))
  else if _h2 : n = 1 then some ((known[(-i).toNat]?).getD [], 0) else
    match foldM (half n) i known path with
    | none => none
    | some (a, u) => match foldM (n - half n) (i - (half n : Nat)) known (path.drop u) with
      | none => none
      | some (b, v) => some (joinM S a b, u + v)
termination_by n
decreasing_by
  · have := half_range (n := n) (by omega); omega
  · have := half_range (n := n) (by omega); omega
theorem foldM_out {n : Nat} {i : Int} {known path : List Bs} (h : i + known.length ≤ 0 ∨ (n : Int) ≤ i ∨ known = [] ∨ n = 0) : foldM S n i known path = (match path with | [] => none | x :: _ => some (x, 1)) := by rw [foldM.eq_def, dif_pos h]
theorem foldM_one {i : Int} {known path : List Bs} (h : ¬ (i + known.length ≤ 0 ∨ ((1 : Nat) : Int) ≤ i ∨ known = [] ∨ (1 : Nat) = 0)) : foldM S 1 i known path = some ((known[(-i).toNat]?).getD [], 0) := by rw [foldM.eq_def, dif_neg h, dif_pos rfl]
theorem foldM_two {n : Nat} {i : Int} {known path : List Bs} (h : ¬ (i + known.length ≤ 0 ∨ (n : Int) ≤ i ∨ known = [] ∨ n = 0)) (h2 : n ≠ 1) : foldM S n i known path = (match foldM S (half n) i known path with
    | none => none
    | some (a, u) => match foldM S (n - half n) (i - (half n : Nat)) known (path.drop u) with
      | none => none
      | some (b, v) => some (joinM S a b, u + v)) := by rw [foldM.eq_def, dif_neg h, dif_neg h2]
/-- The program's way and the reference's are one. -/
theorem foldM_inside (m : Nat) : ∀ (n : Nat) (i : Int) (known path : List Bs), n ≤ m → ¬ (i + known.length ≤ 0 ∨ (n : Int) ≤ i) → i ≤ 0 → (n : Int) ≤ i + known.length → 0 < n →
    foldM S n i known path = some (topM S ((known.drop (-i).toNat).take n), 0) := by
  induction m with
  | zero => intro n i known path h; omega
  | succ m ih =>
    intro n i known path hn h h1 h2 h0
    have hk : known ≠ [] := by rintro rfl; simp at h; omega
    by_cases e1 : n = 1
    · subst e1
      rw [foldM_one S (by rintro (hh | hh | hh | hh); exact h (.inl hh); exact h (.inr hh); exact hk hh; cases hh)]
      have hl : (-i).toNat < known.length := by omega
      rw [List.getElem?_eq_getElem hl]
      simp only [Option.getD_some, Option.some.injEq, Prod.mk.injEq, and_true]
      rw [List.drop_eq_getElem_cons hl, List.take_succ_cons, List.take_zero, topM_one]
    · rw [foldM_two S (by rintro (hh | hh | hh | hh); exact h (.inl hh); exact h (.inr hh); exact hk hh; omega) e1]
      have hr := half_range (n := n) (by omega)
      rw [ih (half n) i known path (by omega) (by omega) h1 (by omega) (by omega)]
      simp only [List.drop_zero]
      rw [ih (n - half n) (i - (half n : Nat)) known path (by omega) (by omega) (by omega) (by omega) (by omega)]
      have hlen : ((known.drop (-i).toNat).take n).length = n := by rw [List.length_take, List.length_drop]; omega
      rw [topM_two S (l := (known.drop (-i).toNat).take n) (by omega), hlen]
      rw [List.take_take, Nat.min_eq_left (by omega), List.drop_take, List.drop_drop]
      rw [show (-i).toNat + half n = (-(i - (half n : Nat))).toNat from by omega]
theorem rebuild_fold (m : Nat) : ∀ (n : Nat) (i : Int) (known path : List Bs), n ≤ m → 0 < n → known ≠ [] →
    match foldM S n i known path with
    | some (h, u) => rebuildM S n i known (path, false) = (h, (path.drop u, false)) ∧ u ≤ path.length
    | none => (rebuildM S n i known (path, false)).2 = ([], true) := by
  induction m with
  | zero => intro n i known path h h0; omega
  | succ m ih =>
    intro n i known path hn h0 hk
    by_cases c1 : i + known.length ≤ 0 ∨ (n : Int) ≤ i
    · rw [foldM_out S (by omega), rebuildM_out S c1]
      cases path with
      | nil => rfl
      | cons x p => exact ⟨rfl, by simp⟩
    · by_cases c2 : i ≤ 0 ∧ (n : Int) ≤ i + known.length
      · rw [foldM_inside S n n i known path (Nat.le_refl _) c1 c2.1 c2.2 h0, rebuildM_in S c1 c2]
        exact ⟨rfl, Nat.zero_le _⟩
      · have n2 : 2 ≤ n := by omega
        have hr := half_range n2
        rw [foldM_two S (by rintro (hh | hh | hh | hh); exact c1 (.inl hh); exact c1 (.inr hh); exact hk hh; omega) (by omega), rebuildM_two S c1 c2]
        have i1 := ih (half n) i known path (by omega) (by omega) hk
        cases e1 : foldM S (half n) i known path with
        | none =>
          rw [e1] at i1
          simp only at i1 ⊢
          rw [i1]
          exact (rebuild_short (n - half n) _ _ _ (Nat.le_refl _))
        | some r =>
          obtain ⟨a, u⟩ := r
          rw [e1] at i1
          simp only at i1 ⊢
          obtain ⟨i1, u1⟩ := i1
          rw [i1]
          have i2 := ih (n - half n) (i - (half n : Nat)) known (path.drop u) (by omega) (by omega) hk
          cases e2 : foldM S (n - half n) (i - (half n : Nat)) known (path.drop u) with
          | none => rw [e2] at i2; simpa using i2
          | some r =>
            obtain ⟨b, v⟩ := r
            rw [e2] at i2
            simp only at i2 ⊢
            obtain ⟨i2, u2⟩ := i2
            rw [i2, List.drop_drop]
            rw [List.length_drop] at u2
            exact ⟨rfl, by omega⟩
where
  rebuild_short (m : Nat) : ∀ (n : Nat) (i : Int) (known : List Bs), n ≤ m → (rebuildM S n i known ([], true)).2 = ([], true) := by
    induction m with
    | zero =>
      intro n i known h
      obtain rfl : n = 0 := by omega
      by_cases c1 : i + known.length ≤ 0 ∨ ((0 : Nat) : Int) ≤ i
      · rw [rebuildM_out S c1]; rfl
      · rw [rebuildM_in S c1 (by omega)]
    | succ m ih =>
      intro n i known h
      by_cases c1 : i + known.length ≤ 0 ∨ (n : Int) ≤ i
      · rw [rebuildM_out S c1]; rfl
      · by_cases c2 : i ≤ 0 ∧ (n : Int) ≤ i + known.length
        · rw [rebuildM_in S c1 c2]
        · have hr := half_range (n := n) (by omega)
          rw [rebuildM_two S c1 c2]
          show (rebuildM S (n - half n) _ known (rebuildM S (half n) i known ([], true)).2).2 = _
          rw [ih (half n) i known (by omega)]
          exact ih _ _ _ (by omega)
end
section
variable (S : Bs → Bs)
/-- The hashes that show that the first m leaves are the beginning of all. -/
def extendM (l : List Bs) (m : Nat) (whole : Bool) : List Bs :=
  if _h : m = l.length ∨ l.length < 2 then (if whole then [] else [topM S l]) else
    if m ≤ half l.length then extendM (l.take (half l.length)) m whole ++ [topM S (l.drop (half l.length))]
    else extendM (l.drop (half l.length)) (m - half l.length) false ++ [topM S (l.take (half l.length))]
termination_by l.length
decreasing_by
  · have := half_range (n := l.length) (by omega); rw [List.length_take]; omega
  · have := half_range (n := l.length) (by omega); rw [List.length_drop]; omega
theorem extendM_all {l : List Bs} {m : Nat} {whole : Bool} (h : m = l.length) : extendM S l m whole = if whole then [] else [topM S l] := by rw [extendM, dif_pos (.inl h)]
theorem extendM_left {l : List Bs} {m : Nat} {whole : Bool} (h : 2 ≤ l.length) (h1 : m ≤ half l.length) : extendM S l m whole = extendM S (l.take (half l.length)) m whole ++ [topM S (l.drop (half l.length))] := by
  have := half_range h
  rw [extendM, dif_neg (by omega), if_pos h1]
theorem extendM_right {l : List Bs} {m : Nat} {whole : Bool} (h : 2 ≤ l.length) (h1 : ¬ m ≤ half l.length) (h2 : m ≠ l.length) : extendM S l m whole = extendM S (l.drop (half l.length)) (m - half l.length) false ++ [topM S (l.take (half l.length))] := by
  rw [extendM, dif_neg (by omega), if_neg h1]
/-- The tree hashes of the first m of n strings, and of all, as far as a proof states them. -/
def bothM (old : Bs) (m n : Nat) (whole : Bool) (r : Rd) : (Bs × Bs) × Rd :=
  if _h : m = n ∨ n < 2 then (if whole then ((old, old), r) else (((nextM r).1, (nextM r).1), (nextM r).2)) else
    if m ≤ half n then
      let a := bothM old m (half n) whole r
      let x := nextM a.2
      ((a.1.1, joinM S a.1.2 x.1), x.2)
    else
      let a := bothM old (m - half n) (n - half n) false r
      let x := nextM a.2
      ((joinM S x.1 a.1.1, joinM S x.1 a.1.2), x.2)
termination_by n
decreasing_by
  · have := half_range (n := n) (by omega); omega
  · have := half_range (n := n) (by omega); omega
theorem bothM_all {old : Bs} {m n : Nat} {whole : Bool} {r : Rd} (h : m = n) : bothM S old m n whole r = if whole then ((old, old), r) else (((nextM r).1, (nextM r).1), (nextM r).2) := by rw [bothM, dif_pos (.inl h)]
theorem bothM_left {old : Bs} {m n : Nat} {whole : Bool} {r : Rd} (h : 2 ≤ n) (h1 : m ≤ half n) : bothM S old m n whole r =
    (((bothM S old m (half n) whole r).1.1, joinM S (bothM S old m (half n) whole r).1.2 (nextM (bothM S old m (half n) whole r).2).1), (nextM (bothM S old m (half n) whole r).2).2) := by
  have := half_range h
  rw [bothM, dif_neg (by omega), if_pos h1]
theorem bothM_right {old : Bs} {m n : Nat} {whole : Bool} {r : Rd} (h : 2 ≤ n) (h1 : ¬ m ≤ half n) (h2 : m ≠ n) : bothM S old m n whole r =
    ((joinM S (nextM (bothM S old (m - half n) (n - half n) false r).2).1 (bothM S old (m - half n) (n - half n) false r).1.1, joinM S (nextM (bothM S old (m - half n) (n - half n) false r).2).1 (bothM S old (m - half n) (n - half n) false r).1.2), (nextM (bothM S old (m - half n) (n - half n) false r).2).2) := by
  rw [bothM, dif_neg (by omega), if_neg h1]
/-- The reference's way. -/
def grownM (old : Bs) (m n : Nat) (whole : Bool) (path : List Bs) : Option (Bs × Bs × Nat) :=
  if _h : m = n ∨ n < 2 then (if whole then some (old, old, 0) else match path with | [] => none | x :: _ => some (x, x, 1)) else
    if m ≤ half n then
      match grownM old m (half n) whole path with
      | none => none
      | some (a, b, u) => match path[u]? with
        | none => none
        | some x => some (a, joinM S b x, u + 1)
    else
      match grownM old (m - half n) (n - half n) false path with
      | none => none
      | some (a, b, u) => match path[u]? with
        | none => none
        | some x => some (joinM S x a, joinM S x b, u + 1)
termination_by n
decreasing_by
  · have := half_range (n := n) (by omega); omega
  · have := half_range (n := n) (by omega); omega
theorem grownM_all {old : Bs} {m n : Nat} {whole : Bool} {path : List Bs} (h : m = n) : grownM S old m n whole path = if whole then some (old, old, 0) else match path with | [] => none | x :: _ => some (x, x, 1) := by rw [grownM.eq_def, dif_pos (.inl h)]
theorem grownM_left {old : Bs} {m n : Nat} {whole : Bool} {path : List Bs} (h : 2 ≤ n) (h1 : m ≤ half n) : grownM S old m n whole path = (match grownM S old m (half n) whole path with
      | none => none
      | some (a, b, u) => match path[u]? with
        | none => none
        | some x => some (a, joinM S b x, u + 1)) := by
  have := half_range h
  rw [grownM.eq_def, dif_neg (by omega), if_pos h1]
theorem grownM_right {old : Bs} {m n : Nat} {whole : Bool} {path : List Bs} (h : 2 ≤ n) (h1 : ¬ m ≤ half n) (h2 : m ≠ n) : grownM S old m n whole path = (match grownM S old (m - half n) (n - half n) false path with
      | none => none
      | some (a, b, u) => match path[u]? with
        | none => none
        | some x => some (joinM S x a, joinM S x b, u + 1)) := by
  rw [grownM.eq_def, dif_neg (by omega), if_neg h1]
theorem nextM_none (s : Bool) : (nextM ([], s)).2 = ([], true) := rfl
theorem both_grown (k : Nat) : ∀ (old : Bs) (m n : Nat) (whole : Bool) (path : List Bs), n ≤ k → 1 ≤ m → m ≤ n →
    match grownM S old m n whole path with
    | some (a, b, u) => bothM S old m n whole (path, false) = ((a, b), (path.drop u, false)) ∧ u ≤ path.length
    | none => (bothM S old m n whole (path, false)).2 = ([], true) := by
  induction k with
  | zero => intro old m n whole path h h0 h1; omega
  | succ k ih =>
    intro old m n whole path hk h0 h1
    by_cases e : m = n
    · rw [grownM_all S e, bothM_all S e]
      cases whole with
      | true => exact ⟨rfl, Nat.zero_le _⟩
      | false =>
        cases path with
        | nil => rfl
        | cons x p => exact ⟨rfl, by simp⟩
    · have n2 : 2 ≤ n := by omega
      have hr := half_range n2
      by_cases c : m ≤ half n
      · have i := ih old m (half n) whole path (by omega) h0 c
        rw [grownM_left S n2 c, bothM_left S n2 c]
        cases e1 : grownM S old m (half n) whole path with
        | none => rw [e1] at i; simp only at i ⊢; rw [i]; rfl
        | some r =>
          obtain ⟨a, b, u⟩ := r
          rw [e1] at i
          simp only at i ⊢
          obtain ⟨i, u1⟩ := i
          rw [i]
          by_cases hu : u < path.length
          · rw [List.getElem?_eq_getElem hu, List.drop_eq_getElem_cons hu]
            exact ⟨rfl, hu⟩
          · rw [List.getElem?_eq_none (by omega), List.drop_eq_nil_of_le (by omega)]; rfl
      · have i := ih old (m - half n) (n - half n) false path (by omega) (by omega) (by omega)
        rw [grownM_right S n2 c e, bothM_right S n2 c e]
        cases e1 : grownM S old (m - half n) (n - half n) false path with
        | none => rw [e1] at i; simp only at i ⊢; rw [i]; rfl
        | some r =>
          obtain ⟨a, b, u⟩ := r
          rw [e1] at i
          simp only at i ⊢
          obtain ⟨i, u1⟩ := i
          rw [i]
          by_cases hu : u < path.length
          · rw [List.getElem?_eq_getElem hu, List.drop_eq_getElem_cons hu]
            exact ⟨rfl, hu⟩
          · rw [List.getElem?_eq_none (by omega), List.drop_eq_nil_of_le (by omega)]; rfl
end
end
section
def w32 (x : Int) : Int := IntKind.u32.wrap x
def xr (a b : Int) : Int := bits .xor .u32 a b
def an (a b : Int) : Int := bits .and .u32 a b
def og (a b : Int) : Int := bits .or .u32 a b
/-- A word is less than 2^32. -/
def Wd (x : Int) : Prop := 0 ≤ x ∧ x < 4294967296
theorem wd_w32 (x : Int) : Wd (w32 x) := by unfold Wd w32; rw [IntKind.wrap_u32']; omega
theorem wd_bits (o : BinOp) (a b : Int) (h : ∃ c, bits o .u32 a b = IntKind.u32.wrap c) : Wd (bits o .u32 a b) := by obtain ⟨c, h⟩ := h; rw [h]; exact wd_w32 c
theorem wd_xr (a b : Int) : Wd (xr a b) := wd_bits _ _ _ ⟨_, rfl⟩
theorem wd_an (a b : Int) : Wd (an a b) := wd_bits _ _ _ ⟨_, rfl⟩
theorem wd_og (a b : Int) : Wd (og a b) := wd_bits _ _ _ ⟨_, rfl⟩
theorem og_comm (a b : Int) : og a b = og b a := by
  show IntKind.u32.wrap ((BitVec.ofInt 32 a ||| BitVec.ofInt 32 b).toNat : Int) = IntKind.u32.wrap ((BitVec.ofInt 32 b ||| BitVec.ofInt 32 a).toNat : Int)
  rw [BitVec.or_comm]
/-- A word, rotated to the right. -/
def rotr (n : Nat) (x : Int) : Int := og (x / 2 ^ n) (w32 (x * 2 ^ (32 - n)))
theorem wd_rotr (n : Nat) (x : Int) : Wd (rotr n x) := wd_og _ _
def sg0 (x : Int) : Int := xr (xr (rotr 7 x) (rotr 18 x)) (x / 2 ^ 3)
def sg1 (x : Int) : Int := xr (xr (rotr 17 x) (rotr 19 x)) (x / 2 ^ 10)
def bg1 (x : Int) : Int := xr (xr (rotr 6 x) (rotr 11 x)) (rotr 25 x)
def bg0 (x : Int) : Int := xr (xr (rotr 2 x) (rotr 13 x)) (rotr 22 x)
def nt (x : Int) : Int := bits .xor .u32 IntKind.u32.max x
def chM (e f g : Int) : Int := xr (an e f) (an (nt e) g)
def mjM (a b c : Int) : Int := xr (xr (an a b) (an a c)) (an b c)
/-- One round. -/
def t1M (k w e f g h : Int) : Int := (h + bg1 e + chM e f g + k + w) % 4294967296
def t2M (a b c : Int) : Int := (bg0 a + mjM a b c) % 4294967296
def rnd (k w : Int) : List Int → List Int
  | [a, b, c, d, e, f, g, h] => [w32 (t1M k w e f g h + t2M a b c), a, b, c, w32 (d + t1M k w e f g h), e, f, g]
  | l => l
/-- A byte of a string, as a number. -/
def byt (s : Bs) (i : Nat) : Int := ((s.getD i 0).toNat : Int)
/-- A word of a chunk. -/
def wordM (s : Bs) (i : Nat) : Int := og (og (og (w32 (byt s (4 * i) * 2 ^ 24)) (w32 (byt s (4 * i + 1) * 2 ^ 16))) (w32 (byt s (4 * i + 2) * 2 ^ 8))) (byt s (4 * i + 3))
/-- The words of the rounds: the first sixteen; the others. -/
def fillM (s : Bs) : Nat → List Int
  | 0 => List.replicate 64 0
  | k + 1 => (fillM s k).set k (wordM s k)
def nextW (l : List Int) (i : Nat) : Int := w32 (w32 (w32 (l.getD (i - 16) 0 + sg0 (l.getD (i - 15) 0)) + l.getD (i - 7) 0) + sg1 (l.getD (i - 2) 0))
def schedM (s : Bs) : Nat → List Int
  | 0 => fillM s 16
  | k + 1 => (schedM s k).set (16 + k) (nextW (schedM s k) (16 + k))
/-- The state after some rounds. -/
def roundsM (ks ws x : List Int) : Nat → List Int
  | 0 => x
  | k + 1 => rnd (ks.getD k 0) (ws.getD k 0) (roundsM ks ws x k)
/-- The constants of the rounds; the first state. -/
def kM : List Int := [0x428a2f98, 0x71374491, 0xb5c0fbcf, 0xe9b5dba5, 0x3956c25b, 0x59f111f1, 0x923f82a4, 0xab1c5ed5,
  0xd807aa98, 0x12835b01, 0x243185be, 0x550c7dc3, 0x72be5d74, 0x80deb1fe, 0x9bdc06a7, 0xc19bf174,
  0xe49b69c1, 0xefbe4786, 0x0fc19dc6, 0x240ca1cc, 0x2de92c6f, 0x4a7484aa, 0x5cb0a9dc, 0x76f988da,
  0x983e5152, 0xa831c66d, 0xb00327c8, 0xbf597fc7, 0xc6e00bf3, 0xd5a79147, 0x06ca6351, 0x14292967,
  0x27b70a85, 0x2e1b2138, 0x4d2c6dfc, 0x53380d13, 0x650a7354, 0x766a0abb, 0x81c2c92e, 0x92722c85,
  0xa2bfe8a1, 0xa81a664b, 0xc24b8b70, 0xc76c51a3, 0xd192e819, 0xd6990624, 0xf40e3585, 0x106aa070,
  0x19a4c116, 0x1e376c08, 0x2748774c, 0x34b0bcb5, 0x391c0cb3, 0x4ed8aa4a, 0x5b9cca4f, 0x682e6ff3,
  0x748f82ee, 0x78a5636f, 0x84c87814, 0x8cc70208, 0x90befffa, 0xa4506ceb, 0xbef9a3f7, 0xc67178f2]
def hM : List Int := [0x6a09e667, 0xbb67ae85, 0x3c6ef372, 0xa54ff53a, 0x510e527f, 0x9b05688c, 0x1f83d9ab, 0x5be0cd19]
/-- Two states, added. -/
def addM (x y : List Int) : List Int := List.zipWith (fun a b => w32 (a + b)) x y
/-- The state after a chunk. -/
def compM (x : List Int) (s : Bs) : List Int := addM (roundsM kM (schedM s 48) x 64) x
/-- The state after all chunks of a string. -/
def hashM (x : List Int) (s : Bs) : List Int := if _h : 64 ≤ s.length then hashM (compM x (s.take 64)) (s.drop 64) else x
termination_by s.length
decreasing_by rw [List.length_drop]; omega
theorem hashM_more {x : List Int} {s : Bs} (h : 64 ≤ s.length) : hashM x s = hashM (compM x (s.take 64)) (s.drop 64) := by rw [hashM, dif_pos h]
theorem hashM_done {x : List Int} {s : Bs} (h : ¬ 64 ≤ s.length) : hashM x s = x := by rw [hashM, dif_neg h]
theorem hashM_append (k : Nat) : ∀ (x : List Int) (a b : Bs), a.length = 64 * k → hashM x (a ++ b) = hashM (hashM x a) b := by
  induction k with
  | zero =>
    intro x a b h
    obtain rfl : a = [] := List.length_eq_zero_iff.1 (by omega)
    rw [List.nil_append, hashM_done (s := []) (by simp)]
  | succ k ih =>
    intro x a b h
    rw [hashM_more (s := a ++ b) (by rw [List.length_append]; omega), hashM_more (s := a) (by omega), List.take_append_of_le_length (by omega), List.drop_append_of_le_length (by omega)]
    exact ih _ _ _ (by rw [List.length_drop]; omega)
/-- A number as eight bytes. -/
def eightM (n : Int) : Bs := [(n / 2 ^ 56 % 256).toNat.toUInt8, (n / 2 ^ 48 % 256).toNat.toUInt8, (n / 2 ^ 40 % 256).toNat.toUInt8, (n / 2 ^ 32 % 256).toNat.toUInt8, (n / 2 ^ 24 % 256).toNat.toUInt8, (n / 2 ^ 16 % 256).toNat.toUInt8, (n / 2 ^ 8 % 256).toNat.toUInt8, (n % 256).toNat.toUInt8]
theorem eightM_length (n : Int) : (eightM n).length = 8 := rfl
/-- What is hashed for a string. -/
def padM (s : Bs) : Bs := s ++ (128 :: (List.replicate ((119 - s.length % 64) % 64) 0 ++ eightM (8 * s.length)))
theorem padM_length (s : Bs) : ∃ k, (padM s).length = 64 * k := by
  refine ⟨(s.length + 9 + (119 - s.length % 64) % 64) / 64, ?_⟩
  simp only [padM, List.length_append, List.length_cons, List.length_replicate, eightM_length]
  omega
/-- The bytes of words. -/
def bytesM (l : List Int) : Bs := l.flatMap fun x => [(x / 2 ^ 24 % 256).toNat.toUInt8, (x / 2 ^ 16 % 256).toNat.toUInt8, (x / 2 ^ 8 % 256).toNat.toUInt8, (x % 256).toNat.toUInt8]
/-- SHA-256. -/
def sha (s : Bs) : Bs := bytesM (hashM hM (padM s))
theorem addM_comm (x y : List Int) : addM x y = addM y x := by
  unfold addM
  rw [List.zipWith_comm]
  congr 1
  funext a b
  rw [Int.add_comm]
theorem fillM_length (s : Bs) (k : Nat) : (fillM s k).length = 64 := by
  induction k with
  | zero => rfl
  | succ k ih => simpa [fillM] using ih
theorem schedM_length (s : Bs) (k : Nat) : (schedM s k).length = 64 := by
  induction k with
  | zero => exact fillM_length s 16
  | succ k ih => simpa [schedM] using ih
/-- Eight words. -/
def St (x : List Int) : Prop := x.length = 8 ∧ ∀ y ∈ x, Wd y
theorem rnd_st (k w : Int) {x : List Int} (h : St x) : St (rnd k w x) := by
  obtain ⟨h1, h2⟩ := h
  match x, h1 with
  | [a, b, c, d, e, f, g, h'], _ =>
    refine ⟨rfl, fun y hy => ?_⟩
    simp only [rnd, List.mem_cons, List.not_mem_nil, or_false] at hy
    rcases hy with rfl | rfl | rfl | rfl | rfl | rfl | rfl | rfl
    · exact wd_w32 _
    · exact h2 _ (by simp)
    · exact h2 _ (by simp)
    · exact h2 _ (by simp)
    · exact wd_w32 _
    · exact h2 _ (by simp)
    · exact h2 _ (by simp)
    · exact h2 _ (by simp)
theorem roundsM_st (ks ws : List Int) {x : List Int} (h : St x) (k : Nat) : St (roundsM ks ws x k) := by
  induction k with
  | zero => exact h
  | succ k ih => exact rnd_st _ _ ih
theorem mem_zip {x y : List Int} {z : Int} (h : z ∈ List.zipWith (fun a b => w32 (a + b)) x y) : Wd z := by
  induction x generalizing y with
  | nil => simp at h
  | cons a x ih =>
    cases y with
    | nil => simp at h
    | cons b y =>
      rw [List.zipWith_cons_cons] at h
      rcases List.mem_cons.1 h with rfl | h
      · exact wd_w32 _
      · exact ih h
theorem addM_st {x y : List Int} (h : St x) (h' : St y) : St (addM x y) := by
  refine ⟨by simp [addM, h.1, h'.1], fun z hz => ?_⟩
  unfold addM at hz
  exact mem_zip hz
theorem compM_st {x : List Int} (h : St x) (s : Bs) : St (compM x s) := addM_st (roundsM_st _ _ h _) h
theorem hashM_st (k : Nat) : ∀ {x : List Int} (s : Bs), s.length ≤ k → St x → St (hashM x s) := by
  induction k with
  | zero => intro x s hs h; rw [hashM_done (by omega)]; exact h
  | succ k ih =>
    intro x s hs h
    by_cases h2 : 64 ≤ s.length
    · rw [hashM_more h2]; exact ih _ (by rw [List.length_drop]; omega) (compM_st h _)
    · rw [hashM_done h2]; exact h
theorem hM_st : St hM := ⟨rfl, by unfold Wd; decide⟩
theorem sha_length (s : Bs) : (sha s).length = 32 := by
  have h := (hashM_st _ (padM s) (Nat.le_refl _) hM_st).1
  unfold sha
  generalize hashM hM (padM s) = l at h
  match l, h with
  | [a, b, c, d, e, f, g, h'], _ => rfl
theorem wd_byt (s : Bs) (i : Nat) : 0 ≤ byt s i ∧ byt s i < 256 := by
  unfold byt
  have := (s.getD i 0).toNat_lt
  omega
theorem wordM_wd (s : Bs) (i : Nat) : Wd (wordM s i) := wd_og _ _
theorem fillM_wd (s : Bs) (k : Nat) : ∀ x ∈ fillM s k, Wd x := by
  induction k with
  | zero => intro x hx; rw [List.eq_of_mem_replicate hx]; exact ⟨by decide, by decide⟩
  | succ k ih => intro x hx; exact (List.mem_or_eq_of_mem_set hx).elim (ih x) fun e => e ▸ wordM_wd s k
theorem schedM_wd (s : Bs) (k : Nat) : ∀ x ∈ schedM s k, Wd x := by
  induction k with
  | zero => exact fillM_wd s 16
  | succ k ih => intro x hx; exact (List.mem_or_eq_of_mem_set hx).elim (ih x) fun e => e ▸ wd_w32 _
end
section
section
variable (S : Bs → Bs)
/-- Two strings of a list have one hash. -/
def ClashL (T : List Bs) : Prop := ∃ a ∈ T, ∃ b ∈ T, S a = S b ∧ a ≠ b
theorem ClashL.mono {S : Bs → Bs} {T T' : List Bs} (h : ClashL S T) (hs : ∀ x ∈ T, x ∈ T') : ClashL S T' := by
  obtain ⟨a, ha, b, hb, h⟩ := h; exact ⟨a, hs a ha, b, hs b hb, h⟩
theorem clash_eq {S : Bs → Bs} {T : List Bs} (h : ¬ ClashL S T) {a b : Bs} (ha : a ∈ T) (hb : b ∈ T) (e : S a = S b) : a = b := by
  by_cases h2 : a = b
  · exact h2
  · exact (h ⟨a, ha, b, hb, e, h2⟩).elim
/-- The tree hash of a list. -/
def treeM (l : List Bs) : Bs := topM S (l.map (leafM S))
theorem treeM_two {l : List Bs} (h : 2 ≤ l.length) : treeM S l = joinM S (treeM S (l.take (half l.length))) (treeM S (l.drop (half l.length))) := by
  unfold treeM
  rw [topM_two S (by simpa using h), List.length_map, List.map_take, List.map_drop]
/-- The strings whose hashes a tree hash involves. -/
def treeT (l : List Bs) : List Bs := if _h : 2 ≤ l.length then treeT (l.take (half l.length)) ++ treeT (l.drop (half l.length)) ++ [1 :: (treeM S (l.take (half l.length)) ++ treeM S (l.drop (half l.length)))] else [match l with | [] => [] | s :: _ => 0 :: s]
termination_by l.length
decreasing_by
  · have := half_range _h; rw [List.length_take]; omega
  · have := half_range _h; rw [List.length_drop]; omega
theorem treeT_one (s : Bs) : treeT S [s] = [0 :: s] := by rw [treeT]; rfl
theorem treeT_nil : treeT S [] = [[]] := by rw [treeT]; rfl
theorem treeT_two {l : List Bs} (h : 2 ≤ l.length) : treeT S l = treeT S (l.take (half l.length)) ++ treeT S (l.drop (half l.length)) ++ [1 :: (treeM S (l.take (half l.length)) ++ treeM S (l.drop (half l.length)))] := by rw [treeT, dif_pos h]
/-- The strings that a rebuilding hashes. -/
def foldT (n : Nat) (i : Int) (inside path : List Bs) : List Bs :=
  if _h : i + inside.length ≤ 0 ∨ (n : Int) ≤ i ∨ inside = [] ∨ n = 0 then [] else if _h2 : n = 1 then [0 :: (inside[(-i).toNat]?).getD []] else
    match foldM S (half n) i (inside.map (leafM S)) path with
    | none => []
    | some (a, u) => match foldM S (n - half n) (i - (half n : Nat)) (inside.map (leafM S)) (path.drop u) with
      | none => []
      | some (b, _) => foldT (half n) i inside path ++ foldT (n - half n) (i - (half n : Nat)) inside (path.drop u) ++ [1 :: (a ++ b)]
termination_by n
decreasing_by
  · have := half_range (n := n) (by omega); omega
  · have := half_range (n := n) (by omega); omega
theorem foldT_out {n : Nat} {i : Int} {inside path : List Bs} (h : i + inside.length ≤ 0 ∨ (n : Int) ≤ i ∨ inside = [] ∨ n = 0) : foldT S n i inside path = [] := by rw [foldT, dif_pos h]
theorem foldT_one {i : Int} {inside path : List Bs} (h : ¬ (i + inside.length ≤ 0 ∨ ((1 : Nat) : Int) ≤ i ∨ inside = [] ∨ (1 : Nat) = 0)) : foldT S 1 i inside path = [0 :: (inside[(-i).toNat]?).getD []] := by rw [foldT, dif_neg h, dif_pos rfl]
theorem foldT_two {n : Nat} {i : Int} {inside path : List Bs} (h : ¬ (i + inside.length ≤ 0 ∨ (n : Int) ≤ i ∨ inside = [] ∨ n = 0)) (h2 : n ≠ 1) : foldT S n i inside path =
    match foldM S (half n) i (inside.map (leafM S)) path with
    | none => []
    | some (a, u) => match foldM S (n - half n) (i - (half n : Nat)) (inside.map (leafM S)) (path.drop u) with
      | none => []
      | some (b, _) => foldT S (half n) i inside path ++ foldT S (n - half n) (i - (half n : Nat)) inside (path.drop u) ++ [1 :: (a ++ b)] := by rw [foldT, dif_neg h, dif_neg h2]
variable (hS : ∀ s, (S s).length = 32)
include hS
theorem topM_length {l : List Bs} (h : ∀ x ∈ l, x.length = 32) : (topM S l).length = 32 := by
  by_cases h2 : 2 ≤ l.length
  · rw [topM_two S h2]; exact hS _
  · match l with
    | [] => rw [topM_nil]; exact hS _
    | [x] => rw [topM_one]; exact h x List.mem_cons_self
    | x :: y :: l => simp at h2
theorem treeM_length (l : List Bs) : (treeM S l).length = 32 := topM_length S hS fun x hx => by obtain ⟨s, _, rfl⟩ := List.mem_map.1 hx; exact hS _
theorem foldM_length (m : Nat) : ∀ (n : Nat) (i : Int) (known path : List Bs), n ≤ m → (∀ x ∈ known, x.length = 32) → (∀ x ∈ path, x.length = 32) → ∀ h u, foldM S n i known path = some (h, u) → h.length = 32 := by
  induction m with
  | zero =>
    intro n i known path hn hk hp h u e
    rw [foldM_out S (by omega)] at e
    cases path with
    | nil => cases e
    | cons x p => cases e; exact hp _ List.mem_cons_self
  | succ m ih =>
    intro n i known path hn hk hp h u e
    by_cases c : i + known.length ≤ 0 ∨ (n : Int) ≤ i ∨ known = [] ∨ n = 0
    · rw [foldM_out S c] at e
      cases path with
      | nil => cases e
      | cons x p => cases e; exact hp _ List.mem_cons_self
    · by_cases e1 : n = 1
      · subst e1
        rw [foldM_one S c] at e
        cases e
        have hl : (-i).toNat < known.length := by omega
        rw [List.getElem?_eq_getElem hl]; exact hk _ (List.getElem_mem hl)
      · rw [foldM_two S c e1] at e
        split at e
        · cases e
        · split at e
          · cases e
          · cases e; exact hS _
/-- A rebuilt tree hash that is the one of a list: the known strings are the list's, and the hashes that were read are the outer ones. -/
theorem fold_inj (m : Nat) : ∀ (l : List Bs) (i : Int) (inside path : List Bs) (u : Nat), l.length ≤ m → 1 ≤ l.length → inside ≠ [] → (∀ x ∈ path, x.length = 32) →
    foldM S l.length i (inside.map (leafM S)) path = some (treeM S l, u) → ¬ ClashL S (treeT S l ++ foldT S l.length i inside path) →
    (∀ p : Nat, p < l.length → i ≤ p → (p : Int) < i + inside.length → inside[((p : Int) - i).toNat]? = l[p]?) ∧ path.take u = visitM S (l.map (leafM S)) i (i + inside.length) := by
  induction m with
  | zero => intro l i inside path u h h1; omega
  | succ m ih =>
    intro l i inside path u hm h1 hne hp hf hc
    by_cases c : i + inside.length ≤ 0 ∨ (l.length : Int) ≤ i
    · rw [foldM_out S (by rw [List.length_map]; omega)] at hf
      rw [visitM_out S (by rw [List.length_map]; exact c)]
      cases path with
      | nil => cases hf
      | cons x p =>
        simp only [Option.some.injEq, Prod.mk.injEq] at hf
        obtain ⟨rfl, rfl⟩ := hf
        exact ⟨fun p h2 h3 h4 => by omega, rfl⟩
    · have c' : ¬ (i + (inside.map (leafM S)).length ≤ 0 ∨ (l.length : Int) ≤ i ∨ inside.map (leafM S) = [] ∨ l.length = 0) := by
        rw [List.length_map, List.map_eq_nil_iff]; rintro (h | h | h | h)
        · exact c (.inl h)
        · exact c (.inr h)
        · exact hne h
        · omega
      have c'' : ¬ (i + inside.length ≤ 0 ∨ (l.length : Int) ≤ i ∨ inside = [] ∨ l.length = 0) := by
        rintro (h | h | h | h)
        · exact c (.inl h)
        · exact c (.inr h)
        · exact hne h
        · omega
      by_cases e1 : l.length = 1
      · match l, e1 with
        | [s], _ =>
          rw [show [s].length = 1 from rfl] at hf hc c' c'' c
          rw [foldM_one S c'] at hf
          rw [foldT_one S c'', treeT_one] at hc
          have hl : (-i).toNat < inside.length := by omega
          simp only [Option.some.injEq, Prod.mk.injEq, List.getElem?_map, List.getElem?_eq_getElem hl, Option.map_some, Option.getD_some] at hf
          obtain ⟨hf, rfl⟩ := hf
          rw [List.getElem?_eq_getElem hl, Option.getD_some] at hc
          have e := clash_eq hc (a := 0 :: inside[(-i).toNat]) (b := 0 :: s) (by simp) (by simp) (by rw [show S (0 :: s) = treeM S [s] from by simp [treeM, topM_one, leafM]]; exact hf)
          refine ⟨fun p h2 h3 h4 => ?_, ?_⟩
          · obtain rfl : p = 0 := by simpa using h2
            rw [show (((0 : Nat) : Int) - i).toNat = (-i).toNat from by omega, List.getElem?_eq_getElem hl]
            simp only [List.cons.injEq, true_and] at e
            rw [e]; rfl
          · rw [visitM_in S (by simpa using c) (by simp; omega)]; rfl
      · have n2 : 2 ≤ l.length := by omega
        have hr := half_range n2
        rw [foldM_two S c' e1] at hf
        rw [foldT_two S c'' e1, treeT_two S n2] at hc
        have lt : (l.take (half l.length)).length = half l.length := by rw [List.length_take]; omega
        have ld : (l.drop (half l.length)).length = l.length - half l.length := by rw [List.length_drop]
        cases ea : foldM S (half l.length) i (inside.map (leafM S)) path with
        | none => rw [ea] at hf; cases hf
        | some r =>
          obtain ⟨a, v⟩ := r
          rw [ea] at hf hc
          simp only at hf hc
          cases eb : foldM S (l.length - half l.length) (i - (half l.length : Nat)) (inside.map (leafM S)) (path.drop v) with
          | none => rw [eb] at hf; cases hf
          | some r =>
            obtain ⟨b, v2⟩ := r
            rw [eb] at hf hc
            simp only [Option.some.injEq, Prod.mk.injEq] at hf hc
            obtain ⟨hf, rfl⟩ := hf
            rw [treeM_two S n2] at hf
            have hkn : ∀ x ∈ inside.map (leafM S), x.length = 32 := fun x hx => by obtain ⟨s, _, rfl⟩ := List.mem_map.1 hx; exact hS _
            have la := foldM_length S hS _ _ _ _ _ (Nat.le_refl _) hkn hp _ _ ea
            have lA := treeM_length S hS (l.take (half l.length))
            have ej := clash_eq hc (a := 1 :: (a ++ b)) (b := 1 :: (treeM S (l.take (half l.length)) ++ treeM S (l.drop (half l.length)))) (by simp) (by simp) hf
            simp only [List.cons.injEq, true_and] at ej
            obtain ⟨rfl, rfl⟩ := List.append_inj ej (by rw [la, lA])
            obtain ⟨p1, q1⟩ := ih (l.take (half l.length)) i inside path v (by omega) (by omega) hne hp (by rw [lt]; exact ea) (fun hh => hc (hh.mono fun x hx => by
              rw [lt] at hx
              rcases List.mem_append.1 hx with hx | hx
              · simp [hx]
              · simp [hx]))
            obtain ⟨p2, q2⟩ := ih (l.drop (half l.length)) (i - (half l.length : Nat)) inside (path.drop v) v2 (by omega) (by omega) hne (fun x hx => hp x (List.mem_of_mem_drop hx)) (by rw [ld]; exact eb) (fun hh => hc (hh.mono fun x hx => by
              rw [ld] at hx
              rcases List.mem_append.1 hx with hx | hx
              · simp [hx]
              · simp [hx]))
            refine ⟨fun p h2 h3 h4 => ?_, ?_⟩
            · by_cases hh : p < half l.length
              · have := p1 p (by omega) h3 h4
                rw [this, List.getElem?_take, if_pos hh]
              · have := p2 (p - half l.length) (by omega) (by omega) (by omega)
                rw [List.getElem?_drop] at this
                rw [show half l.length + (p - half l.length) = p from by omega] at this
                rw [← this]
                congr 1
                omega
            · rw [List.take_add, q1, q2]
              by_cases ci : i ≤ 0 ∧ (l.length : Int) ≤ i + inside.length
              · rw [visitM_in S (l := l.map (leafM S)) (by rw [List.length_map]; exact c) (by rw [List.length_map]; exact ci)]
                rw [visitM_in S (l := (l.take (half l.length)).map (leafM S)) (by rw [List.length_map, lt]; omega) (by rw [List.length_map, lt]; omega), visitM_in S (l := (l.drop (half l.length)).map (leafM S)) (by rw [List.length_map, ld]; omega) (by rw [List.length_map, ld]; omega)]
                rfl
              · rw [visitM_two S (l := l.map (leafM S)) (by rw [List.length_map]; exact c) (by rw [List.length_map]; exact ci), List.length_map, List.map_take, List.map_drop]
                rw [show i - (half l.length : Nat) + (inside.length : Int) = i + inside.length - (half l.length : Nat) from by omega]
omit hS in
/-- How many hashes are read depends on the numbers alone. -/
theorem fold_used (m : Nat) : ∀ (n : Nat) (i : Int) (known known' path path' : List Bs) (h : Bs) (u : Nat) (h' : Bs) (u' : Nat), n ≤ m → known.length = known'.length →
    foldM S n i known path = some (h, u) → foldM S n i known' path' = some (h', u') → u = u' := by
  induction m with
  | zero =>
    intro n i known known' path path' h u h' u' hn hl e e'
    rw [foldM_out S (by omega)] at e e'
    cases path with
    | nil => cases e
    | cons x p =>
      cases path' with
      | nil => cases e'
      | cons x p => cases e; cases e'; rfl
  | succ m ih =>
    intro n i known known' path path' h u h' u' hn hl e e'
    have hnil : known = [] ↔ known' = [] := by rw [← List.length_eq_zero_iff, ← List.length_eq_zero_iff, hl]
    by_cases c : i + known.length ≤ 0 ∨ (n : Int) ≤ i ∨ known = [] ∨ n = 0
    · rw [foldM_out S c] at e
      rw [hl, hnil] at c
      rw [foldM_out S c] at e'
      cases path with
      | nil => cases e
      | cons x p =>
        cases path' with
        | nil => cases e'
        | cons x p => cases e; cases e'; rfl
    · have c' := c
      rw [hl, hnil] at c'
      by_cases e1 : n = 1
      · subst e1
        rw [foldM_one S c] at e
        rw [foldM_one S c'] at e'
        cases e; cases e'; rfl
      · have hr := half_range (n := n) (by omega)
        rw [foldM_two S c e1] at e
        rw [foldM_two S c' e1] at e'
        cases ea : foldM S (half n) i known path with
        | none => rw [ea] at e; cases e
        | some r =>
          cases ea' : foldM S (half n) i known' path' with
          | none => rw [ea'] at e'; cases e'
          | some r' =>
            obtain ⟨a, v⟩ := r
            obtain ⟨a', v'⟩ := r'
            rw [ea] at e
            rw [ea'] at e'
            simp only at e e'
            have q1 := ih _ _ _ _ _ _ _ _ _ _ (by omega) hl ea ea'
            cases eb : foldM S (n - half n) (i - (half n : Nat)) known (path.drop v) with
            | none => rw [eb] at e; cases e
            | some r =>
              cases eb' : foldM S (n - half n) (i - (half n : Nat)) known' (path'.drop v') with
              | none => rw [eb'] at e'; cases e'
              | some r' =>
                obtain ⟨b, v2⟩ := r
                obtain ⟨b', v2'⟩ := r'
                rw [eb] at e
                rw [eb'] at e'
                have q2 := ih _ _ _ _ _ _ _ _ _ _ (by omega) hl eb eb'
                simp only [Option.some.injEq, Prod.mk.injEq] at e e'
                omega
omit hS in
/-- The outer hashes rebuild the tree hash. -/
theorem fold_visit (m : Nat) : ∀ (l : List Bs) (i : Int) (known rest : List Bs), l.length ≤ m → 1 ≤ l.length → known ≠ [] →
    (∀ p : Nat, p < l.length → i ≤ p → (p : Int) < i + known.length → known[((p : Int) - i).toNat]? = l[p]?) →
    foldM S l.length i known (visitM S l i (i + known.length) ++ rest) = some (topM S l, (visitM S l i (i + known.length)).length) := by
  induction m with
  | zero => intro l i known rest h h1; omega
  | succ m ih =>
    intro l i known rest hm h1 hne hk
    by_cases c : i + known.length ≤ 0 ∨ (l.length : Int) ≤ i
    · rw [foldM_out S (by omega), visitM_out S c]; rfl
    · have c' : ¬ (i + known.length ≤ 0 ∨ (l.length : Int) ≤ i ∨ known = [] ∨ l.length = 0) := by
        rintro (h | h | h | h)
        · exact c (.inl h)
        · exact c (.inr h)
        · exact hne h
        · omega
      by_cases e1 : l.length = 1
      · match l, e1 with
        | [s], _ =>
          rw [visitM_in S c (by simp at c ⊢; omega)]
          have hl : (-i).toNat < known.length := by simp at c; omega
          have := hk 0 (by simp) (by simp at c ⊢; omega) (by simp at c ⊢; omega)
          rw [show (((0 : Nat) : Int) - i).toNat = (-i).toNat from by omega] at this
          rw [show [s].length = 1 from rfl, foldM_one S c', this, topM_one]; rfl
      · have n2 : 2 ≤ l.length := by omega
        have hr := half_range n2
        have lt : (l.take (half l.length)).length = half l.length := by rw [List.length_take]; omega
        have ld : (l.drop (half l.length)).length = l.length - half l.length := by rw [List.length_drop]
        have k1 : ∀ p : Nat, p < (l.take (half l.length)).length → i ≤ p → (p : Int) < i + known.length → known[((p : Int) - i).toNat]? = (l.take (half l.length))[p]? := fun p h2 h3 h4 => by
          rw [lt] at h2
          rw [List.getElem?_take, if_pos h2]; exact hk p (by omega) h3 h4
        have k2 : ∀ p : Nat, p < (l.drop (half l.length)).length → i - (half l.length : Nat) ≤ p → (p : Int) < i - (half l.length : Nat) + known.length → known[((p : Int) - (i - (half l.length : Nat))).toNat]? = (l.drop (half l.length))[p]? := fun p h2 h3 h4 => by
          rw [ld] at h2
          rw [List.getElem?_drop, ← hk (half l.length + p) (by omega) (by omega) (by omega)]
          congr 1
          omega
        have split : visitM S l i (i + known.length) = visitM S (l.take (half l.length)) i (i + known.length) ++ visitM S (l.drop (half l.length)) (i - (half l.length : Nat)) (i - (half l.length : Nat) + known.length) := by
          by_cases ci : i ≤ 0 ∧ (l.length : Int) ≤ i + known.length
          · rw [visitM_in S c ci, visitM_in S (by rw [lt]; omega) (by rw [lt]; omega), visitM_in S (by rw [ld]; omega) (by rw [ld]; omega)]; rfl
          · rw [visitM_two S c ci, show i - (half l.length : Nat) + (known.length : Int) = i + known.length - (half l.length : Nat) from by omega]
        have r1 := ih (l.take (half l.length)) i known (visitM S (l.drop (half l.length)) (i - (half l.length : Nat)) (i - (half l.length : Nat) + known.length) ++ rest) (by omega) (by omega) hne k1
        have r2 := ih (l.drop (half l.length)) (i - (half l.length : Nat)) known rest (by omega) (by omega) hne k2
        rw [lt] at r1
        rw [ld] at r2
        rw [foldM_two S c' e1, split, List.append_assoc, r1]
        simp only
        rw [List.drop_left, r2, topM_two S n2]
        simp
end
end
section
theorem halfL_mid (d : Nat) : ∀ (j n m k : Nat), n - j ≤ d → 0 < j → halfL j n = k → k < m → m ≤ n → halfL j m = k := by
  induction d with
  | zero =>
    intro j n m k hd hj h h1 h2
    rw [halfL_stop (by omega)] at h
    rw [halfL_stop (by omega)]; exact h
  | succ d ih =>
    intro j n m k hd hj h h1 h2
    by_cases c : 2 * j < n
    · rw [halfL_step hj c] at h
      have hr := (halfL_range n (2 * j) n (by omega) (by omega) c).1
      rw [h] at hr
      rw [halfL_step hj (by omega)]
      exact ih (2 * j) n m k (by omega) (by omega) h h1 h2
    · rw [halfL_stop c] at h
      rw [halfL_stop (by omega)]; exact h
theorem half_mid {n m : Nat} (h1 : half n < m) (h2 : m ≤ n) : half m = half n := halfL_mid n 1 n m (half n) (by omega) (by decide) rfl h1 h2
section
variable (S : Bs → Bs)
theorem topM_right {l : List Bs} {m : Nat} (h : 2 ≤ l.length) (h1 : half l.length < m) (h2 : m ≤ l.length) :
    topM S (l.take m) = joinM S (topM S (l.take (half l.length))) (topM S ((l.drop (half l.length)).take (m - half l.length))) := by
  have hr := half_range h
  have e : (l.take m).length = m := by rw [List.length_take]; omega
  rw [topM_two S (l := l.take m) (by omega), e, half_mid h1 h2, List.take_take, Nat.min_eq_left (by omega), List.drop_take]
/-- What Extend returns shows the extension. -/
theorem grown_extend (d : Nat) : ∀ (l : List Bs) (m : Nat) (whole : Bool) (old : Bs) (rest : List Bs), l.length ≤ d → 1 ≤ m → m ≤ l.length → (whole = true → old = topM S (l.take m)) →
    grownM S old m l.length whole (extendM S l m whole ++ rest) = some (topM S (l.take m), topM S l, (extendM S l m whole).length) := by
  induction d with
  | zero => intro l m whole old rest h h1 h2; omega
  | succ d ih =>
    intro l m whole old rest h h1 h2 ho
    by_cases e : m = l.length
    · rw [grownM_all S e, extendM_all S e, e, List.take_length]
      rw [e, List.take_length] at ho
      cases whole with
      | true => simp [ho rfl]
      | false => rfl
    · have n2 : 2 ≤ l.length := by omega
      have hr := half_range n2
      have lt : (l.take (half l.length)).length = half l.length := by rw [List.length_take]; omega
      have ld : (l.drop (half l.length)).length = l.length - half l.length := by rw [List.length_drop]
      by_cases c : m ≤ half l.length
      · have i := ih (l.take (half l.length)) m whole old ([topM S (l.drop (half l.length))] ++ rest) (by omega) h1 (by omega) (by rw [List.take_take, Nat.min_eq_left c]; exact ho)
        rw [lt, List.take_take, Nat.min_eq_left c] at i
        rw [grownM_left S n2 c, extendM_left S n2 c, List.append_assoc, i]
        simp [topM_two S n2]
      · have i := ih (l.drop (half l.length)) (m - half l.length) false old ([topM S (l.take (half l.length))] ++ rest) (by omega) (by omega) (by omega) (by intro h; cases h)
        rw [ld] at i
        rw [grownM_right S n2 c e, extendM_right S n2 c e, List.append_assoc, i, topM_right S n2 (by omega) h2]
        simp [topM_two S n2]
/-- The strings that the rebuilding of an extension hashes. -/
def grownT (old : Bs) (m n : Nat) (whole : Bool) (path : List Bs) : List Bs :=
  if _h : m = n ∨ n < 2 then [] else
    if m ≤ half n then
      match grownM S old m (half n) whole path with
      | none => []
      | some (_, b, u) => match path[u]? with
        | none => []
        | some x => grownT old m (half n) whole path ++ [1 :: (b ++ x)]
    else
      match grownM S old (m - half n) (n - half n) false path with
      | none => []
      | some (a, b, u) => match path[u]? with
        | none => []
        | some x => grownT old (m - half n) (n - half n) false path ++ [1 :: (x ++ a)] ++ [1 :: (x ++ b)]
termination_by n
decreasing_by
  · have := half_range (n := n) (by omega); omega
  · have := half_range (n := n) (by omega); omega
theorem grownT_all {old : Bs} {m n : Nat} {whole : Bool} {path : List Bs} (h : m = n) : grownT S old m n whole path = [] := by rw [grownT, dif_pos (.inl h)]
theorem grownT_left {old : Bs} {m n : Nat} {whole : Bool} {path : List Bs} (h : 2 ≤ n) (h1 : m ≤ half n) : grownT S old m n whole path = (match grownM S old m (half n) whole path with
      | none => []
      | some (_, b, u) => match path[u]? with
        | none => []
        | some x => grownT S old m (half n) whole path ++ [1 :: (b ++ x)]) := by
  have := half_range h
  rw [grownT, dif_neg (by omega), if_pos h1]
theorem grownT_right {old : Bs} {m n : Nat} {whole : Bool} {path : List Bs} (h : 2 ≤ n) (h1 : ¬ m ≤ half n) (h2 : m ≠ n) : grownT S old m n whole path = (match grownM S old (m - half n) (n - half n) false path with
      | none => []
      | some (a, b, u) => match path[u]? with
        | none => []
        | some x => grownT S old (m - half n) (n - half n) false path ++ [1 :: (x ++ a)] ++ [1 :: (x ++ b)]) := by
  rw [grownT, dif_neg (by omega), if_neg h1]
variable (hS : ∀ s, (S s).length = 32)
include hS
theorem grownM_length (d : Nat) : ∀ (old : Bs) (m n : Nat) (whole : Bool) (path : List Bs), n ≤ d → 1 ≤ m → m ≤ n → old.length = 32 → (∀ x ∈ path, x.length = 32) → ∀ a b u, grownM S old m n whole path = some (a, b, u) → a.length = 32 ∧ b.length = 32 := by
  induction d with
  | zero => intro old m n whole path h h1 h2; omega
  | succ d ih =>
    intro old m n whole path hd h1 h2 ho hp a b u e
    by_cases en : m = n
    · rw [grownM_all S en] at e
      cases whole with
      | true => cases e; exact ⟨ho, ho⟩
      | false =>
        cases path with
        | nil => cases e
        | cons x p => cases e; exact ⟨hp _ List.mem_cons_self, hp _ List.mem_cons_self⟩
    · have n2 : 2 ≤ n := by omega
      have hr := half_range n2
      by_cases c : m ≤ half n
      · rw [grownM_left S n2 c] at e
        cases ea : grownM S old m (half n) whole path with
        | none => rw [ea] at e; cases e
        | some r =>
          obtain ⟨a', b', v⟩ := r
          rw [ea] at e
          simp only at e
          have := ih _ _ _ _ _ (by omega) h1 c ho hp _ _ _ ea
          split at e
          · cases e
          · cases e; exact ⟨this.1, hS _⟩
      · rw [grownM_right S n2 c en] at e
        cases ea : grownM S old (m - half n) (n - half n) false path with
        | none => rw [ea] at e; cases e
        | some r =>
          obtain ⟨a', b', v⟩ := r
          rw [ea] at e
          simp only at e
          split at e
          · cases e
          · cases e; exact ⟨hS _, hS _⟩
/-- Rebuilt hashes of which the second is the one of a list: the first is the one of its beginning. -/
theorem grown_inj (d : Nat) : ∀ (l : List Bs) (m : Nat) (whole : Bool) (old : Bs) (path : List Bs) (a : Bs) (u : Nat), l.length ≤ d → 1 ≤ m → m ≤ l.length → old.length = 32 → (∀ x ∈ path, x.length = 32) →
    grownM S old m l.length whole path = some (a, treeM S l, u) → ¬ ClashL S (treeT S l ++ grownT S old m l.length whole path) → a = treeM S (l.take m) := by
  induction d with
  | zero => intro l m whole old path a u h h1 h2; omega
  | succ d ih =>
    intro l m whole old path a u h h1 h2 ho hp hg hc
    by_cases e : m = l.length
    · rw [grownM_all S e] at hg
      rw [e, List.take_length]
      cases whole with
      | true => simp only [if_true, Option.some.injEq, Prod.mk.injEq] at hg; rw [← hg.1]; exact hg.2.1
      | false =>
        cases path with
        | nil => cases hg
        | cons x p => simp only [Bool.false_eq_true, if_false, Option.some.injEq, Prod.mk.injEq] at hg; rw [← hg.1]; exact hg.2.1
    · have n2 : 2 ≤ l.length := by omega
      have hr := half_range n2
      have lt : (l.take (half l.length)).length = half l.length := by rw [List.length_take]; omega
      have ld : (l.drop (half l.length)).length = l.length - half l.length := by rw [List.length_drop]
      have lA := treeM_length S hS (l.take (half l.length))
      have lB := treeM_length S hS (l.drop (half l.length))
      rw [treeT_two S n2] at hc
      by_cases c : m ≤ half l.length
      · rw [grownM_left S n2 c] at hg
        rw [grownT_left S n2 c] at hc
        cases ea : grownM S old m (half l.length) whole path with
        | none => rw [ea] at hg; cases hg
        | some r =>
          obtain ⟨a', b', v⟩ := r
          rw [ea] at hg hc
          simp only at hg hc
          have hlen := grownM_length S hS _ _ _ _ _ _ (Nat.le_refl _) h1 c ho hp _ _ _ ea
          cases ex : path[v]? with
          | none => rw [ex] at hg; cases hg
          | some x =>
            rw [ex] at hg hc
            simp only [Option.some.injEq, Prod.mk.injEq] at hg hc
            obtain ⟨rfl, hg, rfl⟩ := hg
            rw [treeM_two S n2] at hg
            have ej := clash_eq hc (a := 1 :: (b' ++ x)) (b := 1 :: (treeM S (l.take (half l.length)) ++ treeM S (l.drop (half l.length)))) (by simp) (by simp) hg
            simp only [List.cons.injEq, true_and] at ej
            obtain ⟨rfl, rfl⟩ := List.append_inj ej (by rw [hlen.2, lA])
            have := ih (l.take (half l.length)) m whole old path a' v (by omega) h1 (by omega) ho hp (by rw [lt]; exact ea) (fun hh => hc (hh.mono fun y hy => by
              rw [lt] at hy
              rcases List.mem_append.1 hy with hy | hy <;> simp [hy]))
            rw [this, List.take_take, Nat.min_eq_left c]
      · rw [grownM_right S n2 c e] at hg
        rw [grownT_right S n2 c e] at hc
        cases ea : grownM S old (m - half l.length) (l.length - half l.length) false path with
        | none => rw [ea] at hg; cases hg
        | some r =>
          obtain ⟨a', b', v⟩ := r
          rw [ea] at hg hc
          simp only at hg hc
          cases ex : path[v]? with
          | none => rw [ex] at hg; cases hg
          | some x =>
            rw [ex] at hg hc
            simp only [Option.some.injEq, Prod.mk.injEq] at hg hc
            obtain ⟨rfl, hg, rfl⟩ := hg
            rw [treeM_two S n2] at hg
            have hx : x.length = 32 := hp x (List.mem_of_getElem? ex)
            have ej := clash_eq hc (a := 1 :: (x ++ b')) (b := 1 :: (treeM S (l.take (half l.length)) ++ treeM S (l.drop (half l.length)))) (by simp) (by simp) hg
            simp only [List.cons.injEq, true_and] at ej
            obtain ⟨rfl, rfl⟩ := List.append_inj ej (by rw [hx, lA])
            have := ih (l.drop (half l.length)) (m - half l.length) false old path a' v (by omega) (by omega) (by omega) ho hp (by rw [ld]; exact ea) (fun hh => hc (hh.mono fun y hy => by
              rw [ld] at hy
              rcases List.mem_append.1 hy with hy | hy <;> simp [hy]))
            rw [this]
            unfold treeM
            simp only [List.map_take, List.map_drop]
            rw [topM_right S (l := l.map (leafM S)) (m := m) (by simpa using n2) (by rw [List.length_map]; omega) (by rw [List.length_map]; omega), List.length_map]
end
end
end Go.Proofs.YtcocengpekndjaaDoor
