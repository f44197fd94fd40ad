/- Plain binary trees of runs (a length and a tag), as package span builds them: the operations, their lists of runs, and their balance. No program in sight. -/
namespace Go.Proofs.Ytfmplibjhohpgaa

inductive Tr where
  | nil
  | node (l : Tr) (len tag : Int) (r : Tr)

namespace Tr

def hgt : Tr → Int
  | nil => 0
  | node l _ _ r => max l.hgt r.hgt + 1
def num : Tr → Int
  | nil => 0
  | node l _ _ r => l.num + r.num + 1
def pcs : Tr → Int
  | nil => 0
  | node l len _ r => l.pcs + r.pcs + len
def cnt (k : Int) : Tr → Int
  | nil => 0
  | node l len tag r => (if tag = k then len else 0) + l.cnt k + r.cnt k
def list : Tr → List (Int × Int)
  | nil => []
  | node l len tag r => l.list ++ (len, tag) :: r.list
def Bal : Tr → Prop
  | nil => True
  | node l _ _ r => l.Bal ∧ r.Bal ∧ l.hgt ≤ r.hgt + 1 ∧ r.hgt ≤ l.hgt + 1
/-- Each run has a piece, and a tag. -/
def Ok : Tr → Prop
  | nil => True
  | node l len tag r => l.Ok ∧ r.Ok ∧ 1 ≤ len ∧ 0 ≤ tag ∧ tag < 16
def isNil : Tr → Prop
  | nil => True
  | node _ _ _ _ => False

theorem hgt_nonneg : ∀ t : Tr, 0 ≤ t.hgt
  | nil => by simp [hgt]
  | node l _ _ r => by have := hgt_nonneg l; have := hgt_nonneg r; simp only [hgt]; omega
theorem num_nonneg : ∀ t : Tr, 0 ≤ t.num
  | nil => by simp [num]
  | node l _ _ r => by have := num_nonneg l; have := num_nonneg r; simp only [num]; omega
theorem pcs_nonneg : ∀ t : Tr, t.Ok → 0 ≤ t.pcs
  | nil, _ => by simp [pcs]
  | node l _ _ r, h => by
    obtain ⟨h1, h2, h3, _⟩ := h
    have := pcs_nonneg l h1; have := pcs_nonneg r h2; simp only [pcs]; omega
theorem hgt_le_num : ∀ t : Tr, t.hgt ≤ t.num
  | nil => by simp [hgt, num]
  | node l _ _ r => by
    have := hgt_le_num l; have := hgt_le_num r; have := num_nonneg l; have := num_nonneg r
    simp only [hgt, num]; omega
theorem num_le_pcs : ∀ t : Tr, t.Ok → t.num ≤ t.pcs
  | nil, _ => by simp [num, pcs]
  | node l _ _ r, h => by
    obtain ⟨h1, h2, h3, _⟩ := h
    have := num_le_pcs l h1; have := num_le_pcs r h2; simp only [num, pcs]; omega
theorem cnt_nonneg (k : Int) : ∀ t : Tr, t.Ok → 0 ≤ t.cnt k
  | nil, _ => by simp [cnt]
  | node l _ _ r, h => by
    obtain ⟨h1, h2, h3, _⟩ := h
    have := cnt_nonneg k l h1; have := cnt_nonneg k r h2; simp only [cnt]; split <;> omega
theorem cnt_le_pcs (k : Int) : ∀ t : Tr, t.Ok → t.cnt k ≤ t.pcs
  | nil, _ => by simp [cnt, pcs]
  | node l _ _ r, h => by
    obtain ⟨h1, h2, h3, _⟩ := h
    have := cnt_le_pcs k l h1; have := cnt_le_pcs k r h2; simp only [cnt, pcs]; split <;> omega
theorem pos_of_node {l : Tr} {len tag : Int} {r : Tr} : 1 ≤ (node l len tag r).hgt := by
  have := hgt_nonneg l; have := hgt_nonneg r; simp only [hgt]; omega
theorem num_list : ∀ t : Tr, t.num = t.list.length
  | nil => by simp [num, list]
  | node l _ _ r => by
    have := num_list l; have := num_list r
    simp only [num, list, List.length_append, List.length_cons]; omega

/-- The sum of the lengths. -/
def total (l : List (Int × Int)) : Int := (l.map (·.1)).sum
theorem total_append (a b : List (Int × Int)) : total (a ++ b) = total a + total b := by simp [total]
theorem total_cons (x : Int × Int) (b : List (Int × Int)) : total (x :: b) = x.1 + total b := by simp [total]
theorem total_nil : total [] = 0 := rfl
theorem pcs_list : ∀ t : Tr, t.pcs = total t.list
  | nil => by simp [pcs, list, total]
  | node l _ _ r => by
    have := pcs_list l; have := pcs_list r
    simp only [pcs, list, total_append, total_cons]; omega
/-- The sum of the lengths of the runs with a tag. -/
def totalOf (k : Int) (l : List (Int × Int)) : Int := (l.map fun x => if x.2 = k then x.1 else 0).sum
theorem totalOf_append (k : Int) (a b : List (Int × Int)) : totalOf k (a ++ b) = totalOf k a + totalOf k b := by simp [totalOf]
theorem totalOf_cons (k : Int) (x : Int × Int) (b : List (Int × Int)) : totalOf k (x :: b) = (if x.2 = k then x.1 else 0) + totalOf k b := by simp [totalOf]
theorem cnt_list (k : Int) : ∀ t : Tr, t.cnt k = totalOf k t.list
  | nil => by simp [cnt, list, totalOf]
  | node l _ _ r => by
    have := cnt_list k l; have := cnt_list k r
    simp only [cnt, list, totalOf_append, totalOf_cons]; omega
/-- All runs of a list have a piece and a tag. -/
def OkL (l : List (Int × Int)) : Prop := ∀ x ∈ l, 1 ≤ x.1 ∧ 0 ≤ x.2 ∧ x.2 < 16
theorem OkL.append {a b : List (Int × Int)} : OkL (a ++ b) ↔ OkL a ∧ OkL b := by
  unfold OkL; constructor
  · intro h; exact ⟨fun x hx => h x (by simp [hx]), fun x hx => h x (by simp [hx])⟩
  · rintro ⟨h1, h2⟩ x hx; rcases List.mem_append.1 hx with h | h
    · exact h1 x h
    · exact h2 x h
theorem OkL.cons {x : Int × Int} {b : List (Int × Int)} : OkL (x :: b) ↔ (1 ≤ x.1 ∧ 0 ≤ x.2 ∧ x.2 < 16) ∧ OkL b := by
  unfold OkL; simp
theorem ok_list : ∀ t : Tr, t.Ok ↔ OkL t.list
  | nil => by simp [Ok, list, OkL]
  | node l _ _ r => by
    have := ok_list l; have := ok_list r
    simp only [Ok, list, OkL.append, OkL.cons, *]
    constructor
    · rintro ⟨a, b, c⟩; exact ⟨a, c, b⟩
    · rintro ⟨a, c, b⟩; exact ⟨a, b, c⟩

/-! ### Turns and joins -/
def turnL : Tr → Tr
  | node l len tag (node rl rlen rtag rr) => node (node l len tag rl) rlen rtag rr
  | t => t
def turnR : Tr → Tr
  | node (node ll llen ltag lr) len tag r => node ll llen ltag (node lr len tag r)
  | t => t
theorem list_turnL : ∀ t : Tr, (turnL t).list = t.list
  | nil => rfl
  | node _ _ _ nil => rfl
  | node l len tag (node rl rlen rtag rr) => by simp [turnL, list]
theorem list_turnR : ∀ t : Tr, (turnR t).list = t.list
  | nil => rfl
  | node nil _ _ _ => rfl
  | node (node ll llen ltag lr) len tag r => by simp [turnR, list]

def joinR : Tr → Int → Int → Tr → Tr
  | nil, len, tag, r => node nil len tag r
  | node ll llen ltag lr, len, tag, r =>
    if lr.hgt ≤ r.hgt + 1 then
      if (node lr len tag r).hgt ≤ ll.hgt + 1 then node ll llen ltag (node lr len tag r)
      else turnL (node ll llen ltag (turnR (node lr len tag r)))
    else
      if (joinR lr len tag r).hgt ≤ ll.hgt + 1 then node ll llen ltag (joinR lr len tag r)
      else turnL (node ll llen ltag (joinR lr len tag r))
def joinL (l : Tr) (len tag : Int) : Tr → Tr
  | nil => node l len tag nil
  | node rl rlen rtag rr =>
    if rl.hgt ≤ l.hgt + 1 then
      if (node l len tag rl).hgt ≤ rr.hgt + 1 then node (node l len tag rl) rlen rtag rr
      else turnR (node (turnL (node l len tag rl)) rlen rtag rr)
    else
      if (joinL l len tag rl).hgt ≤ rr.hgt + 1 then node (joinL l len tag rl) rlen rtag rr
      else turnR (node (joinL l len tag rl) rlen rtag rr)
def join (l : Tr) (len tag : Int) (r : Tr) : Tr :=
  if r.hgt + 1 < l.hgt then joinR l len tag r
  else if l.hgt + 1 < r.hgt then joinL l len tag r
  else node l len tag r

theorem list_joinR (len tag : Int) (r : Tr) : ∀ l : Tr, (joinR l len tag r).list = l.list ++ (len, tag) :: r.list
  | nil => by simp [joinR, list]
  | node ll llen ltag lr => by
    have ih := list_joinR len tag r lr
    simp only [joinR]
    split
    · split
      · simp [list]
      · rw [list_turnL]; simp only [list]; rw [list_turnR]; simp [list]
    · split
      · simp [list, ih]
      · rw [list_turnL]; simp [list, ih]
theorem list_joinL (l : Tr) (len tag : Int) : ∀ r : Tr, (joinL l len tag r).list = l.list ++ (len, tag) :: r.list
  | nil => by simp [joinL, list]
  | node rl rlen rtag rr => by
    have ih := list_joinL l len tag rl
    simp only [joinL]
    split
    · split
      · simp [list]
      · rw [list_turnR]; simp only [list]; rw [list_turnL]; simp [list]
    · split
      · simp [list, ih]
      · rw [list_turnR]; simp [list, ih]
theorem list_join (l : Tr) (len tag : Int) (r : Tr) : (join l len tag r).list = l.list ++ (len, tag) :: r.list := by
  unfold join; split
  · exact list_joinR ..
  · split
    · exact list_joinL ..
    · rfl

/-- The left side is the lower one. -/
def lowLeft : Tr → Prop
  | nil => False
  | node a _ _ b => a.hgt + 1 ≤ b.hgt
/-- The right side is the lower one. -/
def lowRight : Tr → Prop
  | nil => False
  | node a _ _ b => b.hgt + 1 ≤ a.hgt

/-- What a join at the edge of the higher tree gives: balanced, and as high as that tree, or higher by one; then its outer side is the higher one. -/
theorem bal_joinR (len tag : Int) (r : Tr) (hr : r.Bal) : ∀ l : Tr, l.Bal → r.hgt + 1 < l.hgt →
    (joinR l len tag r).Bal ∧ l.hgt ≤ (joinR l len tag r).hgt ∧ (joinR l len tag r).hgt ≤ l.hgt + 1 ∧ ((joinR l len tag r).hgt = l.hgt + 1 → (joinR l len tag r).lowLeft)
  | nil, _, h => by have := hgt_nonneg r; simp only [hgt] at h; omega
  | node ll llen ltag lr, hl, h => by
    obtain ⟨b1, b2, b3, b4⟩ := hl
    have n1 := hgt_nonneg ll; have n2 := hgt_nonneg lr; have n3 := hgt_nonneg r
    simp only [hgt] at h
    simp only [joinR]
    split
    · rename_i h1
      split
      · rename_i h2
        simp only [hgt] at h2
        refine ⟨⟨b1, ⟨b2, hr, by omega, by omega⟩, by simp only [hgt]; omega, by simp only [hgt]; omega⟩, by simp only [hgt]; omega, by simp only [hgt]; omega, ?_⟩
        simp only [lowLeft, hgt]; omega
      · rename_i h2
        simp only [hgt] at h2
        cases lr with
        | nil => simp only [hgt] at *; omega
        | node x y z u =>
          obtain ⟨c1, c2, c3, c4⟩ := b2
          have m1 := hgt_nonneg x; have m2 := hgt_nonneg u
          simp only [turnR, turnL, Bal, hgt, lowLeft] at *
          refine ⟨⟨⟨b1, c1, ?_, ?_⟩, ⟨c2, hr, ?_, ?_⟩, ?_, ?_⟩, ?_, ?_, ?_⟩ <;> omega
    · rename_i h1
      obtain ⟨i1, i2, i3, i4⟩ := bal_joinR len tag r hr lr b2 (by omega)
      split
      · rename_i h2
        refine ⟨⟨b1, i1, by omega, by omega⟩, by simp only [hgt]; omega, by simp only [hgt]; omega, ?_⟩
        simp only [lowLeft, hgt]; omega
      · rename_i h2
        have i5 := i4 (by omega)
        cases hj : joinR lr len tag r with
        | nil => rw [hj] at i5; exact i5.elim
        | node x y z u =>
          rw [hj] at i1 i2 i3 i5 h2
          obtain ⟨c1, c2, c3, c4⟩ := i1
          have m1 := hgt_nonneg x; have m2 := hgt_nonneg u
          simp only [turnL, Bal, hgt, lowLeft] at *
          refine ⟨⟨⟨b1, c1, ?_, ?_⟩, c2, ?_, ?_⟩, ?_, ?_, ?_⟩ <;> omega
theorem bal_joinL (l : Tr) (len tag : Int) (hl : l.Bal) : ∀ r : Tr, r.Bal → l.hgt + 1 < r.hgt →
    (joinL l len tag r).Bal ∧ r.hgt ≤ (joinL l len tag r).hgt ∧ (joinL l len tag r).hgt ≤ r.hgt + 1 ∧ ((joinL l len tag r).hgt = r.hgt + 1 → (joinL l len tag r).lowRight)
  | nil, _, h => by have := hgt_nonneg l; simp only [hgt] at h; omega
  | node rl rlen rtag rr, hr, h => by
    obtain ⟨b1, b2, b3, b4⟩ := hr
    have n1 := hgt_nonneg rl; have n2 := hgt_nonneg rr; have n3 := hgt_nonneg l
    simp only [hgt] at h
    simp only [joinL]
    split
    · rename_i h1
      split
      · rename_i h2
        simp only [hgt] at h2
        refine ⟨⟨⟨hl, b1, by omega, by omega⟩, b2, by simp only [hgt]; omega, by simp only [hgt]; omega⟩, by simp only [hgt]; omega, by simp only [hgt]; omega, ?_⟩
        simp only [lowRight, hgt]; omega
      · rename_i h2
        simp only [hgt] at h2
        cases rl with
        | nil => simp only [hgt] at *; omega
        | node x y z u =>
          obtain ⟨c1, c2, c3, c4⟩ := b1
          have m1 := hgt_nonneg x; have m2 := hgt_nonneg u
          simp only [turnR, turnL, Bal, hgt, lowRight] at *
          refine ⟨⟨⟨hl, c1, ?_, ?_⟩, ⟨c2, b2, ?_, ?_⟩, ?_, ?_⟩, ?_, ?_, ?_⟩ <;> omega
    · rename_i h1
      obtain ⟨i1, i2, i3, i4⟩ := bal_joinL l len tag hl rl b1 (by omega)
      split
      · rename_i h2
        refine ⟨⟨i1, b2, by omega, by omega⟩, by simp only [hgt]; omega, by simp only [hgt]; omega, ?_⟩
        simp only [lowRight, hgt]; omega
      · rename_i h2
        have i5 := i4 (by omega)
        cases hj : joinL l len tag rl with
        | nil => rw [hj] at i5; exact i5.elim
        | node x y z u =>
          rw [hj] at i1 i2 i3 i5 h2
          obtain ⟨c1, c2, c3, c4⟩ := i1
          have m1 := hgt_nonneg x; have m2 := hgt_nonneg u
          simp only [turnR, Bal, hgt, lowRight] at *
          refine ⟨⟨c1, ⟨c2, b2, ?_, ?_⟩, ?_, ?_⟩, ?_, ?_, ?_⟩ <;> omega
theorem bal_join (l : Tr) (len tag : Int) (r : Tr) (hl : l.Bal) (hr : r.Bal) : (join l len tag r).Bal := by
  unfold join; split
  · exact (bal_joinR len tag r hr l hl (by omega)).1
  · split
    · exact (bal_joinL l len tag hl r hr (by omega)).1
    · exact ⟨hl, hr, by omega, by omega⟩
theorem ok_join (l : Tr) (len tag : Int) (r : Tr) (hl : l.Ok) (hr : r.Ok) (h1 : 1 ≤ len) (h2 : 0 ≤ tag) (h3 : tag < 16) : (join l len tag r).Ok := by
  rw [ok_list, list_join, OkL.append, OkL.cons]
  exact ⟨(ok_list l).1 hl, ⟨h1, h2, h3⟩, (ok_list r).1 hr⟩
theorem ok_joinR (l : Tr) (len tag : Int) (r : Tr) (hl : l.Ok) (hr : r.Ok) (h1 : 1 ≤ len) (h2 : 0 ≤ tag) (h3 : tag < 16) : (joinR l len tag r).Ok := by
  rw [ok_list, list_joinR, OkL.append, OkL.cons]
  exact ⟨(ok_list l).1 hl, ⟨h1, h2, h3⟩, (ok_list r).1 hr⟩
theorem ok_joinL (l : Tr) (len tag : Int) (r : Tr) (hl : l.Ok) (hr : r.Ok) (h1 : 1 ≤ len) (h2 : 0 ≤ tag) (h3 : tag < 16) : (joinL l len tag r).Ok := by
  rw [ok_list, list_joinL, OkL.append, OkL.cons]
  exact ⟨(ok_list l).1 hl, ⟨h1, h2, h3⟩, (ok_list r).1 hr⟩
theorem pcs_joinR (l : Tr) (len tag : Int) (r : Tr) : (joinR l len tag r).pcs = l.pcs + r.pcs + len := by
  rw [pcs_list, list_joinR, total_append, total_cons, ← pcs_list, ← pcs_list]; omega
theorem pcs_joinL (l : Tr) (len tag : Int) (r : Tr) : (joinL l len tag r).pcs = l.pcs + r.pcs + len := by
  rw [pcs_list, list_joinL, total_append, total_cons, ← pcs_list, ← pcs_list]; omega
theorem pcs_join (l : Tr) (len tag : Int) (r : Tr) : (join l len tag r).pcs = l.pcs + r.pcs + len := by
  rw [pcs_list, list_join, total_append, total_cons, ← pcs_list, ← pcs_list]; omega
/-- In a join at the right edge the new part is turned only if it has a left side. -/
theorem joinR_turns {ll : Tr} {llen ltag : Int} {lr : Tr} {len tag : Int} {r : Tr} (hl : (node ll llen ltag lr).Bal) (h : r.hgt + 1 < (node ll llen ltag lr).hgt)
    (h2 : ¬ (node lr len tag r).hgt ≤ ll.hgt + 1) : lr ≠ nil := by
  rintro rfl
  obtain ⟨b1, b2, b3, b4⟩ := hl
  have := hgt_nonneg r; have := hgt_nonneg ll
  simp only [hgt] at *; omega
theorem joinL_turns {rl : Tr} {rlen rtag : Int} {rr : Tr} {len tag : Int} {l : Tr} (hr : (node rl rlen rtag rr).Bal) (h : l.hgt + 1 < (node rl rlen rtag rr).hgt)
    (h2 : ¬ (node l len tag rl).hgt ≤ rr.hgt + 1) : rl ≠ nil := by
  rintro rfl
  obtain ⟨b1, b2, b3, b4⟩ := hr
  have := hgt_nonneg l; have := hgt_nonneg rr
  simp only [hgt] at *; omega

/-! ### Splitting, and putting together -/
def split : Tr → Int → Tr × Tr
  | nil, _ => (nil, nil)
  | node l len tag r, at' =>
    if at' ≤ l.pcs then ((split l at').1, join (split l at').2 len tag r)
    else if l.pcs + len ≤ at' then (join l len tag (split r (at' - l.pcs - len)).1, (split r (at' - l.pcs - len)).2)
    else (join l (at' - l.pcs) tag nil, join nil (l.pcs + len - at') tag r)
def takeLast : Tr → Tr × Int × Int
  | nil => (nil, 0, 0)
  | node l len tag r => match r with
    | nil => (l, len, tag)
    | node _ _ _ _ => (join l len tag (takeLast r).1, (takeLast r).2)
def first : Tr → Int
  | nil => 0
  | node l _ tag _ => match l with
    | nil => tag
    | node _ _ _ _ => first l
def grow (by' : Int) : Tr → Tr
  | nil => nil
  | node l len tag r => match l with
    | nil => node nil (len + by') tag r
    | node _ _ _ _ => node (grow by' l) len tag r
def concat (a b : Tr) : Tr :=
  match a with
  | nil => b
  | node _ _ _ _ => match b with
    | nil => a
    | node _ _ _ _ =>
      if (takeLast a).2.2 = first b then
        match (takeLast a).1 with
        | nil => grow (takeLast a).2.1 b
        | node _ _ _ _ => join (takeLast (takeLast a).1).1 (takeLast (takeLast a).1).2.1 (takeLast (takeLast a).1).2.2 (grow (takeLast a).2.1 b)
      else join (takeLast a).1 (takeLast a).2.1 (takeLast a).2.2 b
def leaf (len tag : Int) : Tr := if len = 0 then nil else node nil len tag nil
/-- The balanced tree of runs. -/
def bld : Nat → List (Int × Int) → Tr
  | 0, _ => nil
  | n + 1, l => if h : l.length / 2 < l.length then node (bld n (l.take (l.length / 2))) (l[l.length / 2]'h).1 (l[l.length / 2]'h).2 (bld n (l.drop (l.length / 2 + 1))) else nil

theorem split_list : ∀ (t : Tr) (k : Int), t.Ok → t.Bal → 0 ≤ k → k ≤ t.pcs →
    (split t k).1.Bal ∧ (split t k).2.Bal ∧ (split t k).1.Ok ∧ (split t k).2.Ok ∧ (split t k).1.pcs = k ∧ (split t k).2.pcs = t.pcs - k
  | nil, k, _, _, h1, h2 => by simp only [pcs] at *; simp [split, Bal, Ok, pcs]; omega
  | node l len tag r, k, ho, hb, h1, h2 => by
    obtain ⟨o1, o2, o3, o4, o5⟩ := ho
    obtain ⟨b1, b2, b3, b4⟩ := hb
    have p1 := pcs_nonneg l o1; have p2 := pcs_nonneg r o2
    simp only [pcs] at h2
    simp only [split]
    split
    · rename_i h
      obtain ⟨i1, i2, i3, i4, i5, i6⟩ := split_list l k o1 b1 h1 h
      exact ⟨i1, bal_join _ _ _ _ i2 b2, i3, ok_join _ _ _ _ i4 o2 o3 o4 o5, i5, by rw [pcs_join]; simp only [pcs]; omega⟩
    · split
      · rename_i h h'
        obtain ⟨i1, i2, i3, i4, i5, i6⟩ := split_list r (k - l.pcs - len) o2 b2 (by omega) (by omega)
        exact ⟨bal_join _ _ _ _ b1 i1, i2, ok_join _ _ _ _ o1 i3 o3 o4 o5, i4, by rw [pcs_join]; omega, by simp only [pcs]; omega⟩
      · rename_i h h'
        refine ⟨bal_join _ _ _ _ b1 trivial, bal_join _ _ _ _ trivial b2, ok_join _ _ _ _ o1 trivial (by omega) o4 o5, ok_join _ _ _ _ trivial o2 (by omega) o4 o5, ?_, ?_⟩
        · rw [pcs_join]; simp only [pcs]; omega
        · rw [pcs_join]; simp only [pcs]; omega

theorem takeLast_list : ∀ t : Tr, t ≠ nil → t.list = (takeLast t).1.list ++ [(takeLast t).2]
  | nil, h => (h rfl).elim
  | node l len tag nil, _ => by simp [takeLast, list]
  | node l len tag (node a b c d), _ => by
    have ih := takeLast_list (node a b c d) (by simp)
    rw [list, ih]
    simp only [takeLast]
    rw [list_join]; simp
theorem takeLast_bal : ∀ t : Tr, t.Bal → (takeLast t).1.Bal
  | nil, h => h
  | node _l _len _tag nil, h => h.1
  | node _l _len _tag (node a b c d), h => bal_join _ _ _ _ h.1 (takeLast_bal (node a b c d) h.2.1)
theorem takeLast_facts (t : Tr) (h : t ≠ nil) (ho : t.Ok) : (takeLast t).1.Ok ∧ 1 ≤ (takeLast t).2.1 ∧ 0 ≤ (takeLast t).2.2 ∧ (takeLast t).2.2 < 16 ∧ (takeLast t).1.pcs + (takeLast t).2.1 = t.pcs := by
  have e := takeLast_list t h
  have o := (ok_list t).1 ho
  rw [e, OkL.append, OkL.cons] at o
  obtain ⟨o1, ⟨o2, o3, o4⟩, _⟩ := o
  refine ⟨(ok_list _).2 o1, o2, o3, o4, ?_⟩
  rw [pcs_list t, e, total_append, total_cons, total_nil, ← pcs_list]; omega
theorem first_list : ∀ t : Tr, ∀ x l, t.list = x :: l → first t = x.2
  | nil, x, l, h => by simp [list] at h
  | node nil len tag r, x, l, h => by simp [list] at h; simp [first, ← h.1]
  | node (node a b c d) len tag r, x, l, h => by
    have ih := first_list (node a b c d)
    rw [list] at h
    cases hl : (node a b c d).list with
    | nil => simp [list] at hl
    | cons y ys =>
      rw [hl] at h; simp only [List.cons_append, List.cons.injEq] at h
      rw [← h.1]; exact ih y ys hl
theorem grow_list (k : Int) : ∀ t : Tr, ∀ x l, t.list = x :: l → (grow k t).list = (x.1 + k, x.2) :: l
  | nil, x, l, h => by simp [list] at h
  | node nil len tag r, x, l, h => by simp [list] at h; obtain ⟨rfl, rfl⟩ := h; simp [grow, list]
  | node (node a b c d) len tag r, x, l, h => by
    have ih := grow_list k (node a b c d)
    rw [list] at h
    cases hl : (node a b c d).list with
    | nil => simp [list] at hl
    | cons y ys =>
      rw [hl] at h; simp only [List.cons_append, List.cons.injEq] at h
      obtain ⟨rfl, rfl⟩ := h
      have := ih y ys hl
      simp only [grow, list] at this ⊢
      rw [this]; simp
theorem list_ne (t : Tr) (h : t ≠ nil) : ∃ x l, t.list = x :: l := by
  cases t with
  | nil => exact (h rfl).elim
  | node l len tag r => cases hl : l.list with
    | nil => exact ⟨_, _, by rw [list, hl]; rfl⟩
    | cons y ys => exact ⟨_, _, by rw [list, hl]; rfl⟩
theorem grow_facts (k : Int) (t : Tr) (h : t ≠ nil) (ho : t.Ok) (hk : 0 ≤ k) : (grow k t).Ok ∧ (grow k t).pcs = t.pcs + k := by
  obtain ⟨x, l, e⟩ := list_ne t h
  have g := grow_list k t x l e
  have o := (ok_list t).1 ho
  rw [e, OkL.cons] at o
  refine ⟨(ok_list _).2 ?_, ?_⟩
  · rw [g, OkL.cons]; exact ⟨⟨by omega, o.1.2⟩, o.2⟩
  · rw [pcs_list, g, total_cons, pcs_list t, e, total_cons]; omega
theorem grow_hgt (k : Int) : ∀ t : Tr, (grow k t).hgt = t.hgt
  | nil => rfl
  | node nil len tag r => rfl
  | node (node a b c d) len tag r => by
    have ih := grow_hgt k (node a b c d)
    simp only [grow, hgt] at ih ⊢; rw [ih]
theorem grow_bal (k : Int) : ∀ t : Tr, t.Bal → (grow k t).Bal
  | nil, _ => trivial
  | node nil len tag r, h => h
  | node (node a b c d) len tag r, h => by
    have ih := grow_bal k (node a b c d) h.1
    have e := grow_hgt k (node a b c d)
    obtain ⟨b1, b2, b3, b4⟩ := h
    exact ⟨ih, b2, by rw [e]; exact b3, by rw [e]; exact b4⟩
end Tr

/-! ### Lists of runs, each a length and a tag -/
open Tr (total totalOf OkL)

/-- No two neighbors have the same tag. -/
def Norm : List (Int × Int) → Prop
  | [] => True
  | x :: l => (∀ y, l.head? = some y → x.2 ≠ y.2) ∧ Norm l
/-- The tag of a piece. -/
def atL : List (Int × Int) → Int → Int
  | [], _ => 0
  | x :: l, p => if p < x.1 then x.2 else atL l (p - x.1)
def takeP : Int → List (Int × Int) → List (Int × Int)
  | _, [] => []
  | k, x :: l => if k ≤ 0 then [] else if k < x.1 then [(k, x.2)] else x :: takeP (k - x.1) l
def dropP : Int → List (Int × Int) → List (Int × Int)
  | _, [] => []
  | k, x :: l => if k ≤ 0 then x :: l else if k < x.1 then (x.1 - k, x.2) :: l else dropP (k - x.1) l
/-- A run in front of a list: one with the run behind it if both have the same tag. -/
def consM (x : Int × Int) : List (Int × Int) → List (Int × Int)
  | [] => [x]
  | y :: l => if x.2 = y.2 then (y.1 + x.1, y.2) :: l else x :: y :: l
def concatL : List (Int × Int) → List (Int × Int) → List (Int × Int)
  | [], b => b
  | x :: l, b => match l with
    | [] => consM x b
    | _ :: _ => x :: concatL l b

theorem total_nonneg {l : List (Int × Int)} (h : OkL l) : 0 ≤ total l := by
  induction l with
  | nil => simp [total]
  | cons x l ih =>
    have h' := OkL.cons.1 h
    have := ih h'.2
    rw [Tr.total_cons]; omega
theorem concatL_snoc (a : List (Int × Int)) (x : Int × Int) (b : List (Int × Int)) : concatL (a ++ [x]) b = a ++ consM x b := by
  induction a with
  | nil => rfl
  | cons y a ih =>
    cases a with
    | nil => simp [concatL]
    | cons z a => simp only [List.cons_append] at ih ⊢; rw [concatL, ih]
theorem consM_total (x : Int × Int) (b : List (Int × Int)) : total (consM x b) = x.1 + total b := by
  cases b with
  | nil => simp [consM, total]
  | cons y b => simp only [consM]; split <;> simp only [Tr.total_cons] <;> omega
theorem consM_ok {x : Int × Int} {b : List (Int × Int)} (hx : 1 ≤ x.1 ∧ 0 ≤ x.2 ∧ x.2 < 16) (hb : OkL b) : OkL (consM x b) := by
  cases b with
  | nil => simpa [consM, OkL] using hx
  | cons y b =>
    have hb' := OkL.cons.1 hb
    simp only [consM]; split
    · exact OkL.cons.2 ⟨by simp; omega, hb'.2⟩
    · exact OkL.cons.2 ⟨hx, hb⟩
theorem consM_norm {x : Int × Int} {b : List (Int × Int)} (hb : Norm b) : Norm (consM x b) := by
  cases b with
  | nil => simp [consM, Norm]
  | cons y b =>
    simp only [consM]; split
    · exact hb
    · rename_i h; exact ⟨fun z hz => by simp at hz; subst hz; exact h, hb⟩
theorem consM_at {x : Int × Int} {b : List (Int × Int)} (hb : OkL b) (p : Int) : atL (consM x b) p = if p < x.1 then x.2 else atL b (p - x.1) := by
  cases b with
  | nil => rfl
  | cons y b =>
    have hb' := (OkL.cons.1 hb).1
    simp only [consM]; split
    · rename_i h
      simp only [atL]
      by_cases h1 : p < x.1
      · rw [if_pos (by omega), if_pos h1, h]
      · rw [if_neg h1]
        by_cases h2 : p - x.1 < y.1
        · rw [if_pos (by omega), if_pos h2]
        · rw [if_neg (by omega), if_neg h2]
          congr 1; omega
    · rfl
theorem concatL_total (a b : List (Int × Int)) : total (concatL a b) = total a + total b := by
  induction a with
  | nil => simp only [concatL, Tr.total_nil]; omega
  | cons x a ih =>
    cases a with
    | nil => simp only [concatL, consM_total, Tr.total_cons, Tr.total_nil]; omega
    | cons z a => simp only [concatL, Tr.total_cons] at ih ⊢; omega
theorem concatL_ok {a b : List (Int × Int)} (ha : OkL a) (hb : OkL b) : OkL (concatL a b) := by
  induction a with
  | nil => exact hb
  | cons x a ih =>
    have ha' := OkL.cons.1 ha
    cases a with
    | nil => exact consM_ok ha'.1 hb
    | cons z a => exact OkL.cons.2 ⟨ha'.1, ih ha'.2⟩
theorem concatL_head {a b : List (Int × Int)} {x : Int × Int} (h : a.head? = some x) : ∃ y, (concatL a b).head? = some y ∧ y.2 = x.2 := by
  cases a with
  | nil => simp at h
  | cons z a =>
    simp at h; subst h
    cases a with
    | nil =>
      cases b with
      | nil => exact ⟨z, rfl, rfl⟩
      | cons y b =>
        simp only [concatL, consM]; split
        · rename_i h; exact ⟨_, rfl, h.symm⟩
        · exact ⟨_, rfl, rfl⟩
    | cons y a => exact ⟨_, rfl, rfl⟩
theorem concatL_norm {a b : List (Int × Int)} (ha : Norm a) (hb : Norm b) : Norm (concatL a b) := by
  induction a with
  | nil => exact hb
  | cons x a ih =>
    cases a with
    | nil => exact consM_norm hb
    | cons z a =>
      refine ⟨fun y hy => ?_, ih ha.2⟩
      obtain ⟨u, hu, hu2⟩ := concatL_head (b := b) (show (z :: a).head? = some z from rfl)
      rw [hu] at hy; cases hy
      rw [hu2]; exact ha.1 z rfl
theorem concatL_at {a b : List (Int × Int)} (ha : OkL a) (hb : OkL b) (p : Int) (h0 : 0 ≤ p) : atL (concatL a b) p = if p < total a then atL a p else atL b (p - total a) := by
  induction a generalizing p with
  | nil => rw [Tr.total_nil, if_neg (by omega)]; simp [concatL]
  | cons x a ih =>
    have ha' := OkL.cons.1 ha
    cases a with
    | nil =>
      simp only [concatL, Tr.total_cons, Tr.total_nil, Int.add_zero]
      rw [consM_at hb p]
      simp only [atL]; split <;> rfl
    | cons z a =>
      have := total_nonneg ha'.2
      rw [concatL, Tr.total_cons x]
      simp only [atL]
      by_cases h1 : p < x.1
      · rw [if_pos h1, if_pos (by omega), if_pos h1]
      · rw [if_neg h1, ih ha'.2 (p - x.1) (by omega)]
        by_cases h2 : p - x.1 < total (z :: a)
        · rw [if_pos h2, if_pos (by omega), if_neg h1]; rfl
        · rw [if_neg h2, if_neg (by omega)]; congr 1; omega
theorem atL_append {a b : List (Int × Int)} (ha : OkL a) (p : Int) (h0 : 0 ≤ p) : atL (a ++ b) p = if p < total a then atL a p else atL b (p - total a) := by
  induction a generalizing p with
  | nil => rw [Tr.total_nil, if_neg (by omega)]; simp
  | cons x a ih =>
    have ha' := OkL.cons.1 ha
    have := total_nonneg ha'.2
    rw [List.cons_append, Tr.total_cons]
    simp only [atL]
    by_cases h1 : p < x.1
    · rw [if_pos h1, if_pos (by omega), if_pos h1]
    · rw [if_neg h1, ih ha'.2 (p - x.1) (by omega)]
      by_cases h2 : p - x.1 < total a
      · rw [if_pos h2, if_pos (by omega), if_neg h1]
      · rw [if_neg h2, if_neg (by omega)]; congr 1; omega
/-- A list of runs without neighbors of one tag is known by the tags of its pieces. -/
theorem canon {a b : List (Int × Int)} (ha : OkL a) (hb : OkL b) (na : Norm a) (nb : Norm b) (ht : total a = total b) (h : ∀ p, 0 ≤ p → p < total a → atL a p = atL b p) : a = b := by
  induction a generalizing b with
  | nil =>
    cases b with
    | nil => rfl
    | cons y b =>
      have hb' := OkL.cons.1 hb; have := total_nonneg hb'.2
      rw [Tr.total_nil, Tr.total_cons] at ht; omega
  | cons x a ih =>
    have ha' := OkL.cons.1 ha; have ta := total_nonneg ha'.2
    cases b with
    | nil => rw [Tr.total_nil, Tr.total_cons] at ht; omega
    | cons y b =>
      have hb' := OkL.cons.1 hb; have tb := total_nonneg hb'.2
      rw [Tr.total_cons, Tr.total_cons] at ht
      rw [Tr.total_cons] at h
      have h1 := h 0 (by omega) (by omega)
      simp only [atL] at h1
      rw [if_pos (by omega), if_pos (by omega)] at h1
      have h2 : x.1 = y.1 := by
        rcases Int.lt_trichotomy x.1 y.1 with hl | he | hg
        · have h3 := h x.1 (by omega) (by omega)
          simp only [atL] at h3
          rw [if_neg (by omega), if_pos hl] at h3
          cases a with
          | nil => rw [Tr.total_nil] at *; omega
          | cons z a =>
            have hz := (OkL.cons.1 ha'.2).1
            have := na.1 z rfl
            simp only [atL] at h3
            rw [if_pos (by omega)] at h3
            exact (this (by rw [h1, h3])).elim
        · exact he
        · have h3 := h y.1 (by omega) (by omega)
          simp only [atL] at h3
          rw [if_pos (by omega), if_neg (by omega)] at h3
          cases b with
          | nil => rw [Tr.total_nil] at *; omega
          | cons z b =>
            have hz := (OkL.cons.1 hb'.2).1
            have := nb.1 z rfl
            simp only [atL] at h3
            rw [if_pos (by omega)] at h3
            exact (this (by rw [← h1, h3])).elim
      have hxy : x = y := Prod.ext h2 h1
      subst hxy
      congr 1
      refine ih ha'.2 hb'.2 na.2 nb.2 (by omega) fun p p0 p1 => ?_
      have h3 := h (p + x.1) (by omega) (by omega)
      simp only [atL] at h3
      rw [if_neg (by omega), if_neg (by omega)] at h3
      rw [show p + x.1 - x.1 = p from by omega] at h3
      exact h3

theorem takeP_append {a b : List (Int × Int)} (ha : OkL a) (k : Int) : takeP k (a ++ b) = if k ≤ total a then takeP k a else a ++ takeP (k - total a) b := by
  induction a generalizing k with
  | nil =>
    rw [Tr.total_nil, List.nil_append]
    split
    · cases b with
      | nil => rfl
      | cons y b => simp only [takeP]; rw [if_pos (by omega)]
    · simp
  | cons x a ih =>
    have ha' := OkL.cons.1 ha; have := total_nonneg ha'.2
    rw [List.cons_append, Tr.total_cons]
    simp only [takeP]
    by_cases h1 : k ≤ 0
    · rw [if_pos h1, if_pos (by omega), if_pos h1]
    · rw [if_neg h1]
      by_cases h2 : k < x.1
      · rw [if_pos h2, if_pos (by omega), if_neg h1, if_pos h2]
      · rw [if_neg h2, ih ha'.2]
        by_cases h3 : k - x.1 ≤ total a
        · rw [if_pos h3, if_pos (by omega), if_neg h1, if_neg h2]
        · rw [if_neg h3, if_neg (by omega), List.cons_append]; congr 3; omega
theorem dropP_append {a b : List (Int × Int)} (ha : OkL a) (k : Int) (hk : 0 ≤ k) : dropP k (a ++ b) = if k ≤ total a then dropP k a ++ b else dropP (k - total a) b := by
  induction a generalizing k with
  | nil =>
    rw [Tr.total_nil, List.nil_append]
    split
    · cases b with
      | nil => rfl
      | cons y b => simp only [dropP]; rw [if_pos (by omega)]; rfl
    · simp
  | cons x a ih =>
    have ha' := OkL.cons.1 ha; have := total_nonneg ha'.2
    rw [List.cons_append, Tr.total_cons]
    simp only [dropP]
    by_cases h1 : k ≤ 0
    · rw [if_pos h1, if_pos (by omega), if_pos h1]; rfl
    · rw [if_neg h1]
      by_cases h2 : k < x.1
      · rw [if_pos h2, if_pos (by omega), if_neg h1, if_pos h2]; rfl
      · rw [if_neg h2, ih ha'.2 _ (by omega)]
        by_cases h3 : k - x.1 ≤ total a
        · rw [if_pos h3, if_pos (by omega), if_neg h1, if_neg h2]
        · rw [if_neg h3, if_neg (by omega)]; congr 1; omega
theorem takeP_total {a : List (Int × Int)} (ha : OkL a) {k : Int} (h0 : 0 ≤ k) (h1 : k ≤ total a) : total (takeP k a) = k := by
  induction a generalizing k with
  | nil => rw [Tr.total_nil] at h1; simp [takeP, Tr.total_nil]; omega
  | cons x a ih =>
    have ha' := OkL.cons.1 ha; rw [Tr.total_cons] at h1
    simp only [takeP]; split
    · rw [Tr.total_nil]; omega
    · split
      · simp [Tr.total_cons, Tr.total_nil]
      · rw [Tr.total_cons, ih ha'.2 (by omega) (by omega)]; omega
theorem dropP_total {a : List (Int × Int)} (ha : OkL a) {k : Int} (h0 : 0 ≤ k) (h1 : k ≤ total a) : total (dropP k a) = total a - k := by
  induction a generalizing k with
  | nil => rw [Tr.total_nil] at h1; simp [dropP, Tr.total_nil]; omega
  | cons x a ih =>
    have ha' := OkL.cons.1 ha; rw [Tr.total_cons] at h1
    simp only [dropP]; split
    · rw [Tr.total_cons]; omega
    · split
      · simp only [Tr.total_cons]; omega
      · rw [ih ha'.2 (by omega) (by omega), Tr.total_cons]; omega
theorem takeP_ok {a : List (Int × Int)} (ha : OkL a) (k : Int) : OkL (takeP k a) := by
  induction a generalizing k with
  | nil => simp [takeP, OkL]
  | cons x a ih =>
    have ha' := OkL.cons.1 ha
    simp only [takeP]; split
    · simp [OkL]
    · split
      · exact OkL.cons.2 ⟨by simp; omega, by simp [OkL]⟩
      · exact OkL.cons.2 ⟨ha'.1, ih ha'.2 _⟩
theorem dropP_ok {a : List (Int × Int)} (ha : OkL a) (k : Int) : OkL (dropP k a) := by
  induction a generalizing k with
  | nil => simp [dropP, OkL]
  | cons x a ih =>
    have ha' := OkL.cons.1 ha
    simp only [dropP]; split
    · exact ha
    · split
      · exact OkL.cons.2 ⟨by simp; omega, ha'.2⟩
      · exact ih ha'.2 _
theorem takeP_norm {a : List (Int × Int)} (ha : Norm a) (k : Int) : Norm (takeP k a) := by
  induction a generalizing k with
  | nil => exact trivial
  | cons x a ih =>
    simp only [takeP]; split
    · exact trivial
    · split
      · exact ⟨by simp, trivial⟩
      · refine ⟨fun y hy => ?_, ih ha.2 _⟩
        cases a with
        | nil => simp [takeP] at hy
        | cons z a =>
          have := ha.1 z rfl
          simp only [takeP] at hy
          split at hy
          · simp at hy
          · split at hy
            · simp at hy; subst hy; exact this
            · simp at hy; subst hy; exact this
theorem dropP_norm {a : List (Int × Int)} (ha : Norm a) (k : Int) : Norm (dropP k a) := by
  induction a generalizing k with
  | nil => exact trivial
  | cons x a ih =>
    simp only [dropP]; split
    · exact ha
    · split
      · exact ⟨fun y hy => ha.1 y hy, ha.2⟩
      · exact ih ha.2 _
theorem takeP_at {a : List (Int × Int)} {k p : Int} (h0 : 0 ≤ p) (h1 : p < k) : atL (takeP k a) p = atL a p := by
  induction a generalizing k p with
  | nil => rfl
  | cons x a ih =>
    simp only [takeP]; rw [if_neg (by omega)]; split
    · simp only [atL]; rw [if_pos h1, if_pos (by omega)]
    · simp only [atL]; split
      · rfl
      · exact ih (by omega) (by omega)
theorem dropP_at {a : List (Int × Int)} (ha : OkL a) {k p : Int} (hk : 0 ≤ k) (h0 : 0 ≤ p) : atL (dropP k a) p = atL a (p + k) := by
  induction a generalizing k p with
  | nil => rfl
  | cons x a ih =>
    have ha' := OkL.cons.1 ha
    simp only [dropP]; split
    · have : k = 0 := by omega
      subst this; simp
    · split
      · simp only [atL]
        by_cases h : p < x.1 - k
        · rw [if_pos h, if_pos (by omega)]
        · rw [if_neg h, if_neg (by omega)]; congr 1; omega
      · rw [ih ha'.2 (by omega) h0]; simp only [atL]; rw [if_neg (by omega)]; congr 1; omega

namespace Tr
theorem leaf_list (len tag : Int) : (leaf len tag).list = if len = 0 then [] else [(len, tag)] := by
  unfold leaf; split <;> rfl
theorem leaf_bal (len tag : Int) : (leaf len tag).Bal := by
  unfold leaf; split
  · trivial
  · exact ⟨trivial, trivial, by simp [hgt], by simp [hgt]⟩
theorem split_takeP : ∀ (t : Tr) (k : Int), t.Ok → 0 ≤ k → k ≤ t.pcs → (split t k).1.list = takeP k t.list ∧ (split t k).2.list = dropP k t.list
  | nil, k, _, _, _ => ⟨rfl, rfl⟩
  | node l len tag r, k, ho, h1, h2 => by
    obtain ⟨o1, o2, o3, o4, o5⟩ := ho
    have p1 := pcs_nonneg l o1; have p2 := pcs_nonneg r o2
    have q1 := (ok_list l).1 o1
    simp only [pcs] at h2
    simp only [split, list]
    rw [takeP_append q1, dropP_append q1 _ h1, ← pcs_list]
    split
    · rename_i h
      obtain ⟨i1, i2⟩ := split_takeP l k o1 h1 h
      exact ⟨i1, by rw [list_join, i2]⟩
    · rename_i h
      split
      · rename_i h'
        obtain ⟨i1, i2⟩ := split_takeP r (k - l.pcs - len) o2 (by omega) (by omega)
        simp only [takeP, dropP]
        rw [if_neg (by omega), if_neg (by omega), if_neg (by omega), if_neg (by omega)]
        exact ⟨by rw [list_join, i1], i2⟩
      · rename_i h'
        simp only [takeP, dropP]
        rw [if_neg (by omega), if_pos (by omega), if_neg (by omega), if_pos (by omega)]
        refine ⟨by rw [list_join]; rfl, ?_⟩
        rw [list_join]; simp only [list, List.nil_append]; congr 2; omega
theorem concat_list (a b : Tr) : (concat a b).list = concatL a.list b.list := by
  cases a with
  | nil => rfl
  | node al alen atag ar =>
    have hA := takeLast_list (node al alen atag ar) (by simp)
    cases b with
    | nil =>
      simp only [concat]
      rw [hA]; show _ = concatL _ []
      rw [concatL_snoc]; rfl
    | node bl blen btag br =>
      cases hB : (node bl blen btag br).list with
      | nil => simp [list] at hB
      | cons y ys =>
        have hf := first_list _ y ys hB
        have hg := grow_list (takeLast (node al alen atag ar)).2.1 _ y ys hB
        simp only [concat]
        split
        · rename_i ht
          cases hR : (takeLast (node al alen atag ar)).1 with
          | nil =>
            simp only []
            rw [hA, hR, concatL_snoc, hg]
            simp only [list, List.nil_append, consM]
            rw [if_pos (by rw [ht, hf])]
          | node cl clen ctag cr =>
            have hC := takeLast_list (node cl clen ctag cr) (by simp)
            simp only []
            rw [hA, hR, concatL_snoc, list_join, hg, hC]
            simp only [consM]
            rw [if_pos (by rw [ht, hf])]; simp
        · rename_i ht
          rw [hA, concatL_snoc, list_join, hB]
          simp only [consM]
          rw [if_neg (by rw [← hf]; exact ht)]
theorem concat_bal (a b : Tr) (ha : a.Bal) (hb : b.Bal) : (concat a b).Bal := by
  cases a with
  | nil => exact hb
  | node al alen atag ar =>
    have hA := takeLast_bal _ ha
    cases b with
    | nil => exact ha
    | node bl blen btag br =>
      simp only [concat]
      split
      · cases hR : (takeLast (node al alen atag ar)).1 with
        | nil => exact grow_bal _ _ hb
        | node cl clen ctag cr =>
          rw [hR] at hA
          exact bal_join _ _ _ _ (takeLast_bal _ hA) (grow_bal _ _ hb)
      · exact bal_join _ _ _ _ hA hb

/-! ### The balanced tree of a list -/
/-- Its height. -/
def hb : Nat → Nat → Int
  | 0, _ => 0
  | n + 1, k => if k = 0 then 0 else hb n (k / 2) + 1
theorem hb_fuel : ∀ (n m k : Nat), k ≤ n → k ≤ m → hb n k = hb m k
  | 0, 0, _, _, _ => rfl
  | 0, m + 1, k, h, _ => by have : k = 0 := by omega
                            subst this; simp [hb]
  | n + 1, 0, k, _, h => by have : k = 0 := by omega
                            subst this; simp [hb]
  | n + 1, m + 1, k, h1, h2 => by
    simp only [hb]; split
    · rfl
    · rw [hb_fuel n m (k / 2) (by omega) (by omega)]
theorem hb_step : ∀ (n k : Nat), hb n k ≤ hb n (k + 1) ∧ hb n (k + 1) ≤ hb n k + 1
  | 0, _ => by simp [hb]
  | n + 1, k => by
    simp only [hb]
    rw [if_neg (by omega : ¬ k + 1 = 0)]
    by_cases hk : k = 0
    · subst hk
      have : hb n ((0 + 1) / 2) = 0 := by cases n <;> simp [hb]
      rw [this]; simp
    · rw [if_neg hk]
      rcases (by omega : (k + 1) / 2 = k / 2 ∨ (k + 1) / 2 = k / 2 + 1) with h | h
      · rw [h]; omega
      · rw [h]; have := hb_step n (k / 2); omega
theorem bld_facts : ∀ (n : Nat) (l : List (Int × Int)), l.length ≤ n → (bld n l).list = l ∧ (bld n l).Bal ∧ (bld n l).hgt = hb n l.length
  | 0, l, h => by
    have : l = [] := List.eq_nil_of_length_eq_zero (by omega)
    subst this; exact ⟨rfl, trivial, rfl⟩
  | n + 1, l, h => by
    simp only [bld]
    split
    · rename_i h1
      have e1 : (l.take (l.length / 2)).length = l.length / 2 := by simp; omega
      have e2 : (l.drop (l.length / 2 + 1)).length = l.length - (l.length / 2 + 1) := by simp
      obtain ⟨a1, a2, a3⟩ := bld_facts n (l.take (l.length / 2)) (by omega)
      obtain ⟨b1, b2, b3⟩ := bld_facts n (l.drop (l.length / 2 + 1)) (by omega)
      rw [e1] at a3; rw [e2] at b3
      have hs : hb n (l.length - (l.length / 2 + 1)) ≤ hb n (l.length / 2) ∧ hb n (l.length / 2) ≤ hb n (l.length - (l.length / 2 + 1)) + 1 := by
        rcases (by omega : l.length - (l.length / 2 + 1) = l.length / 2 ∨ l.length - (l.length / 2 + 1) + 1 = l.length / 2) with h | h
        · rw [h]; omega
        · have := hb_step n (l.length - (l.length / 2 + 1)); rw [h] at this; exact this
      refine ⟨?_, ⟨a2, b2, by rw [a3, b3]; omega, by rw [a3, b3]; omega⟩, ?_⟩
      · simp only [list, a1, b1]
        have := List.take_append_drop (l.length / 2) l
        rw [List.drop_eq_getElem_cons h1] at this
        exact this
      · simp only [hgt, a3, b3, hb]; rw [if_neg (by omega)]; omega
    · have : l = [] := List.eq_nil_of_length_eq_zero (by omega)
      subst this; exact ⟨rfl, trivial, by simp [hgt, hb]⟩
end Tr
end Go.Proofs.Ytfmplibjhohpgaa
