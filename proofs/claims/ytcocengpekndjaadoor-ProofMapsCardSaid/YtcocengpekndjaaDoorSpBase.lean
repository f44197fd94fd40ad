/- Plain binary trees of runs (a length and a tag), as package span builds them: the operations, their lists of runs, and their balance. No program in sight. Plain lists of runs: what the calls of package span compute. No program in sight. Trees of package span in memory: a node is one block of 23 cells, which never changes once it is made. The walks over the joins of package span: turnLeft, turnRight, join, joinRight, joinLeft. The walks over joinRight, joinLeft and join of package span. The walks over joinLeft and join of package span. The walk over split of package span. The walks over takeLast, first, grow, leaf and concat of package span. Lists of runs in memory: slices of api.Run. The walks over the method before of package span, and the plain function that it computes. The walks over the iterator of package span: visit and within. The walks over the first calls of package span: New, Size, Len, Set, Count. The walks over Set and Count of package span. The walks over Count and Find of package span. The walk over Find of package span. The walk over Runs of package span. Runs of package span, whatever the map and its arguments. The walk over From of package span. The walks over Alike, Usable and Tag of the reference of span. The walk over From of the reference of span. The walk over awake. The walk over SpanFroms. A region that draws its order, walked by an invariant: what holds before an operation that may come up holds behind it; what holds when all have come up is what follows. Each operation is looked at once, whatever the order. A region that draws its order, operation by operation: the frame outside the region's own slots is as it was; each operation is looked at once. A region that draws its order, operation by operation, by a list of clauses: what a slot holds once its operation has come up, until another one has used it. -/
import Derived.Test.YtcocengpekndjaaDoorRows
import Derived.WalkKit
import Derived.WalkSpells
import Derived.WalkLawsBesides
import Derived.Deep.QuietTactic
import Derived.BigQuiet
import Derived.LoopTactic
import Derived.RegionTactic
import Derived.Deep.Cut
import Derived.Lib.Hide
import Derived.Deep.RegionHeld3
import Derived.Deep.RegionWith
import Derived.IntWalk
import Derived.RangeFuncNested
import Derived.RangeFuncBound
import Derived.RangeFuncCalls
import Derived.RangeFuncLeaves
import Derived.RangeFuncKeeps
import Derived.Shelf.Abstract
import Derived.Shelf.RegionOpen
import Derived.OwnWalkIn
import Derived.TacticsInMore
import Derived.LoopNIn
import Derived.LoopIn
import Derived.Sort.QuietTacIn
import Derived.Sort.BigQuietIn
import Derived.RangeFuncBox
import Derived.Maps.AppendAt
namespace Go.Proofs.YtcocengpekndjaaDoor
section
inductive Tr where
  | nil
  | node (l : Tr) (len tag : Int) (r : Tr)

namespace Tr

def hgt : Tr → Int
  | nil => 0
  | node l _ _ r => max l.hgt r.hgt + 1
def num : Tr → Int
  | nil => 0
  | node l _ _ r => l.num + r.num + 1
def pcs : Tr → Int
  | nil => 0
  | node l len _ r => l.pcs + r.pcs + len
def cnt (k : Int) : Tr → Int
  | nil => 0
  | node l len tag r => (if tag = k then len else 0) + l.cnt k + r.cnt k
def list : Tr → List (Int × Int)
  | nil => []
  | node l len tag r => l.list ++ (len, tag) :: r.list
def Bal : Tr → Prop
  | nil => True
  | node l _ _ r => l.Bal ∧ r.Bal ∧ l.hgt ≤ r.hgt + 1 ∧ r.hgt ≤ l.hgt + 1
/-- Each run has a piece, and a tag. -/
def Ok : Tr → Prop
  | nil => True
  | node l len tag r => l.Ok ∧ r.Ok ∧ 1 ≤ len ∧ 0 ≤ tag ∧ tag < 16
def isNil : Tr → Prop
  | nil => True
  | node _ _ _ _ => False

theorem hgt_nonneg : ∀ t : Tr, 0 ≤ t.hgt
  | nil => by simp [hgt]
  | node l _ _ r => by have := hgt_nonneg l; have := hgt_nonneg r; simp only [hgt]; omega
theorem num_nonneg : ∀ t : Tr, 0 ≤ t.num
  | nil => by simp [num]
  | node l _ _ r => by have := num_nonneg l; have := num_nonneg r; simp only [num]; omega
theorem pcs_nonneg : ∀ t : Tr, t.Ok → 0 ≤ t.pcs
  | nil, _ => by simp [pcs]
  | node l _ _ r, h => by
    obtain ⟨h1, h2, h3, _⟩ := h
    have := pcs_nonneg l h1; have := pcs_nonneg r h2; simp only [pcs]; omega
theorem hgt_le_num : ∀ t : Tr, t.hgt ≤ t.num
  | nil => by simp [hgt, num]
  | node l _ _ r => by
    have := hgt_le_num l; have := hgt_le_num r; have := num_nonneg l; have := num_nonneg r
    simp only [hgt, num]; omega
theorem num_le_pcs : ∀ t : Tr, t.Ok → t.num ≤ t.pcs
  | nil, _ => by simp [num, pcs]
  | node l _ _ r, h => by
    obtain ⟨h1, h2, h3, _⟩ := h
    have := num_le_pcs l h1; have := num_le_pcs r h2; simp only [num, pcs]; omega
theorem cnt_nonneg (k : Int) : ∀ t : Tr, t.Ok → 0 ≤ t.cnt k
  | nil, _ => by simp [cnt]
  | node l _ _ r, h => by
    obtain ⟨h1, h2, h3, _⟩ := h
    have := cnt_nonneg k l h1; have := cnt_nonneg k r h2; simp only [cnt]; split <;> omega
theorem cnt_le_pcs (k : Int) : ∀ t : Tr, t.Ok → t.cnt k ≤ t.pcs
  | nil, _ => by simp [cnt, pcs]
  | node l _ _ r, h => by
    obtain ⟨h1, h2, h3, _⟩ := h
    have := cnt_le_pcs k l h1; have := cnt_le_pcs k r h2; simp only [cnt, pcs]; split <;> omega
theorem pos_of_node {l : Tr} {len tag : Int} {r : Tr} : 1 ≤ (node l len tag r).hgt := by
  have := hgt_nonneg l; have := hgt_nonneg r; simp only [hgt]; omega
theorem num_list : ∀ t : Tr, t.num = t.list.length
  | nil => by simp [num, list]
  | node l _ _ r => by
    have := num_list l; have := num_list r
    simp only [num, list, List.length_append, List.length_cons]; omega

/-- The sum of the lengths. -/
def total (l : List (Int × Int)) : Int := (l.map (·.1)).sum
theorem total_append (a b : List (Int × Int)) : total (a ++ b) = total a + total b := by simp [total]
theorem total_cons (x : Int × Int) (b : List (Int × Int)) : total (x :: b) = x.1 + total b := by simp [total]
theorem total_nil : total [] = 0 := rfl
theorem pcs_list : ∀ t : Tr, t.pcs = total t.list
  | nil => by simp [pcs, list, total]
  | node l _ _ r => by
    have := pcs_list l; have := pcs_list r
    simp only [pcs, list, total_append, total_cons]; omega
/-- The sum of the lengths of the runs with a tag. -/
def totalOf (k : Int) (l : List (Int × Int)) : Int := (l.map fun x => if x.2 = k then x.1 else 0).sum
theorem totalOf_append (k : Int) (a b : List (Int × Int)) : totalOf k (a ++ b) = totalOf k a + totalOf k b := by simp [totalOf]
theorem totalOf_cons (k : Int) (x : Int × Int) (b : List (Int × Int)) : totalOf k (x :: b) = (if x.2 = k then x.1 else 0) + totalOf k b := by simp [totalOf]
theorem cnt_list (k : Int) : ∀ t : Tr, t.cnt k = totalOf k t.list
  | nil => by simp [cnt, list, totalOf]
  | node l _ _ r => by
    have := cnt_list k l; have := cnt_list k r
    simp only [cnt, list, totalOf_append, totalOf_cons]; omega
/-- All runs of a list have a piece and a tag. -/
def OkL (l : List (Int × Int)) : Prop := ∀ x ∈ l, 1 ≤ x.1 ∧ 0 ≤ x.2 ∧ x.2 < 16
theorem OkL.append {a b : List (Int × Int)} : OkL (a ++ b) ↔ OkL a ∧ OkL b := by
  unfold OkL; constructor
  · intro h; exact ⟨fun x hx => h x (by simp [hx]), fun x hx => h x (by simp [hx])⟩
  · rintro ⟨h1, h2⟩ x hx; rcases List.mem_append.1 hx with h | h
    · exact h1 x h
    · exact h2 x h
theorem OkL.cons {x : Int × Int} {b : List (Int × Int)} : OkL (x :: b) ↔ (1 ≤ x.1 ∧ 0 ≤ x.2 ∧ x.2 < 16) ∧ OkL b := by
  unfold OkL; simp
theorem ok_list : ∀ t : Tr, t.Ok ↔ OkL t.list
  | nil => by simp [Ok, list, OkL]
  | node l _ _ r => by
    have := ok_list l; have := ok_list r
    simp only [Ok, list, OkL.append, OkL.cons, *]
    constructor
    · rintro ⟨a, b, c⟩; exact ⟨a, c, b⟩
    · rintro ⟨a, c, b⟩; exact ⟨a, b, c⟩

/-! ### Turns and joins -/
def turnL : Tr → Tr
  | node l len tag (node rl rlen rtag rr) => node (node l len tag rl) rlen rtag rr
  | t => t
def turnR : Tr → Tr
  | node (node ll llen ltag lr) len tag r => node ll llen ltag (node lr len tag r)
  | t => t
theorem list_turnL : ∀ t : Tr, (turnL t).list = t.list
  | nil => rfl
  | node _ _ _ nil => rfl
  | node l len tag (node rl rlen rtag rr) => by simp [turnL, list]
theorem list_turnR : ∀ t : Tr, (turnR t).list = t.list
  | nil => rfl
  | node nil _ _ _ => rfl
  | node (node ll llen ltag lr) len tag r => by simp [turnR, list]

def joinR : Tr → Int → Int → Tr → Tr
  | nil, len, tag, r => node nil len tag r
  | node ll llen ltag lr, len, tag, r =>
    if lr.hgt ≤ r.hgt + 1 then
      if (node lr len tag r).hgt ≤ ll.hgt + 1 then node ll llen ltag (node lr len tag r)
      else turnL (node ll llen ltag (turnR (node lr len tag r)))
    else
      if (joinR lr len tag r).hgt ≤ ll.hgt + 1 then node ll llen ltag (joinR lr len tag r)
      else turnL (node ll llen ltag (joinR lr len tag r))
def joinL (l : Tr) (len tag : Int) : Tr → Tr
  | nil => node l len tag nil
  | node rl rlen rtag rr =>
    if rl.hgt ≤ l.hgt + 1 then
      if (node l len tag rl).hgt ≤ rr.hgt + 1 then node (node l len tag rl) rlen rtag rr
      else turnR (node (turnL (node l len tag rl)) rlen rtag rr)
    else
      if (joinL l len tag rl).hgt ≤ rr.hgt + 1 then node (joinL l len tag rl) rlen rtag rr
      else turnR (node (joinL l len tag rl) rlen rtag rr)
def join (l : Tr) (len tag : Int) (r : Tr) : Tr :=
  if r.hgt + 1 < l.hgt then joinR l len tag r
  else if l.hgt + 1 < r.hgt then joinL l len tag r
  else node l len tag r

theorem list_joinR (len tag : Int) (r : Tr) : ∀ l : Tr, (joinR l len tag r).list = l.list ++ (len, tag) :: r.list
  | nil => by simp [joinR, list]
  | node ll llen ltag lr => by
    have ih := list_joinR len tag r lr
    simp only [joinR]
    split
    · split
      · simp [list]
      · rw [list_turnL]; simp only [list]; rw [list_turnR]; simp [list]
    · split
      · simp [list, ih]
      · rw [list_turnL]; simp [list, ih]
theorem list_joinL (l : Tr) (len tag : Int) : ∀ r : Tr, (joinL l len tag r).list = l.list ++ (len, tag) :: r.list
  | nil => by simp [joinL, list]
  | node rl rlen rtag rr => by
    have ih := list_joinL l len tag rl
    simp only [joinL]
    split
    · split
      · simp [list]
      · rw [list_turnR]; simp only [list]; rw [list_turnL]; simp [list]
    · split
      · simp [list, ih]
      · rw [list_turnR]; simp [list, ih]
theorem list_join (l : Tr) (len tag : Int) (r : Tr) : (join l len tag r).list = l.list ++ (len, tag) :: r.list := by
  unfold join; split
  · exact list_joinR ..
  · split
    · exact list_joinL ..
    · rfl

/-- The left side is the lower one. -/
def lowLeft : Tr → Prop
  | nil => False
  | node a _ _ b => a.hgt + 1 ≤ b.hgt
/-- The right side is the lower one. -/
def lowRight : Tr → Prop
  | nil => False
  | node a _ _ b => b.hgt + 1 ≤ a.hgt

/-- What a join at the edge of the higher tree gives: balanced, and as high as that tree, or higher by one; then its outer side is the higher one. -/
theorem bal_joinR (len tag : Int) (r : Tr) (hr : r.Bal) : ∀ l : Tr, l.Bal → r.hgt + 1 < l.hgt →
    (joinR l len tag r).Bal ∧ l.hgt ≤ (joinR l len tag r).hgt ∧ (joinR l len tag r).hgt ≤ l.hgt + 1 ∧ ((joinR l len tag r).hgt = l.hgt + 1 → (joinR l len tag r).lowLeft)
  | nil, _, h => by have := hgt_nonneg r; simp only [hgt] at h; omega
  | node ll llen ltag lr, hl, h => by
    obtain ⟨b1, b2, b3, b4⟩ := hl
    have n1 := hgt_nonneg ll; have n2 := hgt_nonneg lr; have n3 := hgt_nonneg r
    simp only [hgt] at h
    simp only [joinR]
    split
    · rename_i h1
      split
      · rename_i h2
        simp only [hgt] at h2
        refine ⟨⟨b1, ⟨b2, hr, by omega, by omega⟩, by simp only [hgt]; omega, by simp only [hgt]; omega⟩, by simp only [hgt]; omega, by simp only [hgt]; omega, ?_⟩
        simp only [lowLeft, hgt]; omega
      · rename_i h2
        simp only [hgt] at h2
        cases lr with
        | nil => simp only [hgt] at *; omega
        | node x y z u =>
          obtain ⟨c1, c2, c3, c4⟩ := b2
          have m1 := hgt_nonneg x; have m2 := hgt_nonneg u
          simp only [turnR, turnL, Bal, hgt, lowLeft] at *
          refine ⟨⟨⟨b1, c1, ?_, ?_⟩, ⟨c2, hr, ?_, ?_⟩, ?_, ?_⟩, ?_, ?_, ?_⟩ <;> omega
    · rename_i h1
      obtain ⟨i1, i2, i3, i4⟩ := bal_joinR len tag r hr lr b2 (by omega)
      split
      · rename_i h2
        refine ⟨⟨b1, i1, by omega, by omega⟩, by simp only [hgt]; omega, by simp only [hgt]; omega, ?_⟩
        simp only [lowLeft, hgt]; omega
      · rename_i h2
        have i5 := i4 (by omega)
        cases hj : joinR lr len tag r with
        | nil => rw [hj] at i5; exact i5.elim
        | node x y z u =>
          rw [hj] at i1 i2 i3 i5 h2
          obtain ⟨c1, c2, c3, c4⟩ := i1
          have m1 := hgt_nonneg x; have m2 := hgt_nonneg u
          simp only [turnL, Bal, hgt, lowLeft] at *
          refine ⟨⟨⟨b1, c1, ?_, ?_⟩, c2, ?_, ?_⟩, ?_, ?_, ?_⟩ <;> omega
theorem bal_joinL (l : Tr) (len tag : Int) (hl : l.Bal) : ∀ r : Tr, r.Bal → l.hgt + 1 < r.hgt →
    (joinL l len tag r).Bal ∧ r.hgt ≤ (joinL l len tag r).hgt ∧ (joinL l len tag r).hgt ≤ r.hgt + 1 ∧ ((joinL l len tag r).hgt = r.hgt + 1 → (joinL l len tag r).lowRight)
  | nil, _, h => by have := hgt_nonneg l; simp only [hgt] at h; omega
  | node rl rlen rtag rr, hr, h => by
    obtain ⟨b1, b2, b3, b4⟩ := hr
    have n1 := hgt_nonneg rl; have n2 := hgt_nonneg rr; have n3 := hgt_nonneg l
    simp only [hgt] at h
    simp only [joinL]
    split
    · rename_i h1
      split
      · rename_i h2
        simp only [hgt] at h2
        refine ⟨⟨⟨hl, b1, by omega, by omega⟩, b2, by simp only [hgt]; omega, by simp only [hgt]; omega⟩, by simp only [hgt]; omega, by simp only [hgt]; omega, ?_⟩
        simp only [lowRight, hgt]; omega
      · rename_i h2
        simp only [hgt] at h2
        cases rl with
        | nil => simp only [hgt] at *; omega
        | node x y z u =>
          obtain ⟨c1, c2, c3, c4⟩ := b1
          have m1 := hgt_nonneg x; have m2 := hgt_nonneg u
          simp only [turnR, turnL, Bal, hgt, lowRight] at *
          refine ⟨⟨⟨hl, c1, ?_, ?_⟩, ⟨c2, b2, ?_, ?_⟩, ?_, ?_⟩, ?_, ?_, ?_⟩ <;> omega
    · rename_i h1
      obtain ⟨i1, i2, i3, i4⟩ := bal_joinL l len tag hl rl b1 (by omega)
      split
      · rename_i h2
        refine ⟨⟨i1, b2, by omega, by omega⟩, by simp only [hgt]; omega, by simp only [hgt]; omega, ?_⟩
        simp only [lowRight, hgt]; omega
      · rename_i h2
        have i5 := i4 (by omega)
        cases hj : joinL l len tag rl with
        | nil => rw [hj] at i5; exact i5.elim
        | node x y z u =>
          rw [hj] at i1 i2 i3 i5 h2
          obtain ⟨c1, c2, c3, c4⟩ := i1
          have m1 := hgt_nonneg x; have m2 := hgt_nonneg u
          simp only [turnR, Bal, hgt, lowRight] at *
          refine ⟨⟨c1, ⟨c2, b2, ?_, ?_⟩, ?_, ?_⟩, ?_, ?_, ?_⟩ <;> omega
theorem bal_join (l : Tr) (len tag : Int) (r : Tr) (hl : l.Bal) (hr : r.Bal) : (join l len tag r).Bal := by
  unfold join; split
  · exact (bal_joinR len tag r hr l hl (by omega)).1
  · split
    · exact (bal_joinL l len tag hl r hr (by omega)).1
    · exact ⟨hl, hr, by omega, by omega⟩
theorem ok_join (l : Tr) (len tag : Int) (r : Tr) (hl : l.Ok) (hr : r.Ok) (h1 : 1 ≤ len) (h2 : 0 ≤ tag) (h3 : tag < 16) : (join l len tag r).Ok := by
  rw [ok_list, list_join, OkL.append, OkL.cons]
  exact ⟨(ok_list l).1 hl, ⟨h1, h2, h3⟩, (ok_list r).1 hr⟩
theorem ok_joinR (l : Tr) (len tag : Int) (r : Tr) (hl : l.Ok) (hr : r.Ok) (h1 : 1 ≤ len) (h2 : 0 ≤ tag) (h3 : tag < 16) : (joinR l len tag r).Ok := by
  rw [ok_list, list_joinR, OkL.append, OkL.cons]
  exact ⟨(ok_list l).1 hl, ⟨h1, h2, h3⟩, (ok_list r).1 hr⟩
theorem ok_joinL (l : Tr) (len tag : Int) (r : Tr) (hl : l.Ok) (hr : r.Ok) (h1 : 1 ≤ len) (h2 : 0 ≤ tag) (h3 : tag < 16) : (joinL l len tag r).Ok := by
  rw [ok_list, list_joinL, OkL.append, OkL.cons]
  exact ⟨(ok_list l).1 hl, ⟨h1, h2, h3⟩, (ok_list r).1 hr⟩
theorem pcs_joinR (l : Tr) (len tag : Int) (r : Tr) : (joinR l len tag r).pcs = l.pcs + r.pcs + len := by
  rw [pcs_list, list_joinR, total_append, total_cons, ← pcs_list, ← pcs_list]; omega
theorem pcs_joinL (l : Tr) (len tag : Int) (r : Tr) : (joinL l len tag r).pcs = l.pcs + r.pcs + len := by
  rw [pcs_list, list_joinL, total_append, total_cons, ← pcs_list, ← pcs_list]; omega
theorem pcs_join (l : Tr) (len tag : Int) (r : Tr) : (join l len tag r).pcs = l.pcs + r.pcs + len := by
  rw [pcs_list, list_join, total_append, total_cons, ← pcs_list, ← pcs_list]; omega
/-- In a join at the right edge the new part is turned only if it has a left side. -/
theorem joinR_turns {ll : Tr} {llen ltag : Int} {lr : Tr} {len tag : Int} {r : Tr} (hl : (node ll llen ltag lr).Bal) (h : r.hgt + 1 < (node ll llen ltag lr).hgt)
    (h2 : ¬ (node lr len tag r).hgt ≤ ll.hgt + 1) : lr ≠ nil := by
  rintro rfl
  obtain ⟨b1, b2, b3, b4⟩ := hl
  have := hgt_nonneg r; have := hgt_nonneg ll
  simp only [hgt] at *; omega
theorem joinL_turns {rl : Tr} {rlen rtag : Int} {rr : Tr} {len tag : Int} {l : Tr} (hr : (node rl rlen rtag rr).Bal) (h : l.hgt + 1 < (node rl rlen rtag rr).hgt)
    (h2 : ¬ (node l len tag rl).hgt ≤ rr.hgt + 1) : rl ≠ nil := by
  rintro rfl
  obtain ⟨b1, b2, b3, b4⟩ := hr
  have := hgt_nonneg l; have := hgt_nonneg rr
  simp only [hgt] at *; omega

/-! ### Splitting, and putting together -/
def split : Tr → Int → Tr × Tr
  | nil, _ => (nil, nil)
  | node l len tag r, at' =>
    if at' ≤ l.pcs then ((split l at').1, join (split l at').2 len tag r)
    else if l.pcs + len ≤ at' then (join l len tag (split r (at' - l.pcs - len)).1, (split r (at' - l.pcs - len)).2)
    else (join l (at' - l.pcs) tag nil, join nil (l.pcs + len - at') tag r)
def takeLast : Tr → Tr × Int × Int
  | nil => (nil, 0, 0)
  | node l len tag r => match r with
    | nil => (l, len, tag)
    | node _ _ _ _ => (join l len tag (takeLast r).1, (takeLast r).2)
def first : Tr → Int
  | nil => 0
  | node l _ tag _ => match l with
    | nil => tag
    | node _ _ _ _ => first l
def grow (by' : Int) : Tr → Tr
  | nil => nil
  | node l len tag r => match l with
    | nil => node nil (len + by') tag r
    | node _ _ _ _ => node (grow by' l) len tag r
def concat (a b : Tr) : Tr :=
  match a with
  | nil => b
  | node _ _ _ _ => match b with
    | nil => a
    | node _ _ _ _ =>
      if (takeLast a).2.2 = first b then
        match (takeLast a).1 with
        | nil => grow (takeLast a).2.1 b
        | node _ _ _ _ => join (takeLast (takeLast a).1).1 (takeLast (takeLast a).1).2.1 (takeLast (takeLast a).1).2.2 (grow (takeLast a).2.1 b)
      else join (takeLast a).1 (takeLast a).2.1 (takeLast a).2.2 b
def leaf (len tag : Int) : Tr := if len = 0 then nil else node nil len tag nil
/-- The balanced tree of runs. -/
def bld : Nat → List (Int × Int) → Tr
  | 0, _ => nil
  | n + 1, l => if h : l.length / 2 < l.length then node (bld n (l.take (l.length / 2))) (l[l.length / 2]'h).1 (l[l.length / 2]'h).2 (bld n (l.drop (l.length / 2 + 1))) else nil

theorem split_list : ∀ (t : Tr) (k : Int), t.Ok → t.Bal → 0 ≤ k → k ≤ t.pcs →
    (split t k).1.Bal ∧ (split t k).2.Bal ∧ (split t k).1.Ok ∧ (split t k).2.Ok ∧ (split t k).1.pcs = k ∧ (split t k).2.pcs = t.pcs - k
  | nil, k, _, _, h1, h2 => by simp only [pcs] at *; simp [split, Bal, Ok, pcs]; omega
  | node l len tag r, k, ho, hb, h1, h2 => by
    obtain ⟨o1, o2, o3, o4, o5⟩ := ho
    obtain ⟨b1, b2, b3, b4⟩ := hb
    have p1 := pcs_nonneg l o1; have p2 := pcs_nonneg r o2
    simp only [pcs] at h2
    simp only [split]
    split
    · rename_i h
      obtain ⟨i1, i2, i3, i4, i5, i6⟩ := split_list l k o1 b1 h1 h
      exact ⟨i1, bal_join _ _ _ _ i2 b2, i3, ok_join _ _ _ _ i4 o2 o3 o4 o5, i5, by rw [pcs_join]; simp only [pcs]; omega⟩
    · split
      · rename_i h h'
        obtain ⟨i1, i2, i3, i4, i5, i6⟩ := split_list r (k - l.pcs - len) o2 b2 (by omega) (by omega)
        exact ⟨bal_join _ _ _ _ b1 i1, i2, ok_join _ _ _ _ o1 i3 o3 o4 o5, i4, by rw [pcs_join]; omega, by simp only [pcs]; omega⟩
      · rename_i h h'
        refine ⟨bal_join _ _ _ _ b1 trivial, bal_join _ _ _ _ trivial b2, ok_join _ _ _ _ o1 trivial (by omega) o4 o5, ok_join _ _ _ _ trivial o2 (by omega) o4 o5, ?_, ?_⟩
        · rw [pcs_join]; simp only [pcs]; omega
        · rw [pcs_join]; simp only [pcs]; omega

theorem takeLast_list : ∀ t : Tr, t ≠ nil → t.list = (takeLast t).1.list ++ [(takeLast t).2]
  | nil, h => (h rfl).elim
  | node l len tag nil, _ => by simp [takeLast, list]
  | node l len tag (node a b c d), _ => by
    have ih := takeLast_list (node a b c d) (by simp)
    rw [list, ih]
    simp only [takeLast]
    rw [list_join]; simp
theorem takeLast_bal : ∀ t : Tr, t.Bal → (takeLast t).1.Bal
  | nil, h => h
  | node _l _len _tag nil, h => h.1
  | node _l _len _tag (node a b c d), h => bal_join _ _ _ _ h.1 (takeLast_bal (node a b c d) h.2.1)
theorem takeLast_facts (t : Tr) (h : t ≠ nil) (ho : t.Ok) : (takeLast t).1.Ok ∧ 1 ≤ (takeLast t).2.1 ∧ 0 ≤ (takeLast t).2.2 ∧ (takeLast t).2.2 < 16 ∧ (takeLast t).1.pcs + (takeLast t).2.1 = t.pcs := by
  have e := takeLast_list t h
  have o := (ok_list t).1 ho
  rw [e, OkL.append, OkL.cons] at o
  obtain ⟨o1, ⟨o2, o3, o4⟩, _⟩ := o
  refine ⟨(ok_list _).2 o1, o2, o3, o4, ?_⟩
  rw [pcs_list t, e, total_append, total_cons, total_nil, ← pcs_list]; omega
theorem first_list : ∀ t : Tr, ∀ x l, t.list = x :: l → first t = x.2
  | nil, x, l, h => by simp [list] at h
  | node nil len tag r, x, l, h => by simp [list] at h; simp [first, ← h.1]
  | node (node a b c d) len tag r, x, l, h => by
    have ih := first_list (node a b c d)
    rw [list] at h
    cases hl : (node a b c d).list with
    | nil => simp [list] at hl
    | cons y ys =>
      rw [hl] at h; simp only [List.cons_append, List.cons.injEq] at h
      rw [← h.1]; exact ih y ys hl
theorem grow_list (k : Int) : ∀ t : Tr, ∀ x l, t.list = x :: l → (grow k t).list = (x.1 + k, x.2) :: l
  | nil, x, l, h => by simp [list] at h
  | node nil len tag r, x, l, h => by simp [list] at h; obtain ⟨rfl, rfl⟩ := h; simp [grow, list]
  | node (node a b c d) len tag r, x, l, h => by
    have ih := grow_list k (node a b c d)
    rw [list] at h
    cases hl : (node a b c d).list with
    | nil => simp [list] at hl
    | cons y ys =>
      rw [hl] at h; simp only [List.cons_append, List.cons.injEq] at h
      obtain ⟨rfl, rfl⟩ := h
      have := ih y ys hl
      simp only [grow, list] at this ⊢
      rw [this]; simp
theorem list_ne (t : Tr) (h : t ≠ nil) : ∃ x l, t.list = x :: l := by
  cases t with
  | nil => exact (h rfl).elim
  | node l len tag r => cases hl : l.list with
    | nil => exact ⟨_, _, by rw [list, hl]; rfl⟩
    | cons y ys => exact ⟨_, _, by rw [list, hl]; rfl⟩
theorem grow_facts (k : Int) (t : Tr) (h : t ≠ nil) (ho : t.Ok) (hk : 0 ≤ k) : (grow k t).Ok ∧ (grow k t).pcs = t.pcs + k := by
  obtain ⟨x, l, e⟩ := list_ne t h
  have g := grow_list k t x l e
  have o := (ok_list t).1 ho
  rw [e, OkL.cons] at o
  refine ⟨(ok_list _).2 ?_, ?_⟩
  · rw [g, OkL.cons]; exact ⟨⟨by omega, o.1.2⟩, o.2⟩
  · rw [pcs_list, g, total_cons, pcs_list t, e, total_cons]; omega
theorem grow_hgt (k : Int) : ∀ t : Tr, (grow k t).hgt = t.hgt
  | nil => rfl
  | node nil len tag r => rfl
  | node (node a b c d) len tag r => by
    have ih := grow_hgt k (node a b c d)
    simp only [grow, hgt] at ih ⊢; rw [ih]
theorem grow_bal (k : Int) : ∀ t : Tr, t.Bal → (grow k t).Bal
  | nil, _ => trivial
  | node nil len tag r, h => h
  | node (node a b c d) len tag r, h => by
    have ih := grow_bal k (node a b c d) h.1
    have e := grow_hgt k (node a b c d)
    obtain ⟨b1, b2, b3, b4⟩ := h
    exact ⟨ih, b2, by rw [e]; exact b3, by rw [e]; exact b4⟩
end Tr

/-! ### Lists of runs, each a length and a tag -/
open Tr (total totalOf OkL)

/-- No two neighbors have the same tag. -/
def Norm : List (Int × Int) → Prop
  | [] => True
  | x :: l => (∀ y, l.head? = some y → x.2 ≠ y.2) ∧ Norm l
/-- The tag of a piece. -/
def atL : List (Int × Int) → Int → Int
  | [], _ => 0
  | x :: l, p => if p < x.1 then x.2 else atL l (p - x.1)
def takeP : Int → List (Int × Int) → List (Int × Int)
  | _, [] => []
  | k, x :: l => if k ≤ 0 then [] else if k < x.1 then [(k, x.2)] else x :: takeP (k - x.1) l
def dropP : Int → List (Int × Int) → List (Int × Int)
  | _, [] => []
  | k, x :: l => if k ≤ 0 then x :: l else if k < x.1 then (x.1 - k, x.2) :: l else dropP (k - x.1) l
/-- A run in front of a list: one with the run behind it if both have the same tag. -/
def consM (x : Int × Int) : List (Int × Int) → List (Int × Int)
  | [] => [x]
  | y :: l => if x.2 = y.2 then (y.1 + x.1, y.2) :: l else x :: y :: l
def concatL : List (Int × Int) → List (Int × Int) → List (Int × Int)
  | [], b => b
  | x :: l, b => match l with
    | [] => consM x b
    | _ :: _ => x :: concatL l b

theorem total_nonneg {l : List (Int × Int)} (h : OkL l) : 0 ≤ total l := by
  induction l with
  | nil => simp [total]
  | cons x l ih =>
    have h' := OkL.cons.1 h
    have := ih h'.2
    rw [Tr.total_cons]; omega
theorem concatL_snoc (a : List (Int × Int)) (x : Int × Int) (b : List (Int × Int)) : concatL (a ++ [x]) b = a ++ consM x b := by
  induction a with
  | nil => rfl
  | cons y a ih =>
    cases a with
    | nil => simp [concatL]
    | cons z a => simp only [List.cons_append] at ih ⊢; rw [concatL, ih]
theorem consM_total (x : Int × Int) (b : List (Int × Int)) : total (consM x b) = x.1 + total b := by
  cases b with
  | nil => simp [consM, total]
  | cons y b => simp only [consM]; split <;> simp only [Tr.total_cons] <;> omega
theorem consM_ok {x : Int × Int} {b : List (Int × Int)} (hx : 1 ≤ x.1 ∧ 0 ≤ x.2 ∧ x.2 < 16) (hb : OkL b) : OkL (consM x b) := by
  cases b with
  | nil => simpa [consM, OkL] using hx
  | cons y b =>
    have hb' := OkL.cons.1 hb
    simp only [consM]; split
    · exact OkL.cons.2 ⟨by simp; omega, hb'.2⟩
    · exact OkL.cons.2 ⟨hx, hb⟩
theorem consM_norm {x : Int × Int} {b : List (Int × Int)} (hb : Norm b) : Norm (consM x b) := by
  cases b with
  | nil => simp [consM, Norm]
  | cons y b =>
    simp only [consM]; split
    · exact hb
    · rename_i h; exact ⟨fun z hz => by simp at hz; subst hz; exact h, hb⟩
theorem consM_at {x : Int × Int} {b : List (Int × Int)} (hb : OkL b) (p : Int) : atL (consM x b) p = if p < x.1 then x.2 else atL b (p - x.1) := by
  cases b with
  | nil => rfl
  | cons y b =>
    have hb' := (OkL.cons.1 hb).1
    simp only [consM]; split
    · rename_i h
      simp only [atL]
      by_cases h1 : p < x.1
      · rw [if_pos (by omega), if_pos h1, h]
      · rw [if_neg h1]
        by_cases h2 : p - x.1 < y.1
        · rw [if_pos (by omega), if_pos h2]
        · rw [if_neg (by omega), if_neg h2]
          congr 1; omega
    · rfl
theorem concatL_total (a b : List (Int × Int)) : total (concatL a b) = total a + total b := by
  induction a with
  | nil => simp only [concatL, Tr.total_nil]; omega
  | cons x a ih =>
    cases a with
    | nil => simp only [concatL, consM_total, Tr.total_cons, Tr.total_nil]; omega
    | cons z a => simp only [concatL, Tr.total_cons] at ih ⊢; omega
theorem concatL_ok {a b : List (Int × Int)} (ha : OkL a) (hb : OkL b) : OkL (concatL a b) := by
  induction a with
  | nil => exact hb
  | cons x a ih =>
    have ha' := OkL.cons.1 ha
    cases a with
    | nil => exact consM_ok ha'.1 hb
    | cons z a => exact OkL.cons.2 ⟨ha'.1, ih ha'.2⟩
theorem concatL_head {a b : List (Int × Int)} {x : Int × Int} (h : a.head? = some x) : ∃ y, (concatL a b).head? = some y ∧ y.2 = x.2 := by
  cases a with
  | nil => simp at h
  | cons z a =>
    simp at h; subst h
    cases a with
    | nil =>
      cases b with
      | nil => exact ⟨z, rfl, rfl⟩
      | cons y b =>
        simp only [concatL, consM]; split
        · rename_i h; exact ⟨_, rfl, h.symm⟩
        · exact ⟨_, rfl, rfl⟩
    | cons y a => exact ⟨_, rfl, rfl⟩
theorem concatL_norm {a b : List (Int × Int)} (ha : Norm a) (hb : Norm b) : Norm (concatL a b) := by
  induction a with
  | nil => exact hb
  | cons x a ih =>
    cases a with
    | nil => exact consM_norm hb
    | cons z a =>
      refine ⟨fun y hy => ?_, ih ha.2⟩
      obtain ⟨u, hu, hu2⟩ := concatL_head (b := b) (show (z :: a).head? = some z from rfl)
      rw [hu] at hy; cases hy
      rw [hu2]; exact ha.1 z rfl
theorem concatL_at {a b : List (Int × Int)} (ha : OkL a) (hb : OkL b) (p : Int) (h0 : 0 ≤ p) : atL (concatL a b) p = if p < total a then atL a p else atL b (p - total a) := by
  induction a generalizing p with
  | nil => rw [Tr.total_nil, if_neg (by omega)]; simp [concatL]
  | cons x a ih =>
    have ha' := OkL.cons.1 ha
    cases a with
    | nil =>
      simp only [concatL, Tr.total_cons, Tr.total_nil, Int.add_zero]
      rw [consM_at hb p]
      simp only [atL]; split <;> rfl
    | cons z a =>
      have := total_nonneg ha'.2
      rw [concatL, Tr.total_cons x]
      simp only [atL]
      by_cases h1 : p < x.1
      · rw [if_pos h1, if_pos (by omega), if_pos h1]
      · rw [if_neg h1, ih ha'.2 (p - x.1) (by omega)]
        by_cases h2 : p - x.1 < total (z :: a)
        · rw [if_pos h2, if_pos (by omega), if_neg h1]; rfl
        · rw [if_neg h2, if_neg (by omega)]; congr 1; omega
theorem atL_append {a b : List (Int × Int)} (ha : OkL a) (p : Int) (h0 : 0 ≤ p) : atL (a ++ b) p = if p < total a then atL a p else atL b (p - total a) := by
  induction a generalizing p with
  | nil => rw [Tr.total_nil, if_neg (by omega)]; simp
  | cons x a ih =>
    have ha' := OkL.cons.1 ha
    have := total_nonneg ha'.2
    rw [List.cons_append, Tr.total_cons]
    simp only [atL]
    by_cases h1 : p < x.1
    · rw [if_pos h1, if_pos (by omega), if_pos h1]
    · rw [if_neg h1, ih ha'.2 (p - x.1) (by omega)]
      by_cases h2 : p - x.1 < total a
      · rw [if_pos h2, if_pos (by omega), if_neg h1]
      · rw [if_neg h2, if_neg (by omega)]; congr 1; omega
/-- A list of runs without neighbors of one tag is known by the tags of its pieces. -/
theorem canon {a b : List (Int × Int)} (ha : OkL a) (hb : OkL b) (na : Norm a) (nb : Norm b) (ht : total a = total b) (h : ∀ p, 0 ≤ p → p < total a → atL a p = atL b p) : a = b := by
  induction a generalizing b with
  | nil =>
    cases b with
    | nil => rfl
    | cons y b =>
      have hb' := OkL.cons.1 hb; have := total_nonneg hb'.2
      rw [Tr.total_nil, Tr.total_cons] at ht; omega
  | cons x a ih =>
    have ha' := OkL.cons.1 ha; have ta := total_nonneg ha'.2
    cases b with
    | nil => rw [Tr.total_nil, Tr.total_cons] at ht; omega
    | cons y b =>
      have hb' := OkL.cons.1 hb; have tb := total_nonneg hb'.2
      rw [Tr.total_cons, Tr.total_cons] at ht
      rw [Tr.total_cons] at h
      have h1 := h 0 (by omega) (by omega)
      simp only [atL] at h1
      rw [if_pos (by omega), if_pos (by omega)] at h1
      have h2 : x.1 = y.1 := by
        rcases Int.lt_trichotomy x.1 y.1 with hl | he | hg
        · have h3 := h x.1 (by omega) (by omega)
          simp only [atL] at h3
          rw [if_neg (by omega), if_pos hl] at h3
          cases a with
          | nil => rw [Tr.total_nil] at *; omega
          | cons z a =>
            have hz := (OkL.cons.1 ha'.2).1
            have := na.1 z rfl
            simp only [atL] at h3
            rw [if_pos (by omega)] at h3
            exact (this (by rw [h1, h3])).elim
        · exact he
        · have h3 := h y.1 (by omega) (by omega)
          simp only [atL] at h3
          rw [if_pos (by omega), if_neg (by omega)] at h3
          cases b with
          | nil => rw [Tr.total_nil] at *; omega
          | cons z b =>
            have hz := (OkL.cons.1 hb'.2).1
            have := nb.1 z rfl
            simp only [atL] at h3
            rw [if_pos (by omega)] at h3
            exact (this (by rw [← h1, h3])).elim
      have hxy : x = y := Prod.ext h2 h1
      subst hxy
      congr 1
      refine ih ha'.2 hb'.2 na.2 nb.2 (by omega) fun p p0 p1 => ?_
      have h3 := h (p + x.1) (by omega) (by omega)
      simp only [atL] at h3
      rw [if_neg (by omega), if_neg (by omega)] at h3
      rw [show p + x.1 - x.1 = p from by omega] at h3
      exact h3

theorem takeP_append {a b : List (Int × Int)} (ha : OkL a) (k : Int) : takeP k (a ++ b) = if k ≤ total a then takeP k a else a ++ takeP (k - total a) b := by
  induction a generalizing k with
  | nil =>
    rw [Tr.total_nil, List.nil_append]
    split
    · cases b with
      | nil => rfl
      | cons y b => simp only [takeP]; rw [if_pos (by omega)]
    · simp
  | cons x a ih =>
    have ha' := OkL.cons.1 ha; have := total_nonneg ha'.2
    rw [List.cons_append, Tr.total_cons]
    simp only [takeP]
    by_cases h1 : k ≤ 0
    · rw [if_pos h1, if_pos (by omega), if_pos h1]
    · rw [if_neg h1]
      by_cases h2 : k < x.1
      · rw [if_pos h2, if_pos (by omega), if_neg h1, if_pos h2]
      · rw [if_neg h2, ih ha'.2]
        by_cases h3 : k - x.1 ≤ total a
        · rw [if_pos h3, if_pos (by omega), if_neg h1, if_neg h2]
        · rw [if_neg h3, if_neg (by omega), List.cons_append]; congr 3; omega
theorem dropP_append {a b : List (Int × Int)} (ha : OkL a) (k : Int) (hk : 0 ≤ k) : dropP k (a ++ b) = if k ≤ total a then dropP k a ++ b else dropP (k - total a) b := by
  induction a generalizing k with
  | nil =>
    rw [Tr.total_nil, List.nil_append]
    split
    · cases b with
      | nil => rfl
      | cons y b => simp only [dropP]; rw [if_pos (by omega)]; rfl
    · simp
  | cons x a ih =>
    have ha' := OkL.cons.1 ha; have := total_nonneg ha'.2
    rw [List.cons_append, Tr.total_cons]
    simp only [dropP]
    by_cases h1 : k ≤ 0
    · rw [if_pos h1, if_pos (by omega), if_pos h1]; rfl
    · rw [if_neg h1]
      by_cases h2 : k < x.1
      · rw [if_pos h2, if_pos (by omega), if_neg h1, if_pos h2]; rfl
      · rw [if_neg h2, ih ha'.2 _ (by omega)]
        by_cases h3 : k - x.1 ≤ total a
        · rw [if_pos h3, if_pos (by omega), if_neg h1, if_neg h2]
        · rw [if_neg h3, if_neg (by omega)]; congr 1; omega
theorem takeP_total {a : List (Int × Int)} (ha : OkL a) {k : Int} (h0 : 0 ≤ k) (h1 : k ≤ total a) : total (takeP k a) = k := by
  induction a generalizing k with
  | nil => rw [Tr.total_nil] at h1; simp [takeP, Tr.total_nil]; omega
  | cons x a ih =>
    have ha' := OkL.cons.1 ha; rw [Tr.total_cons] at h1
    simp only [takeP]; split
    · rw [Tr.total_nil]; omega
    · split
      · simp [Tr.total_cons, Tr.total_nil]
      · rw [Tr.total_cons, ih ha'.2 (by omega) (by omega)]; omega
theorem dropP_total {a : List (Int × Int)} (ha : OkL a) {k : Int} (h0 : 0 ≤ k) (h1 : k ≤ total a) : total (dropP k a) = total a - k := by
  induction a generalizing k with
  | nil => rw [Tr.total_nil] at h1; simp [dropP, Tr.total_nil]; omega
  | cons x a ih =>
    have ha' := OkL.cons.1 ha; rw [Tr.total_cons] at h1
    simp only [dropP]; split
    · rw [Tr.total_cons]; omega
    · split
      · simp only [Tr.total_cons]; omega
      · rw [ih ha'.2 (by omega) (by omega), Tr.total_cons]; omega
theorem takeP_ok {a : List (Int × Int)} (ha : OkL a) (k : Int) : OkL (takeP k a) := by
  induction a generalizing k with
  | nil => simp [takeP, OkL]
  | cons x a ih =>
    have ha' := OkL.cons.1 ha
    simp only [takeP]; split
    · simp [OkL]
    · split
      · exact OkL.cons.2 ⟨by simp; omega, by simp [OkL]⟩
      · exact OkL.cons.2 ⟨ha'.1, ih ha'.2 _⟩
theorem dropP_ok {a : List (Int × Int)} (ha : OkL a) (k : Int) : OkL (dropP k a) := by
  induction a generalizing k with
  | nil => simp [dropP, OkL]
  | cons x a ih =>
    have ha' := OkL.cons.1 ha
    simp only [dropP]; split
    · exact ha
    · split
      · exact OkL.cons.2 ⟨by simp; omega, ha'.2⟩
      · exact ih ha'.2 _
theorem takeP_norm {a : List (Int × Int)} (ha : Norm a) (k : Int) : Norm (takeP k a) := by
  induction a generalizing k with
  | nil => exact trivial
  | cons x a ih =>
    simp only [takeP]; split
    · exact trivial
    · split
      · exact ⟨by simp, trivial⟩
      · refine ⟨fun y hy => ?_, ih ha.2 _⟩
        cases a with
        | nil => simp [takeP] at hy
        | cons z a =>
          have := ha.1 z rfl
          simp only [takeP] at hy
          split at hy
          · simp at hy
          · split at hy
            · simp at hy; subst hy; exact this
            · simp at hy; subst hy; exact this
theorem dropP_norm {a : List (Int × Int)} (ha : Norm a) (k : Int) : Norm (dropP k a) := by
  induction a generalizing k with
  | nil => exact trivial
  | cons x a ih =>
    simp only [dropP]; split
    · exact ha
    · split
      · exact ⟨fun y hy => ha.1 y hy, ha.2⟩
      · exact ih ha.2 _
theorem takeP_at {a : List (Int × Int)} {k p : Int} (h0 : 0 ≤ p) (h1 : p < k) : atL (takeP k a) p = atL a p := by
  induction a generalizing k p with
  | nil => rfl
  | cons x a ih =>
    simp only [takeP]; rw [if_neg (by omega)]; split
    · simp only [atL]; rw [if_pos h1, if_pos (by omega)]
    · simp only [atL]; split
      · rfl
      · exact ih (by omega) (by omega)
theorem dropP_at {a : List (Int × Int)} (ha : OkL a) {k p : Int} (hk : 0 ≤ k) (h0 : 0 ≤ p) : atL (dropP k a) p = atL a (p + k) := by
  induction a generalizing k p with
  | nil => rfl
  | cons x a ih =>
    have ha' := OkL.cons.1 ha
    simp only [dropP]; split
    · have : k = 0 := by omega
      subst this; simp
    · split
      · simp only [atL]
        by_cases h : p < x.1 - k
        · rw [if_pos h, if_pos (by omega)]
        · rw [if_neg h, if_neg (by omega)]; congr 1; omega
      · rw [ih ha'.2 (by omega) h0]; simp only [atL]; rw [if_neg (by omega)]; congr 1; omega

namespace Tr
theorem leaf_list (len tag : Int) : (leaf len tag).list = if len = 0 then [] else [(len, tag)] := by
  unfold leaf; split <;> rfl
theorem leaf_bal (len tag : Int) : (leaf len tag).Bal := by
  unfold leaf; split
  · trivial
  · exact ⟨trivial, trivial, by simp [hgt], by simp [hgt]⟩
theorem split_takeP : ∀ (t : Tr) (k : Int), t.Ok → 0 ≤ k → k ≤ t.pcs → (split t k).1.list = takeP k t.list ∧ (split t k).2.list = dropP k t.list
  | nil, k, _, _, _ => ⟨rfl, rfl⟩
  | node l len tag r, k, ho, h1, h2 => by
    obtain ⟨o1, o2, o3, o4, o5⟩ := ho
    have p1 := pcs_nonneg l o1; have p2 := pcs_nonneg r o2
    have q1 := (ok_list l).1 o1
    simp only [pcs] at h2
    simp only [split, list]
    rw [takeP_append q1, dropP_append q1 _ h1, ← pcs_list]
    split
    · rename_i h
      obtain ⟨i1, i2⟩ := split_takeP l k o1 h1 h
      exact ⟨i1, by rw [list_join, i2]⟩
    · rename_i h
      split
      · rename_i h'
        obtain ⟨i1, i2⟩ := split_takeP r (k - l.pcs - len) o2 (by omega) (by omega)
        simp only [takeP, dropP]
        rw [if_neg (by omega), if_neg (by omega), if_neg (by omega), if_neg (by omega)]
        exact ⟨by rw [list_join, i1], i2⟩
      · rename_i h'
        simp only [takeP, dropP]
        rw [if_neg (by omega), if_pos (by omega), if_neg (by omega), if_pos (by omega)]
        refine ⟨by rw [list_join]; rfl, ?_⟩
        rw [list_join]; simp only [list, List.nil_append]; congr 2; omega
theorem concat_list (a b : Tr) : (concat a b).list = concatL a.list b.list := by
  cases a with
  | nil => rfl
  | node al alen atag ar =>
    have hA := takeLast_list (node al alen atag ar) (by simp)
    cases b with
    | nil =>
      simp only [concat]
      rw [hA]; show _ = concatL _ []
      rw [concatL_snoc]; rfl
    | node bl blen btag br =>
      cases hB : (node bl blen btag br).list with
      | nil => simp [list] at hB
      | cons y ys =>
        have hf := first_list _ y ys hB
        have hg := grow_list (takeLast (node al alen atag ar)).2.1 _ y ys hB
        simp only [concat]
        split
        · rename_i ht
          cases hR : (takeLast (node al alen atag ar)).1 with
          | nil =>
            simp only []
            rw [hA, hR, concatL_snoc, hg]
            simp only [list, List.nil_append, consM]
            rw [if_pos (by rw [ht, hf])]
          | node cl clen ctag cr =>
            have hC := takeLast_list (node cl clen ctag cr) (by simp)
            simp only []
            rw [hA, hR, concatL_snoc, list_join, hg, hC]
            simp only [consM]
            rw [if_pos (by rw [ht, hf])]; simp
        · rename_i ht
          rw [hA, concatL_snoc, list_join, hB]
          simp only [consM]
          rw [if_neg (by rw [← hf]; exact ht)]
theorem concat_bal (a b : Tr) (ha : a.Bal) (hb : b.Bal) : (concat a b).Bal := by
  cases a with
  | nil => exact hb
  | node al alen atag ar =>
    have hA := takeLast_bal _ ha
    cases b with
    | nil => exact ha
    | node bl blen btag br =>
      simp only [concat]
      split
      · cases hR : (takeLast (node al alen atag ar)).1 with
        | nil => exact grow_bal _ _ hb
        | node cl clen ctag cr =>
          rw [hR] at hA
          exact bal_join _ _ _ _ (takeLast_bal _ hA) (grow_bal _ _ hb)
      · exact bal_join _ _ _ _ hA hb

/-! ### The balanced tree of a list -/
/-- Its height. -/
def hb : Nat → Nat → Int
  | 0, _ => 0
  | n + 1, k => if k = 0 then 0 else hb n (k / 2) + 1
theorem hb_fuel : ∀ (n m k : Nat), k ≤ n → k ≤ m → hb n k = hb m k
  | 0, 0, _, _, _ => rfl
  | 0, m + 1, k, h, _ => by have : k = 0 := by omega
                            subst this; simp [hb]
  | n + 1, 0, k, _, h => by have : k = 0 := by omega
                            subst this; simp [hb]
  | n + 1, m + 1, k, h1, h2 => by
    simp only [hb]; split
    · rfl
    · rw [hb_fuel n m (k / 2) (by omega) (by omega)]
theorem hb_step : ∀ (n k : Nat), hb n k ≤ hb n (k + 1) ∧ hb n (k + 1) ≤ hb n k + 1
  | 0, _ => by simp [hb]
  | n + 1, k => by
    simp only [hb]
    rw [if_neg (by omega : ¬ k + 1 = 0)]
    by_cases hk : k = 0
    · subst hk
      have : hb n ((0 + 1) / 2) = 0 := by cases n <;> simp [hb]
      rw [this]; simp
    · rw [if_neg hk]
      rcases (by omega : (k + 1) / 2 = k / 2 ∨ (k + 1) / 2 = k / 2 + 1) with h | h
      · rw [h]; omega
      · rw [h]; have := hb_step n (k / 2); omega
theorem bld_facts : ∀ (n : Nat) (l : List (Int × Int)), l.length ≤ n → (bld n l).list = l ∧ (bld n l).Bal ∧ (bld n l).hgt = hb n l.length
  | 0, l, h => by
    have : l = [] := List.eq_nil_of_length_eq_zero (by omega)
    subst this; exact ⟨rfl, trivial, rfl⟩
  | n + 1, l, h => by
    simp only [bld]
    split
    · rename_i h1
      have e1 : (l.take (l.length / 2)).length = l.length / 2 := by simp; omega
      have e2 : (l.drop (l.length / 2 + 1)).length = l.length - (l.length / 2 + 1) := by simp
      obtain ⟨a1, a2, a3⟩ := bld_facts n (l.take (l.length / 2)) (by omega)
      obtain ⟨b1, b2, b3⟩ := bld_facts n (l.drop (l.length / 2 + 1)) (by omega)
      rw [e1] at a3; rw [e2] at b3
      have hs : hb n (l.length - (l.length / 2 + 1)) ≤ hb n (l.length / 2) ∧ hb n (l.length / 2) ≤ hb n (l.length - (l.length / 2 + 1)) + 1 := by
        rcases (by omega : l.length - (l.length / 2 + 1) = l.length / 2 ∨ l.length - (l.length / 2 + 1) + 1 = l.length / 2) with h | h
        · rw [h]; omega
        · have := hb_step n (l.length - (l.length / 2 + 1)); rw [h] at this; exact this
      refine ⟨?_, ⟨a2, b2, by rw [a3, b3]; omega, by rw [a3, b3]; omega⟩, ?_⟩
      · simp only [list, a1, b1]
        have := List.take_append_drop (l.length / 2) l
        rw [List.drop_eq_getElem_cons h1] at this
        exact this
      · simp only [hgt, a3, b3, hb]; rw [if_neg (by omega)]; omega
    · have : l = [] := List.eq_nil_of_length_eq_zero (by omega)
      subst this; exact ⟨rfl, trivial, by simp [hgt, hb]⟩
end Tr
end
section
open Tr (total totalOf OkL)

/-- The runs of a usable map. -/
def Good (L : List (Int × Int)) : Prop := L ≠ [] ∧ OkL L ∧ Norm L ∧ total L ≤ 1099511627776 ∧ (L.length : Int) ≤ 4096
def leafL (len tag : Int) : List (Int × Int) := if len = 0 then [] else [(len, tag)]
/-- A list of runs after Set. -/
def setL (L : List (Int × Int)) (lo hi tag : Int) : List (Int × Int) := concatL (concatL (takeP lo L) (leafL (hi - lo) tag)) (dropP (hi - lo) (dropP lo L))
theorem leafL_ok {len tag : Int} (h0 : 0 ≤ len) (h1 : 0 ≤ tag) (h2 : tag < 16) : OkL (leafL len tag) := by
  unfold leafL; split
  · simp [OkL]
  · exact OkL.cons.2 ⟨⟨by simp; omega, h1, h2⟩, by simp [OkL]⟩
theorem leafL_norm (len tag : Int) : Norm (leafL len tag) := by
  unfold leafL; split
  · trivial
  · exact ⟨by simp, trivial⟩
theorem leafL_total (len tag : Int) : total (leafL len tag) = len := by
  unfold leafL; split
  · rename_i h; rw [h]; rfl
  · simp [Tr.total_cons, Tr.total_nil]
theorem leafL_at {len tag p : Int} (h0 : 0 ≤ p) (h1 : p < len) : atL (leafL len tag) p = tag := by
  unfold leafL; rw [if_neg (by omega)]; simp only [atL]; rw [if_pos h1]
section
variable {L : List (Int × Int)} (ho : OkL L) (hn : Norm L) {lo hi tag : Int} (h0 : 0 ≤ lo) (h1 : lo ≤ hi) (h2 : hi ≤ total L) (t0 : 0 ≤ tag) (t1 : tag < 16)
include ho h1 t0 t1
theorem setL_ok : OkL (setL L lo hi tag) := concatL_ok (concatL_ok (takeP_ok ho _) (leafL_ok (by omega) t0 t1)) (dropP_ok (dropP_ok ho _) _)
omit ho h1 t0 t1
include hn
theorem setL_norm : Norm (setL L lo hi tag) := concatL_norm (concatL_norm (takeP_norm hn _) (leafL_norm _ _)) (dropP_norm (dropP_norm hn _) _)
omit hn
include ho h0 h1 h2
theorem setL_total : total (setL L lo hi tag) = total L := by
  have e := dropP_total ho h0 (by omega)
  unfold setL
  rw [concatL_total, concatL_total, takeP_total ho h0 (by omega), leafL_total, dropP_total (dropP_ok ho _) (by omega) (by rw [e]; omega), e]; omega
include t0 t1
/-- The pieces after Set. -/
theorem setL_at (p : Int) (p0 : 0 ≤ p) : atL (setL L lo hi tag) p = if lo ≤ p ∧ p < hi then tag else atL L p := by
  have e1 := takeP_total ho h0 (by omega : lo ≤ total L)
  have o1 := takeP_ok ho lo
  have o2 := leafL_ok (by omega : 0 ≤ hi - lo) t0 t1
  have o3 := dropP_ok (dropP_ok ho lo) (hi - lo)
  unfold setL
  rw [concatL_at (concatL_ok o1 o2) o3 p p0, concatL_total, e1, leafL_total]
  by_cases h : p < hi
  · rw [if_pos (by omega), concatL_at o1 o2 p p0, e1]
    by_cases h' : p < lo
    · rw [if_pos h', if_neg (by omega), takeP_at p0 h']
    · rw [if_neg h', if_pos ⟨by omega, h⟩, leafL_at (by omega) (by omega)]
  · rw [if_neg (by omega), if_neg (by omega), dropP_at (dropP_ok ho _) (by omega) (by omega), dropP_at ho h0 (by omega)]
    congr 1; omega
end
theorem total_pos {L : List (Int × Int)} (h : OkL L) (hne : L ≠ []) : 1 ≤ total L := by
  cases L with
  | nil => exact (hne rfl).elim
  | cons x l => have h' := OkL.cons.1 h; have := total_nonneg h'.2; rw [Tr.total_cons]; omega
theorem ne_of_total {L : List (Int × Int)} (h : 1 ≤ total L) : L ≠ [] := by
  rintro rfl; rw [Tr.total_nil] at h; omega
/-- What Set returns: an error, and the runs of the map (none, if it is unusable). -/
def setR (L : List (Int × Int)) (lo hi tag : Int) : Int × List (Int × Int) :=
  if L = [] then (1, []) else if lo < 0 ∨ hi < lo ∨ total L < hi then (3, []) else if tag < 0 ∨ 16 ≤ tag then (2, [])
  else if 4096 < ((setL L lo hi tag).length : Int) then (5, []) else (0, setL L lo hi tag)
def newR (size : Int) : Int × List (Int × Int) := if 1 ≤ size ∧ size ≤ 1099511627776 then (0, [(size, 0)]) else (2, [])
theorem newR_good (size : Int) : (newR size).2 = [] ∨ Good (newR size).2 := by
  unfold newR; split
  · rename_i h
    refine .inr ⟨by simp, OkL.cons.2 ⟨⟨h.1, by simp, by simp⟩, by simp [OkL]⟩, ⟨by simp, trivial⟩, by simp [Tr.total_cons, Tr.total_nil]; omega, by simp⟩
  · exact .inl rfl
theorem setR_good {L : List (Int × Int)} (h : L = [] ∨ Good L) (lo hi tag : Int) : (setR L lo hi tag).2 = [] ∨ Good (setR L lo hi tag).2 := by
  unfold setR
  split
  · exact .inl rfl
  · rename_i h1
    split
    · exact .inl rfl
    · rename_i h2
      split
      · exact .inl rfl
      · rename_i h3
        split
        · exact .inl rfl
        · rename_i h4
          obtain ⟨g1, g2, g3, g4, g5⟩ := h.resolve_left h1
          have e := setL_total g2 (tag := tag) (by omega : 0 ≤ lo) (by omega : lo ≤ hi) (by omega)
          exact .inr ⟨ne_of_total (by rw [e]; exact total_pos g2 g1), setL_ok g2 (by omega) (by omega) (by omega), setL_norm g3, by rw [e]; exact g4, Int.not_lt.1 h4⟩
end
section
open Go.RowKit

/-- The cells of a node. -/
def nodeCells (pl pr : Option Addr) (len tag h n p : Int) (c : Int → Int) : Array Value :=
  #[.pointer pl, .pointer pr, .int .i64 len, .int .i64 tag, .int .i64 h, .int .i64 n, .int .i64 p,
    .int .i64 (c 0), .int .i64 (c 1), .int .i64 (c 2), .int .i64 (c 3), .int .i64 (c 4), .int .i64 (c 5), .int .i64 (c 6), .int .i64 (c 7),
    .int .i64 (c 8), .int .i64 (c 9), .int .i64 (c 10), .int .i64 (c 11), .int .i64 (c 12), .int .i64 (c 13), .int .i64 (c 14), .int .i64 (c 15)]

theorem cases16 {k : Nat} (h : k < 16) : k = 0 ∨ k = 1 ∨ k = 2 ∨ k = 3 ∨ k = 4 ∨ k = 5 ∨ k = 6 ∨ k = 7 ∨ k = 8 ∨ k = 9 ∨ k = 10 ∨ k = 11 ∨ k = 12 ∨ k = 13 ∨ k = 14 ∨ k = 15 := by omega
theorem nodeCells_count {pl pr : Option Addr} {len tag h n p : Int} {c : Int → Int} {k : Nat} (hk : k < 16) : (nodeCells pl pr len tag h n p c)[7 + k]? = some (.int .i64 (c k)) := by
  rcases cases16 hk with rfl | rfl | rfl | rfl | rfl | rfl | rfl | rfl | rfl | rfl | rfl | rfl | rfl | rfl | rfl | rfl <;> rfl
theorem nodeCells_store {pl pr : Option Addr} {len tag h n p : Int} {c : Int → Int} {k : Nat} (hk : k < 16) (v : Int) :
    (nodeCells pl pr len tag h n p c).setIfInBounds (7 + k) (.int .i64 v) = nodeCells pl pr len tag h n p (fun j => if j = k then v else c j) := by
  rcases cases16 hk with rfl | rfl | rfl | rfl | rfl | rfl | rfl | rfl | rfl | rfl | rfl | rfl | rfl | rfl | rfl | rfl <;> simp [nodeCells]
/-- Block b is a node in the making: its counts are c. -/
def Made (W : World) (b : Nat) (pl pr : Option Addr) (len tag h n p : Int) (c : Int → Int) : Prop := W.heap[b]? = some (.cells (nodeCells pl pr len tag h n p c) 149 (0, 0))
section
variable {W : World} {b : Nat} {pl pr : Option Addr} {len tag h n p : Int} {c : Int → Int}
theorem Made.count (hm : Made W b pl pr len tag h n p c) {k : Nat} (hk : k < 16) : W.cell? ⟨b, 7 + k, none⟩ = some (.int .i64 (c k)) := by
  have := nodeCells_count (pl := pl) (pr := pr) (len := len) (tag := tag) (h := h) (n := n) (p := p) (c := c) hk
  unfold Made at hm; simp [World.cell?, hm, this]
theorem Made.frozen (hm : Made W b pl pr len tag h n p c) (k : Nat) : W.frozen? ⟨b, k, none⟩ = false := by
  unfold Made at hm; simp [World.frozen?, hm]
theorem Made.store (hm : Made W b pl pr len tag h n p c) {k : Nat} (hk : k < 16) (v : Int) : Made (W.setCell ⟨b, 7 + k, none⟩ (.int .i64 v)) b pl pr len tag h n p (fun j => if j = k then v else c j) := by
  unfold Made at hm ⊢
  simp [World.setCell, Array.getElem?_modify, hm, nodeCells_store hk]
theorem Made.lt (hm : Made W b pl pr len tag h n p c) : b < W.heap.size := by
  rcases Nat.lt_or_ge b W.heap.size with hlt | hge
  · exact hlt
  · unfold Made at hm; rw [Array.getElem?_eq_none hge] at hm; cases hm
theorem Made.congr {c' : Int → Int} (hm : Made W b pl pr len tag h n p c) (hc : ∀ j, 0 ≤ j → j < 16 → c j = c' j) : Made W b pl pr len tag h n p c' := by
  have e : nodeCells pl pr len tag h n p c = nodeCells pl pr len tag h n p c' := by
    unfold nodeCells
    rw [hc 0 (by omega) (by omega), hc 1 (by omega) (by omega), hc 2 (by omega) (by omega), hc 3 (by omega) (by omega), hc 4 (by omega) (by omega), hc 5 (by omega) (by omega), hc 6 (by omega) (by omega), hc 7 (by omega) (by omega),
      hc 8 (by omega) (by omega), hc 9 (by omega) (by omega), hc 10 (by omega) (by omega), hc 11 (by omega) (by omega), hc 12 (by omega) (by omega), hc 13 (by omega) (by omega), hc 14 (by omega) (by omega), hc 15 (by omega) (by omega)]
  unfold Made at hm ⊢; rw [← e]; exact hm
theorem Made.below {n₀ : Nat} {W' : World} (hm : Made W b pl pr len tag h n p c) (hB : Below n₀ W W') (hb : b < n₀) : Made W' b pl pr len tag h n p c := (hB.block b hb).trans hm
theorem Made.c0 (hm : Made W b pl pr len tag h n p c) : W.cell? ⟨b, 0, none⟩ = some (.pointer pl) := by unfold Made at hm; simp [World.cell?, hm, nodeCells]
theorem Made.c1 (hm : Made W b pl pr len tag h n p c) : W.cell? ⟨b, 1, none⟩ = some (.pointer pr) := by unfold Made at hm; simp [World.cell?, hm, nodeCells]
theorem Made.c2 (hm : Made W b pl pr len tag h n p c) : W.cell? ⟨b, 2, none⟩ = some (.int .i64 len) := by unfold Made at hm; simp [World.cell?, hm, nodeCells]
theorem Made.c3 (hm : Made W b pl pr len tag h n p c) : W.cell? ⟨b, 3, none⟩ = some (.int .i64 tag) := by unfold Made at hm; simp [World.cell?, hm, nodeCells]
theorem Made.c4 (hm : Made W b pl pr len tag h n p c) : W.cell? ⟨b, 4, none⟩ = some (.int .i64 h) := by unfold Made at hm; simp [World.cell?, hm, nodeCells]
theorem Made.c5 (hm : Made W b pl pr len tag h n p c) : W.cell? ⟨b, 5, none⟩ = some (.int .i64 n) := by unfold Made at hm; simp [World.cell?, hm, nodeCells]
theorem Made.c6 (hm : Made W b pl pr len tag h n p c) : W.cell? ⟨b, 6, none⟩ = some (.int .i64 p) := by unfold Made at hm; simp [World.cell?, hm, nodeCells]
end

/-- Block b is a node. -/
abbrev IsNode (W : World) (b : Nat) (pl pr : Option Addr) (T : Tr) (len tag : Int) : Prop := Made W b pl pr len tag T.hgt T.num T.pcs fun k => T.cnt k

/-- The memory holds the tree T at p, in blocks below n₀. -/
def IsTree (n₀ : Nat) (W : World) : Option Addr → Tr → Prop
  | p, .nil => p = none
  | p, .node l len tag r => ∃ (b : Nat) (pl pr : Option Addr), p = some ⟨b, 0, none⟩ ∧ b < n₀ ∧ IsNode W b pl pr (.node l len tag r) len tag ∧ IsTree n₀ W pl l ∧ IsTree n₀ W pr r

theorem IsNode.below {n₀ : Nat} {A B : World} {b : Nat} {pl pr : Option Addr} {T : Tr} {len tag : Int} (h : Below n₀ A B) (hb : b < n₀) (hn : IsNode A b pl pr T len tag) : IsNode B b pl pr T len tag :=
  (h.block b hb).trans hn
theorem IsTree.below {n₀ : Nat} {A B : World} (h : Below n₀ A B) : ∀ {p : Option Addr} {T : Tr}, IsTree n₀ A p T → IsTree n₀ B p T
  | _, .nil, ht => ht
  | _, .node _ _ _ _, ⟨b, pl, pr, hp, hb, hn, hl, hr⟩ => ⟨b, pl, pr, hp, hb, hn.below h hb, IsTree.below h hl, IsTree.below h hr⟩
theorem IsTree.mono {n n' : Nat} {W : World} (h : n ≤ n') : ∀ {p : Option Addr} {T : Tr}, IsTree n W p T → IsTree n' W p T
  | _, .nil, ht => ht
  | _, .node _ _ _ _, ⟨b, pl, pr, hp, hb, hn, hl, hr⟩ => ⟨b, pl, pr, hp, by omega, hn, IsTree.mono h hl, IsTree.mono h hr⟩
/-- The memory holds the tree T at p. -/
def Tree (W : World) (p : Option Addr) (T : Tr) : Prop := IsTree W.heap.size W p T
theorem Tree.below {A B : World} (h : Below A.heap.size A B) {p : Option Addr} {T : Tr} (ht : Tree A p T) : Tree B p T := IsTree.mono h.size (IsTree.below h ht)
theorem Tree.nil_iff {W : World} {p : Option Addr} : Tree W p .nil ↔ p = none := Iff.rfl

/-! ### sums, high, pieces -/
set_option maxHeartbeats 400000 in
theorem sums_nil (w : World) : Calls Tryd.prog 97 #[.pointer none] w fun e w' =>
    e = .returned (.tuple #[.int .i64 0, .int .i64 0, .int .i64 0]) ∧ w = w' := by
  go_enter Tryd.func97, Tryd.ntmps97
  go_wp2
  go_ret3
  exact ⟨rfl, rfl⟩
/-- The world w' is w after some draws. -/
def Quiet (w w' : World) : Prop := ∃ n, w' = w.drewN n
theorem Quiet.refl (w : World) : Quiet w w := ⟨0, rfl⟩
theorem Quiet.heap {w w' : World} (h : Quiet w w') : w'.heap = w.heap := by obtain ⟨n, rfl⟩ := h; rfl
theorem Quiet.below {w w' : World} (h : Quiet w w') (B : Nat) : Below B w w' := by obtain ⟨n, rfl⟩ := h; exact ⟨rfl, rfl, rfl, Nat.le_refl _, fun _ _ => rfl⟩

set_option maxHeartbeats 400000 in
theorem sums_node (w : World) (b : Nat) (h n p : Int) (c4 : w.cell? ⟨b, 4, none⟩ = some (.int .i64 h)) (c5 : w.cell? ⟨b, 5, none⟩ = some (.int .i64 n)) (c6 : w.cell? ⟨b, 6, none⟩ = some (.int .i64 p)) :
    Calls Tryd.prog 97 #[.pointer (some ⟨b, 0, none⟩)] w fun e w' =>
    e = .returned (.tuple #[.int .i64 h, .int .i64 n, .int .i64 p]) ∧ Quiet w w' := by
  go_enter Tryd.func97, Tryd.ntmps97
  go_wp2
  go_quiet (fail)
  go_wp2
  go_ret3
  exact ⟨rfl, _, rfl⟩
theorem sums_any (w : World) (p : Option Addr) (T : Tr) (h : Tree w p T) :
    Calls Tryd.prog 97 #[.pointer p] w fun e w' => e = .returned (.tuple #[.int .i64 T.hgt, .int .i64 T.num, .int .i64 T.pcs]) ∧ Quiet w w' := by
  cases T with
  | nil => obtain rfl : p = none := h; exact (sums_nil w).mono fun _ _ ⟨h1, h2⟩ => ⟨h1, 0, h2 ▸ rfl⟩
  | node l len tag r =>
    obtain ⟨b, pl, pr, rfl, hb, hn, hl, hr⟩ := h
    exact sums_node w b _ _ _ hn.c4 hn.c5 hn.c6
set_option maxHeartbeats 400000 in
theorem pieces_any (w : World) (p : Option Addr) (T : Tr) (h : Tree w p T) :
    Calls Tryd.prog 96 #[.pointer p] w fun e w' => e = .returned (.int .i64 T.pcs) ∧ Quiet w w' := by
  go_enter Tryd.func96, Tryd.ntmps96
  go_wp2_with (go_at_call 97; refine (sums_any _ _ _ h).mono ?_; rintro e w' ⟨rfl, n, rfl⟩)
  go_ret
  exact ⟨rfl, _, rfl⟩
theorem Quiet.tree {w w' : World} (h : Quiet w w') {p : Option Addr} {T : Tr} (ht : Tree w p T) : Tree w' p T := ht.below (h.below _)
theorem Tree.drewN {w : World} {p : Option Addr} {T : Tr} (ht : Tree w p T) (n : Nat) : Tree (w.drewN n) p T := Quiet.tree ⟨n, rfl⟩ ht
/-! ### Two builtins -/
section
variable {P : Program} {ops : Array Oper} {rest : List Oper} {o : Oper} {a : Act} {w : World} {Q : Exit → Act → World → Prop}
theorem run_max (ts : Array TypeId) (ty : TypeId) (p q : Int) (w : World) : (Builtin.max_ ts ty #[.int .i64 p, .int .i64 q]).run P w = .ok (.int .i64 (max p q)) w := by
  have : max p q = if q > p then q else p := by split <;> omega
  rw [this]; rfl
theorem run_min (ts : Array TypeId) (ty : TypeId) (p q : Int) (w : World) : (Builtin.min_ ts ty #[.int .i64 p, .int .i64 q]).run P w = .ok (.int .i64 (min p q)) w := by
  have : min p q = if q < p then q else p := by split <;> omega
  rw [this]; rfl
theorem wpList_max (hgd : o.guard = none) (x y : Operand) (ts : Array TypeId)
    (ho : o.op = .call { callee := .builtin .max, args := #[x, y], argTypes := ts }) (p q : Int) (hx : a.eval x = .int .i64 p) (hy : a.eval y = .int .i64 q)
    (h : wpList P ops Q rest (a.put o.dst (.int .i64 (max p q))) w) : wpList P ops Q (o :: rest) a w :=
  wpList_plain hgd fun _ hK => by
    unfold Oper.wp execOp
    simp only [ho, resolve, invoke, builtin, Sem.run_bind, Sem.run_pure, Result.andThen_ok, List.map_toArray, List.map_cons, List.map_nil, hx, hy, run_max]
    exact hK _ _ h
theorem wpList_min (hgd : o.guard = none) (x y : Operand) (ts : Array TypeId)
    (ho : o.op = .call { callee := .builtin .min, args := #[x, y], argTypes := ts }) (p q : Int) (hx : a.eval x = .int .i64 p) (hy : a.eval y = .int .i64 q)
    (h : wpList P ops Q rest (a.put o.dst (.int .i64 (min p q))) w) : wpList P ops Q (o :: rest) a w :=
  wpList_plain hgd fun _ hK => by
    unfold Oper.wp execOp
    simp only [ho, resolve, invoke, builtin, Sem.run_bind, Sem.run_pure, Result.andThen_ok, List.map_toArray, List.map_cons, List.map_nil, hx, hy, run_min]
    exact hK _ _ h
end

/-! ### link -/
set_option maxRecDepth 100000 in
set_option maxHeartbeats 1000000 in
theorem link_any (w : World) (pl pr : Option Addr) (len tag : Int) (L R : Tr) (hL : Tree w pl L) (hR : Tree w pr R) (hl0 : 1 ≤ len) (ht0 : 0 ≤ tag) (ht1 : tag < 16)
   (oL : L.Ok) (oR : R.Ok) (hp : L.pcs + R.pcs + len ≤ 1099511627776) :
    Calls Tryd.prog 105 #[.pointer pl, .int .i64 len, .int .i64 tag, .pointer pr] w fun e w' => ∃ p, e = .returned (.pointer p) ∧ Tree w' p (.node L len tag R) ∧ Below w.heap.size w w' := by
  have b1 := Tr.hgt_nonneg L
  have b2 := Tr.hgt_nonneg R
  have b3 := Tr.hgt_le_num L
  have b4 := Tr.hgt_le_num R
  have b5 := Tr.num_le_pcs L oL
  have b6 := Tr.num_le_pcs R oR
  go_enter Tryd.func105, Tryd.ntmps105
  go_wp2_with (fail)
  go_at_call 97
  refine (sums_any _ _ _ hL).mono ?_
  rintro e w' ⟨rfl, n1, rfl⟩
  go_wp2_with (fail)
  go_at_call 97
  refine (sums_any _ _ R (hR.drewN _)).mono ?_
  rintro e w' ⟨rfl, n2, rfl⟩
  go_upto_region 4 with (first | (refine wpList_max rfl _ _ _ rfl _ _ rfl rfl ?_))
  generalize hwa : World.alloc _ _ = wa
  have hm : Made wa w.heap.size pl pr len tag (max L.hgt R.hgt + 1) (L.num + R.num + 1) (L.pcs + R.pcs + len) (fun _ => 0) := by
    rw [← hwa]; exact heap_alloc_new _ _
  have hbl : Below w.heap.size w wa := by
    rw [← hwa]; exact (Quiet.below ⟨_, rfl⟩ _).alloc (Nat.le_refl _) _
  clear hwa
  obtain ⟨tg, rfl⟩ := Int.eq_ofNat_of_zero_le ht0
  have hc := hm.count (k := tg) (by omega)
  have hf := hm.frozen (7 + tg)
  go_upto_region 5 with (fail)
  generalize hwb : World.setCell _ _ _ = wb
  have hm1 : Made wb w.heap.size pl pr len tg (max L.hgt R.hgt + 1) (L.num + R.num + 1) (L.pcs + R.pcs + len) (fun j => if j = (tg : Int) then len else 0) := by
    rw [← hwb]; exact hm.store (by omega) _
  have hbl1 : Below w.heap.size w wb := by
    rw [← hwb]; exact hbl.setCell (p := ⟨w.heap.size, 7 + tg, none⟩) (Nat.le_refl _) _
  clear hwb hm hbl hc hf
  go_wp2_with (fail)
  go_loopw [59] (fun i wr => ∃ (k : Nat) (c : Int → Int), k ≤ 2 ∧ i = .int .i64 k ∧ Made wr w.heap.size pl pr len tg (max L.hgt R.hgt + 1) (L.num + R.num + 1) (L.pcs + R.pcs + len) c ∧ Below w.heap.size w wr ∧ (∀ j, 0 ≤ j → j < 16 → c j = (if (tg : Int) = j then len else 0) + (if 0 < k then L.cnt j else 0) + (if 1 < k then R.cnt j else 0))) (fun i _ => 2 - (intOf i).toNat)
  case atStart => exact ⟨0, _, by omega, rfl, hm1, hbl1, fun j _ _ => by simp [eq_comm]⟩
  case round =>
    obtain ⟨k, c, hk, rfl, hm, hbl, hc⟩ := hrel
    by_cases hlt : k < 2
    · have hside : ∃ (S : Tr) (ps : Option Addr), Tree w ps S ∧ (∀ wx, Sem.run Tryd.prog (Instr.index 154 (Value.agg #[Value.pointer pl, Value.pointer pr]) (Value.int IntKind.i64 (k : Int))) wx = .ok (.pointer ps) wx) ∧ (∀ j, 0 ≤ S.cnt j ∧ S.cnt j ≤ S.pcs) ∧ S.pcs ≤ L.pcs + R.pcs ∧
          ∀ j, (if (tg : Int) = j then len else 0) + (if 0 < k then L.cnt j else 0) + (if 1 < k then R.cnt j else 0) + S.cnt j = (if (tg : Int) = j then len else 0) + (if 0 < k + 1 then L.cnt j else 0) + (if 1 < k + 1 then R.cnt j else 0) := by
        have q1 := Tr.pcs_nonneg L oL
        have q2 := Tr.pcs_nonneg R oR
        rcases (by omega : k = 0 ∨ k = 1) with rfl | rfl
        · exact ⟨L, pl, hL, fun _ => by kernel_rfl, fun j => ⟨Tr.cnt_nonneg j L oL, Tr.cnt_le_pcs j L oL⟩, by omega, fun j => by simp⟩
        · exact ⟨R, pr, hR, fun _ => by kernel_rfl, fun j => ⟨Tr.cnt_nonneg j R oR, Tr.cnt_le_pcs j R oR⟩, by omega, fun j => by simp⟩
      obtain ⟨S, ps, hS, hix, hSc, hSp, hsum⟩ := hside
      have Hc := Lib.hid hc
      have Hsum := Lib.hid hsum
      have HSc := Lib.hid hSc
      clear hc hsum hSc
      cases S with
      | nil =>
        obtain rfl : ps = none := hS
        go_wp2_with (fail)
        go_roundw
        case rel => exact ⟨k + 1, c, by omega, by go_num, hm, hbl, fun j j0 j1 => by rw [← Hsum.out, Hc.out j j0 j1]; simp [Tr.cnt]⟩
        case measure => simp [intOf]; omega
      | node sl slen stag sr =>
        obtain ⟨bs, pl', pr', rfl, hbs, hn, _, _⟩ := hS
        go_wp2_with (fail)
        go_loopw [64] (fun i wx => ∃ (q : Nat) (c2 : Int → Int), q ≤ 16 ∧ i = .int .i64 q ∧ Made wx w.heap.size pl pr len tg (max L.hgt R.hgt + 1) (L.num + R.num + 1) (L.pcs + R.pcs + len) c2 ∧ Below w.heap.size w wx ∧ (∀ j, 0 ≤ j → j < 16 → c2 j = c j + (if j < (q : Int) then (sl.node slen stag sr).cnt j else 0))) (fun i _ => 16 - (intOf i).toNat)
        case atStart => exact ⟨0, c, by omega, rfl, hm, hbl, fun j j0 j1 => by rw [if_neg (by omega)]; omega⟩
        case round =>
          obtain ⟨q, c2, hq, rfl, hm2, hbl2, hc2⟩ := hrel
          by_cases hlq : q < 16
          · have hcq := hm2.count (k := q) hlq
            have hfq := hm2.frozen (7 + q)
            have hsq := (hn.below hbl2 hbs).count (k := q) hlq
            have v1 : 0 ≤ c2 q ∧ c2 q ≤ 4398046511104 := by
              have e1 := hc2 q (by omega) (by omega)
              have e2 := Hc.out q (by omega) (by omega)
              have e3 := Tr.cnt_nonneg q L oL; have e4 := Tr.cnt_le_pcs q L oL
              have e5 := Tr.cnt_nonneg q R oR; have e6 := Tr.cnt_le_pcs q R oR
              rw [if_neg (by omega)] at e1
              rw [e1, e2]
              constructor <;> (split <;> split <;> split <;> omega)
            obtain ⟨v2, v3⟩ := v1
            have v4 := (HSc.out q).1
            have v5 := (HSc.out q).2
            have Hc2 := Lib.hid hc2
            clear hc2
            go_wp2_with (fail)
            go_region
            go_wp2_with (fail)
            go_roundw
            case rel =>
              refine ⟨q + 1, _, by omega, by go_num, hm2.store hlq _, (hbl2.setCell (p := ⟨w.heap.size, 7 + q, none⟩) (Nat.le_refl _) _).drew, fun j j0 j1 => ?_⟩
              have e1 := Hc2.out j j0 j1
              have e2 := Hc2.out q (by omega) (by omega)
              by_cases hj : j = (q : Int)
              · subst hj
                rw [if_pos rfl, if_pos (by omega), e2, if_neg (by omega)]; omega
              · rw [if_neg hj, e1]
                by_cases hj2 : j < (q : Int)
                · rw [if_pos hj2, if_pos (by omega)]
                · rw [if_neg hj2, if_neg (by omega)]
            case measure => simp [intOf]; omega
          · go_wp2_with (fail)
            go_roundw
            case rel =>
              refine ⟨k + 1, c2, by omega, by go_num, hm2, hbl2, fun j j0 j1 => ?_⟩
              rw [hc2 j j0 j1, if_pos (by omega), Hc.out j j0 j1, Hsum.out]
            case measure => simp [intOf]; omega
    · obtain rfl : k = 2 := by omega
      go_wp2_with (fail)
      go_ret
      exact ⟨_, rfl, ⟨w.heap.size, pl, pr, rfl, hm.lt, hm.congr fun j j0 j1 => by rw [hc j j0 j1]; simp [Tr.cnt], hL.below hbl, hR.below hbl⟩, hbl⟩
end
section
open Go.RowKit

theorem Below.of_drew {B : Nat} {w w' : World} (h : Below B w.drew w') : Below B w w' := ((Below.refl B w).drew).trans h
theorem Below.of_drewN {B n : Nat} {w w' : World} (h : Below B (w.drewN n) w') : Below B w w' := (Quiet.below ⟨n, rfl⟩ B).trans h
/-- One more call. -/
theorem Below.next {w w0 w1 : World} (h : Below w.heap.size w w0) (hb : Below w0.heap.size w0 w1) : Below w.heap.size w w1 := h.trans (hb.mono h.size)
theorem quiet_arm {P : Program} {f : FuncId} {args : Array Value} {w : World} {n : Nat} {v : Value}
    (h : Calls P f args (w.drewN n) fun e w' => e = .returned v ∧ Quiet (w.drewN n) w') : Calls P f args (w.drewN n) fun e w'' => e = .returned v ∧ ∃ m, w'' = w.drewN m := Calls.quiet_of h
/-- The largest number of pieces. -/
def Small (n : Int) : Prop := n ≤ 1099511627776
end
section
open Go.RowKit
end
section
open Go.RowKit
end
section
open Go.RowKit
end
section
open Go.RowKit

/-- The height that a node's cell states. -/
def hgtOf (w : World) : Value → Nat
  | .pointer (some ⟨b, _, _⟩) => match w.cell? ⟨b, 4, none⟩ with
    | some (.int _ h) => h.toNat
    | _ => 0
  | _ => 0
theorem hgtOf_tree {w : World} {p : Option Addr} {T : Tr} (hT : Tree w p T) : hgtOf w (.pointer p) = T.hgt.toNat := by
  cases T with
  | nil => obtain rfl : p = none := hT; rfl
  | node l len tag r =>
    obtain ⟨bt, pl, pr, rfl, hbt, hn, hl, hr⟩ := hT
    simp only [hgtOf, hn.c4]
theorem hgtOf_node {w : World} {p : Option Addr} {l r : Tr} {len tag : Int} (hT : Tree w p (.node l len tag r)) : ∀ b pl pr, p = some ⟨b, 0, none⟩ → IsNode w b pl pr (.node l len tag r) len tag → IsTree w.heap.size w pl l → hgtOf w (.pointer pl) < hgtOf w (.pointer p) := by
  intro b pl pr _ _ hl
  rw [hgtOf_tree hT, hgtOf_tree hl]
  have := Tr.hgt_nonneg l; have := Tr.hgt_nonneg r
  simp only [Tr.hgt]; omega
set_option maxRecDepth 100000 in
set_option maxHeartbeats 2000000 in
theorem leaf_any (len tag : Int) (w : World) (h0 : 0 ≤ len) (h1 : len ≤ 1099511627776) (h2 : 0 ≤ tag) (h3 : tag < 16) :
    Calls Tryd.prog 86 #[.int .i64 len, .int .i64 tag] w fun e w' => ∃ p, e = .returned (.pointer p) ∧ Tree w' p (Tr.leaf len tag) ∧ Below w.heap.size w w' := by
  by_cases h : len = 0
  · subst h
    go_enter Tryd.func86, Tryd.ntmps86
    go_wp2_with (fail)
    go_ret
    exact ⟨_, rfl, rfl, Below.refl _ _⟩
  · have e : Tr.leaf len tag = .node .nil len tag .nil := by unfold Tr.leaf; rw [if_neg h]
    rw [e]
    go_enter Tryd.func86, Tryd.ntmps86
    go_wp2_with (fail)
    go_at_call 105
    refine (link_any _ none none len tag .nil .nil (by rfl) (by rfl) (by omega) h2 h3 trivial trivial (by simp only [Tr.pcs]; omega)).mono ?_
    rintro e w1 ⟨p1, rfl, ht1, hb1⟩
    go_wp2_with (fail)
    go_ret
    exact ⟨_, rfl, ht1, hb1⟩
end
section
open Go.RowKit

/-- A run: the pieces from lo to hi - 1 with a tag. -/
structure Rn where
  lo : Int
  hi : Int
  tag : Int
theorem Rn.ext_ {x y : Rn} (h1 : x.lo = y.lo) (h2 : x.hi = y.hi) (h3 : x.tag = y.tag) : x = y := by cases x; cases y; simp_all
/-- The three cells of a run. -/
def RunAt (w : World) (e : Addr) (x : Rn) : Prop :=
  w.cell? e = some (.int .i64 x.lo) ∧ w.cell? ⟨e.block, e.off + 1, none⟩ = some (.int .i64 x.hi) ∧ w.cell? ⟨e.block, e.off + 2, none⟩ = some (.int .i64 x.tag)
/-- A slice with the address A holds the runs L, in blocks below n₀. -/
def RunsIn (n₀ : Nat) (w : World) (A : Option Addr) (L : List Rn) : Prop :=
  L = [] ∨ ∃ a : Addr, A = some a ∧ a.block < n₀ ∧ ∀ i (h : i < L.length), RunAt w (a.add (i * 3)) L[i]
theorem add_block (a : Addr) (n : Nat) : (a.add n).block = a.block := by unfold Addr.add; split <;> rfl
theorem add_add' (a : Addr) (i j : Nat) : (a.add i).add j = a.add (i + j) := by
  unfold Addr.add
  by_cases hi : i = 0 <;> by_cases hj : j = 0 <;> simp [hi, hj, Nat.add_assoc]
theorem RunAt.below {n₀ : Nat} {w w' : World} (hB : Below n₀ w w') {e : Addr} {x : Rn} (he : e.block < n₀) (h : RunAt w e x) : RunAt w' e x :=
  ⟨(hB.cell he).trans h.1, (hB.cell (p := ⟨e.block, e.off + 1, none⟩) he).trans h.2.1, (hB.cell (p := ⟨e.block, e.off + 2, none⟩) he).trans h.2.2⟩
theorem RunsIn.below {n₀ : Nat} {w w' : World} (hB : Below n₀ w w') {A : Option Addr} {L : List Rn} (h : RunsIn n₀ w A L) : RunsIn n₀ w' A L := by
  rcases h with h | ⟨a, rfl, hb, h⟩
  · exact .inl h
  · exact .inr ⟨a, rfl, hb, fun i hi => (h i hi).below hB (by rw [add_block]; exact hb)⟩
theorem RunsIn.mono {n n' : Nat} {w : World} (hn : n ≤ n') {A : Option Addr} {L : List Rn} (h : RunsIn n w A L) : RunsIn n' w A L := by
  rcases h with h | ⟨a, rfl, hb, h⟩
  · exact .inl h
  · exact .inr ⟨a, rfl, by omega, h⟩
/-- A slice with the address A holds the runs L. -/
def Runs (w : World) (A : Option Addr) (L : List Rn) : Prop := RunsIn w.heap.size w A L
theorem Runs.below {w w' : World} (hB : Below w.heap.size w w') {A : Option Addr} {L : List Rn} (h : Runs w A L) : Runs w' A L := (RunsIn.below hB h).mono hB.size
theorem Runs.drewN {w : World} {A : Option Addr} {L : List Rn} (h : Runs w A L) (n : Nat) : Runs (w.drewN n) A L := h.below (Quiet.below ⟨n, rfl⟩ _)
theorem Runs.take {w : World} {A : Option Addr} {L : List Rn} (h : Runs w A L) (k : Nat) : Runs w A (L.take k) := by
  rcases h with h | ⟨a, rfl, hb, h⟩
  · exact .inl (by rw [h]; simp)
  · exact .inr ⟨a, rfl, hb, fun i hi => by rw [List.getElem_take]; exact h i (by rw [List.length_take] at hi; omega)⟩
theorem Runs.cut {w : World} {a : Addr} {L : List Rn} (h : Runs w (some a) L) (k c : Nat) (hc : L.length ≤ c) : Runs w (if c = k then some a else some (a.add (k * 3))) (L.drop k) := by
  rcases h with h | ⟨a', ha, hb, h⟩
  · exact .inl (by rw [h]; simp)
  · cases ha
    by_cases hk : c = k
    · exact .inl (List.drop_eq_nil_of_le (by omega))
    · rw [if_neg hk]
      refine .inr ⟨_, rfl, by rw [add_block]; exact hb, fun i hi => ?_⟩
      rw [List.getElem_drop, add_add']
      have := h (k + i) (by rw [List.length_drop] at hi; omega)
      rw [Nat.add_mul] at this; exact this
theorem Runs.at_ {w : World} {a : Addr} {L : List Rn} (h : Runs w (some a) L) {i : Nat} (hi : i < L.length) : a.block < w.heap.size ∧ RunAt w (a.add (i * 3)) L[i] := by
  rcases h with h | ⟨a', ha, hb, h⟩
  · rw [h] at hi; simp at hi
  · cases ha; exact ⟨hb, h i hi⟩
/-- The length and the tag of each run. -/
def segs (L : List Rn) : List (Int × Int) := L.map fun x => (x.hi - x.lo, x.tag)
theorem segs_length (L : List Rn) : (segs L).length = L.length := by simp [segs]
/-- The runs have bounds, and tags. -/
def Fine (L : List Rn) : Prop := ∀ x ∈ L, 0 ≤ x.lo ∧ x.lo < x.hi ∧ x.hi ≤ 1099511627776 ∧ 0 ≤ x.tag ∧ x.tag < 16
theorem Fine.ok {L : List Rn} (h : Fine L) : Tr.OkL (segs L) := by
  intro s hs
  obtain ⟨x, hx, rfl⟩ := List.mem_map.1 hs
  have := h x hx
  exact ⟨by simp; omega, this.2.2.2.1, this.2.2.2.2⟩
theorem Fine.take {L : List Rn} (h : Fine L) (k : Nat) : Fine (L.take k) := fun x hx => h x (List.mem_of_mem_take hx)
theorem Fine.drop {L : List Rn} (h : Fine L) (k : Nat) : Fine (L.drop k) := fun x hx => h x (List.mem_of_mem_drop hx)

/-- What build does with lists of at most n runs. -/
def BD (n : Nat) : Prop := ∀ (L : List Rn) (w : World) (A : Option Addr) (c : Nat), L.length ≤ n → L.length ≤ 1000000 → L.length ≤ c → Runs w A L → Fine L → Tr.total (segs L) ≤ 1099511627776 →
    Calls Tryd.prog 104 #[.slice A L.length c] w fun e w' => ∃ p, e = .returned (.pointer p) ∧ Tree w' p (Tr.bld n (segs L)) ∧ Below w.heap.size w w'
set_option maxRecDepth 100000 in
set_option maxHeartbeats 1000000 in
theorem build_nil (w : World) (A : Option Addr) (c : Nat) :
    Calls Tryd.prog 104 #[.slice A 0 c] w fun e w' => ∃ p, e = .returned (.pointer p) ∧ Tree w' p .nil ∧ Below w.heap.size w w' := by
  go_enter Tryd.func104, Tryd.ntmps104
  go_wp2_with (fail)
  go_ret
  exact ⟨_, rfl, rfl, Below.refl _ _⟩
set_option maxRecDepth 100000 in
set_option maxHeartbeats 2000000 in
theorem build_stepN (k : Nat) (ih : BD k) (M R : List Rn) (x : Rn) (w : World) (a : Addr) (n c m : Nat) (hn : 0 < n) (hc : n ≤ c) (hm : n ≤ 1000000) (hmm : n / 2 = m) (hcm : ¬ c = m + 1)
    (eM : M.length = m) (eR : R.length = n - (m + 1)) (kM : M.length ≤ k) (kR : R.length ≤ k) (hb : a.block < w.heap.size) (hx : RunAt w (a.add (m * 3)) x)
    (hM : Runs w (some a) M) (hR : Runs w (some (a.add ((m + 1) * 3))) R) (fM : Fine M) (fR : Fine R) (fx : 0 ≤ x.lo ∧ x.lo < x.hi ∧ x.hi ≤ 1099511627776 ∧ 0 ≤ x.tag ∧ x.tag < 16)
    (ht : Tr.total (segs M) + Tr.total (segs R) + (x.hi - x.lo) ≤ 1099511627776) :
    Calls Tryd.prog 104 #[.slice (some a) n c] w fun e w' => ∃ q, e = .returned (.pointer q) ∧ Tree w' q (.node (Tr.bld k (segs M)) (x.hi - x.lo) x.tag (Tr.bld k (segs R))) ∧ Below w.heap.size w w' := by
  have hl : ((n : Int) == 0) = false := by simp; omega
  have e1 : ((n : Int) / 2) = (m : Int) := by omega
  have l1 : (0 : Int) ≤ (m : Int) := by omega
  have l2 : (m : Int) < (n : Int) := by omega
  have l3 : (m : Int) ≤ (c : Int) := by omega
  have l4 : (m : Int) + 1 ≤ (n : Int) := by omega
  have l5 : (n : Int) ≤ (c : Int) := by omega
  have l6 : 0 ≤ (m : Int) + 1 := by omega
  have l7 : (n : Int) ≤ 1000000 := by omega
  have i1 : IntKind.i64.wrap ((m : Int) + 1) = (m : Int) + 1 := IntWalk.i64_in _ (by omega)
  have i2 : ((m : Int) + 1).toNat = m + 1 := by omega
  obtain ⟨f0, f1, f2⟩ := hx
  obtain ⟨x1, x2, x3, x4, x5⟩ := fx
  have i3 : IntKind.i64.wrap (x.hi - x.lo) = x.hi - x.lo := IntWalk.i64_in _ (by omega)
  obtain ⟨g1, g2, _⟩ := Tr.bld_facts k (segs M) (by rw [segs_length]; exact kM)
  obtain ⟨g3, g4, _⟩ := Tr.bld_facts k (segs R) (by rw [segs_length]; exact kR)
  have p1 : (Tr.bld k (segs M)).pcs = Tr.total (segs M) := by rw [Tr.pcs_list, g1]
  have p2 : (Tr.bld k (segs R)).pcs = Tr.total (segs R) := by rw [Tr.pcs_list, g3]
  have oM : (Tr.bld k (segs M)).Ok := by rw [Tr.ok_list, g1]; exact fM.ok
  have oR : (Tr.bld k (segs R)).Ok := by rw [Tr.ok_list, g3]; exact fR.ok
  have t1 := total_nonneg fM.ok
  have t2 := total_nonneg fR.ok
  have EM := Lib.hid eM
  have ER := Lib.hid eR
  have P1 := Lib.hid p1
  have P2 := Lib.hid p2
  have hb0 : (a.add (m * 3)).block < w.heap.size := by rw [add_block]; exact hb
  clear hmm eM eR g1 g3 p1 p2
  go_enter Tryd.func104, Tryd.ntmps104
  go_wp2_with (fail)
  have tok1 : True := trivial
  go_region_held3 (fun W => W.cell? (a.add (m * 3)) = some (.int .i64 x.lo) ∧ W.cell? ⟨(a.add (m * 3)).block, (a.add (m * 3)).off + 1, none⟩ = some (.int .i64 x.hi) ∧ W.cell? ⟨(a.add (m * 3)).block, (a.add (m * 3)).off + 2, none⟩ = some (.int .i64 x.tag))
    (first | (exact ⟨f0, f1, f2⟩) | (exact (RunAt.below hB1 hb0 ⟨f0, f1, f2⟩)) | (exact (RunAt.below hB2 hb0 ⟨f0, f1, f2⟩)) | (exact (RunAt.below hB3 hb0 ⟨f0, f1, f2⟩)))
    ((first
      | (go_at_call 104; have _t := tok1; clear tok1; have hi := ih M w.drew (some a) c kM (by have := EM.out; omega) (by have := EM.out; omega) (by exact Runs.drewN hM 1) fM (by omega); rw [EM.out] at hi; refine hi.mono ?_; clear hi; rintro e w1 ⟨pM, rfl, htM, hb1⟩; have hB1 : Below w.heap.size w w1 := Below.of_drew hb1)
      | (go_at_call 104; have hi := ih R w1 (some (a.add ((m + 1) * 3))) (c - (m + 1)) kR (by have := ER.out; omega) (by have := ER.out; omega) (by exact Runs.below hB1 hR) fR (by omega); rw [ER.out] at hi; refine hi.mono ?_; clear hi; rintro e w2 ⟨pR, rfl, htR, hb2⟩; have hB2 : Below w.heap.size w w2 := Below.next hB1 hb2)
      | (go_at_call 105; refine (link_any w2 pM pR (x.hi - x.lo) x.tag (Tr.bld k (segs M)) (Tr.bld k (segs R)) (by exact htM.below hb2) (by exact htR) (by omega) x4 x5 oM oR (by rw [P1.out, P2.out]; omega)).mono ?_; rintro e w3 ⟨pN, rfl, htN, hb3⟩; have hB3 : Below w.heap.size w w3 := Below.next hB2 hb3)))
  go_wp2_with (fail)
  go_ret
  exact ⟨_, rfl, htN, hB3⟩
set_option maxRecDepth 100000 in
set_option maxHeartbeats 2000000 in
theorem build_stepP (k : Nat) (ih : BD k) (M : List Rn) (x : Rn) (w : World) (a : Addr) (n c m : Nat) (hn : 0 < n) (hc : n ≤ c) (hm : n ≤ 1000000) (hmm : n / 2 = m) (hmc : m + 1 = c)
    (eM : M.length = m) (kM : M.length ≤ k) (hb : a.block < w.heap.size) (hx : RunAt w (a.add (m * 3)) x)
    (hM : Runs w (some a) M) (fM : Fine M) (fx : 0 ≤ x.lo ∧ x.lo < x.hi ∧ x.hi ≤ 1099511627776 ∧ 0 ≤ x.tag ∧ x.tag < 16)
    (ht : Tr.total (segs M) + (x.hi - x.lo) ≤ 1099511627776) :
    Calls Tryd.prog 104 #[.slice (some a) n c] w fun e w' => ∃ q, e = .returned (.pointer q) ∧ Tree w' q (.node (Tr.bld k (segs M)) (x.hi - x.lo) x.tag .nil) ∧ Below w.heap.size w w' := by
  have hl : ((n : Int) == 0) = false := by simp; omega
  have e1 : ((n : Int) / 2) = (m : Int) := by omega
  have l1 : (0 : Int) ≤ (m : Int) := by omega
  have l2 : (m : Int) < (n : Int) := by omega
  have l3 : (m : Int) ≤ (c : Int) := by omega
  have l4 : (m : Int) + 1 ≤ (n : Int) := by omega
  have l5 : (n : Int) ≤ (c : Int) := by omega
  have l6 : 0 ≤ (m : Int) + 1 := by omega
  have l7 : (n : Int) ≤ 1000000 := by omega
  have i1 : IntKind.i64.wrap ((m : Int) + 1) = (m : Int) + 1 := IntWalk.i64_in _ (by omega)
  have i2 : ((m : Int) + 1).toNat = m + 1 := by omega
  obtain ⟨f0, f1, f2⟩ := hx
  obtain ⟨x1, x2, x3, x4, x5⟩ := fx
  have i3 : IntKind.i64.wrap (x.hi - x.lo) = x.hi - x.lo := IntWalk.i64_in _ (by omega)
  obtain ⟨g1, g2, _⟩ := Tr.bld_facts k (segs M) (by rw [segs_length]; exact kM)
  have p1 : (Tr.bld k (segs M)).pcs = Tr.total (segs M) := by rw [Tr.pcs_list, g1]
  have oM : (Tr.bld k (segs M)).Ok := by rw [Tr.ok_list, g1]; exact fM.ok
  have t1 := total_nonneg fM.ok
  have EM := Lib.hid eM
  have P1 := Lib.hid p1
  have hb0 : (a.add (m * 3)).block < w.heap.size := by rw [add_block]; exact hb
  clear hmm eM g1 p1
  go_enter Tryd.func104, Tryd.ntmps104
  go_wp2_with (fail)
  have tok1 : True := trivial
  go_region_held3 (fun W => W.cell? (a.add (m * 3)) = some (.int .i64 x.lo) ∧ W.cell? ⟨(a.add (m * 3)).block, (a.add (m * 3)).off + 1, none⟩ = some (.int .i64 x.hi) ∧ W.cell? ⟨(a.add (m * 3)).block, (a.add (m * 3)).off + 2, none⟩ = some (.int .i64 x.tag))
    (first | (exact ⟨f0, f1, f2⟩) | (exact (RunAt.below hB1 hb0 ⟨f0, f1, f2⟩)) | (exact (RunAt.below hB2 hb0 ⟨f0, f1, f2⟩)) | (exact (RunAt.below hB3 hb0 ⟨f0, f1, f2⟩)))
    ((first
      | (go_at_call 104; have _t := tok1; clear tok1; have hi := ih M w.drew (some a) c kM (by have := EM.out; omega) (by have := EM.out; omega) (by exact Runs.drewN hM 1) fM (by omega); rw [EM.out] at hi; refine hi.mono ?_; clear hi; rintro e w1 ⟨pM, rfl, htM, hb1⟩; have hB1 : Below w.heap.size w w1 := Below.of_drew hb1)
      | (go_at_call 104; refine (build_nil w1 (some a) 0).mono ?_; rintro e w2 ⟨pR, rfl, htR, hb2⟩; have hB2 : Below w.heap.size w w2 := Below.next hB1 hb2)
      | (go_at_call 105; refine (link_any w2 pM pR (x.hi - x.lo) x.tag (Tr.bld k (segs M)) (.nil) (by exact htM.below hb2) (by exact htR) (by omega) x4 x5 oM trivial (by rw [P1.out]; simp only [Tr.pcs]; omega)).mono ?_; rintro e w3 ⟨pN, rfl, htN, hb3⟩; have hB3 : Below w.heap.size w w3 := Below.next hB2 hb3)))
  go_wp2_with (fail)
  go_ret
  exact ⟨_, rfl, htN, hB3⟩
theorem build_any : ∀ n : Nat, BD n
  | 0 => fun L w A c h0 _ _ _ _ _ => by
    obtain rfl : L = [] := List.eq_nil_of_length_eq_zero (by omega)
    exact build_nil w A c
  | k + 1 => fun L w A c h0 h1 h2 hL fL ht => by
    have ih := build_any k
    by_cases hz : L.length = 0
    · obtain rfl : L = [] := List.eq_nil_of_length_eq_zero hz
      have e : Tr.bld (k + 1) (segs []) = .nil := by simp [segs, Tr.bld]
      rw [e]; exact build_nil w A c
    · have hlt : L.length / 2 < L.length := by omega
      have hlt' : (segs L).length / 2 < (segs L).length := by rw [segs_length]; exact hlt
      obtain ⟨a, rfl⟩ : ∃ a, A = some a := by
        rcases hL with h | ⟨a, h, _⟩
        · rw [h] at hz; simp at hz
        · exact ⟨a, h⟩
      obtain ⟨hb, hx⟩ := hL.at_ hlt
      have fx := fL _ (List.getElem_mem hlt)
      have e : Tr.bld (k + 1) (segs L) = .node (Tr.bld k (segs (L.take (L.length / 2)))) (L[L.length / 2].hi - L[L.length / 2].lo) L[L.length / 2].tag (Tr.bld k (segs (L.drop (L.length / 2 + 1)))) := by
        simp only [Tr.bld]
        rw [dif_pos hlt']
        simp only [segs, List.length_map, List.getElem_map, List.map_take, List.map_drop]
      have hsum : Tr.total (segs (L.take (L.length / 2))) + Tr.total (segs (L.drop (L.length / 2 + 1))) + (L[L.length / 2].hi - L[L.length / 2].lo) = Tr.total (segs L) := by
        have h := List.take_append_drop (L.length / 2) L
        rw [List.drop_eq_getElem_cons hlt] at h
        have h' : segs L = segs (L.take (L.length / 2)) ++ (L[L.length / 2].hi - L[L.length / 2].lo, L[L.length / 2].tag) :: segs (L.drop (L.length / 2 + 1)) := by
          simp only [segs]; rw [← List.map_cons (f := fun x : Rn => (x.hi - x.lo, x.tag)), ← List.map_append, h]
        rw [h', Tr.total_append, Tr.total_cons]; omega
      have hR := hL.cut (L.length / 2 + 1) c h2
      rw [e]
      by_cases hcm : c = L.length / 2 + 1
      · rw [if_pos hcm] at hR
        have hd : L.drop (L.length / 2 + 1) = [] := List.drop_eq_nil_of_le (by omega)
        have hb0 : Tr.bld k (segs (L.drop (L.length / 2 + 1))) = .nil := by rw [hd]; cases k <;> simp [segs, Tr.bld]
        rw [hb0]
        rw [hd, show Tr.total (segs []) = 0 from rfl] at hsum
        exact build_stepP k ih _ _ w a L.length c (L.length / 2) (by omega) h2 h1 rfl hcm.symm (by simp; omega) (by simp; omega) hb hx (hL.take _) (fL.take _) fx (by omega)
      · rw [if_neg hcm] at hR
        exact build_stepN k ih _ _ _ w a L.length c (L.length / 2) (by omega) h2 h1 rfl hcm (by simp; omega) (by simp) (by simp; omega) (by simp; omega) hb hx (hL.take _) hR (fL.take _) (fL.drop _) fx (by omega)
end
section
open Go.RowKit

/-- How many of the first pieces have a tag. -/
def bef (tag : Int) : Tr → Int → Int
  | .nil, _ => 0
  | .node l len tg r, k => if k ≤ l.pcs then bef tag l k else l.cnt tag + (if tg = tag then min (k - l.pcs) len else 0) + (if k - (l.pcs + len) ≤ 0 then 0 else bef tag r (k - (l.pcs + len)))
theorem IsNode.count {W : World} {b : Nat} {pl pr : Option Addr} {T : Tr} {len tag : Int} (h : IsNode W b pl pr T len tag) {k : Nat} (hk : k < 16) : W.cell? ⟨b, 7 + k, none⟩ = some (.int .i64 (T.cnt k)) := Made.count h hk
end
section
open Go.RowKit Go.Shelf

attribute [local go_sem] Oper.semAt_some
attribute [local go_sem ↓] run_max run_min

theorem RoundIn.any_depth {F : Fence} (hd : F.depth = none) {m m' : Nat} {P : Program} {l : Nat} {f : FuncId} {tmps : Array Value} {assign body : Code} {w : World} {R : Ending → World → Prop}
    (h : RoundIn F m P l f tmps assign body w R) : RoundIn F m' P l f tmps assign body w R := ⟨h.1, fun c cs _ => h.2 c cs (fun d h => by rw [hd] at h; cases h)⟩
theorem YieldAt.any_depth {F : Fence} (hd : F.depth = none) {m : Nat} (m' : Nat) {P : Program} {l : Nat} {args : Array Value} {W : World} {R : Ending → World → Prop} (h : YieldAt F m P l args W R) : YieldAt F m' P l args W R := by
  obtain ⟨fn, tmps, assign, body, hy, hR⟩ := h
  exact ⟨fn, tmps, assign, body, hy, RoundIn.any_depth hd hR⟩

/-- The runs of a tree that begins at a piece, clipped to a range. -/
def vis (lo hi : Int) : Tr → Int → List Rn
  | .nil, _ => []
  | .node l len tag r, k => if hi ≤ k then [] else if k + (Tr.node l len tag r).pcs ≤ lo then [] else
      vis lo hi l k ++ (if max (k + l.pcs) lo < min (k + l.pcs + len) hi then [⟨max (k + l.pcs) lo, min (k + l.pcs + len) hi, tag⟩] else []) ++ vis lo hi r (k + l.pcs + len)
/-- A run as a value. -/
def encR (x : Rn) : Value := .agg #[.int .i64 x.lo, .int .i64 x.hi, .int .i64 x.tag]

/-- What visit does with a tree, whatever a round does. -/
def VI (l n₀ N : Nat) (lo hi : Int) (J Jx : List Rn → World → Prop) (T : Tr) : Prop :=
  ∀ (n : Nat) (p : Option Addr) (k : Int) (pre : List Rn) (W : World), IsTree n₀ W p T → n₀ ≤ W.heap.size → T.Ok → 0 ≤ k → k + T.pcs ≤ 1099511627776 → J pre W → pre.length + (vis lo hi T k).length ≤ N →
    CallsIn Fence.wide n Tryd.prog 110 #[.pointer p, .int .i64 k, .int .i64 lo, .int .i64 hi, .func (.yield l) #[] #[]] W fun e W' =>
      (e = .returned (.bool true) ∧ J (pre ++ vis lo hi T k) W' ∧ Below n₀ W W') ∨ (e = .returned (.bool false) ∧ ∃ q, q <+: vis lo hi T k ∧ Jx (pre ++ q) W')
section
variable (l n₀ N : Nat) (lo hi : Int) (J Jx : List Rn → World → Prop)
set_option maxRecDepth 100000 in
set_option maxHeartbeats 1000000 in
theorem visit_nil : VI l n₀ N lo hi J Jx .nil := by
  intro n p k pre W hT _ _ _ _ hJ _
  obtain rfl : p = none := hT
  refine callsIn_of_wp Tryd.func110 rfl trivial ?_ rfl
  simp only [Tryd.ntmps110, List.size_toArray, List.length_cons, List.length_nil, Nat.reduceAdd, Nat.reduceSub, Array.replicate_succ, Array.replicate_zero, List.push_toArray, List.append_toArray, List.nil_append, List.cons_append]
  gi_wp2
  go_ret
  exact .inl ⟨rfl, by simpa [vis] using hJ, Below.refl _ _⟩
set_option maxRecDepth 100000 in
set_option maxHeartbeats 1000000 in
theorem visit_skip (tl tr : Tr) (len tag : Int) (n : Nat) (p : Option Addr) (k : Int) (_pre : List Rn) (W : World) (hT : IsTree n₀ W p (.node tl len tag tr)) (hk : 0 ≤ k) (hp : k + (Tr.node tl len tag tr).pcs ≤ 1099511627776) (o : (Tr.node tl len tag tr).Ok)
    (h : (hi ≤ k) ∨ (¬ hi ≤ k ∧ k + (Tr.node tl len tag tr).pcs ≤ lo)) :
    CallsIn Fence.wide n Tryd.prog 110 #[.pointer p, .int .i64 k, .int .i64 lo, .int .i64 hi, .func (.yield l) #[] #[]] W fun e W' => e = .returned (.bool true) ∧ W = W' := by
  obtain ⟨b, pl, pr, rfl, hb, hn, hl, hr⟩ := hT
  have c6 := hn.c6
  have q1 := Tr.pcs_nonneg _ o
  rcases h with h | ⟨h, h'⟩
  · refine callsIn_of_wp Tryd.func110 rfl trivial ?_ rfl
    simp only [Tryd.ntmps110, List.size_toArray, List.length_cons, List.length_nil, Nat.reduceAdd, Nat.reduceSub, Array.replicate_succ, Array.replicate_zero, List.push_toArray, List.append_toArray, List.nil_append, List.cons_append]
    gi_wp2
    go_ret
    exact ⟨rfl, rfl⟩
  · refine callsIn_of_wp Tryd.func110 rfl trivial ?_ rfl
    simp only [Tryd.ntmps110, List.size_toArray, List.length_cons, List.length_nil, Nat.reduceAdd, Nat.reduceSub, Array.replicate_succ, Array.replicate_zero, List.push_toArray, List.append_toArray, List.nil_append, List.cons_append]
    gi_wp2
    go_ret
    exact ⟨rfl, rfl⟩
set_option maxRecDepth 100000 in
set_option maxHeartbeats 1000000 in
theorem visit_main (hJ : ∀ pre W W', J pre W → Below W.heap.size W W' → J pre W')
    (hY : ∀ m pre x W, J pre W → pre.length < N → YieldAt Fence.wide m Tryd.prog l #[encR x] W fun e W' =>
      (e = .returned (.bool true) ∧ J (pre ++ [x]) W' ∧ Below n₀ W W') ∨ (e = .returned (.bool false) ∧ Jx (pre ++ [x]) W'))
    (tl tr : Tr) (len tag : Int) (ihl : VI l n₀ N lo hi J Jx tl) (ihr : VI l n₀ N lo hi J Jx tr) (n : Nat) (p : Option Addr) (k : Int) (pre : List Rn) (W : World) (hT : IsTree n₀ W p (.node tl len tag tr)) (hN₀ : n₀ ≤ W.heap.size)
    (hk : 0 ≤ k) (hp : k + (Tr.node tl len tag tr).pcs ≤ 1099511627776) (o : (Tr.node tl len tag tr).Ok) (hJ0 : J pre W) (hN : pre.length + (vis lo hi (Tr.node tl len tag tr) k).length ≤ N)
    (h : ¬ hi ≤ k) (h' : ¬ k + (Tr.node tl len tag tr).pcs ≤ lo) (hab : max (k + tl.pcs) lo < min (k + tl.pcs + len) hi) :
    CallsIn Fence.wide n Tryd.prog 110 #[.pointer p, .int .i64 k, .int .i64 lo, .int .i64 hi, .func (.yield l) #[] #[]] W fun e W' =>
      (e = .returned (.bool true) ∧ J (pre ++ vis lo hi (Tr.node tl len tag tr) k) W' ∧ Below n₀ W W') ∨ (e = .returned (.bool false) ∧ ∃ q, q <+: vis lo hi (Tr.node tl len tag tr) k ∧ Jx (pre ++ q) W') := by
  obtain ⟨b, pl, pr, rfl, hb, hn, hl, hr⟩ := hT
  obtain ⟨o1, o2, o4, o5, o6⟩ := o
  have c0 := hn.c0
  have c1 := hn.c1
  have c2 := hn.c2
  have c3 := hn.c3
  have c6 := hn.c6
  have q1 := Tr.pcs_nonneg _ o1
  have q2 := Tr.pcs_nonneg _ o2
  have e6 : (Tr.node tl len tag tr).pcs = tl.pcs + tr.pcs + len := rfl
  rw [e6] at hp h' c6
  clear e6
  have hv : vis lo hi (Tr.node tl len tag tr) k = vis lo hi tl k ++ (⟨max (k + tl.pcs) lo, min (k + tl.pcs + len) hi, tag⟩ :: vis lo hi tr (k + tl.pcs + len)) := by
    simp only [vis]
    rw [if_neg h, if_neg (by simp only [Tr.pcs]; exact h'), if_pos hab]; simp
  rw [hv] at hN
  simp only [List.length_append, List.length_cons] at hN
  have HV := Lib.hid hv
  have HN1 : Hid (pre.length + (vis lo hi tl k).length ≤ N) := Lib.hid (by omega)
  have HN2 : Hid ((pre ++ vis lo hi tl k).length < N) := Lib.hid (by rw [List.length_append]; omega)
  have HN3 : Hid ((pre ++ vis lo hi tl k ++ [Rn.mk (max (k + tl.pcs) lo) (min (k + tl.pcs + len) hi) tag]).length + (vis lo hi tr (k + tl.pcs + len)).length ≤ N) := Lib.hid (by simp only [List.length_append, List.length_cons, List.length_nil]; omega)
  clear hv hN
  refine callsIn_of_wp Tryd.func110 rfl trivial ?_ rfl
  simp only [Tryd.ntmps110, List.size_toArray, List.length_cons, List.length_nil, Nat.reduceAdd, Nat.reduceSub, Array.replicate_succ, Array.replicate_zero, List.push_toArray, List.append_toArray, List.nil_append, List.cons_append]
  gi_wp2_with (fail)
  refine ⟨trivial, fun h => (by cases h), ?_⟩
  refine (callsIn_wide.2 (pieces_any W pl tl (by exact IsTree.mono hN₀ hl))).mono ?_
  rintro e W0 ⟨rfl, m0, rfl⟩
  gi_wp2_with (fail)
  refine ⟨trivial, fun h => (by cases h), ?_⟩
  refine (ihl (n - 1) pl k pre (W.drewN m0) (by exact IsTree.below (Quiet.below ⟨_, rfl⟩ _) hl) (by exact hN₀) o1 hk (by omega) (hJ _ _ _ hJ0 (Quiet.below ⟨_, rfl⟩ _)) HN1.out).mono ?_
  rintro e W1 (⟨rfl, hJ1, hb1⟩ | ⟨rfl, q, hq, hx⟩)
  · have hB1 : Below n₀ W W1 := Below.of_drewN hb1
    have d1 := (hn.below hB1 hb).c1
    have d2 := (hn.below hB1 hb).c2
    have d3 := (hn.below hB1 hb).c3
    gi_wp2_with (fail)
    gi_quiet (fail)
    generalize hW2 : World.drewN W1 _ = W2
    have hq2 : Quiet W1 W2 := ⟨_, hW2.symm⟩
    clear hW2
    have hB2 : Below n₀ W W2 := hB1.trans (hq2.below _)
    have f1 := (hn.below hB2 hb).c1
    have f2 := (hn.below hB2 hb).c2
    have f3 := (hn.below hB2 hb).c3
    have hJ2 := hJ _ _ _ hJ1 (hq2.below _)
    obtain ⟨fn, tmps, assign, body, hy, hR⟩ := hY (n - 1) _ ⟨max (k + tl.pcs) lo, min (k + tl.pcs + len) hi, tag⟩ W2 hJ2 HN2.out
    dsimp only [encR] at hy
    gi_wp2_with (fail)
    refine ⟨fun h => (by cases h), ?_⟩
    refine hR.mono ?_
    clear hR hy
    rintro e W3 (⟨rfl, hJ3, hb3⟩ | ⟨rfl, hx3⟩)
    · have hB3 : Below n₀ W W3 := hB2.trans hb3
      have g1 := (hn.below hB3 hb).c1
      have g2 := (hn.below hB3 hb).c2
      have i1 : IntKind.i64.wrap (k + tl.pcs + len) = k + tl.pcs + len := IntWalk.i64_in _ (by omega)
      have h9 : ∀ W', Quiet W3 W' → CallsIn Fence.wide (n - 1) Tryd.prog 110 #[.pointer pr, .int .i64 (k + tl.pcs + len), .int .i64 lo, .int .i64 hi, .func (.yield l) #[] #[]] W' fun e W'' => ∃ bb : Bool, e = .returned (.bool bb) ∧
          ((bb = true ∧ J (pre ++ vis lo hi tl k ++ [Rn.mk (max (k + tl.pcs) lo) (min (k + tl.pcs + len) hi) tag] ++ vis lo hi tr (k + tl.pcs + len)) W'' ∧ Below n₀ W' W'') ∨ (bb = false ∧ ∃ q, q <+: vis lo hi tr (k + tl.pcs + len) ∧ Jx (pre ++ vis lo hi tl k ++ [Rn.mk (max (k + tl.pcs) lo) (min (k + tl.pcs + len) hi) tag] ++ q) W'')) := fun W' hq =>
        (ihr (n - 1) pr (k + tl.pcs + len) _ W' (IsTree.below (hB3.trans (hq.below _)) hr) (Nat.le_trans hN₀ (hB3.trans (hq.below _)).size) o2 (by omega) (by omega) (hJ _ _ _ hJ3 (hq.below _)) HN3.out).mono fun e W'' h => h.elim (fun ⟨h1, h2⟩ => ⟨true, h1, .inl ⟨rfl, h2⟩⟩) (fun ⟨h1, h2⟩ => ⟨false, h1, .inr ⟨rfl, h2⟩⟩)
      have H9 := Lib.hid h9
      clear h9
      gi_wp2_with (fail)
      gi_region_with ((refine ⟨trivial, fun h => (by cases h), ?_⟩; gi_at_call 110; refine (H9.out _ ⟨1, rfl⟩).mono ?_; rintro e W4 ⟨bb, rfl, h4⟩))
      all_goals
        gi_wp2_with (fail)
        go_ret
        rcases h4 with ⟨rfl, hJ4, hb4⟩ | ⟨rfl, q, hq, hx4⟩
        · exact .inl ⟨rfl, by rw [HV.out]; simpa [List.append_assoc] using hJ4, hB3.trans (Below.of_drew hb4)⟩
        · refine .inr ⟨rfl, vis lo hi tl k ++ (Rn.mk (max (k + tl.pcs) lo) (min (k + tl.pcs + len) hi) tag :: q), ?_, ?_⟩
          · rw [HV.out]; obtain ⟨t, ht⟩ := hq; exact ⟨t, by rw [← ht]; simp⟩
          · simpa [List.append_assoc] using hx4
    · gi_wp2_with (fail)
      go_ret
      refine .inr ⟨rfl, vis lo hi tl k ++ [Rn.mk (max (k + tl.pcs) lo) (min (k + tl.pcs + len) hi) tag], ?_, ?_⟩
      · rw [HV.out]; exact ⟨vis lo hi tr (k + tl.pcs + len), by simp⟩
      · rw [← List.append_assoc]; exact hx3
  · gi_wp2_with (fail)
    go_ret
    exact .inr ⟨rfl, q, HV.out ▸ hq.trans (List.prefix_append _ _), hx⟩
set_option maxRecDepth 100000 in
set_option maxHeartbeats 1000000 in
theorem visit_none (hJ : ∀ pre W W', J pre W → Below W.heap.size W W' → J pre W')
    (tl tr : Tr) (len tag : Int) (ihl : VI l n₀ N lo hi J Jx tl) (ihr : VI l n₀ N lo hi J Jx tr) (n : Nat) (p : Option Addr) (k : Int) (pre : List Rn) (W : World) (hT : IsTree n₀ W p (.node tl len tag tr)) (hN₀ : n₀ ≤ W.heap.size)
    (hk : 0 ≤ k) (hp : k + (Tr.node tl len tag tr).pcs ≤ 1099511627776) (o : (Tr.node tl len tag tr).Ok) (hJ0 : J pre W) (hN : pre.length + (vis lo hi (Tr.node tl len tag tr) k).length ≤ N)
    (h : ¬ hi ≤ k) (h' : ¬ k + (Tr.node tl len tag tr).pcs ≤ lo) (hab : ¬ max (k + tl.pcs) lo < min (k + tl.pcs + len) hi) :
    CallsIn Fence.wide n Tryd.prog 110 #[.pointer p, .int .i64 k, .int .i64 lo, .int .i64 hi, .func (.yield l) #[] #[]] W fun e W' =>
      (e = .returned (.bool true) ∧ J (pre ++ vis lo hi (Tr.node tl len tag tr) k) W' ∧ Below n₀ W W') ∨ (e = .returned (.bool false) ∧ ∃ q, q <+: vis lo hi (Tr.node tl len tag tr) k ∧ Jx (pre ++ q) W') := by
  obtain ⟨b, pl, pr, rfl, hb, hn, hl, hr⟩ := hT
  obtain ⟨o1, o2, o4, o5, o6⟩ := o
  have c0 := hn.c0
  have c1 := hn.c1
  have c2 := hn.c2
  have c3 := hn.c3
  have c6 := hn.c6
  have q1 := Tr.pcs_nonneg _ o1
  have q2 := Tr.pcs_nonneg _ o2
  have e6 : (Tr.node tl len tag tr).pcs = tl.pcs + tr.pcs + len := rfl
  rw [e6] at hp h' c6
  clear e6
  have hv : vis lo hi (Tr.node tl len tag tr) k = vis lo hi tl k ++ vis lo hi tr (k + tl.pcs + len) := by
    simp only [vis]
    rw [if_neg h, if_neg (by simp only [Tr.pcs]; exact h'), if_neg hab]; simp
  rw [hv] at hN
  simp only [List.length_append] at hN
  have HV := Lib.hid hv
  have HN1 : Hid (pre.length + (vis lo hi tl k).length ≤ N) := Lib.hid (by omega)
  have hd : decide (max (k + tl.pcs) lo < min (k + tl.pcs + len) hi) = false := by simpa using hab
  have HN3 : Hid ((pre ++ vis lo hi tl k).length + (vis lo hi tr (k + tl.pcs + len)).length ≤ N) := Lib.hid (by simp only [List.length_append]; omega)
  clear hv hN
  refine callsIn_of_wp Tryd.func110 rfl trivial ?_ rfl
  simp only [Tryd.ntmps110, List.size_toArray, List.length_cons, List.length_nil, Nat.reduceAdd, Nat.reduceSub, Array.replicate_succ, Array.replicate_zero, List.push_toArray, List.append_toArray, List.nil_append, List.cons_append]
  gi_wp2_with (fail)
  refine ⟨trivial, fun h => (by cases h), ?_⟩
  refine (callsIn_wide.2 (pieces_any W pl tl (by exact IsTree.mono hN₀ hl))).mono ?_
  rintro e W0 ⟨rfl, m0, rfl⟩
  gi_wp2_with (fail)
  refine ⟨trivial, fun h => (by cases h), ?_⟩
  refine (ihl (n - 1) pl k pre (W.drewN m0) (by exact IsTree.below (Quiet.below ⟨_, rfl⟩ _) hl) (by exact hN₀) o1 hk (by omega) (hJ _ _ _ hJ0 (Quiet.below ⟨_, rfl⟩ _)) HN1.out).mono ?_
  rintro e W1 (⟨rfl, hJ1, hb1⟩ | ⟨rfl, q, hq, hx⟩)
  · have hB1 : Below n₀ W W1 := Below.of_drewN hb1
    have d1 := (hn.below hB1 hb).c1
    have d2 := (hn.below hB1 hb).c2
    have d3 := (hn.below hB1 hb).c3
    gi_wp2_with (fail)
    gi_quiet (fail)
    generalize hW2 : World.drewN W1 _ = W2
    have hq2 : Quiet W1 W2 := ⟨_, hW2.symm⟩
    clear hW2
    have hB2 : Below n₀ W W2 := hB1.trans (hq2.below _)
    have f1 := (hn.below hB2 hb).c1
    have f2 := (hn.below hB2 hb).c2
    have f3 := (hn.below hB2 hb).c3
    have hJ2 := hJ _ _ _ hJ1 (hq2.below _)
    have hB3 := hB2
    have g1 := f1
    have g2 := f2
    have i1 : IntKind.i64.wrap (k + tl.pcs + len) = k + tl.pcs + len := IntWalk.i64_in _ (by omega)
    have h9 : ∀ W', Quiet W2 W' → CallsIn Fence.wide (n - 1) Tryd.prog 110 #[.pointer pr, .int .i64 (k + tl.pcs + len), .int .i64 lo, .int .i64 hi, .func (.yield l) #[] #[]] W' fun e W'' => ∃ bb : Bool, e = .returned (.bool bb) ∧
        ((bb = true ∧ J (pre ++ vis lo hi tl k ++ vis lo hi tr (k + tl.pcs + len)) W'' ∧ Below n₀ W' W'') ∨ (bb = false ∧ ∃ q, q <+: vis lo hi tr (k + tl.pcs + len) ∧ Jx (pre ++ vis lo hi tl k ++ q) W'')) := fun W' hq =>
      (ihr (n - 1) pr (k + tl.pcs + len) _ W' (IsTree.below (hB3.trans (hq.below _)) hr) (Nat.le_trans hN₀ (hB3.trans (hq.below _)).size) o2 (by omega) (by omega) (hJ _ _ _ hJ2 (hq.below _)) HN3.out).mono fun e W'' h => h.elim (fun ⟨h1, h2⟩ => ⟨true, h1, .inl ⟨rfl, h2⟩⟩) (fun ⟨h1, h2⟩ => ⟨false, h1, .inr ⟨rfl, h2⟩⟩)
    have H9 := Lib.hid h9
    clear h9
    gi_wp2_with (fail)
    refine ⟨fun _ h => (by cases h), ?_⟩
    gi_wp2_with (fail)
    gi_region_with ((refine ⟨trivial, fun h => (by cases h), ?_⟩; gi_at_call 110; refine (H9.out _ ⟨1, rfl⟩).mono ?_; rintro e W4 ⟨bb, rfl, h4⟩))
    all_goals
      gi_wp2_with (fail)
      go_ret
      rcases h4 with ⟨rfl, hJ4, hb4⟩ | ⟨rfl, q, hq, hx4⟩
      · exact .inl ⟨rfl, by rw [HV.out]; simpa [List.append_assoc] using hJ4, hB3.trans (Below.of_drew hb4)⟩
      · refine .inr ⟨rfl, vis lo hi tl k ++ q, ?_, ?_⟩
        · rw [HV.out]; obtain ⟨t, ht⟩ := hq; exact ⟨t, by rw [← ht]; simp⟩
        · simpa [List.append_assoc] using hx4
  · gi_wp2_with (fail)
    go_ret
    exact .inr ⟨rfl, q, HV.out ▸ hq.trans (List.prefix_append _ _), hx⟩
variable {l n₀ N lo hi J Jx}
theorem visit_any (hJ : ∀ pre W W', J pre W → Below W.heap.size W W' → J pre W')
    (hY : ∀ m pre x W, J pre W → pre.length < N → YieldAt Fence.wide m Tryd.prog l #[encR x] W fun e W' =>
      (e = .returned (.bool true) ∧ J (pre ++ [x]) W' ∧ Below n₀ W W') ∨ (e = .returned (.bool false) ∧ Jx (pre ++ [x]) W')) : ∀ T : Tr, VI l n₀ N lo hi J Jx T
  | .nil => visit_nil l n₀ N lo hi J Jx
  | .node tl len tag tr => fun n p k pre W hT hN₀ o hk hp hJ0 hN => by
    by_cases h : hi ≤ k
    · have e : vis lo hi (Tr.node tl len tag tr) k = [] := by simp only [vis]; rw [if_pos h]
      exact (visit_skip l n₀ lo hi tl tr len tag n p k pre W hT hk hp o (.inl h)).mono fun e' W' ⟨h1, h2⟩ => .inl ⟨h1, by rw [e, ← h2]; simpa using hJ0, h2 ▸ Below.refl _ _⟩
    · by_cases h' : k + (Tr.node tl len tag tr).pcs ≤ lo
      · have e : vis lo hi (Tr.node tl len tag tr) k = [] := by simp only [vis]; rw [if_neg h, if_pos h']
        exact (visit_skip l n₀ lo hi tl tr len tag n p k pre W hT hk hp o (.inr ⟨h, h'⟩)).mono fun e' W' ⟨h1, h2⟩ => .inl ⟨h1, by rw [e, ← h2]; simpa using hJ0, h2 ▸ Below.refl _ _⟩
      · by_cases hab : max (k + tl.pcs) lo < min (k + tl.pcs + len) hi
        · exact visit_main l n₀ N lo hi J Jx hJ hY tl tr len tag (visit_any hJ hY tl) (visit_any hJ hY tr) n p k pre W hT hN₀ hk hp o hJ0 hN h h' hab
        · exact visit_none l n₀ N lo hi J Jx hJ tl tr len tag (visit_any hJ hY tl) (visit_any hJ hY tr) n p k pre W hT hN₀ hk hp o hJ0 hN h h' hab
end
set_option maxRecDepth 100000 in
set_option maxHeartbeats 1000000 in
/-- The function that within returns. -/
theorem within1_any (n l n₀ : Nat) (b0 b1 b2 : Nat) (lo hi : Int) (p : Option Addr) (T : Tr) (J Jx : List Rn → World → Prop) (hJ : ∀ pre W W', J pre W → Below W.heap.size W W' → J pre W')
    (hY : ∀ pre x W, J pre W → pre.length < (vis lo hi T 0).length → YieldAt Fence.wide (n - 1) Tryd.prog l #[encR x] W fun e W' =>
      (e = .returned (.bool true) ∧ J (pre ++ [x]) W' ∧ Below n₀ W W') ∨ (e = .returned (.bool false) ∧ Jx (pre ++ [x]) W'))
    (W : World) (h0 : W.cell? ⟨b0, 0, none⟩ = some (.pointer p)) (h1 : W.cell? ⟨b1, 0, none⟩ = some (.int .i64 lo)) (h2 : W.cell? ⟨b2, 0, none⟩ = some (.int .i64 hi))
    (hT : IsTree n₀ W p T) (hN₀ : n₀ ≤ W.heap.size) (oT : T.Ok) (hp : T.pcs ≤ 1099511627776) (hJ0 : J [] W) :
    CallsIn Fence.wide n Tryd.prog 109 #[.func (.yield l) #[] #[], .pointer (some ⟨b0, 0, none⟩), .pointer (some ⟨b1, 0, none⟩), .pointer (some ⟨b2, 0, none⟩)] W fun e W' => (∃ v, e = .returned v) ∧
      ((∃ ys, ys = vis lo hi T 0 ∧ J ys W') ∨ (∃ pre, pre <+: vis lo hi T 0 ∧ Jx pre W')) := by
  have hv := visit_any (lo := lo) (hi := hi) (N := (vis lo hi T 0).length) hJ (fun m pre x W hj hl => YieldAt.any_depth rfl m (hY pre x W hj hl)) T (n - 1) p 0 [] W hT hN₀ oT (Int.le_refl _) (by omega) hJ0 (by simp)
  have HV := Lib.hid hv
  clear hv
  refine callsIn_of_wp Tryd.func109 rfl trivial ?_ rfl
  simp only [Tryd.ntmps109, List.size_toArray, List.length_cons, List.length_nil, Nat.reduceAdd, Nat.reduceSub, Array.replicate_succ, Array.replicate_zero, List.push_toArray, List.append_toArray, List.nil_append, List.cons_append]
  gi_wp2_with (fail)
  refine ⟨trivial, fun h => (by cases h), ?_⟩
  refine HV.out.mono ?_
  rintro e W1 (⟨rfl, hJ1, hb1⟩ | ⟨rfl, q, hq, hx⟩)
  · gi_wp2_with (fail)
    go_end0
    exact ⟨⟨_, rfl⟩, .inl ⟨_, rfl, by simpa using hJ1⟩⟩
  · gi_wp2_with (fail)
    go_end0
    exact ⟨⟨_, rfl⟩, .inr ⟨q, hq, by simpa using hx⟩⟩
/-- What lies in three new boxes. -/
theorem within_any (n : Nat) (p : Option Addr) (lo hi : Int) (w : World) : CallsIn Fence.wide n Tryd.prog 108 #[.pointer p, .int .i64 lo, .int .i64 hi] w fun e w' =>
    e = .returned (.func (.func 109) #[] #[.pointer (some ⟨w.heap.size, 0, none⟩), .pointer (some ⟨w.heap.size + 1, 0, none⟩), .pointer (some ⟨w.heap.size + 1 + 1, 0, none⟩)]) ∧
      w' = ((w.alloc (.cells #[.pointer p] 45)).alloc (.cells #[.int .i64 lo] 3)).alloc (.cells #[.int .i64 hi] 3) := by
  refine callsIn_of_wp Tryd.func108 rfl trivial ?_ rfl
  simp only [Tryd.ntmps108, List.size_toArray, List.length_cons, List.length_nil, Nat.reduceAdd, Nat.reduceSub, Array.replicate_succ, Array.replicate_zero, List.push_toArray, List.append_toArray, List.nil_append, List.cons_append]
  gi_wp2
  go_ret
  exact ⟨rfl, rfl⟩
/-- A step that makes blocks, or draws. -/
theorem Below.grownBy {w w' : World} (h : Below w.heap.size w w') : w.grownBy w' none := ⟨h.os, h.tape, h.output, h.size, fun k hk _ => h.block k hk⟩
theorem within_stops (n n₀ : Nat) (b0 b1 b2 : Nat) (lo hi : Int) (p : Option Addr) (T : Tr) (w : World) (h0 : w.cell? ⟨b0, 0, none⟩ = some (.pointer p)) (h1 : w.cell? ⟨b1, 0, none⟩ = some (.int .i64 lo)) (h2 : w.cell? ⟨b2, 0, none⟩ = some (.int .i64 hi))
    (l0 : b0 < w.heap.size) (l1 : b1 < w.heap.size) (l2 : b2 < w.heap.size) (hn₀ : n₀ ≤ w.heap.size) (hT : IsTree n₀ w p T) (oT : T.Ok) (hp : T.pcs ≤ 1099511627776) :
    SeqStopsK Fence.wide n Tryd.prog 109 #[.pointer (some ⟨b0, 0, none⟩), .pointer (some ⟨b1, 0, none⟩), .pointer (some ⟨b2, 0, none⟩)] (fun x : Rn => #[encR x]) (Below n₀) (fun ys => ys = vis lo hi T 0) (fun pre => pre <+: vis lo hi T 0) (vis lo hi T 0).length w :=
  fun l J Jx W hW hAJ _ hY hJ0 =>
    within1_any n l n₀ b0 b1 b2 lo hi p T J Jx (fun pre W1 W2 hj hB => hAJ pre W1 W2 none hj (Below.grownBy hB) (fun r e => by cases e)) hY W
      ((hW.cell (p := ⟨b0, 0, none⟩) l0).trans h0) ((hW.cell (p := ⟨b1, 0, none⟩) l1).trans h1) ((hW.cell (p := ⟨b2, 0, none⟩) l2).trans h2) (hT.below (hW.mono hn₀)) (Nat.le_trans hn₀ hW.size) oT hp hJ0
end
section
open Go.RowKit
attribute [local go_sem ↓] run_max run_min

/-- A pointer to the tree of a map with the runs L; without any it is nil. -/
def Rep (w : World) (p : Option Addr) (L : List (Int × Int)) : Prop := ∃ T, Tree w p T ∧ T.Bal ∧ T.list = L ∧ (L = [] ∨ Good L)
theorem Rep.below {w w' : World} (hB : Below w.heap.size w w') {p : Option Addr} {L : List (Int × Int)} (h : Rep w p L) : Rep w' p L := by
  obtain ⟨T, h1, h2⟩ := h; exact ⟨T, h1.below hB, h2⟩
theorem Rep.none (w : World) : Rep w none [] := ⟨.nil, rfl, trivial, rfl, .inl rfl⟩
theorem Rep.nil_iff {w : World} {p : Option Addr} {L : List (Int × Int)} (h : Rep w p L) : p = Option.none ↔ L = [] := by
  obtain ⟨T, h1, _, rfl, _⟩ := h
  cases T with
  | nil => exact ⟨fun _ => rfl, fun _ => h1⟩
  | node l len tag r =>
    obtain ⟨b, _, _, hp, _⟩ := h1
    constructor
    · intro h; rw [h] at hp; cases hp
    · intro h; simp [Tr.list] at h
/-- A tree of a usable map. -/
theorem Rep.good {w : World} {a : Addr} {L : List (Int × Int)} (h : Rep w (some a) L) : Good L ∧ ∃ T, Tree w (some a) T ∧ T ≠ .nil ∧ T.Bal ∧ T.Ok ∧ T.list = L ∧ T.pcs = Tr.total L ∧ 1 ≤ T.pcs ∧ T.pcs ≤ 1099511627776 ∧ T.num = L.length := by
  have hne : L ≠ [] := fun e => by have := h.nil_iff.2 e; cases this
  obtain ⟨T, h1, h2, rfl, h4⟩ := h
  have g := h4.resolve_left hne
  refine ⟨g, T, h1, ?_, h2, (Tr.ok_list T).2 g.2.1, rfl, Tr.pcs_list T, by rw [Tr.pcs_list]; exact total_pos g.2.1 g.1, by rw [Tr.pcs_list]; exact g.2.2.2.1, Tr.num_list T⟩
  rintro rfl; exact hne rfl

/-- Block b holds cells of another type than nodes. -/
def Other (W : World) (b : Nat) : Prop := ∃ (cs : Array Value) (t : TypeId) (fr : Nat × Nat), W.heap[b]? = some (.cells cs t fr) ∧ t ≠ 149
theorem Other.below {n : Nat} {W W' : World} (hB : Below n W W') {b : Nat} (hb : b < n) (h : Other W b) : Other W' b := by
  obtain ⟨cs, t, fr, h1, h2⟩ := h; exact ⟨cs, t, fr, (hB.block b hb).trans h1, h2⟩
theorem IsTree.set_ {W : World} {b : Nat} (ho : Other W b) (off : Nat) (sp : Option Nat) (v : Value) {n : Nat} : ∀ {p : Option Addr} {T : Tr}, IsTree n W p T → IsTree n (W.setCell ⟨b, off, sp⟩ v) p T
  | _, .nil, ht => ht
  | _, .node _ _ _ _, ⟨b', pl, pr, hp, hb, hn, hl, hr⟩ => by
    refine ⟨b', pl, pr, hp, hb, ?_, IsTree.set_ ho off sp v hl, IsTree.set_ ho off sp v hr⟩
    have hne : b' ≠ b := by
      rintro rfl
      obtain ⟨cs, t, fr, h1, h2⟩ := ho
      unfold IsNode Made at hn
      rw [hn] at h1
      injection h1 with h1
      injection h1 with _ h3
      exact h2 h3.symm
    exact (Below.heap_setCell W ⟨b, off, sp⟩ v b' hne).trans hn
theorem Tree.set_ {W : World} {b : Nat} (ho : Other W b) (off : Nat) (sp : Option Nat) (v : Value) {p : Option Addr} {T : Tr} (h : Tree W p T) : Tree (W.setCell ⟨b, off, sp⟩ v) p T :=
  IsTree.mono (by simp [World.setCell]) (IsTree.set_ ho off sp v h)
theorem Rep.set_ {W : World} {b : Nat} (ho : Other W b) (off : Nat) (sp : Option Nat) (v : Value) {p : Option Addr} {L : List (Int × Int)} (h : Rep W p L) : Rep (W.setCell ⟨b, off, sp⟩ v) p L := by
  obtain ⟨T, h1, h2⟩ := h; exact ⟨T, h1.set_ ho off sp v, h2⟩
theorem Other.new (w : World) (cs : Array Value) (t : TypeId) (h : t ≠ 149) : Other (w.alloc (.cells cs t)) w.heap.size := ⟨cs, t, (0, 0), heap_alloc_new w _, h⟩

set_option maxHeartbeats 400000 in
theorem isTag_yes (x : Int) (w : World) (h : 0 ≤ x ∧ x < 16) : Calls Tryd.prog 103 #[.int .i64 x] w fun e w' => e = .returned (.bool true) ∧ w = w' := by
  obtain ⟨h1, h2⟩ := h
  go_enter Tryd.func103, Tryd.ntmps103
  go_wp2_with (fail)
  go_ret
  exact ⟨rfl, rfl⟩
set_option maxHeartbeats 400000 in
theorem isTag_no (x : Int) (w : World) (h : x < 0 ∨ 16 ≤ x) : Calls Tryd.prog 103 #[.int .i64 x] w fun e w' => e = .returned (.bool false) ∧ w = w' := by
  by_cases h0 : 0 ≤ x
  · have h1 : ¬ x < 16 := by omega
    have h2 : decide (x < 16) = false := by simpa using h1
    go_enter Tryd.func103, Tryd.ntmps103
    go_wp2_with (fail)
    go_ret
    exact ⟨rfl, rfl⟩
  · have h2 : decide (0 ≤ x) = false := by simpa using h0
    go_enter Tryd.func103, Tryd.ntmps103
    go_wp2_with (fail)
    go_ret
    exact ⟨rfl, rfl⟩
set_option maxHeartbeats 400000 in
theorem sized_yes (x : Int) (w : World) (h : 1 ≤ x ∧ x ≤ 1099511627776) : Calls Tryd.prog 85 #[.int .i64 x] w fun e w' => e = .returned (.bool true) ∧ w = w' := by
  obtain ⟨h1, h2⟩ := h
  go_enter Tryd.func85, Tryd.ntmps85
  go_wp2_with (fail)
  go_ret
  exact ⟨rfl, rfl⟩
set_option maxHeartbeats 400000 in
theorem sized_no (x : Int) (w : World) (h : ¬ (1 ≤ x ∧ x ≤ 1099511627776)) : Calls Tryd.prog 85 #[.int .i64 x] w fun e w' => e = .returned (.bool false) ∧ w = w' := by
  by_cases h0 : 1 ≤ x
  · have h1 : ¬ x ≤ 1099511627776 := by omega
    have h2 : decide (x ≤ 1099511627776) = false := by simpa using h1
    go_enter Tryd.func85, Tryd.ntmps85
    go_wp2_with (fail)
    go_ret
    exact ⟨rfl, rfl⟩
  · have h2 : decide (1 ≤ x) = false := by simpa using h0
    go_enter Tryd.func85, Tryd.ntmps85
    go_wp2_with (fail)
    go_ret
    exact ⟨rfl, rfl⟩
set_option maxHeartbeats 400000 in
theorem size_any (w : World) (p : Option Addr) (L : List (Int × Int)) (h : Rep w p L) : Calls Tryd.prog 67 #[.agg #[.pointer p]] w fun e w' => e = .returned (.int .i64 (Tr.total L)) ∧ Below w.heap.size w w' := by
  obtain ⟨T, hT, _, hL, _⟩ := h
  have hp : T.pcs = Tr.total L := by rw [← hL]; exact Tr.pcs_list T
  have HP := Lib.hid hp
  clear hp hL
  go_enter Tryd.func67, Tryd.ntmps67
  go_wp2_with (fail)
  go_at_call 96
  refine (pieces_any _ p T (by exact hT.below ((Below.refl _ _).alloc (Nat.le_refl _) _))).mono ?_
  rintro e w' ⟨rfl, n1, rfl⟩
  go_wp2_with (fail)
  go_ret
  exact ⟨by rw [HP.out]; rfl, (((Below.refl _ _).alloc (Nat.le_refl _) _).trans (Quiet.below ⟨_, rfl⟩ _))⟩
set_option maxHeartbeats 400000 in
theorem len_any (w : World) (p : Option Addr) (L : List (Int × Int)) (h : Rep w p L) : Calls Tryd.prog 68 #[.agg #[.pointer p]] w fun e w' => e = .returned (.int .i64 L.length) ∧ Below w.heap.size w w' := by
  obtain ⟨T, hT, _, hL, _⟩ := h
  have hp : T.num = L.length := by rw [← hL]; exact Tr.num_list T
  have HP := Lib.hid hp
  clear hp hL
  go_enter Tryd.func68, Tryd.ntmps68
  go_wp2_with (fail)
  go_at_call 97
  refine (sums_any _ p T (by exact hT.below ((Below.refl _ _).alloc (Nat.le_refl _) _))).mono ?_
  rintro e w' ⟨rfl, n1, rfl⟩
  go_wp2_with (fail)
  go_ret
  exact ⟨by rw [HP.out]; rfl, (((Below.refl _ _).alloc (Nat.le_refl _) _).trans (Quiet.below ⟨_, rfl⟩ _))⟩
/-- What ranges returns. -/
def rangesR (L : List (Int × Int)) (lo hi : Int) : Int := if L = [] then 1 else if lo < 0 ∨ hi < lo ∨ Tr.total L < hi then 3 else 0
set_option maxHeartbeats 400000 in
theorem ranges_any (w : World) (p : Option Addr) (L : List (Int × Int)) (lo hi : Int) (h : Rep w p L) : Calls Tryd.prog 107 #[.agg #[.pointer p], .int .i64 lo, .int .i64 hi] w fun e w' => e = .returned (.int .i64 (rangesR L lo hi)) ∧ Below w.heap.size w w' := by
  cases p with
  | none =>
    have e : rangesR L lo hi = 1 := by unfold rangesR; rw [if_pos (h.nil_iff.1 rfl)]
    rw [e]
    go_enter Tryd.func107, Tryd.ntmps107
    go_wp2_with (fail)
    go_ret
    exact ⟨rfl, (Below.refl _ _).alloc (Nat.le_refl _) _⟩
  | some a =>
    have hne : L ≠ [] := fun e => by have := h.nil_iff.2 e; cases this
    by_cases h1 : lo < 0
    · have e : rangesR L lo hi = 3 := by unfold rangesR; rw [if_neg hne, if_pos (.inl h1)]
      rw [e]
      go_enter Tryd.func107, Tryd.ntmps107
      go_wp2_with (fail)
      go_ret
      exact ⟨rfl, (Below.refl _ _).alloc (Nat.le_refl _) _⟩
    · by_cases h2 : hi < lo
      · have e : rangesR L lo hi = 3 := by unfold rangesR; rw [if_neg hne, if_pos (.inr (.inl h2))]
        rw [e]
        go_enter Tryd.func107, Tryd.ntmps107
        go_wp2_with (fail)
        go_ret
        exact ⟨rfl, (Below.refl _ _).alloc (Nat.le_refl _) _⟩
      · by_cases h3 : Tr.total L < hi
        · have e : rangesR L lo hi = 3 := by unfold rangesR; rw [if_neg hne, if_pos (.inr (.inr h3))]
          rw [e]
          go_enter Tryd.func107, Tryd.ntmps107
          go_wp2_with (fail)
          go_at_call 67
          refine (size_any _ (some a) L (by exact h.below ((Below.refl _ _).alloc (Nat.le_refl _) _))).mono ?_
          rintro e w1 ⟨rfl, hb⟩
          go_wp2_with (fail)
          go_ret
          exact ⟨rfl, Below.next ((Below.refl _ _).alloc (Nat.le_refl _) _) hb⟩
        · have e : rangesR L lo hi = 0 := by unfold rangesR; rw [if_neg hne, if_neg (by omega)]
          rw [e]
          go_enter Tryd.func107, Tryd.ntmps107
          go_wp2_with (fail)
          go_at_call 67
          refine (size_any _ (some a) L (by exact h.below ((Below.refl _ _).alloc (Nat.le_refl _) _))).mono ?_
          rintro e w1 ⟨rfl, hb⟩
          go_wp2_with (fail)
          go_ret
          exact ⟨rfl, Below.next ((Below.refl _ _).alloc (Nat.le_refl _) _) hb⟩

set_option maxRecDepth 100000 in
set_option maxHeartbeats 400000 in
theorem new_any (w : World) (size : Int) : Calls Tryd.prog 54 #[.int .i64 size] w fun e w' => ∃ p, e = .returned (.tuple #[.agg #[.pointer p], .int .i64 (newR size).1]) ∧ Rep w' p (newR size).2 ∧ Below w.heap.size w w' := by
  have hg := newR_good size
  by_cases h : 1 ≤ size ∧ size ≤ 1099511627776
  · have e : newR size = (0, [(size, 0)]) := by unfold newR; rw [if_pos h]
    rw [e] at hg ⊢
    have hl : Tr.leaf size 0 = .node .nil size 0 .nil := by unfold Tr.leaf; rw [if_neg (by omega)]
    have HL := Lib.hid hl
    have HG := Lib.hid hg
    clear hl hg e
    dsimp only
    go_enter Tryd.func54, Tryd.ntmps54
    go_wp2_with (fail)
    go_at_call 85
    refine (sized_yes size _ h).mono ?_
    rintro e w1 ⟨rfl, rfl⟩
    go_wp2_with (fail)
    go_at_call 86
    refine (leaf_any size 0 _ (by omega) h.2 (by omega) (by omega)).mono ?_
    rintro e w1 ⟨p1, rfl, ht1, hb1⟩
    have hz : w.heap.size < w1.heap.size := by have := hb1.size; simp at this; omega
    have hB : Below w.heap.size w w1 := Below.next ((Below.refl _ _).alloc (Nat.le_refl _) _) hb1
    have hc : w1.cell? ⟨w.heap.size, 0, none⟩ = some (.pointer none) := (hb1.cell (p := ⟨w.heap.size, 0, none⟩) (by simp)).trans (by simp)
    have hf : w1.frozen? ⟨w.heap.size, 0, none⟩ = false := (hb1.frozen (p := ⟨w.heap.size, 0, none⟩) (by simp)).trans (by simp)
    go_wp2_with (fail)
    have hB2 : Below w.heap.size w (w1.setCell ⟨w.heap.size, 0, none⟩ (.pointer p1)) := hB.setCell (p := ⟨w.heap.size, 0, none⟩) (Nat.le_refl _) _
    exact bodyPost_ret (v := .tuple #[.agg #[.pointer p1], .int .i64 0]) (by simp [results, Tryd.results54, go_sem, hc]) rfl ⟨_, rfl,
      ⟨_, ht1.set_ ((Other.new w _ _ (by decide)).below hb1 (by simp)) _ _ _, Tr.leaf_bal _ _, by rw [HL.out]; rfl, HG.out⟩, hB2⟩
  · have e : newR size = (2, []) := by unfold newR; rw [if_neg h]
    rw [e]
    clear hg e
    dsimp only
    go_enter Tryd.func54, Tryd.ntmps54
    go_wp2_with (fail)
    go_at_call 85
    refine (sized_no size _ h).mono ?_
    rintro e w1 ⟨rfl, rfl⟩
    go_wp2_with (fail)
    exact bodyPost_ret (v := .tuple #[.agg #[.pointer none], .int .i64 2]) (by simp [results, Tryd.results54, go_sem]) rfl ⟨_, rfl, Rep.none _, (Below.refl _ _).alloc (Nat.le_refl _) _⟩
end
section
open Go.RowKit

/-- Block b holds one value, and is no node. -/
def BoxT (W : World) (b : Nat) (v : Value) : Prop := ∃ t : TypeId, t ≠ 149 ∧ W.heap[b]? = some (.cells #[v] t (0, 0))
theorem BoxT.new (w : World) (v : Value) (t : TypeId) (h : t ≠ 149) : BoxT (w.alloc (.cells #[v] t)) w.heap.size v := ⟨t, h, heap_alloc_new w _⟩
theorem BoxT.below {n : Nat} {W W' : World} (hB : Below n W W') {b : Nat} (hb : b < n) {v : Value} (h : BoxT W b v) : BoxT W' b v := by
  obtain ⟨t, h1, h2⟩ := h; exact ⟨t, h1, (hB.block b hb).trans h2⟩
theorem BoxT.lt {W : World} {b : Nat} {v : Value} (h : BoxT W b v) : b < W.heap.size := by
  obtain ⟨t, _, h⟩ := h
  rcases Nat.lt_or_ge b W.heap.size with hlt | hge
  · exact hlt
  · rw [Array.getElem?_eq_none hge] at h; cases h
theorem BoxT.next {W W' : World} (hB : Below W.heap.size W W') {b : Nat} {v : Value} (h : BoxT W b v) : BoxT W' b v := h.below hB h.lt
theorem BoxT.alloc {W : World} {b : Nat} {v : Value} (h : BoxT W b v) (o : Obj) : BoxT (W.alloc o) b v := h.next ((Below.refl _ _).alloc (Nat.le_refl _) _)
theorem BoxT.cell {W : World} {b : Nat} {v : Value} (h : BoxT W b v) : W.cell? ⟨b, 0, none⟩ = some v := by
  obtain ⟨t, _, h⟩ := h; simp [World.cell?, h]
theorem BoxT.frozen {W : World} {b : Nat} {v : Value} (h : BoxT W b v) : W.frozen? ⟨b, 0, none⟩ = false := by
  obtain ⟨t, _, h⟩ := h; simp [World.frozen?, h]
theorem BoxT.other {W : World} {b : Nat} {v : Value} (h : BoxT W b v) : Other W b := by
  obtain ⟨t, h1, h⟩ := h; exact ⟨_, t, _, h, h1⟩
theorem Below.alloc1 (w : World) (o : Obj) : Below w.heap.size w (w.alloc o) := (Below.refl _ _).alloc (Nat.le_refl _) _
theorem Below.alloc2 (w : World) (o o' : Obj) : Below w.heap.size w ((w.alloc o).alloc o') := Below.next (Below.alloc1 w o) (Below.alloc1 _ o')

def SetPost (w : World) (L : List (Int × Int)) (lo hi tag : Int) (e : Ending) (w' : World) : Prop :=
  ∃ p, e = .returned (.tuple #[.agg #[.pointer p], .int .i64 (setR L lo hi tag).1]) ∧ Rep w' p (setR L lo hi tag).2 ∧ Below w.heap.size w w'
end
section
open Go.RowKit

/-- How many of the first pieces have a tag. -/
def upTo (L : List (Int × Int)) (tag k : Int) : Int := Tr.totalOf tag (takeP k L)
theorem totalOf_nonneg {L : List (Int × Int)} (h : Tr.OkL L) (tag : Int) : 0 ≤ Tr.totalOf tag L := by
  induction L with
  | nil => simp [Tr.totalOf]
  | cons x l ih =>
    have h' := Tr.OkL.cons.1 h
    have := ih h'.2
    rw [Tr.totalOf_cons]; split <;> omega
theorem totalOf_le {L : List (Int × Int)} (h : Tr.OkL L) (tag : Int) : Tr.totalOf tag L ≤ Tr.total L := by
  induction L with
  | nil => simp [Tr.totalOf, Tr.total]
  | cons x l ih =>
    have h' := Tr.OkL.cons.1 h
    have := ih h'.2
    rw [Tr.totalOf_cons, Tr.total_cons]; split <;> omega
theorem bef_upTo (tag : Int) : ∀ (T : Tr) (k : Int), T.Ok → 0 ≤ k → bef tag T k = upTo T.list tag k
  | .nil, k, _, _ => by simp [bef, upTo, Tr.list, takeP, Tr.totalOf]
  | .node l len tg r, k, o, hk => by
    obtain ⟨o1, o2, o4, _, _⟩ := o
    have q1 := Tr.pcs_nonneg l o1
    have ih1 := bef_upTo tag l k o1 hk
    unfold upTo at ih1 ⊢
    simp only [bef, Tr.list]
    rw [takeP_append ((Tr.ok_list l).1 o1), ← Tr.pcs_list]
    by_cases h : k ≤ l.pcs
    · rw [if_pos h, if_pos h, ih1]
    · rw [if_neg h, if_neg h, Tr.totalOf_append, ← Tr.cnt_list]
      simp only [takeP]
      rw [if_neg (by omega : ¬ k - l.pcs ≤ 0)]
      by_cases h2 : k - l.pcs < len
      · rw [if_pos h2, if_pos (by omega : k - (l.pcs + len) ≤ 0), Tr.totalOf_cons, show Tr.totalOf tag [] = 0 from rfl, show min (k - l.pcs) len = k - l.pcs from by omega]
        dsimp only
        omega
      · rw [if_neg h2, Tr.totalOf_cons]
        have ih2 := bef_upTo tag r (k - (l.pcs + len)) o2 (by omega)
        unfold upTo at ih2
        rw [show k - l.pcs - len = k - (l.pcs + len) from by omega, show min (k - l.pcs) len = len from by omega]
        dsimp only
        by_cases h3 : k - (l.pcs + len) ≤ 0
        · rw [if_pos h3]
          have e : takeP (k - (l.pcs + len)) r.list = [] := by
            cases r.list with
            | nil => rfl
            | cons x t => simp only [takeP]; rw [if_pos h3]
          rw [e, show Tr.totalOf tag [] = 0 from rfl]
          omega
        · rw [if_neg h3, ih2]
          omega
/-- What Count returns. -/
def countR (L : List (Int × Int)) (lo hi tag : Int) : Int × Int :=
  if rangesR L lo hi = 0 then (if tag < 0 ∨ 16 ≤ tag then (0, 2) else (upTo L tag hi - upTo L tag lo, 0)) else (0, rangesR L lo hi)
end
section
open Go.RowKit

/-- The k-th piece with a tag, in a tree that begins at a piece. -/
def fnd (tag : Int) : Tr → Int → Int → Int
  | .nil, _, a => a
  | .node l len tg r, k, a => if k < l.cnt tag then fnd tag l k a else if tg = tag then (if k < l.cnt tag + len then a + l.pcs + k - l.cnt tag else fnd tag r (k - l.cnt tag - len) (a + l.pcs + len)) else fnd tag r (k - l.cnt tag) (a + l.pcs + len)
/-- The same in a list of runs. -/
def findL (tag : Int) : List (Int × Int) → Int → Int → Int × Bool
  | [], _, _ => (0, false)
  | x :: l, k, a => if x.2 = tag then (if k < x.1 then (a + k, true) else findL tag l (k - x.1) (a + x.1)) else findL tag l k (a + x.1)
theorem findL_append (tag : Int) (A B : List (Int × Int)) (h : Tr.OkL A) (k a : Int) (hk : 0 ≤ k) : findL tag (A ++ B) k a = if k < Tr.totalOf tag A then findL tag A k a else findL tag B (k - Tr.totalOf tag A) (a + Tr.total A) := by
  induction A generalizing k a with
  | nil => rw [show Tr.totalOf tag [] = 0 from rfl, Tr.total_nil, if_neg (by omega)]; simp
  | cons x A ih =>
    have h' := Tr.OkL.cons.1 h
    have := totalOf_nonneg h'.2 tag
    rw [List.cons_append, Tr.totalOf_cons, Tr.total_cons]
    simp only [findL]
    by_cases hx : x.2 = tag
    · rw [if_pos hx, if_pos hx, if_pos hx]
      by_cases h1 : k < x.1
      · rw [if_pos h1, if_pos (by omega), if_pos h1]
      · rw [if_neg h1, ih h'.2 _ _ (by omega)]
        by_cases h2 : k - x.1 < Tr.totalOf tag A
        · rw [if_pos h2, if_pos (by omega), if_neg h1]
        · rw [if_neg h2, if_neg (by omega)]; congr 1 <;> omega
    · rw [if_neg hx, if_neg hx, if_neg hx, ih h'.2 _ _ hk]
      by_cases h2 : k < Tr.totalOf tag A
      · rw [if_pos h2, if_pos (by omega)]
      · rw [if_neg h2, if_neg (by omega)]; congr 1 <;> omega
theorem findL_none (tag : Int) (A : List (Int × Int)) (h : Tr.OkL A) (k a : Int) (hk : Tr.totalOf tag A ≤ k) : findL tag A k a = (0, false) := by
  induction A generalizing k a with
  | nil => rfl
  | cons x A ih =>
    have h' := Tr.OkL.cons.1 h
    have := totalOf_nonneg h'.2 tag
    rw [Tr.totalOf_cons] at hk
    simp only [findL]
    by_cases hx : x.2 = tag
    · rw [if_pos hx] at hk; rw [if_pos hx, if_neg (by omega)]; exact ih h'.2 _ _ (by omega)
    · rw [if_neg hx] at hk; rw [if_neg hx]; exact ih h'.2 _ _ (by omega)
theorem fnd_findL (tag : Int) : ∀ (T : Tr) (k a : Int), T.Ok → 0 ≤ k → k < T.cnt tag → findL tag T.list k a = (fnd tag T k a, true)
  | .nil, k, a, _, h0, h1 => by simp only [Tr.cnt] at h1; omega
  | .node l len tg r, k, a, o, h0, h1 => by
    obtain ⟨o1, o2, o4, _, _⟩ := o
    have c1 := Tr.cnt_nonneg tag l o1
    simp only [Tr.cnt] at h1
    simp only [Tr.list, fnd]
    rw [findL_append tag _ _ ((Tr.ok_list l).1 o1) k a h0, ← Tr.cnt_list, ← Tr.pcs_list]
    by_cases h : k < l.cnt tag
    · rw [if_pos h, if_pos h]; exact fnd_findL tag l k a o1 h0 h
    · rw [if_neg h, if_neg h]
      simp only [findL]
      by_cases ht : tg = tag
      · rw [if_pos ht] at h1
        rw [if_pos ht, if_pos ht]
        by_cases h2 : k < l.cnt tag + len
        · rw [if_pos h2, if_pos (by omega)]; congr 1; omega
        · rw [if_neg h2, if_neg (by omega)]; exact fnd_findL tag r _ _ o2 (by omega) (by omega)
      · rw [if_neg ht] at h1
        rw [if_neg ht, if_neg ht]; exact fnd_findL tag r _ _ o2 (by omega) (by omega)
theorem fnd_bound (tag : Int) : ∀ (T : Tr) (k a : Int), T.Ok → 0 ≤ k → k < T.cnt tag → a ≤ fnd tag T k a ∧ fnd tag T k a < a + T.pcs
  | .nil, k, a, _, h0, h1 => by simp only [Tr.cnt] at h1; omega
  | .node l len tg r, k, a, o, h0, h1 => by
    obtain ⟨o1, o2, o4, _, _⟩ := o
    have p1 := Tr.pcs_nonneg l o1; have p2 := Tr.pcs_nonneg r o2
    have c1 := Tr.cnt_nonneg tag l o1
    simp only [Tr.cnt] at h1
    simp only [Tr.pcs, fnd]
    by_cases h : k < l.cnt tag
    · rw [if_pos h]; have := fnd_bound tag l k a o1 h0 h; omega
    · rw [if_neg h]
      by_cases ht : tg = tag
      · rw [if_pos ht] at h1
        rw [if_pos ht]
        by_cases h2 : k < l.cnt tag + len
        · rw [if_pos h2]; omega
        · rw [if_neg h2]; have := fnd_bound tag r (k - l.cnt tag - len) (a + l.pcs + len) o2 (by omega) (by omega); omega
      · rw [if_neg ht] at h1
        rw [if_neg ht]; have := fnd_bound tag r (k - l.cnt tag) (a + l.pcs + len) o2 (by omega) (by omega); omega
/-- What Find returns. -/
def findR (L : List (Int × Int)) (tag k : Int) : Int × Bool := if k < 0 then (0, false) else findL tag L k 0
theorem totalOf_bad {L : List (Int × Int)} (h : Tr.OkL L) {tag : Int} (ht : tag < 0 ∨ 16 ≤ tag) : Tr.totalOf tag L = 0 := by
  induction L with
  | nil => rfl
  | cons x l ih =>
    have h' := Tr.OkL.cons.1 h
    rw [Tr.totalOf_cons, ih h'.2, if_neg (by omega)]; rfl
def FindPost (w : World) (r : Int × Bool) (e : Ending) (w' : World) : Prop := e = .returned (.tuple #[.int .i64 r.1, .bool r.2]) ∧ Below w.heap.size w w'
end
section
open Go.RowKit Go.Shelf
attribute [local go_sem] Oper.semAt_some
attribute [local go_sem ↓] run_max run_min

theorem infoRun : (Tryd.prog.info? 34).map (fun i => (i.zero, i.size, i.bytes)) = some (some (.agg #[.int .i64 0, .int .i64 0, .int .i64 0]), 3, 24) := by kernel_rfl
/-- The cells of runs. -/
def cellsR (L : List Rn) : List Value := L.flatMap fun x => [.int .i64 x.lo, .int .i64 x.hi, .int .i64 x.tag]
theorem cellsR_snoc (L : List Rn) (x : Rn) : cellsR (L ++ [x]) = cellsR L ++ [.int .i64 x.lo, .int .i64 x.hi, .int .i64 x.tag] := by simp [cellsR]
/-- The slice v owns the runs L, in blocks from base on. -/
def OwnRuns (w : World) (base : Nat) (v : Value) (L : List Rn) : Prop := w.ownsRow base 34 3 v L.length (cellsR L)
theorem OwnRuns.mono {w : World} {base base' : Nat} {v : Value} {L : List Rn} (h : OwnRuns w base v L) (hb : base' ≤ base) : OwnRuns w base' v L := by
  obtain ⟨h1, h2⟩ := h
  refine ⟨h1, ?_⟩
  rcases h2 with h2 | ⟨g, cap, cur, e, hg, r⟩
  · exact .inl h2
  · exact .inr ⟨g, cap, cur, e, by omega, r⟩
theorem cell_three_new (w : World) (x y z : Value) (t : TypeId) : ∀ j u, [x, y, z][j]? = some u → (w.alloc (.cells #[x, y, z] t)).cell? ((⟨w.heap.size, 0, none⟩ : Addr).add j) = some u := by
  intro j u hj
  have hh := heap_alloc_new w (.cells #[x, y, z] t)
  match j, hj with
  | 0, hj => simp at hj; subst hj; exact cell_of_row _ w.heap.size 0 _ _ _ hh
  | 1, hj => simp at hj; subst hj; exact cell_of_row _ w.heap.size (0 + 1) _ _ _ hh
  | 2, hj => simp at hj; subst hj; exact cell_of_row _ w.heap.size (0 + 2) _ _ _ hh
  | j + 3, hj => simp at hj
/-- The box of a run. -/
def BoxR (W : World) (b : Nat) (x : Rn) : Prop := W.heap[b]? = some (.cells #[.int .i64 x.lo, .int .i64 x.hi, .int .i64 x.tag] 34 (0, 0))
set_option maxRecDepth 100000 in
set_option maxHeartbeats 400000 in
theorem runs_err (w : World) (p : Option Addr) (L : List (Int × Int)) (lo hi most : Int) (h : Rep w p L) (x : Int) (hx : Hid (rangesR L lo hi = x)) (hx0 : (x == 0) = false) :
    Calls Tryd.prog 98 #[.agg #[.pointer p], .int .i64 lo, .int .i64 hi, .int .i64 most] w fun e w' => e = .returned (.tuple #[.slice none 0 0, .int .i64 x]) ∧ Below w.heap.size w w' := by
  have hr := ranges_any ((w.alloc (.cells #[.pointer p] 47)).alloc (.cells #[.int .i64 most] 3)) p L lo hi (h.below (Below.alloc2 _ _ _))
  rw [hx.out] at hr
  have HR := Lib.hid hr
  have hx1 : (x != 0) = true := by simpa using hx0
  clear hr
  go_enter Tryd.func98, Tryd.ntmps98
  go_wp2_with (fail)
  go_at_call 107
  refine HR.out.mono ?_
  clear HR
  rintro e w1 ⟨rfl, hb1⟩
  go_wp2_with (fail)
  go_ret2
  exact ⟨rfl, Below.next (Below.alloc2 _ _ _) hb1⟩
set_option maxRecDepth 100000 in
set_option maxHeartbeats 2000000 in
theorem runs_yes (w : World) (a : Addr) (L : List (Int × Int)) (lo hi most : Int) (h : Rep w (some a) L) (hx : Hid (rangesR L lo hi = 0)) (T : Tr) (hT : Tree w (some a) T) (oT : T.Ok) (hp : T.pcs ≤ 1099511627776) (hlen : (vis lo hi T 0).length ≤ 4096) :
    Calls Tryd.prog 98 #[.agg #[.pointer (some a)], .int .i64 lo, .int .i64 hi, .int .i64 most] w fun e w' => ∃ v, e = .returned (.tuple #[v, .int .i64 0]) ∧ OwnRuns w' w.heap.size v ((vis lo hi T 0).take most.toNat) ∧ Below w.heap.size w w' := by
  have hr := ranges_any ((w.alloc (.cells #[.pointer (some a)] 47)).alloc (.cells #[.int .i64 most] 3)) (some a) L lo hi (h.below (Below.alloc2 _ _ _))
  rw [hx.out] at hr
  have HR := Lib.hid hr
  clear hr
  obtain ⟨i0, hi0, hz0, hz1, hz2⟩ := info_parts infoRun
  refine (callsIn_wide (n := 3)).1 ?_
  refine callsIn_of_wp_marks Tryd.func98 rfl trivial ?_ rfl
  simp only [Tryd.ntmps98, List.size_toArray, List.length_cons, List.length_nil, Nat.reduceAdd, Nat.reduceSub, Array.replicate_succ, Array.replicate_zero, List.push_toArray, List.append_toArray, List.nil_append, List.cons_append]
  gi_wp2_with (fail)
  refine ⟨trivial, ?_⟩
  refine (callsIn_wide.2 HR.out).mono ?_
  clear HR
  rintro e w1 ⟨rfl, hb1⟩
  have hB1 : Below w.heap.size w w1 := Below.next (Below.alloc2 _ _ _) hb1
  have b1 := (((BoxT.new w (.pointer (some a)) 47 (by decide)).alloc (.cells #[.int .i64 most] 3)).next hb1)
  have m1 := ((BoxT.new (w.alloc (.cells #[.pointer (some a)] 47)) (.int .i64 most) 3 (by decide)).next hb1)
  rw [World.size_alloc] at m1
  have hT1 := hT.below hB1
  have c1 := b1.cell
  have z1 := b1.lt
  have z2 := m1.lt
  have c2 : (w1.alloc (.cells #[.slice none 0 0] 41)).cell? ⟨w.heap.size, 0, none⟩ = some (.pointer (some a)) := (b1.alloc _).cell
  gi_wp2_with (fail)
  refine ⟨trivial, ?_⟩
  refine (within_any 2 (some a) lo hi _).mono ?_
  rintro e w' ⟨rfl, rfl⟩
  gi_wp2_with (fail)
  obtain ⟨W0, hW0⟩ : ∃ W0, (((w1.alloc (.cells #[.slice none 0 0] 41)).alloc (.cells #[.pointer (some a)] 45)).alloc (.cells #[.int .i64 lo] 3)).alloc (.cells #[.int .i64 hi] 3) = W0 := ⟨_, rfl⟩
  rw [hW0]
  have s0 : W0.heap.size = w1.heap.size + 1 + 1 + 1 + 1 := by rw [← hW0]; simp
  have hB0 : Below w1.heap.size w1 W0 := by
    rw [← hW0]; exact ((((Below.refl _ _).alloc (Nat.le_refl _) _).alloc (by simp) _).alloc (by simp; omega) _).alloc (by simp; omega) _
  have bO : Boxed W0 w1.heap.size 41 (.slice none 0 0) := by
    rw [← hW0]; exact (((Boxed.new w1 _ _).alloc _).alloc _).alloc _
  have k0 : W0.cell? ⟨w1.heap.size + 1, 0, none⟩ = some (.pointer (some a)) := by rw [← hW0]; have := (((Boxed.new (w1.alloc (.cells #[.slice none 0 0] 41)) 45 (.pointer (some a))).alloc (.cells #[.int .i64 lo] 3)).alloc (.cells #[.int .i64 hi] 3)).cell; rw [World.size_alloc] at this; exact this
  have k1 : W0.cell? ⟨w1.heap.size + 1 + 1, 0, none⟩ = some (.int .i64 lo) := by rw [← hW0]; have := ((Boxed.new ((w1.alloc (.cells #[.slice none 0 0] 41)).alloc (.cells #[.pointer (some a)] 45)) 3 (.int .i64 lo)).alloc (.cells #[.int .i64 hi] 3)).cell; rw [World.size_alloc, World.size_alloc] at this; exact this
  have k2 : W0.cell? ⟨w1.heap.size + 1 + 1 + 1, 0, none⟩ = some (.int .i64 hi) := by rw [← hW0]; have := (Boxed.new (((w1.alloc (.cells #[.slice none 0 0] 41)).alloc (.cells #[.pointer (some a)] 45)).alloc (.cells #[.int .i64 lo] 3)) 3 (.int .i64 hi)).cell; rw [World.size_alloc, World.size_alloc, World.size_alloc] at this; exact this
  clear hW0 c1 c2
  have hIo : OwnFrom W0.heap.size (fun (pre : List Rn) W => (∃ v, Boxed W w1.heap.size 41 v ∧ W.ownsRow w1.heap.size 34 3 v pre.length (cellsR pre) ∧ (pre.length : Int) ≤ max most 0) ∧ Below w1.heap.size w1 W) :=
    OwnFrom.and (Own.from (holdsRow_own w1.heap.size w1.heap.size 41 34 3 (fun pre : List Rn => pre.length) (fun pre => cellsR pre) (fun pre _ => (pre.length : Int) ≤ max most 0)) _) (ownFrom_below (Nat.le_refl _) (by omega))
  refine wpIn_rangeFunc_ownH (F := Fence.wide) rfl (by omega) (gf := 109) (lb := #[.pointer (some ⟨w1.heap.size + 1, 0, none⟩), .pointer (some ⟨w1.heap.size + 1 + 1, 0, none⟩), .pointer (some ⟨w1.heap.size + 1 + 1 + 1, 0, none⟩)]) rfl trivial (enters_of Tryd.func109 (by kernel_rfl) rfl)
    (within_stops (3 - 1) w1.heap.size (w1.heap.size + 1) (w1.heap.size + 1 + 1) (w1.heap.size + 1 + 1 + 1) lo hi (some a) T W0 k0 k1 k2 (by omega) (by omega) (by omega) hB0.size (IsTree.below hB0 hT1) oT hp) belowK_t (belowK_b (by omega)) (Below.refl _ _) (fun _ => rfl)
    (fun (pre : List Rn) W => (∃ v, Boxed W w1.heap.size 41 v ∧ W.ownsRow w1.heap.size 34 3 v pre.length (cellsR pre) ∧ (pre.length : Int) ≤ max most 0) ∧ Below w1.heap.size w1 W)
    (fun c pre' W => c = Code.exit 0 ∧ ∃ (pre : List Rn) (x : Rn), pre' = pre ++ [x] ∧ most ≤ pre.length ∧ (∃ v, Boxed W w1.heap.size 41 v ∧ W.ownsRow w1.heap.size 34 3 v pre.length (cellsR pre) ∧ (pre.length : Int) ≤ max most 0) ∧ Below w1.heap.size w1 W)
    hIo (fun c s A B row ⟨h1, pre, x, h2, h3, h4⟩ hg hr => ⟨h1, pre, x, h2, h3, hIo pre A B row h4 hg hr⟩)
    ⟨⟨_, bO, World.ownsRow_nil _ _ _ _, by simp; omega⟩, hB0⟩
    (fun x a' W => ∃ Bx, BoxR W Bx x ∧ a' = { tmps := #[Value.agg #[Value.pointer (some a)], Value.int IntKind.i64 lo, Value.int IntKind.i64 hi, Value.int IntKind.i64 most, Value.pointer (some ⟨w.heap.size, 0, none⟩), undef, undef, Value.pointer (some ⟨w.heap.size + 1, 0, none⟩), Value.slice none 0 0, Value.int IntKind.i64 0, Value.int IntKind.i64 0, Value.pointer (some ⟨w1.heap.size, 0, none⟩), Value.pointer (some ⟨Bx, 0, none⟩),
          Value.agg #[Value.pointer (some a)], Value.int IntKind.i64 lo, Value.int IntKind.i64 hi, Value.int IntKind.i64 0, Value.int IntKind.i64 0, Value.bool false, undef, Value.pointer (some ⟨w.heap.size, 0, none⟩), Value.pointer (some a), Value.int IntKind.i64 lo, Value.int IntKind.i64 hi,
          Value.func (Fn.func 109) #[] #[Value.pointer (some ⟨w1.heap.size + 1, 0, none⟩), Value.pointer (some ⟨w1.heap.size + 1 + 1, 0, none⟩), Value.pointer (some ⟨w1.heap.size + 1 + 1 + 1, 0, none⟩)],
          Value.agg #[Value.int IntKind.i64 x.lo, Value.int IntKind.i64 x.hi, Value.int IntKind.i64 x.tag], undef, undef, undef, undef, undef, undef, undef, undef, undef], defers := [] })
    (fun x a' _ A B row ⟨Bx, hb, ha⟩ hg hr => ⟨Bx, (hg.block Bx (Array.getElem?_eq_some_iff.1 hb).1 (fun e => by
      obtain ⟨_, o, ho, hc⟩ := hr Bx e.symm
      rw [show A.heap[Bx]? = _ from hb] at ho; cases ho; cases hc)).trans hb, ha⟩) ?assign ?body ?done ?stop
  case assign =>
    intro l pre x W K hI hK
    dsimp only [encR]
    gi_wp2
    exact hK _ _ ((KeepsOthers.alloc _ _).from _) ((Below.refl _ _).alloc hI.2.size _) (OwnFrom.alloc hIo _ hI) ⟨W.heap.size, heap_alloc_new W _, rfl⟩
  case body =>
    rintro l pre x a' W hl ⟨r, hr⟩ ⟨⟨v, hv, hrow, hml⟩, hB⟩ ⟨Bx, hBx, rfl⟩ hlt
    have hc := hv.cell
    have hm := (m1.below hB m1.lt).cell
    have x0 : W.cell? ⟨Bx, 0, none⟩ = some (.int .i64 x.lo) := cell_of_row W Bx 0 _ _ _ hBx
    have x1 : W.cell? ⟨Bx, 1, none⟩ = some (.int .i64 x.hi) := cell_of_row W Bx 1 _ _ _ hBx
    have x2 : W.cell? ⟨Bx, 2, none⟩ = some (.int .i64 x.tag) := cell_of_row W Bx 2 _ _ _ hBx
    obtain ⟨A, cap, rfl⟩ : ∃ A cap, v = .slice A pre.length cap := by
      rcases hrow.2 with ⟨h1, h2⟩ | ⟨g, cap, _, h1, _⟩
      · exact ⟨none, 0, by rw [h1, h2]⟩
      · exact ⟨_, cap, h1⟩
    by_cases hmo : most ≤ (pre.length : Int)
    · gi_wp2_with (fail)
      exact ⟨KeepsFrom.refl _ _, rfl, pre, x, rfl, hmo, ⟨_, hv, hrow, hml⟩, hB⟩
    · gi_wp2_with (gi_at_builtin; refine wpListIn_append_own _ rfl _ _ 41 rfl w1.heap.size 34 i0 (.agg #[.int .i64 0, .int .i64 0, .int .i64 0]) 3 24 Tryd.underlying41 hi0 hz0 hz1 hz2 rfl (by decide) _ _ _ rfl (hrow.alloc _) ⟨W.heap.size, 0, none⟩ 1 1 [.int .i64 x.lo, .int .i64 x.hi, .int .i64 x.tag] rfl rfl (cell_three_new _ _ _ _ _) (by simp [Value.oneCell']) (by unfold maxLen; omega) (by omega) (by have := hB.size; simp; omega) ?_; intro v' w2 hown' hgrow _; obtain ⟨g', cap', rfl⟩ := ownsRow_succ hown'; obtain ⟨hv1, hv2, hr2, hk2, hb2⟩ := hv.appended (by decide) hrow hB.size (Nat.le_refl _) hown' hgrow; have hc1 := hv1.cell; have hf1 := hv1.frozen)
      exact ⟨hk2.from _, hb2, ⟨_, hv2, by rw [cellsR_snoc]; simpa using hr2, by simp; omega⟩, hB.trans hb2⟩
  case done =>
    rintro D ys W hD rfl ⟨⟨v, hv, hrow, hml⟩, hB⟩ hK
    have hc := hv.cell
    gi_wp2
    refine ⟨by simp, .inl ⟨_, _, rfl, run_takeDeferred hK, ?_⟩⟩
    refine ⟨_, results_tmp2 rfl _ _ _, v, rfl, ?_, (hB1.trans (hB.mono (by omega))).trans (belowK_b (w := w) (Nat.le_refl _) W D _ _ (by omega) hK rfl rfl)⟩
    rw [List.take_of_length_le (by omega)]
    exact OwnRuns.mono (ownsRow_putObj hrow _ hK rfl) (by omega)
  case stop =>
    rintro D c pre' W hD hpre ⟨rfl, pre, x, rfl, hmo, ⟨v, hv, hrow, hml⟩, hB⟩ hK
    have hc := hv.cell
    gi_wp2
    refine ⟨by simp, .inl ⟨_, _, rfl, run_takeDeferred hK, ?_⟩⟩
    refine ⟨_, results_tmp2 rfl _ _ _, v, rfl, ?_, (hB1.trans (hB.mono (by omega))).trans (belowK_b (w := w) (Nat.le_refl _) W D _ _ (by omega) hK rfl rfl)⟩
    obtain ⟨t, ht⟩ := hpre
    have e : (vis lo hi T 0).take most.toNat = pre := by
      rw [← ht, show most.toNat = pre.length from by omega, List.append_assoc, List.take_left]
    rw [e]
    exact OwnRuns.mono (ownsRow_putObj hrow _ hK rfl) (by omega)
end
section
open Go.RowKit

/-- The runs of a list that begins at a piece, clipped to a range. -/
def clipL (lo hi : Int) : Int → List (Int × Int) → List Rn
  | _, [] => []
  | k, x :: l => (if max k lo < min (k + x.1) hi then [⟨max k lo, min (k + x.1) hi, x.2⟩] else []) ++ clipL lo hi (k + x.1) l
theorem clipL_append (lo hi k : Int) (A B : List (Int × Int)) : clipL lo hi k (A ++ B) = clipL lo hi k A ++ clipL lo hi (k + Tr.total A) B := by
  induction A generalizing k with
  | nil => simp [clipL, Tr.total_nil]
  | cons x A ih => simp only [List.cons_append, clipL, ih, Tr.total_cons, List.append_assoc]; congr 3; omega
theorem clipL_right {lo hi k : Int} {A : List (Int × Int)} (h : Tr.OkL A) (hk : hi ≤ k) : clipL lo hi k A = [] := by
  induction A generalizing k with
  | nil => rfl
  | cons x A ih =>
    have h' := Tr.OkL.cons.1 h
    simp only [clipL]
    rw [if_neg (by omega), ih h'.2 (by omega)]; rfl
theorem clipL_left {lo hi k : Int} {A : List (Int × Int)} (h : Tr.OkL A) (hk : k + Tr.total A ≤ lo) : clipL lo hi k A = [] := by
  induction A generalizing k with
  | nil => rfl
  | cons x A ih =>
    have h' := Tr.OkL.cons.1 h
    have := total_nonneg h'.2
    rw [Tr.total_cons] at hk
    simp only [clipL]
    rw [if_neg (by omega), ih h'.2 (by omega)]; rfl
theorem vis_clipL (lo hi : Int) : ∀ (T : Tr) (k : Int), T.Ok → vis lo hi T k = clipL lo hi k T.list
  | .nil, k, _ => rfl
  | .node l len tag r, k, o => by
    have oL := (Tr.ok_list _).1 o
    have pL := Tr.pcs_list (.node l len tag r)
    simp only [vis]
    split
    · rename_i h; rw [clipL_right oL h]
    · split
      · rename_i h h'; rw [clipL_left oL (by rw [← pL]; exact h')]
      · obtain ⟨o1, o2, _⟩ := o
        rw [vis_clipL lo hi l k o1, vis_clipL lo hi r _ o2]
        simp only [Tr.list]
        rw [clipL_append, ← Tr.pcs_list]
        simp only [clipL, List.append_assoc]
theorem clipL_length (lo hi k : Int) (A : List (Int × Int)) : (clipL lo hi k A).length ≤ A.length := by
  induction A generalizing k with
  | nil => simp [clipL]
  | cons x A ih =>
    have := ih (k + x.1)
    simp only [clipL, List.length_append, List.length_cons]
    split <;> simp <;> omega
/-- A list of runs with their places. -/
def lay : Int → List (Int × Int) → List Rn
  | _, [] => []
  | k, x :: l => ⟨k, k + x.1, x.2⟩ :: lay (k + x.1) l
theorem lay_length (k : Int) (A : List (Int × Int)) : (lay k A).length = A.length := by
  induction A generalizing k with
  | nil => rfl
  | cons x A ih => simp [lay, ih]
theorem clipL_all {lo hi k : Int} {A : List (Int × Int)} (h : Tr.OkL A) (h1 : lo ≤ k) (h2 : k + Tr.total A ≤ hi) : clipL lo hi k A = lay k A := by
  induction A generalizing k with
  | nil => rfl
  | cons x A ih =>
    have h' := Tr.OkL.cons.1 h
    have := total_nonneg h'.2
    rw [Tr.total_cons] at h2
    simp only [clipL, lay]
    rw [if_pos (by omega), ih h'.2 (by omega) (by omega), show max k lo = k from by omega, show min (k + x.1) hi = k + x.1 from by omega]; rfl
/-- What Runs returns. -/
def runsR (L : List (Int × Int)) (lo hi most : Int) : List Rn × Int := if rangesR L lo hi = 0 then ((clipL lo hi 0 L).take most.toNat, 0) else ([], rangesR L lo hi)
theorem runs_any (w : World) (p : Option Addr) (L : List (Int × Int)) (lo hi most : Int) (h : Rep w p L) :
    Calls Tryd.prog 98 #[.agg #[.pointer p], .int .i64 lo, .int .i64 hi, .int .i64 most] w fun e w' => ∃ v, e = .returned (.tuple #[v, .int .i64 (runsR L lo hi most).2]) ∧ OwnRuns w' w.heap.size v (runsR L lo hi most).1 ∧ Below w.heap.size w w' := by
  by_cases hx : rangesR L lo hi = 0
  · have e : runsR L lo hi most = ((clipL lo hi 0 L).take most.toNat, 0) := by unfold runsR; rw [if_pos hx]
    obtain ⟨a, rfl⟩ : ∃ a, p = some a := by
      cases p with
      | none => unfold rangesR at hx; rw [if_pos (h.nil_iff.1 rfl)] at hx; cases hx
      | some a => exact ⟨a, rfl⟩
    obtain ⟨g, T, hT, nT, bT, oT, eT, pT, p1, p2, nm⟩ := h.good
    have hv := vis_clipL lo hi T 0 oT
    rw [eT] at hv
    have hl := clipL_length lo hi 0 L
    have hg := g.2.2.2.2
    rw [e]
    have := runs_yes w a L lo hi most h hx T hT oT p2 (by rw [hv]; omega)
    rw [hv] at this
    exact this
  · have e : runsR L lo hi most = ([], rangesR L lo hi) := by unfold runsR; rw [if_neg hx]
    rw [e]
    exact (runs_err w p L lo hi most h _ rfl (by simpa using hx)).mono fun e w' ⟨h1, h2⟩ => ⟨_, h1, World.ownsRow_nil _ _ _ _, h2⟩
end
section
open Go.RowKit

/-- A run that may not follow one that ends at hi and has a tag. -/
def badRun (size hi tag : Int) (x : Rn) : Prop := x.lo ≠ hi ∨ x.hi ≤ x.lo ∨ size < x.hi ∨ (x.tag < 0 ∨ 16 ≤ x.tag) ∨ x.tag = tag
instance (size hi tag : Int) (x : Rn) : Decidable (badRun size hi tag x) := by unfold badRun; infer_instance
/-- Where runs end that follow one another; none if one may not follow. -/
def scan (size : Int) : Int → Int → List Rn → Option Int
  | hi, _, [] => some hi
  | hi, tag, x :: l => if badRun size hi tag x then none else scan size x.hi x.tag l
/-- What From returns. -/
def fromR (size : Int) (L : List Rn) : Int × List (Int × Int) :=
  if ¬ (1 ≤ size ∧ size ≤ 1099511627776) ∨ L = [] then (2, []) else
    match scan size 0 (-1) L with
    | none => (2, [])
    | some h => if h = size then (if 4096 < (L.length : Int) then (5, []) else (0, segs L)) else (2, [])
theorem scan_good {size hi tag : Int} {L : List Rn} {h : Int} (hs : scan size hi tag L = some h) (h0 : 0 ≤ hi) (hz : size ≤ 1099511627776) :
    Fine L ∧ Tr.OkL (segs L) ∧ Norm (segs L) ∧ (∀ x, L.head? = some x → x.tag ≠ tag) ∧ hi + Tr.total (segs L) = h ∧ lay hi (segs L) = L := by
  induction L generalizing hi tag with
  | nil => simp only [scan, Option.some.injEq] at hs; subst hs; simp [Fine, segs, Tr.OkL, Norm, Tr.total, lay]
  | cons x L ih =>
    simp only [scan] at hs
    split at hs
    · cases hs
    · rename_i hb
      unfold badRun at hb
      obtain ⟨f1, f2, f3, f4, f5, f6⟩ := ih hs (by omega)
      have ex : 0 ≤ x.lo ∧ x.lo < x.hi ∧ x.hi ≤ 1099511627776 ∧ 0 ≤ x.tag ∧ x.tag < 16 := by omega
      refine ⟨fun y hy => ?_, ?_, ?_, ?_, ?_, ?_⟩
      · rcases List.mem_cons.1 hy with rfl | hy
        · exact ex
        · exact f1 y hy
      · simp only [segs, List.map_cons]; exact Tr.OkL.cons.2 ⟨⟨by simp; omega, ex.2.2.2.1, ex.2.2.2.2⟩, f2⟩
      · simp only [segs, List.map_cons]
        refine ⟨fun y hy => ?_, f3⟩
        cases L with
        | nil => simp at hy
        | cons z L => simp at hy; subst hy; exact fun e => f4 z rfl e.symm
      · intro y hy; simp at hy; subst hy; omega
      · simp only [segs, List.map_cons, Tr.total_cons] at f5 ⊢; omega
      · simp only [segs, List.map_cons, lay] at f6 ⊢
        have e1 : hi = x.lo := by omega
        subst e1
        rw [show x.lo + (x.hi - x.lo) = x.hi from by omega, f6]
theorem fromR_good (size : Int) (L : List Rn) : (fromR size L).2 = [] ∨ Good (fromR size L).2 := by
  unfold fromR
  split
  · exact .inl rfl
  · rename_i h
    split
    · exact .inl rfl
    · rename_i h' hs
      split
      · rename_i he
        split
        · exact .inl rfl
        · rename_i hl
          obtain ⟨f1, f2, f3, f4, f5, f6⟩ := scan_good hs (Int.le_refl _) (by omega)
          refine .inr ⟨?_, f2, f3, by show Tr.total (segs L) ≤ _; omega, by simp only [segs_length]; omega⟩
          intro e; exact h (.inr (by simpa [segs] using e))
      · exact .inl rfl
/-- Block b holds a run. -/
def BoxRun (W : World) (b : Nat) (x y z : Int) : Prop := W.heap[b]? = some (.cells #[.int .i64 x, .int .i64 y, .int .i64 z] 34 (0, 0))
theorem BoxRun.new (w : World) (x y z : Int) : BoxRun (w.alloc (.cells #[.int .i64 x, .int .i64 y, .int .i64 z] 34)) w.heap.size x y z := heap_alloc_new w _
theorem BoxRun.lt {W : World} {b : Nat} {x y z : Int} (h : BoxRun W b x y z) : b < W.heap.size := (Array.getElem?_eq_some_iff.1 h).1
theorem BoxRun.next {W W' : World} {b : Nat} {x y z : Int} (h : BoxRun W b x y z) (hB : Below W.heap.size W W') : BoxRun W' b x y z := (hB.block b h.lt).trans h
theorem BoxRun.c0 {W : World} {b : Nat} {x y z : Int} (h : BoxRun W b x y z) : W.cell? ⟨b, 0, none⟩ = some (.int .i64 x) := cell_of_row W b 0 _ _ _ h
theorem BoxRun.c1 {W : World} {b : Nat} {x y z : Int} (h : BoxRun W b x y z) : W.cell? ⟨b, 1, none⟩ = some (.int .i64 y) := cell_of_row W b 1 _ _ _ h
theorem BoxRun.c2 {W : World} {b : Nat} {x y z : Int} (h : BoxRun W b x y z) : W.cell? ⟨b, 2, none⟩ = some (.int .i64 z) := cell_of_row W b 2 _ _ _ h
theorem BoxRun.frozen {W : World} {b : Nat} {x y z : Int} (h : BoxRun W b x y z) (i : Nat) : W.frozen? ⟨b, i, none⟩ = false := by unfold BoxRun at h; simp [World.frozen?, h]
theorem BoxRun.set3 {W : World} {b : Nat} {x y z : Int} (h : BoxRun W b x y z) (x' y' z' : Int) : BoxRun (((W.setCell ⟨b, 0, none⟩ (.int .i64 x')).setCell ⟨b, 1, none⟩ (.int .i64 y')).setCell ⟨b, 2, none⟩ (.int .i64 z')) b x' y' z' := by
  unfold BoxRun at h ⊢
  simp [World.setCell, Array.getElem?_modify, h]
theorem BoxRun.other {W : World} {b : Nat} {x y z : Int} (h : BoxRun W b x y z) : Other W b := ⟨_, _, _, h, by decide⟩
theorem BoxT.far {W : World} {b : Nat} {v : Value} (h : BoxT W b v) {b' : Nat} (hne : b ≠ b') (off : Nat) (sp : Option Nat) (u : Value) : BoxT (W.setCell ⟨b', off, sp⟩ u) b v := by
  obtain ⟨t, h1, h2⟩ := h; exact ⟨t, h1, (Below.heap_setCell W ⟨b', off, sp⟩ u b hne).trans h2⟩
theorem RunAt.cells {w : World} {e : Addr} {x : Rn} (h : RunAt w e x) : w.cell? e = some (.int .i64 x.lo) ∧ w.cell? ⟨e.block, e.off + 1, none⟩ = some (.int .i64 x.hi) ∧ w.cell? ⟨e.block, e.off + 2, none⟩ = some (.int .i64 x.tag) := h
def FromPost (w : World) (size : Int) (L : List Rn) (e : Ending) (w' : World) : Prop :=
  ∃ p, e = .returned (.tuple #[.agg #[.pointer p], .int .i64 (fromR size L).1]) ∧ Rep w' p (fromR size L).2 ∧ Below w.heap.size w w'

set_option maxRecDepth 100000 in
set_option maxHeartbeats 2000000 in
theorem from_bad (size : Int) (L : List Rn) (A : Option Addr) (c : Nat) (w : World) (h : ¬ (1 ≤ size ∧ size ≤ 1099511627776) ∨ L = []) : Calls Tryd.prog 83 #[.int .i64 size, .slice A L.length c] w fun e w' => e = .returned (.tuple #[.agg #[.pointer none], .int .i64 2]) ∧ Below w.heap.size w w' := by
  by_cases h1 : 1 ≤ size ∧ size ≤ 1099511627776
  · obtain rfl : L = [] := h.resolve_left (fun hh => hh h1)
    rw [List.length_nil]
    go_enter Tryd.func83, Tryd.ntmps83
    go_wp2_with (go_at_call 85; refine (sized_yes size _ h1).mono ?_; rintro e w' ⟨rfl, rfl⟩)
    exact bodyPost_ret (v := .tuple #[.agg #[.pointer none], .int .i64 2]) (by simp [results, Tryd.results83, go_sem]) rfl ⟨rfl, Below.alloc1 _ _⟩
  · go_enter Tryd.func83, Tryd.ntmps83
    go_wp2_with (go_at_call 85; refine (sized_no size _ h1).mono ?_; rintro e w' ⟨rfl, rfl⟩)
    exact bodyPost_ret (v := .tuple #[.agg #[.pointer none], .int .i64 2]) (by simp [results, Tryd.results83, go_sem]) rfl ⟨rfl, Below.alloc1 _ _⟩

set_option maxRecDepth 100000 in
set_option maxHeartbeats 2000000 in
theorem from_scan (size : Int) (L : List Rn) (a : Addr) (c : Nat) (w : World) (hL : Runs w (some a) L) (h1 : 1 ≤ size ∧ size ≤ 1099511627776) (hne : L ≠ []) (hlc : L.length ≤ c) (hm : L.length ≤ 1000000) :
    Calls Tryd.prog 83 #[.int .i64 size, .slice (some a) L.length c] w (FromPost w size L) := by
  have hg := fromR_good size L
  have hpost : ∀ (e : Ending) (w' : World), FromPost w size L e w' ↔ FromPost w size L e w' := fun _ _ => Iff.rfl
  have hl0 : ((L.length : Int) == 0) = false := by cases L with
    | nil => exact (hne rfl).elim
    | cons x l => simp; omega
  have hm' : (L.length : Int) ≤ 1000000 := by omega
  have HG := Lib.hid hg
  have HNE := Lib.hid hne
  clear hg hpost hne
  obtain ⟨n, hn⟩ : ∃ n, L.length = n := ⟨_, rfl⟩
  rw [hn] at hl0 hm' ⊢
  have HN := Lib.hid hn
  have HLC := Lib.hid hlc
  clear hn hlc hm
  go_enter Tryd.func83, Tryd.ntmps83
  go_wp2_with (go_at_call 85; refine (sized_yes size _ h1).mono ?_; rintro e w' ⟨rfl, rfl⟩)
  have H1 := Lib.hid h1
  clear h1
  obtain ⟨z1, z2⟩ := H1.out
  go_loopw [21] (fun i wr => ∃ (k : Nat) (x y z : Int), k ≤ n ∧ i = .int .i64 k ∧ BoxRun wr (w.heap.size + 1) x y z ∧ BoxT wr w.heap.size (.pointer none) ∧ Below w.heap.size w wr ∧ Hid (scan size 0 (-1) L = scan size y z (L.drop k))) (fun i _ => n - (intOf i).toNat)
  case atStart =>
    refine ⟨0, 0, 0, -1, by omega, rfl, ?_, ?_, ?_, rfl⟩
    · have := BoxRun.new (w.alloc (.cells #[.pointer none] 47)) 0 0 (-1); rw [World.size_alloc] at this; exact this
    · exact (BoxT.new w _ _ (by decide)).alloc _
    · exact Below.alloc2 _ _ _
  case round =>
    obtain ⟨k, x, y, z, hk, rfl, hbr, hbt, hB, hS⟩ := hrel
    have rz := hbt.lt
    by_cases hlt : k < n
    · have hkL : k < L.length := by have := HN.out; omega
      obtain ⟨hab, hrun⟩ := (hL.below hB).at_ hkL
      obtain ⟨g0, g1, g2⟩ := hrun
      have hd : L.drop k = L[k] :: L.drop (k + 1) := List.drop_eq_getElem_cons hkL
      have hS' := hS.out
      rw [hd] at hS'
      simp only [scan] at hS'
      generalize L[k] = X at *
      have HS := Lib.hid hS'
      clear hS' hd hS
      have k0 : (0 : Int) ≤ (k : Int) := by omega
      have k1 : (k : Int) < (n : Int) := by omega
      go_upto_region 7 with (fail)
      generalize hwq : World.alloc wr _ = wq
      have hBq0 : Below wr.heap.size wr wq := hwq ▸ Below.alloc1 wr _
      have hX : BoxRun wq wr.heap.size X.lo X.hi X.tag := hwq ▸ BoxRun.new wr _ _ _
      clear hwq g0 g1 g2
      have hBq : Below w.heap.size w wq := Below.next hB hBq0
      have hbr2 := hbr.next hBq0
      have hbt2 := hbt.next hBq0
      have l0 := hbr.lt
      have g0 := hX.c0
      have g1 := hX.c1
      have g2 := hX.c2
      have r0 := hbr2.c0
      have r1 := hbr2.c1
      have r2 := hbr2.c2
      have q0 := hbr2.frozen 0
      have q1 := hbr2.frozen 1
      have q2 := hbr2.frozen 2
      have rt := hbt2.cell
      have rf := hbt2.frozen
      by_cases hbad : badRun size y z X
      · have hFR : Hid (fromR size L = (2, [])) := by
          have h := HS.out
          rw [if_pos hbad] at h
          show _ = _
          unfold fromR
          rw [if_neg (by intro hh; rcases hh with hh | hh; exact hh H1.out; exact HNE.out hh), h]
        clear HS
        unfold badRun at hbad
        by_cases c1 : X.lo ≠ y
        · have t1 : (X.lo != y) = true := by simp; omega
          clear hbad c1
          go_wp2_with (fail)
          exact bodyPost_ret (v := .tuple #[.agg #[.pointer none], .int .i64 2]) (by simp [results, Tryd.results83, go_sem, rt]) rfl ⟨none, by rw [hFR.out], by rw [hFR.out]; exact Rep.none _, hBq.setCell (p := ⟨w.heap.size, 0, none⟩) (Nat.le_refl _) _⟩
        by_cases c2 : X.hi ≤ X.lo
        · have t1 : (X.lo != y) = false := by simp; omega
          clear hbad c1
          go_wp2_with (fail)
          exact bodyPost_ret (v := .tuple #[.agg #[.pointer none], .int .i64 2]) (by simp [results, Tryd.results83, go_sem, rt]) rfl ⟨none, by rw [hFR.out], by rw [hFR.out]; exact Rep.none _, hBq.setCell (p := ⟨w.heap.size, 0, none⟩) (Nat.le_refl _) _⟩
        by_cases c3 : size < X.hi
        · have t1 : (X.lo != y) = false := by simp; omega
          clear hbad c1
          go_wp2_with (fail)
          exact bodyPost_ret (v := .tuple #[.agg #[.pointer none], .int .i64 2]) (by simp [results, Tryd.results83, go_sem, rt]) rfl ⟨none, by rw [hFR.out], by rw [hFR.out]; exact Rep.none _, hBq.setCell (p := ⟨w.heap.size, 0, none⟩) (Nat.le_refl _) _⟩
        by_cases c4 : X.tag < 0 ∨ 16 ≤ X.tag
        · have t1 : (X.lo != y) = false := by simp; omega
          have C4 := Lib.hid c4
          clear hbad c1 c4
          go_wp2_with (go_at_call 103; refine (isTag_no X.tag _ C4.out).mono ?_; rintro e w' ⟨rfl, rfl⟩)
          exact bodyPost_ret (v := .tuple #[.agg #[.pointer none], .int .i64 2]) (by simp [results, Tryd.results83, go_sem, rt]) rfl ⟨none, by rw [hFR.out], by rw [hFR.out]; exact Rep.none _, hBq.setCell (p := ⟨w.heap.size, 0, none⟩) (Nat.le_refl _) _⟩
        · have t1 : (X.lo != y) = false := by simp; omega
          have t5 : (X.tag == z) = true := by simp; omega
          have C4 : Hid (0 ≤ X.tag ∧ X.tag < 16) := Lib.hid (by omega)
          clear hbad c1 c4
          go_wp2_with (go_at_call 103; refine (isTag_yes X.tag _ C4.out).mono ?_; rintro e w' ⟨rfl, rfl⟩)
          exact bodyPost_ret (v := .tuple #[.agg #[.pointer none], .int .i64 2]) (by simp [results, Tryd.results83, go_sem, rt]) rfl ⟨none, by rw [hFR.out], by rw [hFR.out]; exact Rep.none _, hBq.setCell (p := ⟨w.heap.size, 0, none⟩) (Nat.le_refl _) _⟩
      · have h := HS.out
        rw [if_neg hbad] at h
        have HS2 := Lib.hid h
        clear h HS
        unfold badRun at hbad
        have t1 : (X.lo != y) = false := by simp; omega
        have t2 : ¬ X.hi ≤ X.lo := by omega
        have t3 : ¬ size < X.hi := by omega
        have t5 : (X.tag == z) = false := by simp; omega
        have C4 : Hid (0 ≤ X.tag ∧ X.tag < 16) := Lib.hid (by omega)
        clear hbad
        go_wp2_with (go_at_call 103; refine (isTag_yes X.tag _ C4.out).mono ?_; rintro e w' ⟨rfl, rfl⟩)
        go_roundw
        case rel =>
          refine ⟨k + 1, _, _, _, by omega, by go_num, hbr2.set3 _ _ _, ?_, ?_, HS2⟩
          · exact ((hbt2.far (by omega) _ _ _).far (by omega) _ _ _).far (by omega) _ _ _
          · exact ((hBq.setCell (p := ⟨w.heap.size + 1, 0, none⟩) (Nat.le_succ _) _).setCell (p := ⟨w.heap.size + 1, 1, none⟩) (Nat.le_succ _) _).setCell (p := ⟨w.heap.size + 1, 2, none⟩) (Nat.le_succ _) _
        case measure => simp [intOf]; omega
    · obtain rfl : k = n := by omega
      have hd : L.drop k = [] := List.drop_eq_nil_of_le (by have := HN.out; omega)
      have h := hS.out
      rw [hd] at h
      simp only [scan] at h
      have HS := Lib.hid h
      clear h hd hS
      have r1 := hbr.c1
      have rt := hbt.cell
      have rf := hbt.frozen
      have nb : ¬ (¬ (1 ≤ size ∧ size ≤ 1099511627776) ∨ L = []) := by intro hh; rcases hh with hh | hh; exact hh H1.out; exact HNE.out hh
      have NB := Lib.hid nb
      clear nb
      by_cases c1 : y = size
      · subst c1
        by_cases c2 : 4096 < (k : Int)
        · have hFR : Hid (fromR y L = (5, [])) := by
            show _ = _
            unfold fromR
            rw [if_neg NB.out, HS.out]; dsimp only
            rw [if_pos rfl, if_pos (by have := HN.out; omega)]
          go_wp2_with (fail)
          exact bodyPost_ret (v := .tuple #[.agg #[.pointer none], .int .i64 5]) (by simp [results, Tryd.results83, go_sem, rt]) rfl ⟨none, by rw [hFR.out], by rw [hFR.out]; exact Rep.none _, hB.setCell (p := ⟨w.heap.size, 0, none⟩) (Nat.le_refl _) _⟩
        · have hFR : Hid (fromR y L = (0, segs L)) := by
            show _ = _
            unfold fromR
            rw [if_neg NB.out, HS.out]; dsimp only
            rw [if_pos rfl, if_neg (by have := HN.out; omega)]
          obtain ⟨f1, f2, f3, f4, f5, f6⟩ := scan_good HS.out (Int.le_refl _) (by omega)
          obtain ⟨d1, d2, _⟩ := Tr.bld_facts L.length (segs L) (by rw [segs_length]; exact Nat.le_refl _)
          have hbd := build_any L.length L wr (some a) c (Nat.le_refl _) (by have := HN.out; omega) (by have := HLC.out; have := HN.out; omega) (hL.below hB) f1 (by omega)
          rw [HN.out] at hbd d1 d2
          have HBD := Lib.hid hbd
          have D1 := Lib.hid d1
          have D2 := Lib.hid d2
          clear hbd d1 d2 f1 f2 f3 f4 f5 f6
          go_wp2_with (fail)
          go_at_call 104
          refine HBD.out.mono ?_
          clear HBD
          rintro e w2 ⟨p1, rfl, ht1, hb1⟩
          have hbt2 := hbt.next hb1
          have rt := hbt2.cell
          have rf := hbt2.frozen
          have rz := hbt2.lt
          go_wp2_with (fail)
          exact bodyPost_ret (v := .tuple #[.agg #[.pointer p1], .int .i64 0]) (by simp [results, Tryd.results83, go_sem, rt]) rfl ⟨p1, by rw [hFR.out], ⟨_, ht1.set_ hbt2.other _ _ _, D2.out, by rw [hFR.out]; exact D1.out, HG.out⟩, (Below.next hB hb1).setCell (p := ⟨w.heap.size, 0, none⟩) (Nat.le_refl _) _⟩
      · have hFR : Hid (fromR size L = (2, [])) := by
          show _ = _
          unfold fromR
          rw [if_neg NB.out, HS.out]; dsimp only
          rw [if_neg c1]
        have t1 : (y != size) = true := by simp; omega
        clear c1
        go_wp2_with (fail)
        exact bodyPost_ret (v := .tuple #[.agg #[.pointer none], .int .i64 2]) (by simp [results, Tryd.results83, go_sem, rt]) rfl ⟨none, by rw [hFR.out], by rw [hFR.out]; exact Rep.none _, hB.setCell (p := ⟨w.heap.size, 0, none⟩) (Nat.le_refl _) _⟩
/-- From, whatever its arguments. -/
theorem from_any (size : Int) (L : List Rn) (A : Option Addr) (c : Nat) (w : World) (hL : Runs w A L) (hlc : L.length ≤ c) (hm : L.length ≤ 1000000) : Calls Tryd.prog 83 #[.int .i64 size, .slice A L.length c] w (FromPost w size L) := by
  by_cases h : ¬ (1 ≤ size ∧ size ≤ 1099511627776) ∨ L = []
  · have e : fromR size L = (2, []) := by unfold fromR; rw [if_pos h]
    exact (from_bad size L A c w h).mono fun e' w' ⟨h1, h2⟩ => ⟨none, by rw [e]; exact h1, by rw [e]; exact Rep.none _, h2⟩
  · have h1 : 1 ≤ size ∧ size ≤ 1099511627776 := Classical.byContradiction fun hh => h (.inl hh)
    have h2 : L ≠ [] := fun hh => h (.inr hh)
    obtain ⟨a, rfl⟩ : ∃ a, A = some a := by
      rcases hL with hh | ⟨a, hh, _⟩
      · exact (h2 hh).elim
      · exact ⟨a, hh⟩
    exact from_scan size L a c w hL h1 h2 hlc hm
end
section
open Go.RowKit

set_option maxRecDepth 100000 in
set_option maxHeartbeats 1000000 in
theorem alike_same (L : List Rn) (A B : Option Addr) (c d : Nat) (w : World) (hA : Runs w A L) (hB : Runs w B L) (hc : L.length ≤ c) (hd : L.length ≤ d) (hm : (L.length : Int) ≤ 1000000) :
    Calls Tryd.prog 41 #[.slice A L.length c, .slice B L.length d] w fun e w' => e = .returned (.bool true) ∧ Quiet w w' := by
  obtain ⟨n, hn⟩ : ∃ n, L.length = n := ⟨_, rfl⟩
  rw [hn] at hc hd hm ⊢
  have HN := Lib.hid hn
  clear hn
  go_enter Tryd.func41, Tryd.ntmps41
  go_wp2_with (fail)
  go_loopw [5] (fun i wr => ∃ k : Nat, k ≤ n ∧ i = .int .i64 k ∧ Quiet w wr) (fun i _ => n - (intOf i).toNat)
  case atStart => exact ⟨0, by omega, rfl, Quiet.refl _⟩
  case round =>
    obtain ⟨k, hk, rfl, q, rfl⟩ := hrel
    by_cases hlt : k < n
    · have hkL : k < L.length := by have := HN.out; omega
      obtain ⟨a, rfl⟩ : ∃ a, A = some a := by
        rcases hA with hh | ⟨a, hh, _⟩
        · rw [hh] at hkL; simp at hkL
        · exact ⟨a, hh⟩
      obtain ⟨b, rfl⟩ : ∃ b, B = some b := by
        rcases hB with hh | ⟨b, hh, _⟩
        · rw [hh] at hkL; simp at hkL
        · exact ⟨b, hh⟩
      obtain ⟨_, f0, f1, f2⟩ := hA.at_ hkL
      obtain ⟨_, g0, g1, g2⟩ := hB.at_ hkL
      generalize L[k] = X at *
      have k0 : (0 : Int) ≤ (k : Int) := by omega
      have k1 : (k : Int) < (n : Int) := by omega
      go_wp2_with (fail)
      go_quiet (fail)
      go_wp2_with (fail)
      go_roundw
      case rel => exact ⟨k + 1, by omega, by go_num, _, rfl⟩
      case measure => simp [intOf]; omega
    · obtain rfl : k = n := by omega
      go_wp2_with (fail)
      go_ret
      exact ⟨rfl, _, rfl⟩
/-- Block b holds the document's map. -/
def BoxM (W : World) (b : Nat) (x : Int) (v : Value) : Prop := W.heap[b]? = some (.cells #[.int .i64 x, v] 69 (0, 0))
theorem BoxM.new (w : World) (x : Int) (v : Value) : BoxM (w.alloc (.cells #[.int .i64 x, v] 69)) w.heap.size x v := heap_alloc_new w _
theorem BoxM.lt {W : World} {b : Nat} {x : Int} {v : Value} (h : BoxM W b x v) : b < W.heap.size := (Array.getElem?_eq_some_iff.1 h).1
theorem BoxM.next {W W' : World} {b : Nat} {x : Int} {v : Value} (h : BoxM W b x v) (hB : Below W.heap.size W W') : BoxM W' b x v := (hB.block b h.lt).trans h
theorem BoxM.c0 {W : World} {b : Nat} {x : Int} {v : Value} (h : BoxM W b x v) : W.cell? ⟨b, 0, none⟩ = some (.int .i64 x) := cell_of_row W b 0 _ _ _ h
theorem BoxM.c1 {W : World} {b : Nat} {x : Int} {v : Value} (h : BoxM W b x v) : W.cell? ⟨b, 1, none⟩ = some v := cell_of_row W b 1 _ _ _ h
theorem BoxM.frozen {W : World} {b : Nat} {x : Int} {v : Value} (h : BoxM W b x v) (i : Nat) : W.frozen? ⟨b, i, none⟩ = false := by unfold BoxM at h; simp [World.frozen?, h]
theorem OwnRuns.runs {w : World} {base : Nat} {v : Value} {L : List Rn} (h : OwnRuns w base v L) : ∃ A c, v = .slice A L.length c ∧ L.length ≤ c ∧ Runs w A L := by
  obtain ⟨h1, h2⟩ := h
  rcases h2 with ⟨h2, h3⟩ | ⟨g, cap, cur, e, hg, hh, hc, _, hs, ht⟩
  · exact ⟨none, 0, by rw [h2, h3], by omega, .inl (List.eq_nil_of_length_eq_zero h3)⟩
  · refine ⟨_, cap, e, hc, .inr ⟨⟨g, 0, none⟩, rfl, (Array.getElem?_eq_some_iff.1 hh).1, fun i hi => ?_⟩⟩
    have key : ∀ j v, (cellsR L)[i * 3 + j]? = some v → j < 3 → w.cell? ⟨g, i * 3 + j, none⟩ = some v := by
      intro j v hv hj
      rw [cell_of_row w g (i * 3 + j) cur _ _ hh]
      rw [← ht, List.getElem?_take, if_pos (by omega)] at hv
      rw [← hv, Array.getElem?_toList]
    have hcell : ∀ (L : List Rn) (i : Nat) (hi : i < L.length), (cellsR L)[i * 3]? = some (.int .i64 L[i].lo) ∧ (cellsR L)[i * 3 + 1]? = some (.int .i64 L[i].hi) ∧ (cellsR L)[i * 3 + 2]? = some (.int .i64 L[i].tag) := by
      intro L
      induction L with
      | nil => intro i hi; simp at hi
      | cons x L ih =>
        intro i hi
        cases i with
        | zero => simp [cellsR]
        | succ i =>
          have := ih i (by simpa using hi)
          have e : cellsR (x :: L) = [.int .i64 x.lo, .int .i64 x.hi, .int .i64 x.tag] ++ cellsR L := by simp [cellsR]
          rw [e, show (i + 1) * 3 = 3 + i * 3 from by omega]
          simp only [List.getElem_cons_succ]
          refine ⟨?_, ?_, ?_⟩
          · rw [List.getElem?_append_right (by simp)]; simpa using this.1
          · rw [List.getElem?_append_right (by simp; omega)]; rw [← this.2.1]; congr 1; simp; omega
          · rw [List.getElem?_append_right (by simp; omega)]; rw [← this.2.2]; congr 1; simp; omega
    obtain ⟨k0, k1, k2⟩ := hcell L i hi
    have ea : (⟨g, 0, none⟩ : Addr).add (i * 3) = ⟨g, i * 3, none⟩ := by
      unfold Addr.add; split
      · rename_i h0; rw [h0]
      · simp
    rw [ea]
    exact ⟨key 0 _ k0 (by omega), key 1 _ k1 (by omega), key 2 _ k2 (by omega)⟩
/-- What Runs returns of the whole map. -/
theorem runsR_all {L : List (Int × Int)} (h : Good L) : runsR L 0 (Tr.total L) 1048576 = (lay 0 L, 0) := by
  have hp := total_pos h.2.1 h.1
  have hr : rangesR L 0 (Tr.total L) = 0 := by unfold rangesR; rw [if_neg h.1, if_neg (by omega)]
  unfold runsR
  rw [if_pos hr, clipL_all h.2.1 (Int.le_refl _) (by omega)]
  have := h.2.2.2.2
  rw [List.take_of_length_le (by rw [lay_length]; omega)]
end
section
open Go.RowKit

def rbad (hi tag : Int) (x : Rn) : Prop := x.lo ≠ hi ∨ x.hi ≤ x.lo ∨ (x.tag < 0 ∨ 16 ≤ x.tag) ∨ x.tag = tag
instance (hi tag : Int) (x : Rn) : Decidable (rbad hi tag x) := by unfold rbad; infer_instance
def rscan : Int → Int → List Rn → Option Int
  | hi, _, [] => some hi
  | hi, tag, x :: l => if rbad hi tag x then none else rscan x.hi x.tag l
theorem rscan_le {hi tag : Int} {L : List Rn} {h : Int} (hs : rscan hi tag L = some h) : hi ≤ h := by
  induction L generalizing hi tag with
  | nil => simp only [rscan, Option.some.injEq] at hs; omega
  | cons x L ih =>
    simp only [rscan] at hs
    split at hs
    · cases hs
    · rename_i hb
      have := ih hs
      unfold rbad at hb; omega
theorem scan_of_rscan {size hi tag : Int} {L : List Rn} {h : Int} (hs : rscan hi tag L = some h) (hz : h ≤ size) : scan size hi tag L = some h := by
  induction L generalizing hi tag with
  | nil => exact hs
  | cons x L ih =>
    simp only [rscan] at hs
    simp only [scan]
    split at hs
    · cases hs
    · rename_i hb
      have h2 := rscan_le hs
      have h3 := ih hs
      unfold rbad at hb
      rw [if_neg (by unfold badRun; omega)]; exact h3
theorem rscan_of_scan {size hi tag : Int} {L : List Rn} {h : Int} (hs : scan size hi tag L = some h) : rscan hi tag L = some h := by
  induction L generalizing hi tag with
  | nil => exact hs
  | cons x L ih =>
    simp only [scan] at hs
    simp only [rscan]
    split at hs
    · cases hs
    · rename_i hb
      unfold badRun at hb
      rw [if_neg (by unfold rbad; omega)]; exact ih hs
theorem fromR_rscan {size : Int} {L : List Rn} (hz : 1 ≤ size ∧ size ≤ 1099511627776) : fromR size L = if rscan 0 (-1) L = some size then (if 4096 < (L.length : Int) then (5, []) else (0, segs L)) else (2, []) := by
  unfold fromR
  by_cases hL : L = []
  · subst hL
    rw [if_pos (.inr rfl), if_neg (by simp only [rscan, Option.some.injEq]; omega)]
  · rw [if_neg (by intro h; rcases h with h | h; exact h hz; exact hL h)]
    by_cases h : rscan 0 (-1) L = some size
    · rw [if_pos h, scan_of_rscan h (Int.le_refl _)]
      dsimp only
      rw [if_pos rfl]
    · rw [if_neg h]
      cases hs : scan size 0 (-1) L with
      | none => rfl
      | some h' =>
        dsimp only
        rw [if_neg]
        rintro rfl
        exact h (rscan_of_scan hs)
/-- The cells of a slice of runs. -/
theorem cells_of_runs {w : World} {a : Addr} {L : List Rn} (h : Runs w (some a) L) : ∀ j u, (cellsR L)[j]? = some u → w.cell? (a.add j) = some u := by
  rcases h with h | ⟨a', ha, _, h⟩
  · subst h; intro j u hj; simp [cellsR] at hj
  · cases ha
    have key : ∀ (L : List Rn) (k : Nat), (∀ i (hi : i < L.length), RunAt w (a.add ((k + i) * 3)) L[i]) → ∀ j u, (cellsR L)[j]? = some u → w.cell? (a.add (k * 3 + j)) = some u := by
      intro L
      induction L with
      | nil => intro k _ j u hj; simp [cellsR] at hj
      | cons x L ih =>
        intro k hk j u hj
        have e : cellsR (x :: L) = [.int .i64 x.lo, .int .i64 x.hi, .int .i64 x.tag] ++ cellsR L := by simp [cellsR]
        have ea : ∀ m, m ≠ 0 → (⟨(a.add (k * 3)).block, (a.add (k * 3)).off + m, none⟩ : Addr) = (a.add (k * 3)).add m := by
          intro m hm; unfold Addr.add; rw [if_neg hm]
        obtain ⟨k0, k1, k2⟩ := hk 0 (by simp)
        rw [Nat.add_zero] at k0 k1 k2
        rw [ea 1 (by decide), add_add'] at k1
        rw [ea 2 (by decide), add_add'] at k2
        rw [e] at hj
        match j, hj with
        | 0, hj => simp at hj; subst hj; exact k0
        | 1, hj => simp at hj; subst hj; exact k1
        | 2, hj => simp at hj; subst hj; exact k2
        | j + 3, hj =>
          have := ih (k + 1) (fun i hi => by have := hk (i + 1) (by simpa using hi); rw [show k + 1 + i = k + (i + 1) from by omega]; simpa using this) j u (by simpa using hj)
          rw [show k * 3 + (j + 3) = (k + 1) * 3 + j from by omega]; exact this
    have := key L 0 (fun i hi => by rw [Nat.zero_add]; exact h i hi)
    intro j u hj
    have h2 := this j u hj
    rwa [Nat.zero_mul, Nat.zero_add] at h2
theorem cellsR_length (L : List Rn) : (cellsR L).length = L.length * 3 := by
  induction L with
  | nil => rfl
  | cons x L ih => simp only [cellsR, List.flatMap_cons, List.length_append, List.length_cons, List.length_nil] at ih ⊢; omega
theorem cellsR_one (L : List Rn) : ∀ u ∈ cellsR L, u.oneCell' = true := by
  intro u hu
  simp only [cellsR, List.mem_flatMap, List.mem_cons, List.not_mem_nil, or_false] at hu
  obtain ⟨x, _, h | h | h⟩ := hu <;> subst h <;> rfl
/-- The empty slice that was just made. -/
theorem OwnRuns.empty (w : World) : (w.alloc (.cells #[] 34)).ownsRow w.heap.size 34 3 (.slice (some ⟨w.heap.size, 0, none⟩) 0 0) 0 (cellsR []) :=
  ⟨rfl, .inr ⟨w.heap.size, 0, #[], rfl, Nat.le_refl _, heap_alloc_new w _, Nat.le_refl _, Nat.zero_le _, rfl, rfl⟩⟩
theorem Below.grown_ {w w1 : World} {o : Obj} (h : (w.alloc o).grownBy w1 (some w.heap.size)) : Below w.heap.size w w1 where
  os := h.os
  tape := h.tape
  output := h.output
  size := by have := h.size; rw [World.size_alloc] at this; omega
  block := fun k hk => (h.block k (by rw [World.size_alloc]; omega) (by simp; omega)).trans (heap_alloc_old w o hk)
theorem OwnRuns.of_empty {w : World} {base n : Nat} {v : Value} {L : List Rn} (hn : L.length = n) (h : w.ownsRow base 34 3 v (0 + n) (cellsR [] ++ cellsR L)) : OwnRuns w base v L := by
  rw [Nat.zero_add, show cellsR [] ++ cellsR L = cellsR L from rfl, ← hn] at h
  exact h
theorem OwnRuns.set {w : World} {base : Nat} {v : Value} {L : List Rn} (h : OwnRuns w base v L) {p : Addr} (hp : p.block < base) (x : Value) : OwnRuns (w.setCell p x) base v L := by
  obtain ⟨h1, h2⟩ := h
  refine ⟨h1, ?_⟩
  rcases h2 with h2 | ⟨g, cap, cur, e, hg, hh, r⟩
  · exact .inl h2
  · refine .inr ⟨g, cap, cur, e, hg, ?_, r⟩
    rw [← hh]
    simp only [World.setCell, Array.getElem?_modify]
    rw [if_neg (by omega)]
theorem OwnRuns.toRuns {w : World} {base : Nat} {A : Option Addr} {n c : Nat} {L : List Rn} (h : OwnRuns w base (.slice A n c) L) : Runs w A L := by
  obtain ⟨A', c', e, _, hR⟩ := h.runs
  cases e; exact hR
def RFromPost (w : World) (r : Int × List (Int × Int)) (e : Ending) (w' : World) : Prop :=
  ∃ A c, e = .returned (.tuple #[.agg #[.int .i64 (Tr.total r.2), .slice A r.2.length c], .int .i64 r.1]) ∧ OwnRuns w' w.heap.size (.slice A r.2.length c) (lay 0 r.2) ∧ r.2.length ≤ c ∧ Below w.heap.size w w'
end
section
section
open Go.RowKit

theorem awake_new (w : World) : Calls Tryd.prog 54 #[.int .i64 10] w fun e w' => ∃ p, e = .returned (.tuple #[.agg #[.pointer p], .int .i64 0]) ∧ Rep w' p [(10, 0)] ∧ Below w.heap.size w w' := by
  have e : newR 10 = (0, [(10, 0)]) := by decide
  have := new_any w 10
  rwa [e] at this
theorem awake_len (w : World) (p : Option Addr) (h : Rep w p [(2, 0), (3, 1), (5, 0)]) : Calls Tryd.prog 68 #[.agg #[.pointer p]] w fun e w' => e = .returned (.int .i64 3) ∧ Below w.heap.size w w' := len_any w p _ h
end
section
open Go.RowKit

/-- A row of runs of which the tags of the first n can be read and written. -/
def RowI (w : World) (g n : Nat) : Prop := ∃ cur, w.heap[g]? = some (.cells cur 34 (0, 0)) ∧ ∀ j, j < n → ∃ x, cur[j * 3 + 2]? = some (.int .i64 x)
theorem RowI.lt {w : World} {g n : Nat} (h : RowI w g n) : g < w.heap.size := by
  obtain ⟨cur, h, _⟩ := h; exact (Array.getElem?_eq_some_iff.1 h).1
theorem RowI.cell {w : World} {g n : Nat} (h : RowI w g n) {j : Nat} (hj : j < n) : ∃ x, w.cell? ⟨g, j * 3 + 2, none⟩ = some (.int .i64 x) := by
  obtain ⟨cur, h, h2⟩ := h
  obtain ⟨x, hx⟩ := h2 j hj
  exact ⟨x, (cell_of_row w g (j * 3 + 2) cur _ _ h).trans hx⟩
theorem RowI.frozen {w : World} {g n : Nat} (h : RowI w g n) (i : Nat) : w.frozen? ⟨g, i, none⟩ = false := by
  obtain ⟨cur, h, h2⟩ := h; simp [World.frozen?, h]
theorem RowI.next {w w' : World} {g n : Nat} (h : RowI w g n) (hB : Below w.heap.size w w') : RowI w' g n := by
  obtain ⟨cur, h1, h2⟩ := h
  exact ⟨cur, (hB.block g (Array.getElem?_eq_some_iff.1 h1).1).trans h1, h2⟩
theorem RowI.set {w : World} {g n : Nat} (h : RowI w g n) (i : Nat) (x : Int) : RowI (w.setCell ⟨g, i, none⟩ (.int .i64 x)) g n := by
  obtain ⟨cur, h1, h2⟩ := h
  refine ⟨cur.setIfInBounds i (.int .i64 x), by simp [World.setCell, Array.getElem?_modify, h1], fun j hj => ?_⟩
  obtain ⟨y, hy⟩ := h2 j hj
  rw [Array.getElem?_setIfInBounds]
  by_cases hi : i = j * 3 + 2
  · rw [if_pos hi, if_pos (by rw [hi]; exact (Array.getElem?_eq_some_iff.1 hy).1)]; exact ⟨x, rfl⟩
  · rw [if_neg hi]; exact ⟨y, hy⟩
theorem OwnRuns.rowI {w : World} {base : Nat} {v : Value} {L : List Rn} (h : OwnRuns w base v L) : (v = .slice none 0 0 ∧ L = []) ∨ ∃ g c, v = .slice (some ⟨g, 0, none⟩) L.length c ∧ base ≤ g ∧ L.length ≤ c ∧ RowI w g L.length := by
  obtain ⟨h1, h2⟩ := h
  rcases h2 with ⟨h2, h3⟩ | ⟨g, cap, cur, e, hg, hh, hc, _, hs, ht⟩
  · exact .inl ⟨h2, List.eq_nil_of_length_eq_zero h3⟩
  · refine .inr ⟨g, cap, e, hg, hc, cur, hh, fun j hj => ?_⟩
    have key : ∀ (L : List Rn) (j : Nat), j < L.length → ∃ x, (cellsR L)[j * 3 + 2]? = some (.int .i64 x) := by
      intro L
      induction L with
      | nil => intro j hj; simp at hj
      | cons x L ih =>
        intro j hj
        have e : cellsR (x :: L) = [.int .i64 x.lo, .int .i64 x.hi, .int .i64 x.tag] ++ cellsR L := by simp [cellsR]
        rw [e]
        cases j with
        | zero => exact ⟨_, rfl⟩
        | succ j =>
          obtain ⟨y, hy⟩ := ih j (by simpa using hj)
          exact ⟨y, by rw [show (j + 1) * 3 + 2 = (j * 3 + 2) + 3 from by omega]; simpa using hy⟩
    obtain ⟨x, hx⟩ := key L j hj
    rw [← ht, List.getElem?_take, if_pos (by omega)] at hx
    exact ⟨x, by rw [← Array.getElem?_toList]; exact hx⟩
theorem RowI.other {w : World} {g n : Nat} (h : RowI w g n) : Other w g := by
  obtain ⟨cur, h, _⟩ := h; exact ⟨_, _, _, h, by decide⟩
theorem BoxM.far {W : World} {b : Nat} {x : Int} {v : Value} (h : BoxM W b x v) {b' : Nat} (hne : b ≠ b') (off : Nat) (sp : Option Nat) (u : Value) : BoxM (W.setCell ⟨b', off, sp⟩ u) b x v := by
  unfold BoxM at h ⊢
  rw [← h]
  simp only [World.setCell, Array.getElem?_modify]
  rw [if_neg (by omega)]
theorem OwnRuns.next {w w' : World} {base : Nat} {v : Value} {L : List Rn} (h : OwnRuns w base v L) (hB : Below w.heap.size w w') : OwnRuns w' base v L := by
  obtain ⟨h1, h2⟩ := h
  refine ⟨h1, ?_⟩
  rcases h2 with h2 | ⟨g, cap, cur, e, hg, hh, r⟩
  · exact .inl h2
  · exact .inr ⟨g, cap, cur, e, hg, (hB.block g (Array.getElem?_eq_some_iff.1 hh).1).trans hh, r⟩
def FromsPost (w : World) (e : Ending) (w' : World) : Prop := e = .returned (.bool true) ∧ Below w.heap.size w w'
end
end
section
section
open Go

theorem count_set_false (i : Nat) : ∀ (l : List Bool), l[i]? = some false → (l.set i true).count false + 1 = l.count false := by
  induction i with
  | zero => intro l h; cases l with
    | nil => simp at h
    | cons b l => simp at h; subst h; simp
  | succ i ih => intro l h; cases l with
    | nil => simp at h
    | cons b l =>
      simp at h
      have := ih l h
      simp only [List.set_cons_succ, List.count_cons]
      omega
section
variable {P : Program} {ops : Array Oper} {Q : Exit → Act → World → Prop}
/-- What has come up. -/
def dn (l : Array Bool) (k : Nat) : Prop := l.getD k false = true
theorem dn_set {l : Array Bool} {i k : Nat} (h : dn (l.setIfInBounds i true) k) (hk : k ≠ i) : dn l k := by
  unfold dn at h ⊢
  rwa [getD_set_ne false (fun e => hk e.symm)] at h
/-- Every operation waits only for earlier ones. -/
def onward (ops : Array Oper) : Bool := (List.range ops.size).all fun i => ((ops[i]?).map fun o => o.after.toList.all fun e => !Region.binds .any e || decide (e.on < i)).getD true
theorem onward_spec (h : onward ops = true) {i : Nat} {o : Oper} (ho : ops[i]? = some o) : ∀ e ∈ o.after, Region.binds .any e = true → e.on < i := by
  unfold onward at h
  rw [List.all_eq_true] at h
  have hlt : i < ops.size := (Array.getElem?_eq_some_iff.1 ho).1
  have := h i (List.mem_range.2 hlt)
  rw [ho] at this
  simp only [Option.map_some, Option.getD_some, List.all_eq_true] at this
  intro e he hb
  have := this e (Array.mem_toList_iff.2 he)
  rw [hb] at this
  simpa using this
theorem all_done (h : onward ops = true) {l : Array Bool} (hs : l.size = ops.size) (hr : Region.ready .any ops l = []) : ∀ i, i < ops.size → dn l i := by
  intro i
  induction i using Nat.strongRecOn with
  | _ i ih =>
    intro hi
    by_cases c : dn l i
    · exact c
    exfalso
    have ho : ops[i]? = some ops[i] := Array.getElem?_eq_getElem hi
    have : i ∈ Region.ready .any ops l := by
      refine mem_ready.2 ⟨?_, ops[i], ho, fun e he hb => ?_⟩
      · unfold dn at c
        have hi' : i < l.size := by omega
        simp only [Array.getD, hi', dite_true] at c ⊢
        simpa using c
      · have := onward_spec h ho e he hb
        exact ih e.on this (by omega)
    rw [hr] at this
    cases this
theorem dn_mono {l : Array Bool} {i k : Nat} (h : dn l k) : dn (l.setIfInBounds i true) k := by
  unfold dn at h ⊢
  by_cases e : i = k
  · subst e
    have hk : i < l.size := by
      rcases Nat.lt_or_ge i l.size with g | g
      · exact g
      · simp [Array.getD, Nat.not_lt.2 g] at h
    simp [Array.getD, hk]
  · rwa [getD_set_ne false e]
/-- The operation waits for the one with this number. -/
def waits (o : Oper) (k : Nat) : Bool := o.after.toList.any fun e => e.on == k && Region.binds .any e
/-- What has come up stands behind all that it waits for. -/
def Closed (ops : Array Oper) (d : Nat → Prop) : Prop := ∀ i o j, ops[i]? = some o → waits o j = true → d i → d j
theorem waits_of {o : Oper} {d : Nat → Prop} (h : ∀ e ∈ o.after, Region.binds .any e = true → d e.on) {j : Nat} (hj : waits o j = true) : d j := by
  unfold waits at hj
  rw [List.any_eq_true] at hj
  obtain ⟨e, he, h2⟩ := hj
  rw [Bool.and_eq_true] at h2
  have := h e (Array.mem_toList_iff.1 he) h2.2
  rwa [eq_of_beq h2.1] at this
theorem wpAny_inv {I : (Nat → Prop) → Act → World → Prop} (hd : onward ops = true)
    (step : ∀ (d d' : Nat → Prop) (a : Act) (w : World) (i : Nat) (o : Oper), ops[i]? = some o → I d a w → ¬ d i → Closed ops d → (∀ j, waits o j = true → d j) → (∀ k, k ≠ i → d' k → d k) → (∀ k, d k → d' k) → d' i →
      wpOp P ops Q i (fun a' w' => I d' a' w') a w)
    (fin : ∀ (d : Nat → Prop) (a : Act) (w : World), I d a w → (∀ i, i < ops.size → d i) → Q .normal a w) :
    ∀ (fuel : Nat) (l : Array Bool) (a : Act) (w : World), l.size = ops.size → l.toList.count false ≤ fuel → Closed ops (dn l) → I (dn l) a w → wpAny P .any ops Q fuel l a w := by
  intro fuel
  induction fuel with
  | zero =>
    intro l a w hs hc hcl hI
    have hr : Region.ready .any ops l = [] := by
      cases h : Region.ready .any ops l with
      | nil => rfl
      | cons i r =>
        exfalso
        have hm : i ∈ Region.ready .any ops l := by rw [h]; simp
        obtain ⟨h0, o, ho, -⟩ := mem_ready.1 hm
        have hi : i < l.size := by rw [hs]; exact (Array.getElem?_eq_some_iff.1 ho).1
        simp only [Array.getD, hi, dite_true] at h0
        have : false ∈ l.toList := by rw [← h0]; exact Array.getElem_mem_toList hi
        have := List.count_pos_iff.2 this
        omega
    exact ⟨hr, fin _ a w hI (all_done hd hs hr)⟩
  | succ fuel ih =>
    intro l a w hs hc hcl hI
    refine ⟨fun hr => fin _ a w hI (all_done hd hs hr), fun i hi => ?_⟩
    obtain ⟨h0, o, ho, hall⟩ := mem_ready.1 hi
    have hlt : i < l.size := by rw [hs]; exact (Array.getElem?_eq_some_iff.1 ho).1
    have h1 : l.toList[i]? = some false := by
      simp only [Array.getD, hlt, dite_true] at h0
      rw [Array.getElem?_toList, Array.getElem?_eq_getElem hlt]
      exact congrArg some h0
    have hn : ¬ dn l i := by
      unfold dn
      simp only [Array.getD, hlt, dite_true] at h0 ⊢
      rw [h0]; simp
    have hw : ∀ j, waits o j = true → dn l j := fun j hj => waits_of (fun e he hb => hall e he hb) hj
    have hcl' : Closed ops (dn (l.setIfInBounds i true)) := fun i' o' j ho' hj hd' => by
      by_cases e : i' = i
      · subst e
        rw [ho] at ho'
        obtain rfl := Option.some.inj ho'
        exact dn_mono (hw j hj)
      · exact dn_mono (hcl i' o' j ho' hj (dn_set hd' e))
    refine wpOp_mono (fun a' w' h => ih _ a' w' (by simpa using hs) ?_ hcl' h) (step _ _ a w i o ho hI hn hcl hw (fun k hk h => dn_set h hk) (fun k h => dn_mono h) (by unfold dn; simp [Array.getD, hlt]))
    have := count_set_false i l.toList h1
    rw [Array.toList_setIfInBounds]
    omega
/-- A region that draws its order, by an invariant. -/
theorem wp_region_inv {id : Nat} {a : Act} {w : World} {I : (Nat → Prop) → Act → World → Prop} (hm : P.follows .mixedOrders = true) (hd : onward ops = true)
    (h0 : I (fun _ => False) a w.drew)
    (step : ∀ (d d' : Nat → Prop) (a : Act) (w : World) (i : Nat) (o : Oper), ops[i]? = some o → I d a w → ¬ d i → Closed ops d → (∀ j, waits o j = true → d j) → (∀ k, k ≠ i → d' k → d k) → (∀ k, d k → d' k) → d' i →
      wpOp P ops Q i (fun a' w' => I d' a' w') a w)
    (fin : ∀ (d : Nat → Prop) (a : Act) (w : World), I d a w → (∀ i, i < ops.size → d i) → Q .normal a w) :
    (Code.region id ops true).wp P Q a w := by
  have e : dn (Array.replicate ops.size false) = fun _ => False := by
    funext k
    unfold dn
    simp only [Array.getD, Array.size_replicate]
    split <;> simp
  refine wp_region_any hm (wpAny_inv hd step fin _ _ _ _ (by simp) ?_ ?_ ?_)
  · simp
  · rw [e]; exact fun _ _ _ _ _ h => h.elim
  · rw [e]; exact h0
end
end
section
open Go

theorem put_same (a : Act) (t : Tmp) (v : Value) (h : t < a.tmps.size) : (a.put (some t) v).eval (.tmp t) = v := by
  simp [Act.put, Act.eval, h]
theorem put_other (a : Act) {s t : Tmp} (v : Value) (h : s ≠ t) : (a.put (some t) v).eval (.tmp s) = a.eval (.tmp s) := by
  have h' : ¬ t = s := fun e => h e.symm
  simp only [Act.put, Act.eval, Array.getD_eq_getD_getElem?, Array.getElem?_setIfInBounds, h', if_false]
/-- The frame a is a0 outside the slots T. -/
structure Fr (T : List Tmp) (a0 a : Act) : Prop where
  defers : a.defers = a0.defers
  size : a.tmps.size = a0.tmps.size
  same : ∀ t, t ∉ T → a.eval (.tmp t) = a0.eval (.tmp t)
theorem Fr.refl (T : List Tmp) (a : Act) : Fr T a a := ⟨rfl, rfl, fun _ _ => rfl⟩
theorem Fr.put {T : List Tmp} {a0 a : Act} (h : Fr T a0 a) {t : Tmp} (ht : t ∈ T) (v : Value) : Fr T a0 (a.put (some t) v) :=
  ⟨h.defers, by simp [Act.put, h.size], fun s hs => (put_other a v (fun e => hs (by rw [e]; exact ht))).trans (h.same s hs)⟩
theorem foldl_put (f : Tmp → Value) : ∀ (T : List Tmp) (b : Act), (T.foldl (fun b t => b.put (some t) (f t)) b).defers = b.defers ∧ (T.foldl (fun b t => b.put (some t) (f t)) b).tmps.size = b.tmps.size ∧
    (∀ s, s ∉ T → (T.foldl (fun b t => b.put (some t) (f t)) b).eval (.tmp s) = b.eval (.tmp s)) ∧ ∀ s, s ∈ T → s < b.tmps.size → (T.foldl (fun b t => b.put (some t) (f t)) b).eval (.tmp s) = f s := by
  intro T
  induction T with
  | nil => intro b; exact ⟨rfl, rfl, fun _ _ => rfl, fun s hs => by cases hs⟩
  | cons t T ih =>
    intro b
    obtain ⟨h1, h2, h3, h4⟩ := ih (b.put (some t) (f t))
    have hz : (b.put (some t) (f t)).tmps.size = b.tmps.size := by simp [Act.put]
    refine ⟨h1, h2.trans hz, fun s hs => ?_, fun s hs hlt => ?_⟩
    · simp only [List.mem_cons, not_or] at hs
      exact (h3 s hs.2).trans (put_other b _ hs.1)
    · by_cases hT : s ∈ T
      · exact h4 s hT (by rw [hz]; exact hlt)
      · rcases List.mem_cons.1 hs with rfl | hs
        · exact (h3 s hT).trans (put_same b s _ hlt)
        · exact absurd hs hT
/-- A frame, written out. -/
theorem Fr.shape {T : List Tmp} {a0 a : Act} (h : Fr T a0 a) (hT : ∀ t ∈ T, t < a0.tmps.size) : a = T.foldl (fun b t => b.put (some t) (a.eval (.tmp t))) a0 := by
  obtain ⟨h1, h2, h3, h4⟩ := foldl_put (fun t => a.eval (.tmp t)) T a0
  generalize T.foldl (fun b t => b.put (some t) (a.eval (.tmp t))) a0 = b at *
  have key : ∀ s, a.eval (.tmp s) = b.eval (.tmp s) := fun s => by
    by_cases hs : s ∈ T
    · exact (h4 s hs (hT s hs)).symm
    · exact (h.same s hs).trans (h3 s hs).symm
  cases a with
  | mk ta da =>
    cases b with
    | mk tb db =>
      have e1 : da = db := h.defers.trans h1.symm
      have e2 : ta.size = tb.size := h.size.trans h2.symm
      have e3 : ta = tb := by
        refine Array.ext e2 fun i hi hj => ?_
        have := key i
        simp only [Act.eval, Array.getD, hi, hj, dite_true] at this
        exact this
      rw [e1, e3]
section
variable {P : Program} {Q : Exit → Act → World → Prop}
def StepOk (P : Program) (Q : Exit → Act → World → Prop) (ops : Array Oper) (I : (Nat → Prop) → Act → World → Prop) (k : Nat) (o : Oper) : Prop :=
  o.guard = none ∧ ∀ (d d' : Nat → Prop) (a : Act) (w : World), I d a w → ¬ d k → Closed ops d → (∀ j, waits o j = true → d j) → (∀ j, j ≠ k → d' j → d j) → (∀ j, d j → d' j) → d' k → o.wp P a w (fun a' w' => I d' a' w') Q
def AllSteps (P : Program) (Q : Exit → Act → World → Prop) (ops : Array Oper) (I : (Nat → Prop) → Act → World → Prop) : Nat → List Oper → Prop
  | _, [] => True
  | k, o :: l => StepOk P Q ops I k o ∧ AllSteps P Q ops I (k + 1) l
theorem AllSteps.get {ops : Array Oper} {I : (Nat → Prop) → Act → World → Prop} : ∀ {l : List Oper} {k : Nat}, AllSteps P Q ops I k l → ∀ {i : Nat} {o : Oper}, l[i]? = some o → StepOk P Q ops I (k + i) o := by
  intro l
  induction l with
  | nil => intro k _ i o h; simp at h
  | cons x l ih =>
    intro k h i o ho
    cases i with
    | zero => simp at ho; subst ho; exact h.1
    | succ i =>
      have := ih h.2 (i := i) (o := o) (by simpa using ho)
      rwa [show k + 1 + i = k + (i + 1) from by omega] at this
theorem wp_region_steps {id : Nat} {ops : List Oper} {a : Act} {w : World} (I : (Nat → Prop) → Act → World → Prop) (hm : P.follows .mixedOrders = true) (hd : onward ops.toArray = true)
    (h0 : I (fun _ => False) a w.drew) (hs : AllSteps P Q ops.toArray I 0 ops) (fin : ∀ (d : Nat → Prop) (a : Act) (w : World), I d a w → (∀ i, i < ops.length → d i) → Q .normal a w) :
    (Code.region id ops.toArray true).wp P Q a w := by
  refine wp_region_inv hm hd h0 (fun d d' a w i o ho hI hn hcl ha hk hu hself => ?_) (fun d a w hI h => fin d a w hI (by simpa using h))
  obtain ⟨hg, st⟩ := hs.get (i := i) (o := o) (by simpa using ho)
  rw [Nat.zero_add] at st
  unfold wpOp
  rw [ho]
  have hwt : Region.wanted o (yielded ops.toArray a.tmps) = true := by unfold Region.wanted; rw [hg]
  simp only [hwt, if_true]
  exact .inl (st d d' a w hI hn hcl ha hk hu hself)
/-- The frame is given a name. -/
theorem wp_name {c : Code} {a : Act} {w : World} (h : ∀ b, b = a → c.wp P Q b w) : c.wp P Q a w := h a rfl
variable {o : Oper} {a : Act} {w w' : World} {K : Act → World → Prop}
theorem wp_yields {v : Value} (h : (execOp a.eval o).run P w = .ok (.value v) w') (hk : K (a.put o.dst v) w') : o.wp P a w K Q := by
  unfold Oper.wp; rw [h]; exact hk
theorem wp_skips (h : (execOp a.eval o).run P w = .ok .skip w') (hk : K (a.put o.dst undef) w') : o.wp P a w K Q := by
  unfold Oper.wp; rw [h]; exact hk
theorem wp_enters {f : FuncId} {args : Array Value} {R : Ending → World → Prop} (h : (execOp a.eval o).run P w = .ok (.enter f args) w) (hc : Calls P f args w R)
    (hk : ∀ e w', R e w' → ∃ v, e = .returned v ∧ K (a.put o.dst v) w') : o.wp P a w K Q := by
  unfold Oper.wp; rw [h]
  refine Calls.mono hc fun e w' he => ?_
  obtain ⟨v, rfl, hv⟩ := hk e w' he
  exact hv
end
end
section
open Go Go.RowKit

/-- Once the operation op has come up (or from the start), and until the operation used has, the slot holds a value with p. -/
structure Cl where
  op : Option Nat
  slot : Tmp
  used : Option Nat
  p : Value → World → Prop
/-- It has come up; nothing has to come up. -/
def came (d : Nat → Prop) : Option Nat → Prop
  | none => True
  | some k => d k
/-- It has come up; nothing can. -/
def gone (d : Nat → Prop) : Option Nat → Prop
  | none => False
  | some k => d k
theorem gone_mono {d d' : Nat → Prop} (hu : ∀ j, d j → d' j) {u : Option Nat} (h : gone d u) : gone d' u := by
  cases u with
  | none => exact h
  | some k => exact hu k h
/-- What the clauses say. -/
def Held (d : Nat → Prop) (a : Act) (W : World) (l : List Cl) : Prop := ∀ c ∈ l, came d c.op → ¬ gone d c.used → c.p (a.eval (.tmp c.slot)) W
/-- The frame, the rest, and the clauses. -/
def Inv (T : List Tmp) (a0 : Act) (G : (Nat → Prop) → World → Prop) (l : List Cl) (d : Nat → Prop) (a : Act) (W : World) : Prop := Fr T a0 a ∧ G d W ∧ Held d a W l
/-- All of a list. -/
@[reducible] def AllC (f : Cl → Prop) : List Cl → Prop
  | [] => True
  | c :: l => f c ∧ AllC f l
theorem AllC.mem {f : Cl → Prop} : ∀ {l : List Cl}, AllC f l → ∀ c ∈ l, f c := by
  intro l
  induction l with
  | nil => intro _ c hc; cases hc
  | cons x l ih =>
    intro h c hc
    rcases List.mem_cons.1 hc with rfl | hc
    · exact h.1
    · exact ih h.2 c hc
/-- Calls and allocations keep what the clause says. -/
def Lasts (c : Cl) : Prop := ∀ u W W', c.p u W → Below W.heap.size W W' → c.p u W'
/-- No other clause that may hold speaks of the slot that the operation writes. -/
def slotsOk (ops : Array Oper) (l : List Cl) (k : Nat) (t : Tmp) : Bool := l.all fun c => c.op == some k || c.slot != t || c.used == some k || (match c.op with
  | none => false
  | some j => ((ops[j]?).map fun o => waits o k).getD false)
section
variable {P : Program} {Q : Exit → Act → World → Prop} {T : List Tmp} {a0 : Act} {G : (Nat → Prop) → World → Prop} {l : List Cl} {d d' : Nat → Prop} {a : Act} {W W' : World}
theorem Held.at_ (h : Held d a W l) {i : Nat} {c : Cl} (hc : l[i]? = some c) (h1 : came d c.op) (h2 : ¬ gone d c.used) : c.p (a.eval (.tmp c.slot)) W := h c (List.mem_of_getElem? hc) h1 h2
theorem slotsOk_spec {ops : Array Oper} {k : Nat} {t : Tmp} (h : slotsOk ops l k t = true) (hcl : Closed ops d) (hn : ¬ d k) : ∀ c ∈ l, c.op ≠ some k → c.used ≠ some k → came d c.op → c.slot ≠ t := by
  unfold slotsOk at h
  rw [List.all_eq_true] at h
  intro c hc hk hu hd e
  have := h c hc
  simp only [Bool.or_eq_true, beq_iff_eq, bne_iff_ne] at this
  rcases this with ((this | this) | this) | this
  · exact hk this
  · exact this e
  · exact hu this
  · cases hop : c.op with
    | none => rw [hop] at this; cases this
    | some j =>
      rw [hop] at this hd
      dsimp only at this
      cases ho : ops[j]? with
      | none => rw [ho] at this; simp at this
      | some o =>
        rw [ho] at this
        exact hn (hcl j o k ho (by simpa using this) hd)
/-- The operation k writes v into the slot t. -/
theorem Held.put {ops : Array Oper} {k : Nat} {t : Tmp} {v : Value} {c : Cl} (h : Held d a W l) (hc : l.filter (fun c => c.op == some k) = [c]) (hct : c.slot = t) (hso : slotsOk ops l k t = true) (hcl : Closed ops d) (hn : ¬ d k)
    (hk : ∀ j, j ≠ k → d' j → d j) (hu : ∀ j, d j → d' j) (hself : d' k) (ht : t < a.tmps.size) (hold : ∀ x ∈ l, x.op ≠ some k → came d x.op → ¬ gone d' x.used → ∀ u, x.p u W → x.p u W') (hnew : c.p v W') : Held d' (a.put (some t) v) W' l := by
  intro x hx h1 h2
  by_cases e : x.op = some k
  · have hx' : x ∈ l.filter (fun c => c.op == some k) := List.mem_filter.2 ⟨hx, by simpa using e⟩
    rw [hc] at hx'
    obtain rfl := List.mem_singleton.1 hx'
    rw [hct, put_same _ _ _ ht]
    exact hnew
  · have h3 : came d x.op := by
      cases ho : x.op with
      | none => trivial
      | some j => rw [ho] at h1 e; exact hk j (fun q => e (by rw [q])) h1
    rw [put_other _ _ (slotsOk_spec hso hcl hn x hx e (fun q => h2 (by rw [q]; exact hself)) h3)]
    exact hold x hx e h3 h2 _ (h x hx h3 (fun q => h2 (gone_mono hu q)))
/-- The operation k changes the world alone; its clause speaks of an older slot. -/
theorem Held.store {k : Nat} {c : Cl} (h : Held d a W l) (hc : l.filter (fun c => c.op == some k) = [c])
    (hk : ∀ j, j ≠ k → d' j → d j) (hu : ∀ j, d j → d' j) (hold : ∀ x ∈ l, x.op ≠ some k → came d x.op → ¬ gone d' x.used → ∀ u, x.p u W → x.p u W') (hnew : c.p (a.eval (.tmp c.slot)) W') : Held d' a W' l := by
  intro x hx h1 h2
  by_cases e : x.op = some k
  · have hx' : x ∈ l.filter (fun c => c.op == some k) := List.mem_filter.2 ⟨hx, by simpa using e⟩
    rw [hc] at hx'
    obtain rfl := List.mem_singleton.1 hx'
    exact hnew
  · have h3 : came d x.op := by
      cases ho : x.op with
      | none => trivial
      | some j => rw [ho] at h1 e; exact hk j (fun q => e (by rw [q])) h1
    exact hold x hx e h3 h2 _ (h x hx h3 (fun q => h2 (gone_mono hu q)))
theorem Inv.start (h : G (fun _ => False) W) (hs : AllC (fun c => c.op = none → c.p (a0.eval (.tmp c.slot)) W) l) : Inv T a0 G l (fun _ => False) a0 W :=
  ⟨Fr.refl _ _, h, fun c hc h1 _ => hs.mem c hc (by cases ho : c.op with | none => rfl | some k => rw [ho] at h1; exact h1.elim)⟩
/-- An operation that yields a value and at most makes memory. -/
theorem stepB {ops : Array Oper} {k : Nat} {o : Oper} {t : Tmp} {c : Cl} (hg : o.guard = none) (hd : o.dst = some t) (hT : t ∈ T) (hz : t < a0.tmps.size) (hc : l.filter (fun c => c.op == some k) = [c]) (hct : c.slot = t)
    (hso : slotsOk ops l k t = true) (St : ∀ c ∈ l, Lasts c) (SG : ∀ d d' W W', G d W → (∀ j, d j → d' j) → Below W.heap.size W W' → G d' W')
    (run : ∀ d a W, Fr T a0 a → G d W → Held d a W l → ¬ d k → Closed ops d → (∀ j, waits o j = true → d j) → ∃ v W', (execOp a.eval o).run P W = .ok (.value v) W' ∧ Below W.heap.size W W' ∧ c.p v W') :
    StepOk P Q ops (Inv T a0 G l) k o := by
  refine ⟨hg, fun d d' a W ⟨hF, hG, hH⟩ hn hcl hw hk hu hself => ?_⟩
  obtain ⟨v, W', hr, hb, hv⟩ := run d a W hF hG hH hn hcl hw
  refine wp_yields hr ?_
  rw [hd]
  exact ⟨hF.put hT v, SG _ _ _ _ hG hu hb, hH.put hc hct hso hcl hn hk hu hself (by rw [hF.size]; exact hz) (fun x hx _ _ _ u q => St x hx u W W' q hb) hv⟩
/-- An operation that calls a function. -/
theorem stepC {ops : Array Oper} {k : Nat} {o : Oper} {t : Tmp} {c : Cl} (hg : o.guard = none) (hd : o.dst = some t) (hT : t ∈ T) (hz : t < a0.tmps.size) (hc : l.filter (fun c => c.op == some k) = [c]) (hct : c.slot = t)
    (hso : slotsOk ops l k t = true) (St : ∀ c ∈ l, Lasts c) (SG : ∀ d d' W W', G d W → (∀ j, d j → d' j) → Below W.heap.size W W' → G d' W')
    (run : ∀ d a W, Fr T a0 a → G d W → Held d a W l → ¬ d k → Closed ops d → (∀ j, waits o j = true → d j) → ∃ f args, (execOp a.eval o).run P W = .ok (.enter f args) W ∧ Calls P f args W fun e W' => ∃ v, e = .returned v ∧ Below W.heap.size W W' ∧ c.p v W') :
    StepOk P Q ops (Inv T a0 G l) k o := by
  refine ⟨hg, fun d d' a W ⟨hF, hG, hH⟩ hn hcl hw hk hu hself => ?_⟩
  obtain ⟨f, args, hr, hcall⟩ := run d a W hF hG hH hn hcl hw
  refine wp_enters hr hcall fun e W' ⟨v, he, hb, hv⟩ => ⟨v, he, ?_⟩
  rw [hd]
  exact ⟨hF.put hT v, SG _ _ _ _ hG hu hb, hH.put hc hct hso hcl hn hk hu hself (by rw [hF.size]; exact hz) (fun x hx _ _ _ u q => St x hx u W W' q hb) hv⟩
end
end
end
end Go.Proofs.YtcocengpekndjaaDoor
