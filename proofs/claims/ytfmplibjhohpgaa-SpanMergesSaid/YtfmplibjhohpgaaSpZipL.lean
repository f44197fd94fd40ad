/- Pairs of runs of two maps on plain lists: what zip passes, and Diff and Equal. No program in sight. Plain laws of changes: those from one map to another one, applied to the first, yield the second; lengths of lists of runs after updates. No program in sight. Plain lists of runs: what Merge computes. No program in sight. -/
import Derived.Test.YtfmplibjhohpgaaSpLaws
namespace Go.Proofs.Ytfmplibjhohpgaa
section
open Tr (total totalOf OkL)

/-- A range of pieces with a tag in each of two maps. -/
structure Pr where
  lo : Int
  hi : Int
  a : Int
  b : Int
/-- The pairs from a piece on, of the rests of two lists. -/
def zipN : Nat → Int → List Rn → List Rn → List Pr
  | 0, _, _, _ => []
  | _ + 1, _, [], _ => []
  | _ + 1, _, _ :: _, [] => []
  | n + 1, k, x :: l, y :: r => ⟨k, min x.hi y.hi, x.tag, y.tag⟩ :: zipN n (min x.hi y.hi) (if x.hi = min x.hi y.hi then l else x :: l) (if y.hi = min x.hi y.hi then r else y :: r)
def zipL (A B : List (Int × Int)) : List Pr := zipN (A.length + B.length) 0 (lay 0 A) (lay 0 B)
/-- The end of the run that holds a piece. -/
def endL : List (Int × Int) → Int → Int
  | [], _ => 0
  | x :: l, p => if p < x.1 then x.1 else x.1 + endL l (p - x.1)
theorem endL_append {A : List (Int × Int)} (h : OkL A) (B : List (Int × Int)) : ∀ p, 0 ≤ p → endL (A ++ B) p = if p < total A then endL A p else total A + endL B (p - total A) := by
  induction A with
  | nil => intro p h0; rw [Tr.total_nil, if_neg (by omega)]; simp
  | cons x A ih =>
    intro p h0
    have h' := OkL.cons.1 h
    have t := total_nonneg h'.2
    simp only [List.cons_append, endL, Tr.total_cons]
    by_cases c : p < x.1
    · rw [if_pos c, if_pos (by omega), if_pos c]
    · rw [if_neg c, ih h'.2 _ (by omega)]
      by_cases d : p - x.1 < total A
      · rw [if_pos d, if_pos (by omega), if_neg c]
      · rw [if_neg d, if_neg (by omega), show p - x.1 - total A = p - (x.1 + total A) from by omega]; omega
theorem endL_gt {L : List (Int × Int)} (h : OkL L) : ∀ p, 0 ≤ p → p < total L → p < endL L p ∧ endL L p ≤ total L := by
  induction L with
  | nil => intro p h0 h1; rw [Tr.total_nil] at h1; omega
  | cons x L ih =>
    intro p h0 h1
    have h' := OkL.cons.1 h
    have t := total_nonneg h'.2
    rw [Tr.total_cons] at h1 ⊢
    simp only [endL]
    by_cases c : p < x.1
    · rw [if_pos c]; omega
    · rw [if_neg c]; have := ih h'.2 (p - x.1) (by omega) (by omega); omega
theorem endL_const {L : List (Int × Int)} (h : OkL L) : ∀ p q, 0 ≤ p → p < total L → p ≤ q → q < endL L p → atL L q = atL L p ∧ endL L q = endL L p := by
  induction L with
  | nil => intro p q h0 h1; rw [Tr.total_nil] at h1; omega
  | cons x L ih =>
    intro p q h0 h1 h2 h3
    have h' := OkL.cons.1 h
    rw [Tr.total_cons] at h1
    simp only [endL, atL] at h3 ⊢
    by_cases c : p < x.1
    · rw [if_pos c] at h3
      rw [if_pos c, if_pos c, if_pos h3, if_pos h3]; exact ⟨rfl, rfl⟩
    · rw [if_neg c] at h3
      rw [if_neg c, if_neg c, if_neg (by omega), if_neg (by omega)]
      obtain ⟨a, b⟩ := ih h'.2 (p - x.1) (q - x.1) (by omega) (by omega) (by omega) (by omega)
      exact ⟨a, by rw [b]⟩
/-- Pairs from a piece to the end: each as long as both tags last. -/
def ZOk (A B : List (Int × Int)) (S : Int) : Int → List Pr → Prop
  | k, [] => k = S
  | k, z :: Z => z.lo = k ∧ k < S ∧ z.hi = min (endL A k) (endL B k) ∧ z.a = atL A k ∧ z.b = atL B k ∧ ZOk A B S z.hi Z
/-- A list of runs, parted ahead of the run that holds a piece. -/
def AtP (A A0 A1 : List (Int × Int)) (k S : Int) : Prop := A = A0 ++ A1 ∧ total A0 ≤ k ∧ (A1 = [] → k = S) ∧ ∀ x l, A1 = x :: l → k < total A0 + x.1
theorem AtP.step {A A0 l : List (Int × Int)} {x : Int × Int} {k S hi : Int} (o : OkL A) (tA : total A = S) (h : AtP A A0 (x :: l) k S) (h1 : k < hi) (h2 : hi ≤ total A0 + x.1) :
    ∃ A0' A1', AtP A A0' A1' hi S ∧ (if total A0 + x.1 = hi then lay (total A0 + x.1) l else lay (total A0) (x :: l)) = lay (total A0') A1' ∧ A1'.length + (if total A0 + x.1 = hi then 1 else 0) = l.length + 1 := by
  obtain ⟨e, p1, _, _⟩ := h
  by_cases c : total A0 + x.1 = hi
  · refine ⟨A0 ++ [x], l, ⟨by rw [e]; simp, ?_, ?_, ?_⟩, ?_, ?_⟩
    · rw [Tr.total_append, Tr.total_cons, Tr.total_nil]; omega
    · rintro rfl; rw [← tA, e, Tr.total_append, Tr.total_cons, Tr.total_nil]; omega
    · rintro y l' rfl
      have := (o y (by rw [e]; simp)).1
      rw [Tr.total_append, Tr.total_cons, Tr.total_nil]; omega
    · rw [if_pos c, Tr.total_append, Tr.total_cons, Tr.total_nil, show total A0 + (x.1 + 0) = total A0 + x.1 from by omega]
    · rw [if_pos c]
  · refine ⟨A0, x :: l, ⟨e, by omega, fun h => by simp at h, ?_⟩, by rw [if_neg c], by rw [if_neg c]; simp⟩
    intro y l' h
    simp only [List.cons.injEq] at h
    obtain ⟨rfl, rfl⟩ := h
    omega
theorem AtP.facts {A A0 l : List (Int × Int)} {x : Int × Int} {k S : Int} (o : OkL A) (tA : total A = S) (h0 : 0 ≤ k) (h : AtP A A0 (x :: l) k S) : endL A k = total A0 + x.1 ∧ atL A k = x.2 ∧ k < S ∧ total A0 + x.1 ≤ S := by
  obtain ⟨e, p1, _, p3⟩ := h
  have p4 := p3 x l rfl
  have o' := o
  rw [e] at o'
  obtain ⟨o1, o2⟩ := OkL.append.1 o'
  have t := total_nonneg (OkL.cons.1 o2).2
  have tt : total A = total A0 + x.1 + total l := by rw [e, Tr.total_append, Tr.total_cons]; omega
  have e1 := endL_append o1 (x :: l) k h0
  rw [← e, if_neg (by omega)] at e1
  have e2 := atL_append o1 (b := x :: l) k h0
  rw [← e, if_neg (by omega)] at e2
  refine ⟨?_, ?_, by omega, by omega⟩
  · rw [e1]; simp only [endL]; rw [if_pos (by omega)]
  · rw [e2]; simp only [atL]; rw [if_pos (by omega)]
theorem zipN_ok {A B : List (Int × Int)} (oA : OkL A) (oB : OkL B) {S : Int} (tA : total A = S) (tB : total B = S) : ∀ (n : Nat) (A0 A1 B0 B1 : List (Int × Int)) (k : Int), 0 ≤ k → AtP A A0 A1 k S → AtP B B0 B1 k S → A1.length + B1.length ≤ n →
    ZOk A B S k (zipN n k (lay (total A0) A1) (lay (total B0) B1)) := by
  intro n
  induction n with
  | zero =>
    intro A0 A1 B0 B1 k h0 hA hB hn
    have : A1 = [] := List.eq_nil_of_length_eq_zero (by omega)
    exact hA.2.2.1 this
  | succ n ih =>
    intro A0 A1 B0 B1 k h0 hA hB hn
    cases A1 with
    | nil => exact hA.2.2.1 rfl
    | cons x l =>
      cases B1 with
      | nil => exact hB.2.2.1 rfl
      | cons y r =>
        obtain ⟨a1, a2, a3, a4⟩ := hA.facts oA tA h0
        obtain ⟨b1, b2, b3, b4⟩ := hB.facts oB tB h0
        have a5 := hA.2.2.2 x l rfl
        have b5 := hB.2.2.2 y r rfl
        obtain ⟨A0', A1', hA', eA, lA⟩ := hA.step oA tA (hi := min (total A0 + x.1) (total B0 + y.1)) (by omega) (by omega)
        obtain ⟨B0', B1', hB', eB, lB⟩ := hB.step oB tB (hi := min (total A0 + x.1) (total B0 + y.1)) (by omega) (by omega)
        have i := ih A0' A1' B0' B1' (min (total A0 + x.1) (total B0 + y.1)) (by omega) hA' hB' (by
          simp only [List.length_cons] at hn
          by_cases c : total A0 + x.1 = min (total A0 + x.1) (total B0 + y.1)
          · rw [if_pos c] at lA; split at lB <;> omega
          · have c2 : total B0 + y.1 = min (total A0 + x.1) (total B0 + y.1) := by omega
            rw [if_pos c2] at lB; split at lA <;> omega)
        rw [← eA, ← eB] at i
        exact ⟨rfl, a3, by rw [a1, b1], a2.symm, b2.symm, i⟩
theorem zipL_ok {A B : List (Int × Int)} (oA : OkL A) (oB : OkL B) {S : Int} (tA : total A = S) (tB : total B = S) : ZOk A B S 0 (zipL A B) := by
  have h : ∀ {L : List (Int × Int)}, OkL L → total L = S → AtP L [] L 0 S := fun {L} o t => ⟨rfl, by rw [Tr.total_nil]; omega, fun h => by rw [h, Tr.total_nil] at t; exact t, fun x l h => by
    have := (o x (by rw [h]; simp)).1
    rw [Tr.total_nil]; omega⟩
  exact zipN_ok oA oB tA tB (A.length + B.length) [] A [] B 0 (by omega) (h oA tA) (h oB tB) (Nat.le_refl _)
theorem zipN_length : ∀ (n : Nat) (k : Int) (l r : List Rn), (zipN n k l r).length ≤ n
  | 0, _, _, _ => Nat.zero_le _
  | _ + 1, _, [], _ => Nat.zero_le _
  | _ + 1, _, _ :: _, [] => Nat.zero_le _
  | n + 1, k, x :: l, y :: r => by simp only [zipN, List.length_cons]; have := zipN_length n (min x.hi y.hi) (if x.hi = min x.hi y.hi then l else x :: l) (if y.hi = min x.hi y.hi then r else y :: r); omega
theorem ZOk.at_ {A B : List (Int × Int)} (oA : OkL A) (oB : OkL B) {S : Int} (tA : total A = S) (tB : total B = S) : ∀ {Z : List Pr} {k : Int}, 0 ≤ k → ZOk A B S k Z → ∀ p, k ≤ p → p < S → ∃ z ∈ Z, z.lo ≤ p ∧ p < z.hi ∧ atL A p = z.a ∧ atL B p = z.b := by
  intro Z
  induction Z with
  | nil => intro k h0 h p h1 h2; have h : k = S := h; omega
  | cons z Z ih =>
    intro k h0 h p h1 h2
    obtain ⟨z1, z2, z3, z4, z5, z6⟩ := h
    have g1 := endL_gt oA k h0 (by omega)
    have g2 := endL_gt oB k h0 (by omega)
    by_cases c : p < z.hi
    · refine ⟨z, by simp, by omega, c, ?_, ?_⟩
      · rw [z4]; exact (endL_const oA k p h0 (by omega) h1 (by omega)).1
      · rw [z5]; exact (endL_const oB k p h0 (by omega) h1 (by omega)).1
    · obtain ⟨x, hx, r⟩ := ih (by omega) z6 p (by omega) h2
      exact ⟨x, by simp [hx], r⟩
theorem ZOk.mem {A B : List (Int × Int)} {S : Int} : ∀ {Z : List Pr} {k : Int}, ZOk A B S k Z → ∀ z ∈ Z, z.a = atL A z.lo ∧ z.b = atL B z.lo := by
  intro Z
  induction Z with
  | nil => intro k h z hz; simp at hz
  | cons x Z ih =>
    intro k h z hz
    obtain ⟨z1, z2, z3, z4, z5, z6⟩ := h
    rcases List.mem_cons.1 hz with rfl | hz
    · rw [z1]; exact ⟨z4, z5⟩
    · exact ih z6 z hz
/-- A pair and all behind it, as a walk sees them. -/
theorem ZOk.part {A B : List (Int × Int)} (oA : OkL A) (oB : OkL B) {S : Int} (tA : total A = S) (tB : total B = S) : ∀ {Z1 : List Pr} {z : Pr} {Z2 : List Pr} {k : Int}, 0 ≤ k → ZOk A B S k (Z1 ++ z :: Z2) → k ≤ z.lo ∧ z.lo < S ∧ z.lo < z.hi ∧ z.hi ≤ S ∧ z.hi = min (endL A z.lo) (endL B z.lo) ∧ z.a = atL A z.lo ∧ z.b = atL B z.lo ∧ ZOk A B S z.hi Z2 := by
  intro Z1
  induction Z1 with
  | nil =>
    intro z Z2 k h0 h
    obtain ⟨z1, z2, z3, z4, z5, z6⟩ := h
    have g1 := endL_gt oA k h0 (by omega)
    have g2 := endL_gt oB k h0 (by omega)
    rw [z1]
    exact ⟨by omega, z2, by omega, by omega, z3, z4, z5, z6⟩
  | cons x Z1 ih =>
    intro z Z2 k h0 h
    obtain ⟨z1, z2, z3, z4, z5, z6⟩ := h
    have g1 := endL_gt oA k h0 (by omega)
    have g2 := endL_gt oB k h0 (by omega)
    obtain ⟨i1, i2⟩ := ih (by omega) z6
    exact ⟨by omega, i2⟩
def allEq (Z : List Pr) : Bool := Z.all fun z => z.a == z.b
theorem allEq_snoc (Z : List Pr) (z : Pr) : allEq (Z ++ [z]) = (allEq Z && (z.a == z.b)) := by simp [allEq]
theorem allEq_iff {A B : List (Int × Int)} (gA : Good A) (gB : Good B) (ht : total A = total B) : allEq (zipL A B) = true ↔ A = B := by
  have ok := zipL_ok gA.2.1 gB.2.1 ht rfl
  constructor
  · intro h
    refine canon gA.2.1 gB.2.1 gA.2.2.1 gB.2.2.1 ht fun p p0 p1 => ?_
    obtain ⟨z, hz, _, _, e1, e2⟩ := ok.at_ gA.2.1 gB.2.1 ht rfl (by omega) p p0 (by omega)
    have := List.all_eq_true.1 h z hz
    rw [e1, e2]; simpa using this
  · rintro rfl
    refine List.all_eq_true.2 fun z hz => ?_
    obtain ⟨a, b⟩ := ok.mem z hz
    rw [a, b]; simp
/-- A change behind changes: it extends the last one if it continues it. -/
def noteL : List Ch → Ch → List Ch
  | [], r => [r]
  | y :: l, r => match l with
    | [] => if y.frm = r.frm ∧ y.to = r.to ∧ y.hi = r.lo then [⟨y.lo, r.hi, y.frm, y.to⟩] else [y, r]
    | _ :: _ => y :: noteL l r
theorem noteL_snoc (l : List Ch) (y r : Ch) : noteL (l ++ [y]) r = if y.frm = r.frm ∧ y.to = r.to ∧ y.hi = r.lo then l ++ [⟨y.lo, r.hi, y.frm, y.to⟩] else l ++ [y] ++ [r] := by
  induction l with
  | nil => simp only [List.nil_append, noteL]; split <;> rfl
  | cons z l ih =>
    have e : noteL (z :: (l ++ [y])) r = z :: noteL (l ++ [y]) r := by cases l <;> rfl
    rw [List.cons_append, e, ih]; split <;> rfl
theorem noteL_length (l : List Ch) (r : Ch) : (noteL l r).length ≤ l.length + 1 := by
  rcases nil_or_snoc l with rfl | ⟨l, y, rfl⟩
  · simp [noteL]
  · rw [noteL_snoc]; split <;> simp
def diffS (l : List Ch) (z : Pr) : List Ch := if z.a = z.b then l else noteL l ⟨z.lo, z.hi, z.a, z.b⟩
/-- The changes that pairs tell. -/
def diffL (Z : List Pr) : List Ch := Z.foldl diffS []
theorem diffL_snoc (Z : List Pr) (z : Pr) : diffL (Z ++ [z]) = diffS (diffL Z) z := by simp [diffL]
theorem diffS_length (l : List Ch) (z : Pr) : (diffS l z).length ≤ l.length + 1 := by
  unfold diffS; split
  · omega
  · exact noteL_length _ _
theorem diffL_length (Z : List Pr) : (diffL Z).length ≤ Z.length := by
  have key : ∀ (Z : List Pr) (l : List Ch), (Z.foldl diffS l).length ≤ l.length + Z.length := by
    intro Z
    induction Z with
    | nil => intro l; exact Nat.le_refl _
    | cons z Z ih =>
      intro l
      have h1 := ih (diffS l z)
      have h2 := diffS_length l z
      simp only [List.foldl_cons, List.length_cons]; omega
  have := key Z []
  simpa [diffL] using this
/-- What Diff returns. -/
def diffR (A B : List (Int × Int)) : Int × List Ch := if A = [] ∨ B = [] then (1, []) else if total A ≠ total B then (2, []) else (0, diffL (zipL A B))
end
section
open Tr (total totalOf OkL)

/-- Changes from a piece on tell how two maps differ. -/
def DOk (A B : List (Int × Int)) (S : Int) : Int → List Ch → Prop
  | k, [] => k ≤ S ∧ ∀ p, k ≤ p → p < S → atL A p = atL B p
  | k, x :: D => k ≤ x.lo ∧ x.lo < x.hi ∧ x.hi ≤ S ∧ (∀ p, k ≤ p → p < x.lo → atL A p = atL B p) ∧ (∀ p, x.lo ≤ p → p < x.hi → atL A p = x.frm ∧ atL B p = x.to) ∧ DOk A B S x.hi D
theorem DOk.same {A B : List (Int × Int)} {S S' : Int} (hS : S ≤ S') (h : ∀ p, S ≤ p → p < S' → atL A p = atL B p) : ∀ {D : List Ch} {k : Int}, DOk A B S k D → DOk A B S' k D := by
  intro D
  induction D with
  | nil =>
    intro k hk
    refine ⟨by have := hk.1; omega, fun p h1 h2 => ?_⟩
    by_cases c : p < S
    · exact hk.2 p h1 c
    · exact h p (by omega) h2
  | cons x D ih =>
    intro k hk
    obtain ⟨a, b, c, d, e, f⟩ := hk
    exact ⟨a, b, by omega, d, e, ih f⟩
theorem DOk.app {A B : List (Int × Int)} {S : Int} {y : Ch} (h1 : S = y.lo) (h2 : y.lo < y.hi) (h : ∀ p, y.lo ≤ p → p < y.hi → atL A p = y.frm ∧ atL B p = y.to) : ∀ {D : List Ch} {k : Int}, DOk A B S k D → DOk A B y.hi k (D ++ [y]) := by
  intro D
  induction D with
  | nil =>
    intro k hk
    exact ⟨by have := hk.1; omega, h2, Int.le_refl _, fun p a b => hk.2 p a (by omega), h, Int.le_refl _, fun p a b => by omega⟩
  | cons x D ih =>
    intro k hk
    obtain ⟨a, b, c, d, e, f⟩ := hk
    exact ⟨a, b, by omega, d, e, ih f⟩
theorem DOk.ext {A B : List (Int × Int)} {S hi : Int} {y : Ch} (h1 : y.hi = S) (h2 : S ≤ hi) (h : ∀ p, S ≤ p → p < hi → atL A p = y.frm ∧ atL B p = y.to) : ∀ {D : List Ch} {k : Int}, DOk A B S k (D ++ [y]) → DOk A B hi k (D ++ [⟨y.lo, hi, y.frm, y.to⟩]) := by
  intro D
  induction D with
  | nil =>
    intro k hk
    obtain ⟨a, b, c, d, e, f⟩ := hk
    refine ⟨a, by dsimp only; omega, Int.le_refl _, d, fun p p1 p2 => ?_, Int.le_refl _, fun p a b => by dsimp only at a; omega⟩
    by_cases q : p < y.hi
    · exact e p p1 q
    · exact h p (by omega) p2
  | cons x D ih =>
    intro k hk
    obtain ⟨a, b, c, d, e, f⟩ := hk
    exact ⟨a, b, by omega, d, e, ih f⟩
theorem DOk.note {A B : List (Int × Int)} {S : Int} {D : List Ch} {r : Ch} {k : Int} (hD : DOk A B S k D) (h1 : r.lo = S) (h2 : r.lo < r.hi) (h : ∀ p, r.lo ≤ p → p < r.hi → atL A p = r.frm ∧ atL B p = r.to) : DOk A B r.hi k (noteL D r) := by
  rcases nil_or_snoc D with rfl | ⟨D, y, rfl⟩
  · exact DOk.app (D := []) h1.symm h2 h hD
  · rw [noteL_snoc]
    by_cases c : y.frm = r.frm ∧ y.to = r.to ∧ y.hi = r.lo
    · rw [if_pos c]
      obtain ⟨c1, c2, c3⟩ := c
      exact DOk.ext (by omega) (by omega) (fun p p1 p2 => by rw [c1, c2]; exact h p (by omega) p2) hD
    · rw [if_neg c]
      exact DOk.app h1.symm h2 h hD
theorem diffL_from {A B : List (Int × Int)} (oA : OkL A) (oB : OkL B) {S : Int} (tA : total A = S) (tB : total B = S) : ∀ (Z : List Pr) (k : Int) (D : List Ch), 0 ≤ k → ZOk A B S k Z → DOk A B k 0 D → DOk A B S 0 (Z.foldl diffS D) := by
  intro Z
  induction Z with
  | nil => intro k D h0 hz hD; have hz : k = S := hz; subst hz; exact hD
  | cons z Z ih =>
    intro k D h0 hz hD
    obtain ⟨z1, z2, z3, z4, z5, z6⟩ := hz
    have g1 := endL_gt oA k h0 (by omega)
    have g2 := endL_gt oB k h0 (by omega)
    refine ih z.hi _ (by omega) z6 ?_
    have hc : ∀ p, z.lo ≤ p → p < z.hi → atL A p = z.a ∧ atL B p = z.b := fun p p1 p2 => ⟨by rw [z4]; exact (endL_const oA k p h0 (by omega) (by omega) (by omega)).1, by rw [z5]; exact (endL_const oB k p h0 (by omega) (by omega) (by omega)).1⟩
    unfold diffS
    by_cases c : z.a = z.b
    · rw [if_pos c]
      exact hD.same (by omega) fun p p1 p2 => by obtain ⟨a, b⟩ := hc p (by omega) p2; rw [a, b, c]
    · rw [if_neg c]
      exact DOk.note (r := ⟨z.lo, z.hi, z.a, z.b⟩) hD z1 (by dsimp only; omega) hc
theorem diffL_ok {A B : List (Int × Int)} (oA : OkL A) (oB : OkL B) {S : Int} (tA : total A = S) (tB : total B = S) : DOk A B S 0 (diffL (zipL A B)) :=
  diffL_from oA oB tA tB _ 0 [] (by omega) (zipL_ok oA oB tA tB) ⟨by have := total_nonneg oA; omega, fun p a b => by omega⟩
/-- The first pieces of B, and the others of A. -/
def mixL (A B : List (Int × Int)) (k : Int) : List (Int × Int) := concatL (takeP k B) (dropP k A)
theorem consM_length (x : Int × Int) (b : List (Int × Int)) : (consM x b).length ≤ b.length + 1 := by
  cases b with
  | nil => simp [consM]
  | cons y b => simp only [consM]; split <;> simp
theorem concatL_length (a b : List (Int × Int)) : (concatL a b).length ≤ a.length + b.length := by
  rcases nil_or_snoc a with rfl | ⟨a, x, rfl⟩
  · simp [concatL]
  · rw [concatL_snoc]
    have := consM_length x b
    simp only [List.length_append, List.length_cons, List.length_nil]; omega
theorem takeP_length (k : Int) (L : List (Int × Int)) : (takeP k L).length ≤ L.length := by
  induction L generalizing k with
  | nil => simp [takeP]
  | cons x L ih =>
    simp only [takeP]
    split
    · simp
    · split
      · simp
      · simp only [List.length_cons]; have := ih (k - x.1); omega
theorem dropP_length (k : Int) (L : List (Int × Int)) : (dropP k L).length ≤ L.length := by
  induction L generalizing k with
  | nil => simp [dropP]
  | cons x L ih =>
    simp only [dropP]
    split
    · simp
    · split
      · simp
      · simp only [List.length_cons]; have := ih (k - x.1); omega
section
variable {A B : List (Int × Int)} (gA : Good A) (gB : Good B) {S : Int} (tA : total A = S) (tB : total B = S)
include gA gB
theorem mixL_ok (k : Int) : OkL (mixL A B k) := concatL_ok (takeP_ok gB.2.1 k) (dropP_ok gA.2.1 k)
theorem mixL_norm (k : Int) : Norm (mixL A B k) := concatL_norm (takeP_norm gB.2.2.1 k) (dropP_norm gA.2.2.1 k)
include tB
theorem mixL_at {k : Int} (h0 : 0 ≤ k) (h1 : k ≤ S) (p : Int) (p0 : 0 ≤ p) : atL (mixL A B k) p = if p < k then atL B p else atL A p := by
  unfold mixL
  rw [concatL_at (takeP_ok gB.2.1 k) (dropP_ok gA.2.1 k) p p0, takeP_total gB.2.1 h0 (by omega)]
  by_cases c : p < k
  · rw [if_pos c, if_pos c, takeP_at p0 c]
  · rw [if_neg c, if_neg c, dropP_at gA.2.1 h0 (by omega)]; congr 1; omega
include tA
theorem mixL_total {k : Int} (h0 : 0 ≤ k) (h1 : k ≤ S) : total (mixL A B k) = S := by
  unfold mixL
  rw [concatL_total, takeP_total gB.2.1 h0 (by omega), dropP_total gA.2.1 h0 (by omega)]; omega
theorem mixL_good {k : Int} (h0 : 0 ≤ k) (h1 : k ≤ S) (hl : A.length + B.length ≤ 4096) : Good (mixL A B k) := by
  have t := mixL_total gA gB tA tB h0 h1
  have := total_pos gA.2.1 gA.1
  have l1 := concatL_length (takeP k B) (dropP k A)
  have l2 := takeP_length k B
  have l3 := dropP_length k A
  have g4 := gA.2.2.2.1
  refine ⟨ne_of_total (by omega), mixL_ok gA gB k, mixL_norm gA gB k, by omega, ?_⟩
  unfold mixL
  omega
end
theorem tag_all {S : List (Int × Int)} (h : OkL S) {t : Int} (ha : ∀ p, 0 ≤ p → p < total S → atL S p = t) : totalOf t S = total S := by
  induction S with
  | nil => rfl
  | cons x S ih =>
    have h' := OkL.cons.1 h
    have tn := total_nonneg h'.2
    rw [Tr.total_cons] at ha
    have hx : x.2 = t := by have := ha 0 (by omega) (by omega); simp only [atL] at this; rwa [if_pos (by omega)] at this
    rw [Tr.totalOf_cons, Tr.total_cons, if_pos hx, ih h'.2 fun p p0 p1 => ?_]
    have := ha (p + x.1) (by omega) (by omega)
    simp only [atL] at this
    rw [if_neg (by omega), show p + x.1 - x.1 = p from by omega] at this
    exact this
theorem range_all {L : List (Int × Int)} (o : OkL L) {lo hi t : Int} (h0 : 0 ≤ lo) (h1 : lo ≤ hi) (h2 : hi ≤ total L) (h : ∀ p, lo ≤ p → p < hi → atL L p = t) : totalOf t (segs (clipL lo hi 0 L)) = hi - lo := by
  have ch : Chain lo (clipL lo hi 0 L) hi := by
    have := clipL_chain (lo := lo) (hi := hi) (k := 0) o (by omega) (by omega)
    rwa [show max 0 lo = lo from by omega] at this
  obtain ⟨oV, aV⟩ := clipL_facts (lo := lo) (hi := hi) (k := 0) o
  rw [← ch.total]
  refine tag_all oV fun p p0 p1 => ?_
  rw [ch.total] at p1
  rw [aV p p0 (by omega) (by omega)]
  exact h _ (by omega) (by omega)
/-- Changes between maps, applied one after the other. -/
theorem applyR_mix {A B : List (Int × Int)} (gA : Good A) (gB : Good B) {S : Int} (tA : total A = S) (tB : total B = S) (hl : A.length + B.length ≤ 4096) : ∀ (D : List Ch) (k : Int), 0 ≤ k → k ≤ S → DOk A B S k D → applyR (mixL A B k) D = (0, B) := by
  intro D
  induction D with
  | nil =>
    intro k h0 h1 hD
    show (0, mixL A B k) = (0, B)
    congr 1
    refine canon (mixL_ok gA gB k) gB.2.1 (mixL_norm gA gB k) gB.2.2.1 (by rw [mixL_total gA gB tA tB h0 h1, tB]) fun p p0 p1 => ?_
    rw [mixL_at gA gB tB h0 h1 p p0]
    rw [mixL_total gA gB tA tB h0 h1] at p1
    by_cases c : p < k
    · rw [if_pos c]
    · rw [if_neg c]; exact hD.2 p (by omega) p1
  | cons x D ih =>
    intro k h0 h1 hD
    obtain ⟨a, b, c, d, e, f⟩ := hD
    have gM := mixL_good gA gB tA tB h0 h1 hl
    have tM := mixL_total gA gB tA tB h0 h1
    have aM := mixL_at gA gB tB h0 h1
    obtain ⟨eA, eB⟩ := e x.lo (Int.le_refl _) b
    have f1 := atL_tag gA.2.1 (q := x.lo) (by omega)
    have f2 := atL_tag gB.2.1 (q := x.lo) (by omega)
    rw [eA] at f1
    rw [eB] at f2
    have es : setL (mixL A B k) x.lo x.hi x.to = mixL A B x.hi := by
      refine canon (setL_ok gM.2.1 (by omega) f2.1 f2.2) (mixL_ok gA gB _) (setL_norm gM.2.2.1) (mixL_norm gA gB _) ?_ fun p p0 p1 => ?_
      · rw [setL_total gM.2.1 (by omega) (by omega) (by omega), tM, mixL_total gA gB tA tB (by omega) c]
      · rw [setL_total gM.2.1 (by omega) (by omega) (by omega), tM] at p1
        rw [setL_at gM.2.1 (by omega) (by omega) (by omega) f2.1 f2.2 p p0, aM p p0, mixL_at gA gB tB (by omega) c p p0]
        by_cases q1 : p < x.hi
        · rw [if_pos q1]
          by_cases q2 : x.lo ≤ p
          · rw [if_pos ⟨q2, q1⟩]; exact (e p q2 q1).2.symm
          · rw [if_neg (by omega)]
            by_cases q3 : p < k
            · rw [if_pos q3]
            · rw [if_neg q3]; exact d p (by omega) (by omega)
        · rw [if_neg (by omega), if_neg (by omega), if_neg q1]
    have gN := mixL_good gA gB tA tB (by omega : 0 ≤ x.hi) c hl
    have hch : chR (mixL A B k) x = (0, mixL A B x.hi) := by
      unfold chR
      rw [if_neg (by omega), if_neg (by omega), if_neg (by
        rw [range_all gM.2.1 (by omega) (by omega) (by omega) (t := x.frm) fun p p1 p2 => by
          rw [aM p (by omega), if_neg (by omega)]; exact (e p p1 p2).1]
        simp)]
      unfold setR
      rw [if_neg gM.1, if_neg (by omega), if_neg (by omega), es, if_neg (by have := gN.2.2.2.2; omega)]
    show (if (chR (mixL A B k) x).1 = 0 then applyR (chR (mixL A B k) x).2 D else ((chR (mixL A B k) x).1, [])) = _
    rw [hch, if_pos rfl]
    exact ih x.hi (by omega) c f
/-- The changes from one map to another one, applied to the first, yield the second. -/
theorem patch_law {A B : List (Int × Int)} (gA : Good A) (gB : Good B) (ht : total A = total B) (hl : A.length + B.length ≤ 4096) : applyTop A (diffL (zipL A B)) = (0, B) := by
  have h := applyR_mix gA gB ht rfl hl _ 0 (Int.le_refl _) (by rw [← ht]; exact total_nonneg gA.2.1) (diffL_ok gA.2.1 gB.2.1 ht rfl)
  have e : mixL A B 0 = A := by
    have h0 := total_nonneg gB.2.1
    refine canon (mixL_ok gA gB 0) gA.2.1 (mixL_norm gA gB 0) gA.2.2.1 (by rw [mixL_total gA gB ht rfl (Int.le_refl _) h0, ht]) fun p p0 p1 => ?_
    rw [mixL_at gA gB rfl (Int.le_refl _) h0 p p0, if_neg (by omega)]
  rw [e] at h
  unfold applyTop
  rw [if_neg gA.1, h]
def swPr (z : Pr) : Pr := ⟨z.lo, z.hi, z.b, z.a⟩
def swCh (x : Ch) : Ch := ⟨x.lo, x.hi, x.to, x.frm⟩
theorem zipN_swap : ∀ (n : Nat) (k : Int) (l r : List Rn), zipN n k r l = (zipN n k l r).map swPr
  | 0, _, _, _ => rfl
  | _ + 1, _, [], [] => rfl
  | _ + 1, _, [], _ :: _ => rfl
  | _ + 1, _, _ :: _, [] => rfl
  | n + 1, k, x :: l, y :: r => by
    simp only [zipN, List.map_cons, swPr]
    rw [Int.min_comm y.hi x.hi, zipN_swap n]
theorem zipL_swap (A B : List (Int × Int)) : zipL B A = (zipL A B).map swPr := by
  unfold zipL; rw [Nat.add_comm, zipN_swap]
theorem noteL_sw (l : List Ch) (r : Ch) : noteL (l.map swCh) (swCh r) = (noteL l r).map swCh := by
  rcases nil_or_snoc l with rfl | ⟨l, y, rfl⟩
  · rfl
  · rw [List.map_append, List.map_cons, List.map_nil, noteL_snoc, noteL_snoc]
    by_cases c : y.frm = r.frm ∧ y.to = r.to ∧ y.hi = r.lo
    · rw [if_pos c, if_pos (show (swCh y).frm = (swCh r).frm ∧ (swCh y).to = (swCh r).to ∧ (swCh y).hi = (swCh r).lo from ⟨c.2.1, c.1, c.2.2⟩)]
      simp [swCh]
    · rw [if_neg c, if_neg (show ¬ ((swCh y).frm = (swCh r).frm ∧ (swCh y).to = (swCh r).to ∧ (swCh y).hi = (swCh r).lo) from fun h => c ⟨h.2.1, h.1, h.2.2⟩)]
      simp only [List.map_append, List.map_cons, List.map_nil]
theorem diffL_sw (Z : List Pr) : diffL (Z.map swPr) = (diffL Z).map swCh := by
  have key : ∀ (Z : List Pr) (l : List Ch), (Z.map swPr).foldl diffS (l.map swCh) = (Z.foldl diffS l).map swCh := by
    intro Z
    induction Z with
    | nil => intro l; rfl
    | cons z Z ih =>
      intro l
      simp only [List.map_cons, List.foldl_cons]
      rw [← ih]
      congr 1
      unfold diffS
      by_cases c : z.a = z.b
      · rw [if_pos c, if_pos (show (swPr z).a = (swPr z).b from c.symm)]
      · rw [if_neg c, if_neg (show ¬ (swPr z).a = (swPr z).b from fun h => c h.symm)]
        exact noteL_sw l ⟨z.lo, z.hi, z.a, z.b⟩
  exact key Z []
theorem diff_back (A B : List (Int × Int)) : diffL (zipL B A) = (diffL (zipL A B)).map swCh := by rw [zipL_swap, diffL_sw]
theorem noteL_ne (l : List Ch) (r : Ch) : noteL l r ≠ [] := by
  rcases nil_or_snoc l with rfl | ⟨l, y, rfl⟩
  · simp [noteL]
  · rw [noteL_snoc]; split <;> simp
theorem diffL_nil (Z : List Pr) : diffL Z = [] ↔ allEq Z = true := by
  have key : ∀ (Z : List Pr) (l : List Ch), Z.foldl diffS l = [] ↔ l = [] ∧ allEq Z = true := by
    intro Z
    induction Z with
    | nil => intro l; simp [allEq]
    | cons z Z ih =>
      intro l
      simp only [List.foldl_cons]
      rw [ih]
      unfold diffS
      by_cases c : z.a = z.b
      · rw [if_pos c]; simp [allEq, c]
      · rw [if_neg c]; simp [allEq, c, noteL_ne]
  have := key Z []
  simpa [diffL] using this
theorem takeDrop_length (L : List (Int × Int)) (k : Int) : (takeP k L).length + (dropP k L).length ≤ L.length + 1 := by
  induction L generalizing k with
  | nil => simp [takeP, dropP]
  | cons x L ih =>
    have := ih (k - x.1)
    simp only [takeP, dropP]
    by_cases c : k ≤ 0
    · rw [if_pos c, if_pos c]; simp
    · rw [if_neg c, if_neg c]
      by_cases d : k < x.1
      · rw [if_pos d, if_pos d]; simp; omega
      · rw [if_neg d, if_neg d]; simp only [List.length_cons]; omega
theorem leafL_length (a b : Int) : (leafL a b).length ≤ 1 := by unfold leafL; split <;> simp
theorem setL_length (L : List (Int × Int)) (lo hi tag : Int) : (setL L lo hi tag).length ≤ L.length + 2 := by
  unfold setL
  have a := concatL_length (concatL (takeP lo L) (leafL (hi - lo) tag)) (dropP (hi - lo) (dropP lo L))
  have b := concatL_length (takeP lo L) (leafL (hi - lo) tag)
  have c := leafL_length (hi - lo) tag
  have d := takeDrop_length L lo
  have e := dropP_length (hi - lo) (dropP lo L)
  omega
theorem swapM_length (f t : Int) (S : List (Int × Int)) : (swapM f t S).length ≤ S.length := by
  have key : ∀ (S l : List (Int × Int)), (S.foldl (fun m x => concatL m [(x.1, if x.2 = f then t else x.2)]) l).length ≤ l.length + S.length := by
    intro S
    induction S with
    | nil => intro l; simp
    | cons x S ih =>
      intro l
      have a := ih (concatL l [(x.1, if x.2 = f then t else x.2)])
      have b := concatL_length l [(x.1, if x.2 = f then t else x.2)]
      simp only [List.foldl_cons, List.length_cons, List.length_nil] at a b ⊢
      omega
  have := key S []
  simpa [swapM] using this
theorem clip_drop {lo hi : Int} (L : List (Int × Int)) (o : OkL L) : ∀ k, lo ≤ k → (clipL lo hi k L).length + (dropP (hi - k) L).length ≤ L.length + 1 := by
  induction L with
  | nil => intro k _; simp [clipL, dropP]
  | cons x L ih =>
    intro k hk
    have o' := OkL.cons.1 o
    have i := ih o'.2 (k + x.1) (by omega)
    rw [show hi - (k + x.1) = hi - k - x.1 from by omega] at i
    simp only [clipL, dropP, List.length_append]
    by_cases c3 : hi - k ≤ 0
    · rw [if_pos c3, if_neg (by omega : ¬ max k lo < min (k + x.1) hi), clipL_right o'.2 (by omega)]; simp
    · rw [if_neg c3]
      by_cases c4 : hi - k < x.1
      · rw [if_pos c4, clipL_right o'.2 (by omega)]
        simp only [List.length_nil, List.length_cons]
        split <;> simp <;> omega
      · rw [if_neg c4]
        simp only [List.length_cons]
        split <;> simp <;> omega
theorem clip_lengths {lo hi : Int} (hle : lo ≤ hi) (L : List (Int × Int)) (o : OkL L) : ∀ k, (takeP (lo - k) L).length + (clipL lo hi k L).length + (dropP (hi - k) L).length ≤ L.length + 2 := by
  induction L with
  | nil => intro k; simp [takeP, clipL, dropP]
  | cons x L ih =>
    intro k
    have o' := OkL.cons.1 o
    have i := ih o'.2 (k + x.1)
    rw [show lo - (k + x.1) = lo - k - x.1 from by omega, show hi - (k + x.1) = hi - k - x.1 from by omega] at i
    by_cases c1 : lo - k ≤ 0
    · have j := clip_drop (lo := lo) (hi := hi) (x :: L) o k (by omega)
      rw [takeP_neg c1]
      simp only [List.length_nil]
      omega
    · by_cases c2 : lo - k < x.1
      · have j := clip_drop (lo := lo) (hi := hi) L o'.2 (k + x.1) (by omega)
        rw [show hi - (k + x.1) = hi - k - x.1 from by omega] at j
        simp only [takeP, clipL, dropP, List.length_append]
        rw [if_neg c1, if_neg (by omega : ¬ hi - k ≤ 0), if_pos c2]
        by_cases c4 : hi - k < x.1
        · rw [if_pos c4, clipL_right o'.2 (by omega)]
          simp only [List.length_nil, List.length_cons]
          split <;> simp <;> omega
        · rw [if_neg c4]
          simp only [List.length_nil, List.length_cons]
          split <;> simp <;> omega
      · simp only [takeP, clipL, dropP, List.length_append]
        rw [if_neg c1, if_neg (by omega : ¬ hi - k ≤ 0), if_neg c2, if_neg (by omega : ¬ hi - k < x.1), if_neg (by omega : ¬ max k lo < min (k + x.1) hi)]
        simp only [List.length_nil, List.length_cons]
        omega
theorem dropP_dropP {L : List (Int × Int)} (o : OkL L) {a b : Int} (ha : 0 ≤ a) (hb : 0 ≤ b) : dropP b (dropP a L) = dropP (a + b) L := by
  induction L generalizing a with
  | nil => simp [dropP]
  | cons x L ih =>
    have o' := OkL.cons.1 o
    by_cases c : a ≤ 0
    · have : a = 0 := by omega
      subst this
      rw [show dropP 0 (x :: L) = x :: L from by simp [dropP], Int.zero_add]
    · by_cases d : a < x.1
      · have e : dropP a (x :: L) = (x.1 - a, x.2) :: L := by simp only [dropP]; rw [if_neg c, if_pos d]
        rw [e]
        simp only [dropP]
        by_cases f : b ≤ 0
        · have : b = 0 := by omega
          subst this
          rw [if_pos f, if_neg (by omega : ¬ a + 0 ≤ 0), if_pos (by omega : a + 0 < x.1), show a + 0 = a from by omega]
        · rw [if_neg f, if_neg (by omega : ¬ a + b ≤ 0)]
          by_cases g : b < x.1 - a
          · rw [if_pos g, if_pos (by omega : a + b < x.1), show x.1 - a - b = x.1 - (a + b) from by omega]
          · rw [if_neg g, if_neg (by omega : ¬ a + b < x.1), show b - (x.1 - a) = a + b - x.1 from by omega]
      · have e : dropP a (x :: L) = dropP (a - x.1) L := by simp only [dropP]; rw [if_neg c, if_neg d]
        have e2 : dropP (a + b) (x :: L) = dropP (a + b - x.1) L := by simp only [dropP]; rw [if_neg (by omega), if_neg (by omega)]
        rw [e, e2, ih o'.2 (by omega), show a - x.1 + b = a + b - x.1 from by omega]
theorem swapL_length {L : List (Int × Int)} (o : OkL L) {lo hi : Int} (h0 : 0 ≤ lo) (h1 : lo ≤ hi) (f t : Int) : (swapL L lo hi f t).length ≤ L.length + 2 := by
  unfold swapL
  have a := concatL_length (concatL (takeP lo L) (swapM f t (segs (clipL lo hi 0 L)))) (dropP (hi - lo) (dropP lo L))
  have b := concatL_length (takeP lo L) (swapM f t (segs (clipL lo hi 0 L)))
  have c := swapM_length f t (segs (clipL lo hi 0 L))
  rw [segs_length] at c
  have d := clip_lengths h1 L o 0
  rw [Int.sub_zero, Int.sub_zero] at d
  rw [dropP_dropP o h0 (by omega), show lo + (hi - lo) = hi from by omega] at a ⊢
  omega
theorem actL_length {L : List (Int × Int)} (g : Good L) (x : Ac) : (actL L x).length ≤ L.length + 2 := by
  unfold actL
  by_cases h : (actR L x).1 = 0
  · rw [if_pos h]
    unfold actR at h ⊢
    by_cases hs : x.swap = true
    · rw [if_pos hs] at h ⊢
      unfold swapR at h ⊢
      rw [if_neg g.1] at h ⊢
      split
      · simp
      · rename_i h1
        split
        · simp
        · split
          · simp
          · exact swapL_length g.2.1 (by omega) (by omega) _ _
    · rw [if_neg hs] at h ⊢
      unfold setR at h ⊢
      rw [if_neg g.1] at h ⊢
      split
      · simp
      · split
        · simp
        · split
          · simp
          · exact setL_length _ _ _ _
  · rw [if_neg h]; omega
theorem moreL_length (l : List Ac) : ∀ {L : List (Int × Int)}, Good L → (moreL L l).length ≤ L.length + 2 * l.length := by
  induction l with
  | nil => intro L g; simp [moreL]
  | cons x l ih =>
    intro L g
    have a := ih (actL_facts g x).1
    have b := actL_length g x
    show (moreL (actL L x) l).length ≤ _
    simp only [List.length_cons]
    omega
end
section
open Tr (total totalOf OkL)

/-- What a run of the base, within a pair, adds to the runs and to the conflicts. -/
def mstep (z : Pr) (s : List Rn × List Ch) (r : Rn) : List Rn × List Ch :=
  if z.a = z.b ∨ z.b = r.tag then (pushRn s.1 ⟨r.lo, r.hi, z.a⟩, s.2) else if z.a = r.tag then (pushRn s.1 ⟨r.lo, r.hi, z.b⟩, s.2) else (pushRn s.1 r, noteL s.2 ⟨r.lo, r.hi, z.a, z.b⟩)
def mZ (O : List (Int × Int)) (s : List Rn × List Ch) (z : Pr) : List Rn × List Ch := (clipL z.lo z.hi 0 O).foldl (mstep z) s
def mergeL (O : List (Int × Int)) (Z : List Pr) : List Rn × List Ch := Z.foldl (mZ O) ([], [])
theorem mergeL_snoc (O : List (Int × Int)) (Z : List Pr) (z : Pr) : mergeL O (Z ++ [z]) = mZ O (mergeL O Z) z := by simp [mergeL]
theorem mstep_length (z : Pr) (s : List Rn × List Ch) (r : Rn) : (mstep z s r).1.length ≤ s.1.length + 1 ∧ (mstep z s r).2.length ≤ s.2.length + 1 := by
  unfold mstep
  split
  · exact ⟨pushRn_length _ _, Nat.le_succ _⟩
  · split
    · exact ⟨pushRn_length _ _, Nat.le_succ _⟩
    · exact ⟨pushRn_length _ _, noteL_length _ _⟩
theorem mfold_length (z : Pr) (V : List Rn) : ∀ s, (V.foldl (mstep z) s).1.length ≤ s.1.length + V.length ∧ (V.foldl (mstep z) s).2.length ≤ s.2.length + V.length := by
  induction V with
  | nil => intro s; exact ⟨Nat.le_refl _, Nat.le_refl _⟩
  | cons x V ih =>
    intro s
    have h1 := ih (mstep z s x)
    have h2 := mstep_length z s x
    simp only [List.foldl_cons, List.length_cons]
    omega
theorem clip_low {O : List (Int × Int)} (o : OkL O) {a b c : Int} : ∀ k, a ≤ k → b ≤ k → clipL a c k O = clipL b c k O := by
  induction O with
  | nil => intro k _ _; rfl
  | cons x O ih =>
    intro k h1 h2
    have o' := OkL.cons.1 o
    simp only [clipL]
    rw [show max k a = k from by omega, show max k b = k from by omega, ih o'.2 (k + x.1) (by omega) (by omega)]
theorem clip_split {O : List (Int × Int)} (o : OkL O) : ∀ (j : Int) {a b c : Int}, a ≤ b → b ≤ c → (clipL a b j O).length + (clipL b c j O).length ≤ (clipL a c j O).length + 1 := by
  induction O with
  | nil => intro j a b c _ _; simp [clipL]
  | cons x O ih =>
    intro j a b c h1 h2
    have o' := OkL.cons.1 o
    have i := ih o'.2 (j + x.1) h1 h2
    simp only [clipL, List.length_append]
    by_cases d : max j a < min (j + x.1) b ∧ max j b < min (j + x.1) c
    · have e1 : clipL a b (j + x.1) O = [] := clipL_right o'.2 (by omega)
      have e2 : clipL b c (j + x.1) O = clipL a c (j + x.1) O := clip_low o'.2 _ (by omega) (by omega)
      rw [e1, e2, if_pos d.1, if_pos d.2, if_pos (by omega)]
      simp only [List.length_cons, List.length_nil]; omega
    · by_cases d1 : max j a < min (j + x.1) b
      · rw [if_pos d1, if_neg (fun h => d ⟨d1, h⟩), if_pos (by omega)]
        simp only [List.length_cons, List.length_nil]; omega
      · rw [if_neg d1]
        by_cases d2 : max j b < min (j + x.1) c
        · rw [if_pos d2, if_pos (by omega)]
          simp only [List.length_cons, List.length_nil]; omega
        · rw [if_neg d2]
          split <;> simp only [List.length_cons, List.length_nil] <;> omega
/-- How many runs of the base there are within the pairs. -/
theorem merge_count {O A B : List (Int × Int)} (o : OkL O) (oA : OkL A) (oB : OkL B) {S : Int} (tA : total A = S) (tB : total B = S) : ∀ (Z : List Pr) (k : Int) (s : List Rn × List Ch), 0 ≤ k → ZOk A B S k Z → (Z.foldl (mZ O) s).1.length ≤ s.1.length + (clipL k S 0 O).length + Z.length ∧ (Z.foldl (mZ O) s).2.length ≤ s.2.length + (clipL k S 0 O).length + Z.length := by
  intro Z
  induction Z with
  | nil => intro k s _ _; simp only [List.foldl_nil, List.length_nil]; omega
  | cons z Z ih =>
    intro k s h0 hz
    obtain ⟨z1, z2, z3, z4, z5, z6⟩ := hz
    have g1 := endL_gt oA k h0 (by omega)
    have g2 := endL_gt oB k h0 (by omega)
    have i := ih z.hi (mZ O s z) (by omega) z6
    have m := mfold_length z (clipL z.lo z.hi 0 O) s
    have c := clip_split o 0 (a := k) (b := z.hi) (c := S) (by omega) (by omega)
    rw [← z1] at c
    rw [z1] at c m
    unfold mZ at i ⊢
    rw [z1] at i
    simp only [List.foldl_cons, List.length_cons]
    rw [z1]
    omega
theorem pushRn_ge (l : List Rn) (r : Rn) : l.length ≤ (pushRn l r).length := by
  rcases nil_or_snoc l with rfl | ⟨l, y, rfl⟩
  · simp
  · rw [pushRn_snoc]; split <;> simp
theorem noteL_ge (l : List Ch) (r : Ch) : l.length ≤ (noteL l r).length := by
  rcases nil_or_snoc l with rfl | ⟨l, y, rfl⟩
  · simp
  · rw [noteL_snoc]; split <;> simp
theorem mstep_ge (z : Pr) (s : List Rn × List Ch) (r : Rn) : s.1.length ≤ (mstep z s r).1.length ∧ s.2.length ≤ (mstep z s r).2.length := by
  unfold mstep
  split
  · exact ⟨pushRn_ge _ _, Nat.le_refl _⟩
  · split
    · exact ⟨pushRn_ge _ _, Nat.le_refl _⟩
    · exact ⟨pushRn_ge _ _, noteL_ge _ _⟩
theorem mfold_ge (z : Pr) (V : List Rn) : ∀ s, s.1.length ≤ (V.foldl (mstep z) s).1.length ∧ s.2.length ≤ (V.foldl (mstep z) s).2.length := by
  induction V with
  | nil => intro s; exact ⟨Nat.le_refl _, Nat.le_refl _⟩
  | cons x V ih =>
    intro s
    have h1 := ih (mstep z s x)
    have h2 := mstep_ge z s x
    simp only [List.foldl_cons]
    omega
theorem mergeL_ge (O : List (Int × Int)) (Z : List Pr) : ∀ s, s.1.length ≤ (Z.foldl (mZ O) s).1.length ∧ s.2.length ≤ (Z.foldl (mZ O) s).2.length := by
  induction Z with
  | nil => intro s; exact ⟨Nat.le_refl _, Nat.le_refl _⟩
  | cons z Z ih =>
    intro s
    have h1 := ih (mZ O s z)
    have h2 : s.1.length ≤ (mZ O s z).1.length ∧ s.2.length ≤ (mZ O s z).2.length := mfold_ge z _ s
    simp only [List.foldl_cons]
    omega
theorem mergeL_count {O A B : List (Int × Int)} (o : OkL O) (oA : OkL A) (oB : OkL B) {S : Int} (tA : total A = S) (tB : total B = S) (hO : (O.length : Int) ≤ 4096) (hA : (A.length : Int) ≤ 4096) (hB : (B.length : Int) ≤ 4096) {Z1 Z2 : List Pr} (h : zipL A B = Z1 ++ Z2) : (mergeL O Z1).1.length ≤ 20000 ∧ (mergeL O Z1).2.length ≤ 20000 := by
  have a := merge_count o oA oB tA tB (zipL A B) 0 ([], []) (Int.le_refl _) (zipL_ok oA oB tA tB)
  have b := clipL_length 0 S 0 O
  have c : (zipL A B).length ≤ A.length + B.length := zipN_length _ _ _ _
  have d := mergeL_ge O Z2 (mergeL O Z1)
  have e : Z2.foldl (mZ O) (mergeL O Z1) = (zipL A B).foldl (mZ O) ([], []) := by rw [h, List.foldl_append]; rfl
  rw [e] at d
  simp only [List.length_nil] at a
  omega
end
end Go.Proofs.Ytfmplibjhohpgaa
