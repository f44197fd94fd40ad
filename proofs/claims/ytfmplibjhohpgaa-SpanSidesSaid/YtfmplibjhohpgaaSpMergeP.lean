/- Plain law of Merge: the runs that it makes have the pieces that the document says. No program in sight. -/
import Derived.Test.YtfmplibjhohpgaaSpZipL
namespace Go.Proofs.Ytfmplibjhohpgaa
open Tr (total totalOf OkL)

/-- The tag of a piece of a merge. -/
def mtag (was a b : Int) : Int := if a = b ∨ b = was then a else if a = was then b else was
theorem mtag_tag {was a b : Int} (h0 : 0 ≤ was ∧ was < 16) (h1 : 0 ≤ a ∧ a < 16) (h2 : 0 ≤ b ∧ b < 16) : 0 ≤ mtag was a b ∧ mtag was a b < 16 := by
  unfold mtag; split
  · exact h1
  · split
    · exact h2
    · exact h0
/-- Runs from 0 to a piece that have the tags that f tells. -/
def PInv (f : Int → Int) (k : Int) (R : List Rn) : Prop := Chain 0 R k ∧ OkL (segs R) ∧ Norm (segs R) ∧ ∀ p, 0 ≤ p → p < k → atL (segs R) p = f p
theorem PInv.push {f : Int → Int} {k : Int} {R : List Rn} {r : Rn} (h : PInv f k R) (h1 : r.lo = k) (h2 : r.lo < r.hi) (h3 : 0 ≤ r.tag ∧ r.tag < 16) (h4 : ∀ p, r.lo ≤ p → p < r.hi → f p = r.tag) : PInv f r.hi (pushRn R r) := by
  obtain ⟨c, o, n, a⟩ := h
  have c' : Chain 0 R r.lo := by rw [h1]; exact c
  have e := pushRn_segs c'
  have o1 : OkL [(r.hi - r.lo, r.tag)] := OkL.cons.2 ⟨⟨by dsimp only; omega, h3.1, h3.2⟩, by simp [OkL]⟩
  have t := c.total
  refine ⟨pushRn_chain c' h2, by rw [e]; exact concatL_ok o o1, by rw [e]; exact concatL_norm n ⟨by simp, trivial⟩, fun p p0 p1 => ?_⟩
  rw [e, concatL_at o o1 p p0, t]
  by_cases q : p < k - 0
  · rw [if_pos q]; exact a p p0 (by omega)
  · rw [if_neg q]
    simp only [atL]
    rw [if_pos (by omega)]
    exact (h4 p (by omega) p1).symm
theorem clip_mem {lo hi : Int} {O : List (Int × Int)} (o : OkL O) : ∀ (k : Int) (x : Rn), x ∈ clipL lo hi k O → lo ≤ x.lo ∧ x.hi ≤ hi ∧ k ≤ x.lo ∧ x.lo < x.hi ∧ (0 ≤ x.tag ∧ x.tag < 16) ∧ ∀ p, x.lo ≤ p → p < x.hi → atL O (p - k) = x.tag := by
  induction O with
  | nil => intro k x hx; simp [clipL] at hx
  | cons y O ih =>
    intro k x hx
    have o' := OkL.cons.1 o
    simp only [clipL, List.mem_append] at hx
    rcases hx with hx | hx
    · by_cases c : max k lo < min (k + y.1) hi
      · rw [if_pos c] at hx
        simp only [List.mem_cons, List.not_mem_nil, or_false] at hx
        subst hx
        refine ⟨by dsimp only; omega, by dsimp only; omega, by dsimp only; omega, c, o'.1.2, fun p p0 p1 => ?_⟩
        dsimp only at p0 p1
        simp only [atL]
        rw [if_pos (by omega)]
      · rw [if_neg c] at hx; simp at hx
    · obtain ⟨a, b, c, d, e, f⟩ := ih o'.2 (k + y.1) x hx
      refine ⟨a, b, by omega, d, e, fun p p0 p1 => ?_⟩
      simp only [atL]
      rw [if_neg (by omega), show p - k - y.1 = p - (k + y.1) from by omega]
      exact f p p0 p1
theorem mfold_inv {O A B : List (Int × Int)} {z : Pr} (ta : 0 ≤ z.a ∧ z.a < 16) (tb : 0 ≤ z.b ∧ z.b < 16) : ∀ (V : List Rn) (k e : Int) (s : List Rn × List Ch), Chain k V e → (∀ p, k ≤ p → p < e → atL A p = z.a ∧ atL B p = z.b) → (∀ x ∈ V, (0 ≤ x.tag ∧ x.tag < 16) ∧ ∀ p, x.lo ≤ p → p < x.hi → atL O p = x.tag) →
    PInv (fun p => mtag (atL O p) (atL A p) (atL B p)) k s.1 → PInv (fun p => mtag (atL O p) (atL A p) (atL B p)) e (V.foldl (mstep z) s).1 := by
  intro V
  induction V with
  | nil => intro k e s hc _ _ hs; have hc : k = e := hc; rw [← hc]; exact hs
  | cons x V ih =>
    intro k e s hc hab hx hs
    obtain ⟨c1, c2, c3⟩ := hc
    have le := c3.le
    obtain ⟨x1, x2⟩ := hx x (by simp)
    refine ih x.hi e (mstep z s x) c3 (fun p p0 p1 => hab p (by omega) p1) (fun y hy => hx y (by simp [hy])) ?_
    have key : ∀ p, x.lo ≤ p → p < x.hi → mtag (atL O p) (atL A p) (atL B p) = mtag x.tag z.a z.b := fun p p0 p1 => by
      obtain ⟨a1, a2⟩ := hab p (by omega) (by omega)
      rw [x2 p p0 p1, a1, a2]
    unfold mstep
    by_cases h1 : z.a = z.b ∨ z.b = x.tag
    · rw [if_pos h1]
      exact hs.push (r := ⟨x.lo, x.hi, z.a⟩) c1 (by dsimp only; omega) ta fun p p0 p1 => by
        show mtag _ _ _ = _
        rw [key p p0 p1]; unfold mtag; rw [if_pos h1]
    · rw [if_neg h1]
      by_cases h2 : z.a = x.tag
      · rw [if_pos h2]
        exact hs.push (r := ⟨x.lo, x.hi, z.b⟩) c1 (by dsimp only; omega) tb fun p p0 p1 => by
          show mtag _ _ _ = _
          rw [key p p0 p1]; unfold mtag; rw [if_neg h1, if_pos h2]
      · rw [if_neg h2]
        exact hs.push (r := x) c1 (by omega) x1 fun p p0 p1 => by
          show mtag _ _ _ = _
          rw [key p p0 p1]; unfold mtag; rw [if_neg h1, if_neg h2]
theorem mergeL_inv {O A B : List (Int × Int)} (oO : OkL O) (oA : OkL A) (oB : OkL B) {S : Int} (tO : total O = S) (tA : total A = S) (tB : total B = S) : ∀ (Z : List Pr) (k : Int) (s : List Rn × List Ch), 0 ≤ k → ZOk A B S k Z → PInv (fun p => mtag (atL O p) (atL A p) (atL B p)) k s.1 → PInv (fun p => mtag (atL O p) (atL A p) (atL B p)) S (Z.foldl (mZ O) s).1 := by
  intro Z
  induction Z with
  | nil => intro k s _ hz hs; have hz : k = S := hz; rw [← hz]; exact hs
  | cons z Z ih =>
    intro k s h0 hz hs
    obtain ⟨z1, z2, z3, z4, z5, z6⟩ := hz
    have g1 := endL_gt oA k h0 (by omega)
    have g2 := endL_gt oB k h0 (by omega)
    refine ih z.hi _ (by omega) z6 ?_
    have ch : Chain k (clipL z.lo z.hi 0 O) z.hi := by
      have := clipL_chain (lo := z.lo) (hi := z.hi) (k := 0) oO (by omega) (by omega)
      rwa [show max 0 z.lo = k from by omega] at this
    have ta := atL_tag oA (q := k) (by omega)
    have tb := atL_tag oB (q := k) (by omega)
    rw [← z4] at ta
    rw [← z5] at tb
    refine mfold_inv ta tb _ k z.hi s ch (fun p p0 p1 => ⟨?_, ?_⟩) (fun x hx => ?_) hs
    · rw [z4]; exact (endL_const oA k p h0 (by omega) (by omega) (by omega)).1
    · rw [z5]; exact (endL_const oB k p h0 (by omega) (by omega) (by omega)).1
    · obtain ⟨_, _, _, _, e, f⟩ := clip_mem oO 0 x hx
      exact ⟨e, fun p p0 p1 => by have := f p p0 p1; rwa [Int.sub_zero] at this⟩
/-- What Merge returns. -/
def mergeR (O A B : List (Int × Int)) : Int × List (Int × Int) × List Ch :=
  if O = [] ∨ A = [] ∨ B = [] then (1, [], []) else if total A ≠ total O ∨ total B ≠ total O then (2, [], [])
  else if 4096 < ((mergeL O (zipL A B)).1.length : Int) then (5, [], []) else (0, segs (mergeL O (zipL A B)).1, (mergeL O (zipL A B)).2)
theorem mergeL_pieces {O A B : List (Int × Int)} (oO : OkL O) (oA : OkL A) (oB : OkL B) {S : Int} (tO : total O = S) (tA : total A = S) (tB : total B = S) : PInv (fun p => mtag (atL O p) (atL A p) (atL B p)) S (mergeL O (zipL A B)).1 :=
  mergeL_inv oO oA oB tO tA tB _ 0 ([], []) (Int.le_refl _) (zipL_ok oA oB tA tB) ⟨rfl, by simp [segs, OkL], trivial, fun p p0 p1 => by omega⟩
theorem mergeL_good {O A B : List (Int × Int)} (gO : Good O) (gA : Good A) (gB : Good B) (tA : total A = total O) (tB : total B = total O) (hl : ((mergeL O (zipL A B)).1.length : Int) ≤ 4096) : Good (segs (mergeL O (zipL A B)).1) ∧ total (segs (mergeL O (zipL A B)).1) = total O ∧ Fine (mergeL O (zipL A B)).1 := by
  obtain ⟨c, o, n, a⟩ := mergeL_pieces gO.2.1 gA.2.1 gB.2.1 rfl tA tB
  have t := c.total
  have p := total_pos gO.2.1 gO.1
  have g4 := gO.2.2.2.1
  refine ⟨⟨ne_of_total (by omega), o, n, by omega, by rw [segs_length]; exact hl⟩, by omega, c.fine (Int.le_refl _) (by omega) o⟩
end Go.Proofs.Ytfmplibjhohpgaa
