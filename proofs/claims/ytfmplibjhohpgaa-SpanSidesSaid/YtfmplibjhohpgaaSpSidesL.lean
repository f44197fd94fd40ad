/- Plain laws of Merge: with the base itself, and with the updates exchanged. No program in sight. -/
import Derived.Test.YtfmplibjhohpgaaSpMergeP
namespace Go.Proofs.Ytfmplibjhohpgaa
open Tr (total totalOf OkL)

theorem mfold_none (z : Pr) : ∀ (V : List Rn) (s : List Rn × List Ch), (∀ x ∈ V, z.b = x.tag) → (V.foldl (mstep z) s).2 = s.2 := by
  intro V
  induction V with
  | nil => intro s _; rfl
  | cons x V ih =>
    intro s h
    simp only [List.foldl_cons]
    rw [ih _ fun y hy => h y (by simp [hy])]
    unfold mstep
    rw [if_pos (.inr (h x (by simp)))]
theorem mergeL_base {O A : List (Int × Int)} (oO : OkL O) (oA : OkL A) {S : Int} (tO : total O = S) (tA : total A = S) : ∀ (Z : List Pr) (k : Int) (s : List Rn × List Ch), 0 ≤ k → ZOk A O S k Z → (Z.foldl (mZ O) s).2 = s.2 := by
  intro Z
  induction Z with
  | nil => intro k s _ _; rfl
  | cons z Z ih =>
    intro k s h0 hz
    obtain ⟨z1, z2, z3, z4, z5, z6⟩ := hz
    have g1 := endL_gt oA k h0 (by omega)
    have g2 := endL_gt oO k h0 (by omega)
    simp only [List.foldl_cons]
    rw [ih z.hi _ (by omega) z6]
    refine mfold_none z _ s fun x hx => ?_
    obtain ⟨a, b, c, d, e, f⟩ := clip_mem oO 0 x hx
    have h := f x.lo (Int.le_refl _) d
    rw [Int.sub_zero] at h
    rw [z5, ← h]
    exact ((endL_const oO k x.lo h0 (by omega) (by omega) (by omega)).1).symm
theorem merge_base {O A : List (Int × Int)} (gO : Good O) (gA : Good A) (tA : total A = total O) : mergeR O A O = (0, A, []) := by
  have c := mergeL_base gO.2.1 gA.2.1 rfl tA (zipL A O) 0 ([], []) (Int.le_refl _) (zipL_ok gA.2.1 gO.2.1 tA rfl)
  obtain ⟨c1, o, n, a⟩ := mergeL_pieces (O := O) (A := A) (B := O) gO.2.1 gA.2.1 gO.2.1 rfl tA rfl
  have t := c1.total
  have e : segs (mergeL O (zipL A O)).1 = A := by
    refine canon o gA.2.1 n gA.2.2.1 (by omega) fun p p0 p1 => ?_
    rw [a p p0 (by omega)]
    show mtag _ _ _ = _
    unfold mtag
    rw [if_pos (.inr rfl)]
  have l : (mergeL O (zipL A O)).1.length = A.length := by have := congrArg List.length e; rwa [segs_length] at this
  have c' : (mergeL O (zipL A O)).2 = [] := c
  unfold mergeR
  rw [if_neg (by simp [gO.1, gA.1]), if_neg (by simp [tA]), if_neg (by rw [l]; have := gA.2.2.2.2; omega), e, c']
theorem mstep_sw (z : Pr) (s : List Rn × List Ch) (r : Rn) : mstep (swPr z) (s.1, s.2.map swCh) r = ((mstep z s r).1, (mstep z s r).2.map swCh) := by
  unfold mstep
  show (if z.b = z.a ∨ z.a = r.tag then (pushRn s.1 ⟨r.lo, r.hi, z.b⟩, s.2.map swCh) else if z.b = r.tag then (pushRn s.1 ⟨r.lo, r.hi, z.a⟩, s.2.map swCh) else (pushRn s.1 r, noteL (s.2.map swCh) ⟨r.lo, r.hi, z.b, z.a⟩)) = _
  by_cases h1 : z.a = z.b
  · rw [if_pos (.inl h1.symm), if_pos (.inl h1), h1]
  · by_cases h2 : z.b = r.tag
    · rw [if_neg (fun h => h.elim (fun e => h1 e.symm) (fun e => h1 (e.trans h2.symm))), if_pos h2, if_pos (.inr h2)]
    · by_cases h3 : z.a = r.tag
      · rw [if_pos (.inr h3), if_neg (fun h => h.elim h1 h2), if_pos h3]
      · rw [if_neg (fun h => h.elim (fun e => h1 e.symm) h3), if_neg h2, if_neg (fun h => h.elim h1 h2), if_neg h3]
        rw [← noteL_sw]; rfl
theorem mfold_sw (z : Pr) : ∀ (V : List Rn) (s : List Rn × List Ch), V.foldl (mstep (swPr z)) (s.1, s.2.map swCh) = ((V.foldl (mstep z) s).1, (V.foldl (mstep z) s).2.map swCh) := by
  intro V
  induction V with
  | nil => intro s; rfl
  | cons x V ih => intro s; simp only [List.foldl_cons]; rw [mstep_sw, ih]
theorem mergeL_sw (O : List (Int × Int)) : ∀ (Z : List Pr) (s : List Rn × List Ch), (Z.map swPr).foldl (mZ O) (s.1, s.2.map swCh) = ((Z.foldl (mZ O) s).1, (Z.foldl (mZ O) s).2.map swCh) := by
  intro Z
  induction Z with
  | nil => intro s; rfl
  | cons z Z ih =>
    intro s
    simp only [List.map_cons, List.foldl_cons]
    have : mZ O (s.1, s.2.map swCh) (swPr z) = ((mZ O s z).1, (mZ O s z).2.map swCh) := mfold_sw z _ s
    rw [this, ih]
theorem merge_few {O A B : List (Int × Int)} (gO : Good O) (gA : Good A) (gB : Good B) (tA : total A = total O) (tB : total B = total O) (hl : O.length + A.length + B.length ≤ 4096) : mergeR O A B = (0, segs (mergeL O (zipL A B)).1, (mergeL O (zipL A B)).2) := by
  have a := merge_count gO.2.1 gA.2.1 gB.2.1 tA tB (zipL A B) 0 ([], []) (Int.le_refl _) (zipL_ok gA.2.1 gB.2.1 tA tB)
  have b := clipL_length 0 (total O) 0 O
  have c : (zipL A B).length ≤ A.length + B.length := zipN_length _ _ _ _
  have d : (mergeL O (zipL A B)).1.length ≤ 4096 := by
    unfold mergeL
    simp only [List.length_nil] at a
    omega
  unfold mergeR
  rw [if_neg (by simp [gO.1, gA.1, gB.1]), if_neg (by simp [tA, tB]), if_neg (by omega)]
theorem merge_back {O A B : List (Int × Int)} (gO : Good O) (gA : Good A) (gB : Good B) (tA : total A = total O) (tB : total B = total O) (hl : O.length + A.length + B.length ≤ 4096) : mergeR O B A = (0, (mergeR O A B).2.1, (mergeR O A B).2.2.map swCh) := by
  rw [merge_few gO gA gB tA tB hl, merge_few gO gB gA tB tA (by omega), zipL_swap A B]
  have := mergeL_sw O (zipL A B) ([], [])
  unfold mergeL
  simp only [List.map_nil] at this
  rw [this]
end Go.Proofs.Ytfmplibjhohpgaa
