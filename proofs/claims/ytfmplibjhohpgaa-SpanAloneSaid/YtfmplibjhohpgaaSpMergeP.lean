/- Plain law of Merge: the runs that it makes have the pieces that the document says. No program in sight. What Merge computes, as a walk over three maps at once. No program in sight. Plain laws of updates of ranges without a common piece: either order has the same result, and so has their merge, without conflicts. No program in sight. -/
import Derived.Test.YtfmplibjhohpgaaSpZipL
namespace Go.Proofs.Ytfmplibjhohpgaa
section
open Tr (total totalOf OkL)

/-- The tag of a piece of a merge. -/
def mtag (was a b : Int) : Int := if a = b ∨ b = was then a else if a = was then b else was
theorem mtag_tag {was a b : Int} (h0 : 0 ≤ was ∧ was < 16) (h1 : 0 ≤ a ∧ a < 16) (h2 : 0 ≤ b ∧ b < 16) : 0 ≤ mtag was a b ∧ mtag was a b < 16 := by
  unfold mtag; split
  · exact h1
  · split
    · exact h2
    · exact h0
/-- Runs from 0 to a piece that have the tags that f tells. -/
def PInv (f : Int → Int) (k : Int) (R : List Rn) : Prop := Chain 0 R k ∧ OkL (segs R) ∧ Norm (segs R) ∧ ∀ p, 0 ≤ p → p < k → atL (segs R) p = f p
theorem PInv.push {f : Int → Int} {k : Int} {R : List Rn} {r : Rn} (h : PInv f k R) (h1 : r.lo = k) (h2 : r.lo < r.hi) (h3 : 0 ≤ r.tag ∧ r.tag < 16) (h4 : ∀ p, r.lo ≤ p → p < r.hi → f p = r.tag) : PInv f r.hi (pushRn R r) := by
  obtain ⟨c, o, n, a⟩ := h
  have c' : Chain 0 R r.lo := by rw [h1]; exact c
  have e := pushRn_segs c'
  have o1 : OkL [(r.hi - r.lo, r.tag)] := OkL.cons.2 ⟨⟨by dsimp only; omega, h3.1, h3.2⟩, by simp [OkL]⟩
  have t := c.total
  refine ⟨pushRn_chain c' h2, by rw [e]; exact concatL_ok o o1, by rw [e]; exact concatL_norm n ⟨by simp, trivial⟩, fun p p0 p1 => ?_⟩
  rw [e, concatL_at o o1 p p0, t]
  by_cases q : p < k - 0
  · rw [if_pos q]; exact a p p0 (by omega)
  · rw [if_neg q]
    simp only [atL]
    rw [if_pos (by omega)]
    exact (h4 p (by omega) p1).symm
theorem clip_mem {lo hi : Int} {O : List (Int × Int)} (o : OkL O) : ∀ (k : Int) (x : Rn), x ∈ clipL lo hi k O → lo ≤ x.lo ∧ x.hi ≤ hi ∧ k ≤ x.lo ∧ x.lo < x.hi ∧ (0 ≤ x.tag ∧ x.tag < 16) ∧ ∀ p, x.lo ≤ p → p < x.hi → atL O (p - k) = x.tag := by
  induction O with
  | nil => intro k x hx; simp [clipL] at hx
  | cons y O ih =>
    intro k x hx
    have o' := OkL.cons.1 o
    simp only [clipL, List.mem_append] at hx
    rcases hx with hx | hx
    · by_cases c : max k lo < min (k + y.1) hi
      · rw [if_pos c] at hx
        simp only [List.mem_cons, List.not_mem_nil, or_false] at hx
        subst hx
        refine ⟨by dsimp only; omega, by dsimp only; omega, by dsimp only; omega, c, o'.1.2, fun p p0 p1 => ?_⟩
        dsimp only at p0 p1
        simp only [atL]
        rw [if_pos (by omega)]
      · rw [if_neg c] at hx; simp at hx
    · obtain ⟨a, b, c, d, e, f⟩ := ih o'.2 (k + y.1) x hx
      refine ⟨a, b, by omega, d, e, fun p p0 p1 => ?_⟩
      simp only [atL]
      rw [if_neg (by omega), show p - k - y.1 = p - (k + y.1) from by omega]
      exact f p p0 p1
theorem mfold_inv {O A B : List (Int × Int)} {z : Pr} (ta : 0 ≤ z.a ∧ z.a < 16) (tb : 0 ≤ z.b ∧ z.b < 16) : ∀ (V : List Rn) (k e : Int) (s : List Rn × List Ch), Chain k V e → (∀ p, k ≤ p → p < e → atL A p = z.a ∧ atL B p = z.b) → (∀ x ∈ V, (0 ≤ x.tag ∧ x.tag < 16) ∧ ∀ p, x.lo ≤ p → p < x.hi → atL O p = x.tag) →
    PInv (fun p => mtag (atL O p) (atL A p) (atL B p)) k s.1 → PInv (fun p => mtag (atL O p) (atL A p) (atL B p)) e (V.foldl (mstep z) s).1 := by
  intro V
  induction V with
  | nil => intro k e s hc _ _ hs; have hc : k = e := hc; rw [← hc]; exact hs
  | cons x V ih =>
    intro k e s hc hab hx hs
    obtain ⟨c1, c2, c3⟩ := hc
    have le := c3.le
    obtain ⟨x1, x2⟩ := hx x (by simp)
    refine ih x.hi e (mstep z s x) c3 (fun p p0 p1 => hab p (by omega) p1) (fun y hy => hx y (by simp [hy])) ?_
    have key : ∀ p, x.lo ≤ p → p < x.hi → mtag (atL O p) (atL A p) (atL B p) = mtag x.tag z.a z.b := fun p p0 p1 => by
      obtain ⟨a1, a2⟩ := hab p (by omega) (by omega)
      rw [x2 p p0 p1, a1, a2]
    unfold mstep
    by_cases h1 : z.a = z.b ∨ z.b = x.tag
    · rw [if_pos h1]
      exact hs.push (r := ⟨x.lo, x.hi, z.a⟩) c1 (by dsimp only; omega) ta fun p p0 p1 => by
        show mtag _ _ _ = _
        rw [key p p0 p1]; unfold mtag; rw [if_pos h1]
    · rw [if_neg h1]
      by_cases h2 : z.a = x.tag
      · rw [if_pos h2]
        exact hs.push (r := ⟨x.lo, x.hi, z.b⟩) c1 (by dsimp only; omega) tb fun p p0 p1 => by
          show mtag _ _ _ = _
          rw [key p p0 p1]; unfold mtag; rw [if_neg h1, if_pos h2]
      · rw [if_neg h2]
        exact hs.push (r := x) c1 (by omega) x1 fun p p0 p1 => by
          show mtag _ _ _ = _
          rw [key p p0 p1]; unfold mtag; rw [if_neg h1, if_neg h2]
theorem mergeL_inv {O A B : List (Int × Int)} (oO : OkL O) (oA : OkL A) (oB : OkL B) {S : Int} (tO : total O = S) (tA : total A = S) (tB : total B = S) : ∀ (Z : List Pr) (k : Int) (s : List Rn × List Ch), 0 ≤ k → ZOk A B S k Z → PInv (fun p => mtag (atL O p) (atL A p) (atL B p)) k s.1 → PInv (fun p => mtag (atL O p) (atL A p) (atL B p)) S (Z.foldl (mZ O) s).1 := by
  intro Z
  induction Z with
  | nil => intro k s _ hz hs; have hz : k = S := hz; rw [← hz]; exact hs
  | cons z Z ih =>
    intro k s h0 hz hs
    obtain ⟨z1, z2, z3, z4, z5, z6⟩ := hz
    have g1 := endL_gt oA k h0 (by omega)
    have g2 := endL_gt oB k h0 (by omega)
    refine ih z.hi _ (by omega) z6 ?_
    have ch : Chain k (clipL z.lo z.hi 0 O) z.hi := by
      have := clipL_chain (lo := z.lo) (hi := z.hi) (k := 0) oO (by omega) (by omega)
      rwa [show max 0 z.lo = k from by omega] at this
    have ta := atL_tag oA (q := k) (by omega)
    have tb := atL_tag oB (q := k) (by omega)
    rw [← z4] at ta
    rw [← z5] at tb
    refine mfold_inv ta tb _ k z.hi s ch (fun p p0 p1 => ⟨?_, ?_⟩) (fun x hx => ?_) hs
    · rw [z4]; exact (endL_const oA k p h0 (by omega) (by omega) (by omega)).1
    · rw [z5]; exact (endL_const oB k p h0 (by omega) (by omega) (by omega)).1
    · obtain ⟨_, _, _, _, e, f⟩ := clip_mem oO 0 x hx
      exact ⟨e, fun p p0 p1 => by have := f p p0 p1; rwa [Int.sub_zero] at this⟩
/-- What Merge returns. -/
def mergeR (O A B : List (Int × Int)) : Int × List (Int × Int) × List Ch :=
  if O = [] ∨ A = [] ∨ B = [] then (1, [], []) else if total A ≠ total O ∨ total B ≠ total O then (2, [], [])
  else if 4096 < ((mergeL O (zipL A B)).1.length : Int) then (5, [], []) else (0, segs (mergeL O (zipL A B)).1, (mergeL O (zipL A B)).2)
theorem mergeL_pieces {O A B : List (Int × Int)} (oO : OkL O) (oA : OkL A) (oB : OkL B) {S : Int} (tO : total O = S) (tA : total A = S) (tB : total B = S) : PInv (fun p => mtag (atL O p) (atL A p) (atL B p)) S (mergeL O (zipL A B)).1 :=
  mergeL_inv oO oA oB tO tA tB _ 0 ([], []) (Int.le_refl _) (zipL_ok oA oB tA tB) ⟨rfl, by simp [segs, OkL], trivial, fun p p0 p1 => by omega⟩
theorem mergeL_good {O A B : List (Int × Int)} (gO : Good O) (gA : Good A) (gB : Good B) (tA : total A = total O) (tB : total B = total O) (hl : ((mergeL O (zipL A B)).1.length : Int) ≤ 4096) : Good (segs (mergeL O (zipL A B)).1) ∧ total (segs (mergeL O (zipL A B)).1) = total O ∧ Fine (mergeL O (zipL A B)).1 := by
  obtain ⟨c, o, n, a⟩ := mergeL_pieces gO.2.1 gA.2.1 gB.2.1 rfl tA tB
  have t := c.total
  have p := total_pos gO.2.1 gO.1
  have g4 := gO.2.2.2.1
  refine ⟨⟨ne_of_total (by omega), o, n, by omega, by rw [segs_length]; exact hl⟩, by omega, c.fine (Int.le_refl _) (by omega) o⟩
end
section
open Tr (total totalOf OkL)

/-- The runs of the base within each pair. -/
def flat (O : List (Int × Int)) (Z : List Pr) : List (Rn × Pr) := Z.flatMap fun z => (clipL z.lo z.hi 0 O).map fun r => (r, z)
/-- One step of Merge. -/
def tstep (s : List Rn × List Ch) (x : Rn × Pr) : List Rn × List Ch := mstep x.2 s x.1
theorem mergeL_flat (O : List (Int × Int)) : ∀ (Z : List Pr) (s : List Rn × List Ch), Z.foldl (mZ O) s = (flat O Z).foldl tstep s := by
  intro Z
  induction Z with
  | nil => intro s; rfl
  | cons z Z ih =>
    intro s
    have e : flat O (z :: Z) = ((clipL z.lo z.hi 0 O).map fun r => (r, z)) ++ flat O Z := rfl
    rw [e, List.foldl_append, List.foldl_cons, ih, List.foldl_map]
    rfl
/-- Steps from a piece to the end: each as long as all three tags last. -/
def TOk (O A B : List (Int × Int)) (S : Int) : Int → List (Rn × Pr) → Prop
  | k, [] => k = S
  | k, x :: T => x.1.lo = k ∧ k < S ∧ k < x.1.hi ∧ x.1.hi ≤ S ∧ x.1.hi = min (endL O k) (min (endL A k) (endL B k)) ∧ x.1.tag = atL O k ∧ x.2.a = atL A k ∧ x.2.b = atL B k ∧ TOk O A B S x.1.hi T
theorem TOk.append {O A B : List (Int × Int)} {S : Int} {z : Pr} {T : List (Rn × Pr)} {e : Int} : ∀ (V : List Rn) (k : Int), Chain k V e → TOk O A B S e T → (∀ r ∈ V, r.lo < S ∧ r.hi ≤ S ∧ r.hi = min (endL O r.lo) (min (endL A r.lo) (endL B r.lo)) ∧ r.tag = atL O r.lo ∧ z.a = atL A r.lo ∧ z.b = atL B r.lo) → TOk O A B S k ((V.map fun r => (r, z)) ++ T) := by
  intro V
  induction V with
  | nil => intro k hc hT _; have hc : k = e := hc; rw [hc]; exact hT
  | cons r V ih =>
    intro k hc hT h
    obtain ⟨c1, c2, c3⟩ := hc
    obtain ⟨a, b, c, d, e1, e2⟩ := h r (by simp)
    rw [c1] at a c d e1 e2
    exact ⟨c1, a, c2, b, c, d, e1, e2, ih r.hi c3 hT fun x hx => h x (by simp [hx])⟩
theorem clip_end {lo hi : Int} {O : List (Int × Int)} (o : OkL O) : ∀ (k : Int) (x : Rn), 0 ≤ k → x ∈ clipL lo hi k O → x.hi = min (k + endL O (x.lo - k)) hi := by
  induction O with
  | nil => intro k x _ hx; simp [clipL] at hx
  | cons y O ih =>
    intro k x h0 hx
    have o' := OkL.cons.1 o
    simp only [clipL, List.mem_append] at hx
    rcases hx with hx | hx
    · by_cases c : max k lo < min (k + y.1) hi
      · rw [if_pos c] at hx
        simp only [List.mem_cons, List.not_mem_nil, or_false] at hx
        subst hx
        simp only [endL]
        rw [if_pos (by omega)]
      · rw [if_neg c] at hx; simp at hx
    · have i := ih o'.2 (k + y.1) x (by omega) hx
      obtain ⟨_, _, c, _, _, _⟩ := clip_mem o'.2 (k + y.1) x hx
      simp only [endL]
      rw [if_neg (by omega), i, show x.lo - (k + y.1) = x.lo - k - y.1 from by omega]
      omega
theorem tok {O A B : List (Int × Int)} (oO : OkL O) (oA : OkL A) (oB : OkL B) {S : Int} (tO : total O = S) (tA : total A = S) (tB : total B = S) : ∀ (Z : List Pr) (k : Int), 0 ≤ k → ZOk A B S k Z → TOk O A B S k (flat O Z) := by
  intro Z
  induction Z with
  | nil => intro k _ h; exact h
  | cons z Z ih =>
    intro k h0 hz
    obtain ⟨z1, z2, z3, z4, z5, z6⟩ := hz
    have g1 := endL_gt oA k h0 (by omega)
    have g2 := endL_gt oB k h0 (by omega)
    have ch : Chain k (clipL z.lo z.hi 0 O) z.hi := by
      have := clipL_chain (lo := z.lo) (hi := z.hi) (k := 0) oO (by omega) (by omega)
      rwa [show max 0 z.lo = k from by omega] at this
    refine TOk.append (clipL z.lo z.hi 0 O) k ch (ih z.hi (by omega) z6) fun r hr => ?_
    obtain ⟨a, b, c, d, _, f⟩ := clip_mem oO 0 r hr
    have e := clip_end oO 0 r (Int.le_refl _) hr
    rw [Int.sub_zero, Int.zero_add] at e
    have ft := f r.lo (Int.le_refl _) d
    rw [Int.sub_zero] at ft
    have eA := endL_const oA k r.lo h0 (by omega) (by omega) (by omega)
    have eB := endL_const oB k r.lo h0 (by omega) (by omega) (by omega)
    refine ⟨by omega, by omega, ?_, ft.symm, by rw [eA.1]; exact z4, by rw [eB.1]; exact z5⟩
    rw [eA.2, eB.2, e, z3]
/-- The reference's choice of a tag is the program's. -/
theorem mstep_ref (x y was lo hi : Int) (z : Pr) (r : Rn) (s : List Rn × List Ch) (hx : z.a = x) (hy : z.b = y) (hw : r.tag = was) (h1 : r.lo = lo) (h2 : r.hi = hi) (hlt : lo < hi) :
    mstep z s r = if x = y then (joinRn s.1 ⟨lo, hi, x⟩, s.2) else if x = was then (joinRn s.1 ⟨lo, hi, y⟩, s.2) else if y = was then (joinRn s.1 ⟨lo, hi, x⟩, s.2) else (joinRn s.1 ⟨lo, hi, was⟩, noteL s.2 ⟨lo, hi, x, y⟩) := by
  have er : r = ⟨lo, hi, was⟩ := Rn.ext_ h1 h2 hw
  subst hx hy
  unfold mstep joinRn
  rw [er]
  dsimp only
  rw [if_pos hlt, if_pos hlt, if_pos hlt]
  by_cases a : z.a = z.b
  · rw [if_pos (.inl a), if_pos a]
  · by_cases b : z.b = was
    · rw [if_pos (.inr b), if_neg a, if_neg (fun h => a (h.trans b.symm)), if_pos b]
    · rw [if_neg (fun h => h.elim a b), if_neg a]
      by_cases c : z.a = was
      · rw [if_pos c, if_pos c]
      · rw [if_neg c, if_neg c, if_neg b]
end
section
open Tr (total totalOf OkL)

/-- An update that a map of a size takes. -/
def okA (S : Int) (x : Ac) : Prop := (0 ≤ x.lo ∧ x.lo ≤ x.hi ∧ x.hi ≤ S) ∧ (x.swap = true → 0 ≤ x.frm ∧ x.frm < 16) ∧ 0 ≤ x.to ∧ x.to < 16
/-- Whether an update turns a piece that has a tag. -/
def hitA (S : Int) (x : Ac) (p t : Int) : Prop := okA S x ∧ (x.lo ≤ p ∧ p < x.hi) ∧ (x.swap = true → t = x.frm)
theorem actL_at {L : List (Int × Int)} (g : Good L) {S : Int} (tL : total L = S) (hl : L.length + 2 ≤ 4096) (x : Ac) (p : Int) (p0 : 0 ≤ p) : (hitA S x p (atL L p) → atL (actL L x) p = x.to) ∧ (¬ hitA S x p (atL L p) → atL (actL L x) p = atL L p) := by
  rcases actR_cases g x with ⟨h, _⟩ | ⟨h, _, _, h3⟩
  · have e : actL L x = L := by unfold actL; rw [if_neg h]
    rw [e]
    refine ⟨fun hh => ?_, fun _ => rfl⟩
    exfalso
    obtain ⟨⟨⟨a1, a2, a3⟩, b, c1, c2⟩, _⟩ := hh
    apply h
    unfold actR
    by_cases hs : x.swap = true
    · obtain ⟨f0, f1⟩ := b hs
      have ll := swapL_length g.2.1 a1 a2 x.frm x.to
      rw [if_pos hs]
      unfold swapR
      rw [if_neg g.1, if_neg (by omega), if_neg (by omega), if_neg (by omega)]
    · have ll := setL_length L x.lo x.hi x.to
      rw [if_neg hs]
      unfold setR
      rw [if_neg g.1, if_neg (by omega), if_neg (by omega), if_neg (by omega)]
  · have e : actL L x = (actR L x).2 := by unfold actL; rw [if_pos h]
    rw [e, h3 p p0]
    have ok : okA S x := by
      unfold actR at h
      by_cases hs : x.swap = true
      · rw [if_pos hs] at h
        unfold swapR at h
        rw [if_neg g.1] at h
        by_cases q1 : x.lo < 0 ∨ x.hi < x.lo ∨ total L < x.hi
        · rw [if_pos q1] at h; simp at h
        rw [if_neg q1] at h
        by_cases q2 : (x.frm < 0 ∨ 16 ≤ x.frm) ∨ (x.to < 0 ∨ 16 ≤ x.to)
        · rw [if_pos q2] at h; simp at h
        exact ⟨⟨by omega, by omega, by omega⟩, fun _ => ⟨by omega, by omega⟩, by omega, by omega⟩
      · rw [if_neg hs] at h
        unfold setR at h
        rw [if_neg g.1] at h
        by_cases q1 : x.lo < 0 ∨ x.hi < x.lo ∨ total L < x.hi
        · rw [if_pos q1] at h; simp at h
        rw [if_neg q1] at h
        by_cases q2 : x.to < 0 ∨ 16 ≤ x.to
        · rw [if_pos q2] at h; simp at h
        exact ⟨⟨by omega, by omega, by omega⟩, fun hh => absurd hh hs, by omega, by omega⟩
    refine ⟨fun hh => ?_, fun hh => ?_⟩
    · rw [if_pos hh.2]
    · rw [if_neg fun h' => hh ⟨ok, h'⟩]
/-- Ranges without a common piece. -/
def apartA (a b : Ac) : Prop := ¬ (a.lo < b.hi ∧ b.lo < a.hi ∧ a.lo < a.hi ∧ b.lo < b.hi)
theorem apartA.hit {a b : Ac} (h : apartA a b) {S p t u : Int} (h1 : hitA S a p t) (h2 : hitA S b p u) : False := by
  obtain ⟨_, ⟨a1, a2⟩, _⟩ := h1
  obtain ⟨_, ⟨b1, b2⟩, _⟩ := h2
  exact h ⟨by omega, by omega, by omega, by omega⟩
section
variable {M : List (Int × Int)} (g : Good M) {S : Int} (tM : total M = S) (hl : M.length + 4 ≤ 4096) {a b : Ac} (hab : apartA a b)
include g tM hl
theorem disj_at (p : Int) (p0 : 0 ≤ p) : (hitA S b p (atL (actL M a) p) → atL (actL (actL M a) b) p = b.to) ∧ (¬ hitA S b p (atL (actL M a) p) → atL (actL (actL M a) b) p = atL (actL M a) p) := by
  obtain ⟨g1, t1⟩ := actL_facts g a
  have l1 := actL_length g a
  exact actL_at g1 (t1.trans tM) (by omega) b p p0
include hab
/-- The pieces after both updates. -/
theorem disj_tag (p : Int) (p0 : 0 ≤ p) : (hitA S a p (atL M p) → atL (actL (actL M a) b) p = a.to) ∧ (hitA S b p (atL M p) → atL (actL (actL M a) b) p = b.to) ∧ (¬ hitA S a p (atL M p) → ¬ hitA S b p (atL M p) → atL (actL (actL M a) b) p = atL M p) := by
  obtain ⟨x1, x2⟩ := actL_at g tM (by omega) a p p0
  obtain ⟨y1, y2⟩ := disj_at g tM hl (a := a) (b := b) p p0
  refine ⟨fun h => ?_, fun h => ?_, fun h h' => ?_⟩
  · rw [y2 fun hb => hab.hit h hb]; exact x1 h
  · have e : atL (actL M a) p = atL M p := x2 fun ha => hab.hit ha h
    rw [e] at y1; exact y1 h
  · have e : atL (actL M a) p = atL M p := x2 h
    rw [e] at y2; exact y2 h'
end
theorem apartA.symm {a b : Ac} (h : apartA a b) : apartA b a := fun ⟨h1, h2, h3, h4⟩ => h ⟨h2, h1, h4, h3⟩
/-- Either order has the same result. -/
theorem disj_comm {M : List (Int × Int)} (g : Good M) (hl : M.length + 4 ≤ 4096) {a b : Ac} (hab : apartA a b) : actL (actL M a) b = actL (actL M b) a := by
  obtain ⟨ga, ta⟩ := actL_facts g a
  obtain ⟨gb, tb⟩ := actL_facts g b
  obtain ⟨gx, tx⟩ := actL_facts ga b
  obtain ⟨gy, ty⟩ := actL_facts gb a
  refine canon gx.2.1 gy.2.1 gx.2.2.1 gy.2.2.1 (by omega) fun p p0 _ => ?_
  obtain ⟨u1, u2, u3⟩ := disj_tag g rfl hl hab p p0
  obtain ⟨v1, v2, v3⟩ := disj_tag g rfl hl hab.symm p p0
  by_cases h : hitA (total M) a p (atL M p)
  · rw [u1 h, v2 h]
  · by_cases h' : hitA (total M) b p (atL M p)
    · rw [u2 h', v1 h']
    · rw [u3 h h', v3 h' h]
/-- The merge of both updates is both updates. -/
theorem disj_mtag {M : List (Int × Int)} (g : Good M) (hl : M.length + 4 ≤ 4096) {a b : Ac} (hab : apartA a b) (p : Int) (p0 : 0 ≤ p) : mtag (atL M p) (atL (actL M a) p) (atL (actL M b) p) = atL (actL (actL M a) b) p ∧ (atL (actL M a) p = atL M p ∨ atL (actL M b) p = atL M p) := by
  obtain ⟨u1, u2, u3⟩ := disj_tag g rfl hl hab p p0
  obtain ⟨a1, a2⟩ := actL_at g rfl (by omega) a p p0
  obtain ⟨b1, b2⟩ := actL_at g rfl (by omega) b p p0
  by_cases h : hitA (total M) a p (atL M p)
  · have h' : ¬ hitA (total M) b p (atL M p) := fun hb => hab.hit h hb
    rw [a1 h, b2 h', u1 h]
    exact ⟨by unfold mtag; rw [if_pos (.inr rfl)], .inr rfl⟩
  · by_cases h' : hitA (total M) b p (atL M p)
    · rw [a2 h, b1 h', u2 h']
      refine ⟨?_, .inl rfl⟩
      unfold mtag
      by_cases q : atL M p = b.to ∨ b.to = atL M p
      · rw [if_pos q]; exact q.elim id Eq.symm
      · rw [if_neg q, if_pos rfl]
    · rw [a2 h, b2 h', u3 h h']
      exact ⟨by unfold mtag; rw [if_pos (.inl rfl)], .inl rfl⟩
/-- Without a piece where all three differ there are no conflicts. -/
theorem tfold_none {O A B : List (Int × Int)} {S : Int} (h : ∀ p, 0 ≤ p → p < S → atL A p = atL O p ∨ atL B p = atL O p) : ∀ (T : List (Rn × Pr)) (k : Int) (s : List Rn × List Ch), 0 ≤ k → TOk O A B S k T → (T.foldl tstep s).2 = s.2 := by
  intro T
  induction T with
  | nil => intro k s _ _; rfl
  | cons t T ih =>
    intro k s h0 hT
    obtain ⟨_, h2, h3, _, _, h6, h7, h8, h9⟩ := hT
    simp only [List.foldl_cons]
    rw [ih _ _ (by omega) h9]
    unfold tstep mstep
    rcases h k h0 h2 with q | q
    · by_cases c : t.2.a = t.2.b ∨ t.2.b = t.1.tag
      · rw [if_pos c]
      · rw [if_neg c, if_pos (by rw [h7, h6, q])]
    · rw [if_pos (.inr (by rw [h8, h6, q]))]
theorem disj_merge {M : List (Int × Int)} (g : Good M) (hl : M.length * 3 + 8 ≤ 4096) {a b : Ac} (hab : apartA a b) : mergeR M (actL M a) (actL M b) = (0, actL (actL M a) b, []) := by
  obtain ⟨ga, ta⟩ := actL_facts g a
  obtain ⟨gb, tb⟩ := actL_facts g b
  obtain ⟨gx, tx⟩ := actL_facts ga b
  have la := actL_length g a
  have lx := actL_length ga b
  obtain ⟨c, o, n, at_⟩ := mergeL_pieces g.2.1 ga.2.1 gb.2.1 rfl ta tb
  have t := c.total
  have e : segs (mergeL M (zipL (actL M a) (actL M b))).1 = actL (actL M a) b := by
    refine canon o gx.2.1 n gx.2.2.1 (by omega) fun p p0 p1 => ?_
    rw [at_ p p0 (by omega)]
    exact (disj_mtag g (by omega) hab p p0).1
  have f : (mergeL M (zipL (actL M a) (actL M b))).2 = [] := by
    have hk := tok g.2.1 ga.2.1 gb.2.1 rfl ta tb (zipL (actL M a) (actL M b)) 0 (Int.le_refl _) (zipL_ok ga.2.1 gb.2.1 ta tb)
    have := tfold_none (S := total M) (fun p p0 _ => (disj_mtag g (by omega) hab p p0).2) _ 0 ([], []) (Int.le_refl _) hk
    rw [← mergeL_flat] at this
    exact this
  have l : (mergeL M (zipL (actL M a) (actL M b))).1.length = (actL (actL M a) b).length := by have := congrArg List.length e; rwa [segs_length] at this
  unfold mergeR
  rw [if_neg (by simp [g.1, ga.1, gb.1]), if_neg (by simp [ta, tb]), if_neg (by rw [l]; omega), e, f]
end
end Go.Proofs.Ytfmplibjhohpgaa
