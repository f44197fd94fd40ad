/- The reference's updates on plain lists of runs: they compute what Set and Swap compute. No program in sight. -/
import Derived.Test.YtfmplibjhohpgaaSpLaws
namespace Go.Proofs.Ytfmplibjhohpgaa
open Tr (total totalOf OkL)

/-- A list of runs with one behind it, if it has pieces. -/
def joinRn (l : List Rn) (x : Rn) : List Rn := if x.lo < x.hi then pushRn l x else l
def loA (lo : Int) (x : Rn) : Int := max x.lo (min lo x.hi)
def hiB (hi : Int) (x : Rn) : Int := min x.hi (max hi x.lo)
def tagT (any : Bool) (from_ to : Int) (x : Rn) : Int := if any = true ∨ x.tag = from_ then to else x.tag
def stepR (any : Bool) (lo hi from_ to : Int) (out : List Rn) (x : Rn) : List Rn :=
  joinRn (joinRn (joinRn out ⟨x.lo, loA lo x, x.tag⟩) ⟨loA lo x, hiB hi x, tagT any from_ to x⟩) ⟨max (loA lo x) (hiB hi x), x.hi, x.tag⟩
def refL (any : Bool) (lo hi from_ to : Int) (V : List Rn) : List Rn := V.foldl (stepR any lo hi from_ to) []
def addN (any : Bool) (lo hi from_ : Int) (x : Rn) : Int := if any = true ∨ x.tag = from_ then max 0 (hiB hi x - loA lo x) else 0
def refN (any : Bool) (lo hi from_ : Int) (V : List Rn) : Int := (V.map (addN any lo hi from_)).sum
theorem refL_snoc (any : Bool) (lo hi from_ to : Int) (V : List Rn) (x : Rn) : refL any lo hi from_ to (V ++ [x]) = stepR any lo hi from_ to (refL any lo hi from_ to V) x := by simp [refL]
theorem refN_snoc (any : Bool) (lo hi from_ : Int) (V : List Rn) (x : Rn) : refN any lo hi from_ (V ++ [x]) = refN any lo hi from_ V + addN any lo hi from_ x := by simp [refN]
theorem joinRn_chain {lo : Int} {l : List Rn} {x : Rn} (h : Chain lo l x.lo) (hx : x.lo ≤ x.hi) : Chain lo (joinRn l x) x.hi := by
  unfold joinRn
  split
  · rename_i c; exact pushRn_chain h c
  · have e : x.lo = x.hi := by omega
    rw [← e]; exact h
theorem concatL_none (a : List (Int × Int)) : concatL a [] = a := by
  rcases nil_or_snoc a with rfl | ⟨a, x, rfl⟩
  · rfl
  · rw [concatL_snoc]; rfl
theorem joinRn_segs {lo : Int} {l : List Rn} {x : Rn} (h : Chain lo l x.lo) (hx : x.lo ≤ x.hi) : segs (joinRn l x) = concatL (segs l) (leafL (x.hi - x.lo) x.tag) := by
  unfold joinRn leafL
  by_cases c : x.lo < x.hi
  · rw [if_pos c, if_neg (by omega), pushRn_segs h]
  · rw [if_neg c, if_pos (by omega), concatL_none]
theorem joinRn_length (l : List Rn) (x : Rn) : (joinRn l x).length ≤ l.length + 1 := by
  unfold joinRn; split
  · exact pushRn_length l x
  · omega
theorem stepR_length (any : Bool) (lo hi from_ to : Int) (l : List Rn) (x : Rn) : (stepR any lo hi from_ to l x).length ≤ l.length + 3 := by
  have h1 := joinRn_length l ⟨x.lo, loA lo x, x.tag⟩
  have h2 := joinRn_length (joinRn l ⟨x.lo, loA lo x, x.tag⟩) ⟨loA lo x, hiB hi x, tagT any from_ to x⟩
  have h3 := joinRn_length (joinRn (joinRn l ⟨x.lo, loA lo x, x.tag⟩) ⟨loA lo x, hiB hi x, tagT any from_ to x⟩) ⟨max (loA lo x) (hiB hi x), x.hi, x.tag⟩
  unfold stepR
  omega
theorem clamp {lo hi : Int} {x : Rn} (h : lo ≤ hi) (hx : x.lo ≤ x.hi) : x.lo ≤ loA lo x ∧ loA lo x ≤ hiB hi x ∧ hiB hi x ≤ x.hi ∧ max (loA lo x) (hiB hi x) = hiB hi x := by
  unfold loA hiB; omega
theorem lay_snoc (k : Int) (P : List (Int × Int)) (x : Int × Int) : lay k (P ++ [x]) = lay k P ++ [⟨k + total P, k + total P + x.1, x.2⟩] := by
  induction P generalizing k with
  | nil => simp [lay, Tr.total]
  | cons y P ih =>
    rw [List.cons_append]
    simp only [lay]
    rw [ih, Tr.total_cons, List.cons_append]
    congr 4 <;> omega
theorem chain_lay {lo hi : Int} {l : List Rn} (h : Chain lo l hi) : lay lo (segs l) = l := by
  induction l generalizing lo with
  | nil => rfl
  | cons x l ih =>
    obtain ⟨h1, h2, h3⟩ := h
    show (⟨lo, lo + (x.hi - x.lo), x.tag⟩ : Rn) :: lay (lo + (x.hi - x.lo)) (segs l) = x :: l
    rw [show lo + (x.hi - x.lo) = x.hi from by omega, ih h3]
    congr 1
    exact Rn.ext_ h1.symm rfl rfl
/-- The pieces of the reference's list. -/
theorem refL_facts {any : Bool} {lo hi from_ to : Int} (h1 : lo ≤ hi) (t0 : 0 ≤ to) (t1 : to < 16) (P : List (Int × Int)) (ho : OkL P) :
    Chain 0 (refL any lo hi from_ to (lay 0 P)) (total P) ∧ OkL (segs (refL any lo hi from_ to (lay 0 P))) ∧ Norm (segs (refL any lo hi from_ to (lay 0 P))) ∧
      ∀ p, 0 ≤ p → p < total P → atL (segs (refL any lo hi from_ to (lay 0 P))) p = if (lo ≤ p ∧ p < hi) ∧ (any = true ∨ atL P p = from_) then to else atL P p := by
  obtain ⟨n, hn⟩ : ∃ n, P.length = n := ⟨_, rfl⟩
  induction n generalizing P with
  | zero =>
    obtain rfl := List.eq_nil_of_length_eq_zero hn
    exact ⟨rfl, by simp [refL, lay, segs, OkL], trivial, fun p h0 h1 => by rw [Tr.total_nil] at h1; omega⟩
  | succ n ih =>
    rcases nil_or_snoc P with rfl | ⟨P, x, rfl⟩
    · simp at hn
    obtain ⟨o1, o2⟩ := OkL.append.1 ho
    have ox := (OkL.cons.1 o2).1
    obtain ⟨i1, i2, i3, i4⟩ := ih P o1 (by simpa using hn)
    have kp := total_nonneg o1
    generalize hS : refL any lo hi from_ to (lay 0 P) = S at *
    rw [lay_snoc, refL_snoc, hS, Tr.total_append, Tr.total_cons, Tr.total_nil, Int.zero_add]
    generalize hK : total P = K at *
    have cl := clamp (lo := lo) (hi := hi) (x := ⟨K, K + x.1, x.2⟩) h1 (by dsimp only; omega)
    have va : loA lo ⟨K, K + x.1, x.2⟩ = max K (min lo (K + x.1)) := rfl
    have vb : hiB hi ⟨K, K + x.1, x.2⟩ = min (K + x.1) (max hi K) := rfl
    unfold stepR
    dsimp only at cl ⊢
    generalize loA lo ⟨K, K + x.1, x.2⟩ = a at *
    generalize hiB hi ⟨K, K + x.1, x.2⟩ = b at *
    obtain ⟨c1, c2, c3, c4⟩ := cl
    rw [c4]
    have tt : 0 ≤ tagT any from_ to ⟨K, K + x.1, x.2⟩ ∧ tagT any from_ to ⟨K, K + x.1, x.2⟩ < 16 := by
      unfold tagT; split
      · exact ⟨t0, t1⟩
      · exact ox.2
    have vt : tagT any from_ to ⟨K, K + x.1, x.2⟩ = if any = true ∨ x.2 = from_ then to else x.2 := rfl
    generalize tagT any from_ to ⟨K, K + x.1, x.2⟩ = t at *
    have j1 := joinRn_chain (x := ⟨K, a, x.2⟩) i1 c1
    have j2 := joinRn_chain (x := ⟨a, b, t⟩) j1 c2
    have j3 := joinRn_chain (x := ⟨b, K + x.1, x.2⟩) j2 c3
    have s1 := joinRn_segs (x := ⟨K, a, x.2⟩) i1 c1
    have s2 := joinRn_segs (x := ⟨a, b, t⟩) j1 c2
    have s3 := joinRn_segs (x := ⟨b, K + x.1, x.2⟩) j2 c3
    dsimp only at j3 s1 s2 s3
    rw [s1] at s2
    rw [s2] at s3
    have f1 := leafL_ok (by omega : 0 ≤ a - K) ox.2.1 ox.2.2
    have f2 := leafL_ok (by omega : 0 ≤ b - a) tt.1 tt.2
    have f3 := leafL_ok (by omega : 0 ≤ K + x.1 - b) ox.2.1 ox.2.2
    have e1 := concatL_ok i2 f1
    have e2 := concatL_ok e1 f2
    have tS : total (segs S) = K := by rw [i1.total]; omega
    rw [s3]
    refine ⟨by rw [show K + (x.1 + 0) = K + x.1 from by omega]; exact j3, concatL_ok e2 f3, concatL_norm (concatL_norm (concatL_norm i3 (leafL_norm _ _)) (leafL_norm _ _)) (leafL_norm _ _), fun p p0 p1 => ?_⟩
    rw [concatL_at e2 f3 p p0, concatL_total, concatL_total, leafL_total, leafL_total, tS, atL_append o1 p p0, hK]
    by_cases q1 : p < K
    · rw [if_pos (by omega), concatL_at e1 f2 p p0, concatL_total, leafL_total, tS, if_pos (by omega), concatL_at i2 f1 p p0, tS, if_pos q1, if_pos q1]
      exact i4 p p0 q1
    · have ax : atL [x] (p - K) = x.2 := by simp only [atL]; rw [if_pos (by omega)]
      rw [if_neg q1, ax]
      by_cases q2 : p < b
      · rw [if_pos (by omega), concatL_at e1 f2 p p0, concatL_total, leafL_total, tS]
        by_cases q3 : p < a
        · rw [if_pos (by omega), concatL_at i2 f1 p p0, tS, if_neg q1, leafL_at (by omega) (by omega), if_neg (by omega)]
        · rw [if_neg (by omega), leafL_at (by omega) (by omega), vt]
          by_cases q4 : any = true ∨ x.2 = from_
          · rw [if_pos q4, if_pos ⟨by omega, q4⟩]
          · rw [if_neg q4, if_neg (fun h => q4 h.2)]
      · rw [if_neg (by omega), leafL_at (by omega) (by omega), if_neg (by omega)]
/-- The reference's Swap computes what Swap computes. -/
theorem refL_swap {L : List (Int × Int)} (g : Good L) {lo hi from_ to : Int} (h0 : 0 ≤ lo) (h1 : lo ≤ hi) (h2 : hi ≤ total L) (t0 : 0 ≤ to) (t1 : to < 16) : refL false lo hi from_ to (lay 0 L) = lay 0 (swapL L lo hi from_ to) := by
  obtain ⟨f1, f2, f3, f4⟩ := refL_facts (any := false) (from_ := from_) h1 t0 t1 L g.2.1
  have e : segs (refL false lo hi from_ to (lay 0 L)) = swapL L lo hi from_ to := by
    refine canon f2 (swapL_ok g.2.1 t0 t1) f3 (swapL_norm g.2.1 g.2.2.1 t0 t1) ?_ fun p p0 p1 => ?_
    · rw [f1.total, swapL_total g.2.1 h0 h1 h2 t0 t1]; omega
    · rw [f1.total] at p1
      rw [f4 p p0 (by omega), swapL_at g.2.1 h0 h1 h2 t0 t1 p p0]
      by_cases c : lo ≤ p ∧ p < hi ∧ atL L p = from_
      · rw [if_pos c, if_pos ⟨⟨c.1, c.2.1⟩, .inr c.2.2⟩]
      · rw [if_neg c, if_neg (fun h => c ⟨h.1.1, h.1.2, h.2.resolve_left (by simp)⟩)]
  rw [← e, chain_lay f1]
/-- The reference's Set computes what Set computes. -/
theorem refL_set {L : List (Int × Int)} (g : Good L) {lo hi from_ to : Int} (h0 : 0 ≤ lo) (h1 : lo ≤ hi) (h2 : hi ≤ total L) (t0 : 0 ≤ to) (t1 : to < 16) : refL true lo hi from_ to (lay 0 L) = lay 0 (setL L lo hi to) := by
  obtain ⟨f1, f2, f3, f4⟩ := refL_facts (any := true) (from_ := from_) h1 t0 t1 L g.2.1
  have e : segs (refL true lo hi from_ to (lay 0 L)) = setL L lo hi to := by
    refine canon f2 (setL_ok g.2.1 h1 t0 t1) f3 (setL_norm g.2.2.1) ?_ fun p p0 p1 => ?_
    · rw [f1.total, setL_total g.2.1 h0 h1 h2]; omega
    · rw [f1.total] at p1
      rw [f4 p p0 (by omega), setL_at g.2.1 h0 h1 h2 t0 t1 p p0]
      by_cases c : lo ≤ p ∧ p < hi
      · rw [if_pos c, if_pos ⟨c, .inl rfl⟩]
      · rw [if_neg c, if_neg (fun h => c h.1)]
  rw [← e, chain_lay f1]
theorem refN_clip (lo hi from_ : Int) (A : List (Int × Int)) : ∀ k, OkL A → refN false lo hi from_ (lay k A) = totalOf from_ (segs (clipL lo hi k A)) := by
  induction A with
  | nil => intro k _; rfl
  | cons x A ih =>
    intro k h
    have h' := OkL.cons.1 h
    have i := ih (k + x.1) h'.2
    simp only [lay, refN, List.map_cons, List.sum_cons]
    unfold refN at i
    rw [i]
    simp only [clipL]
    rw [segs_append, Tr.totalOf_append]
    congr 1
    unfold addN loA hiB
    dsimp only
    by_cases c : max k lo < min (k + x.1) hi
    · rw [if_pos c]
      simp only [segs, List.map_cons, List.map_nil, Tr.totalOf_cons]
      rw [show totalOf from_ [] = 0 from rfl]
      by_cases q : x.2 = from_
      · rw [if_pos (.inr q), if_pos q]; omega
      · rw [if_neg (by simp [q]), if_neg q]; rfl
    · rw [if_neg c]
      rw [show totalOf from_ (segs []) = 0 from rfl]
      by_cases q : x.2 = from_
      · rw [if_pos (.inr q)]; omega
      · rw [if_neg (by simp [q])]
theorem refN_bounds (any : Bool) (lo hi from_ : Int) (A : List (Int × Int)) : ∀ k, OkL A → 0 ≤ refN any lo hi from_ (lay k A) ∧ refN any lo hi from_ (lay k A) ≤ total A := by
  induction A with
  | nil => intro k _; simp [refN, lay, Tr.total]
  | cons x A ih =>
    intro k h
    have h' := OkL.cons.1 h
    obtain ⟨i1, i2⟩ := ih (k + x.1) h'.2
    simp only [lay, refN, List.map_cons, List.sum_cons]
    unfold refN at i1 i2
    rw [Tr.total_cons]
    have : 0 ≤ addN any lo hi from_ ⟨k, k + x.1, x.2⟩ ∧ addN any lo hi from_ ⟨k, k + x.1, x.2⟩ ≤ x.1 := by
      unfold addN loA hiB
      dsimp only
      split <;> omega
    omega
end Go.Proofs.Ytfmplibjhohpgaa
