/- Plain lists of runs: what Swap computes. No program in sight. -/
import Derived.Test.YtfmplibjhohpgaaSpRunsAny
namespace Go.Proofs.Ytfmplibjhohpgaa
open Tr (total totalOf OkL)

theorem nil_or_snoc {α : Type} (l : List α) : l = [] ∨ ∃ l' y, l = l' ++ [y] := by
  rcases List.eq_nil_or_concat l with h | ⟨l', y, h⟩
  · exact .inl h
  · exact .inr ⟨l', y, by rw [h, List.concat_eq_append]⟩
/-- Runs that follow one another from a piece to another one. -/
def Chain : Int → List Rn → Int → Prop
  | lo, [], hi => lo = hi
  | lo, x :: l, hi => x.lo = lo ∧ lo < x.hi ∧ Chain x.hi l hi
theorem Chain.snoc {lo hi : Int} {l : List Rn} {x : Rn} (h : Chain lo l x.lo) (h1 : x.lo < x.hi) (h2 : x.hi = hi) : Chain lo (l ++ [x]) hi := by
  induction l generalizing lo with
  | nil => have h : lo = x.lo := h; exact ⟨h.symm, by omega, h2⟩
  | cons y l ih => exact ⟨h.1, h.2.1, ih h.2.2⟩
theorem Chain.of_snoc {lo hi : Int} {l : List Rn} {x : Rn} (h : Chain lo (l ++ [x]) hi) : Chain lo l x.lo ∧ x.lo < x.hi ∧ x.hi = hi := by
  induction l generalizing lo with
  | nil => obtain ⟨h1, h2, h3⟩ := h; exact ⟨h1.symm, by omega, h3⟩
  | cons y l ih => obtain ⟨h1, h2, h3⟩ := ih h.2.2; exact ⟨⟨h.1, h.2.1, h1⟩, h2, h3⟩
theorem Chain.le {lo hi : Int} {l : List Rn} (h : Chain lo l hi) : lo ≤ hi := by
  induction l generalizing lo with
  | nil => have h : lo = hi := h; omega
  | cons y l ih => have := ih h.2.2; have := h.2.1; omega
theorem Chain.total {lo hi : Int} {l : List Rn} (h : Chain lo l hi) : total (segs l) = hi - lo := by
  induction l generalizing lo with
  | nil => have h : lo = hi := h; simp only [segs, List.map_nil, Tr.total_nil]; omega
  | cons y l ih =>
    have := ih h.2.2
    have h1 := h.1
    simp only [segs, List.map_cons, Tr.total_cons] at this ⊢; omega
theorem Chain.fine {lo hi : Int} {l : List Rn} (h : Chain lo l hi) (h0 : 0 ≤ lo) (h1 : hi ≤ 1099511627776) (ho : OkL (segs l)) : Fine l := by
  induction l generalizing lo with
  | nil => intro x hx; simp at hx
  | cons y l ih =>
    have o := OkL.cons.1 ho
    obtain ⟨c1, c2, c3⟩ := h
    have := Chain.le c3
    intro x hx
    rcases List.mem_cons.1 hx with rfl | hx
    · exact ⟨by omega, by omega, by omega, o.1.2.1, o.1.2.2⟩
    · exact ih c3 (by omega) o.2 x hx
/-- A run behind runs: of the same tag as the last one it is a part of it. -/
def pushRn : List Rn → Rn → List Rn
  | [], r => [r]
  | y :: l, r => match l with
    | [] => if y.tag = r.tag then [⟨y.lo, r.hi, y.tag⟩] else [y, r]
    | _ :: _ => y :: pushRn l r
theorem pushRn_snoc (l : List Rn) (y r : Rn) : pushRn (l ++ [y]) r = if y.tag = r.tag then l ++ [⟨y.lo, r.hi, y.tag⟩] else l ++ [y] ++ [r] := by
  induction l with
  | nil => simp only [List.nil_append, pushRn]; split <;> rfl
  | cons z l ih =>
    have e : pushRn (z :: (l ++ [y])) r = z :: pushRn (l ++ [y]) r := by cases l <;> rfl
    rw [List.cons_append, e, ih]; split <;> rfl
theorem pushRn_chain {lo : Int} {l : List Rn} {r : Rn} (h : Chain lo l r.lo) (hr : r.lo < r.hi) : Chain lo (pushRn l r) r.hi := by
  rcases nil_or_snoc l with rfl | ⟨l, y, rfl⟩
  · have h : lo = r.lo := h
    exact ⟨h.symm, by omega, rfl⟩
  · obtain ⟨h1, h2, h3⟩ := h.of_snoc
    rw [pushRn_snoc]
    split
    · exact Chain.snoc (x := ⟨y.lo, r.hi, y.tag⟩) h1 (by dsimp only; omega) rfl
    · exact Chain.snoc h hr rfl
theorem segs_append (a b : List Rn) : segs (a ++ b) = segs a ++ segs b := by simp [segs]
theorem pushRn_segs {lo : Int} {l : List Rn} {r : Rn} (h : Chain lo l r.lo) : segs (pushRn l r) = concatL (segs l) [(r.hi - r.lo, r.tag)] := by
  rcases nil_or_snoc l with rfl | ⟨l, y, rfl⟩
  · rfl
  · obtain ⟨h1, h2, h3⟩ := h.of_snoc
    rw [pushRn_snoc, segs_append l [y], show segs [y] = [(y.hi - y.lo, y.tag)] from rfl, concatL_snoc]
    simp only [consM]
    split
    · rename_i ht
      rw [segs_append]
      simp only [segs, List.map_cons, List.map_nil, ht]
      congr 3; omega
    · rw [segs_append, segs_append, List.append_assoc]; rfl
theorem pushRn_length (l : List Rn) (r : Rn) : (pushRn l r).length ≤ l.length + 1 := by
  rcases nil_or_snoc l with rfl | ⟨l, y, rfl⟩
  · simp [pushRn]
  · rw [pushRn_snoc]; split <;> simp
/-- A run of another tag, if it has the tag. -/
def recol (from_ to : Int) (x : Rn) : Rn := if x.tag = from_ then ⟨x.lo, x.hi, to⟩ else x
/-- The runs behind a Swap, of runs. -/
def midR (from_ to : Int) (V : List Rn) : List Rn := V.foldl (fun m x => pushRn m (recol from_ to x)) []
def midN (from_ : Int) (V : List Rn) : Int := totalOf from_ (segs V)
theorem midR_snoc (from_ to : Int) (V : List Rn) (x : Rn) : midR from_ to (V ++ [x]) = pushRn (midR from_ to V) (recol from_ to x) := by simp [midR]
/-- .. of their lengths and tags. -/
def swapM (from_ to : Int) (S : List (Int × Int)) : List (Int × Int) := S.foldl (fun m x => concatL m [(x.1, if x.2 = from_ then to else x.2)]) []
theorem swapM_snoc (from_ to : Int) (S : List (Int × Int)) (x : Int × Int) : swapM from_ to (S ++ [x]) = concatL (swapM from_ to S) [(x.1, if x.2 = from_ then to else x.2)] := by simp [swapM]
theorem midR_chain {from_ to lo hi : Int} {V : List Rn} (h : Chain lo V hi) : Chain lo (midR from_ to V) hi ∧ segs (midR from_ to V) = swapM from_ to (segs V) ∧ (midR from_ to V).length ≤ V.length := by
  obtain ⟨n, hn⟩ : ∃ n, V.length = n := ⟨_, rfl⟩
  induction n generalizing V hi with
  | zero => obtain rfl := List.eq_nil_of_length_eq_zero hn; exact ⟨h, rfl, Nat.le_refl _⟩
  | succ n ih =>
    rcases nil_or_snoc V with rfl | ⟨V, x, rfl⟩
    · simp at hn
    · obtain ⟨c1, c2, c3⟩ := h.of_snoc
      obtain ⟨d1, d2, d3⟩ := ih c1 (by simpa using hn)
      have r1 : (recol from_ to x).lo = x.lo := by unfold recol; split <;> rfl
      have r2 : (recol from_ to x).hi = x.hi := by unfold recol; split <;> rfl
      have r3 : (recol from_ to x).tag = if x.tag = from_ then to else x.tag := by unfold recol; split <;> rfl
      have d1' : Chain lo (midR from_ to V) (recol from_ to x).lo := by rw [r1]; exact d1
      refine ⟨?_, ?_, ?_⟩
      · rw [midR_snoc, ← c3, ← r2]
        exact pushRn_chain d1' (by rw [r1, r2]; exact c2)
      · rw [midR_snoc, pushRn_segs d1', d2, segs_append, show segs [x] = [(x.hi - x.lo, x.tag)] from rfl, swapM_snoc, r1, r2, r3]
      · rw [midR_snoc, List.length_append]
        exact Nat.le_trans (pushRn_length _ _) (by simpa using d3)
theorem one_ok {len tag : Int} (h : 1 ≤ len) (h0 : 0 ≤ tag) (h1 : tag < 16) : OkL [(len, tag)] := OkL.cons.2 ⟨⟨h, h0, h1⟩, by simp [OkL]⟩
theorem one_norm (x : Int × Int) : Norm [x] := ⟨by simp, trivial⟩
section
variable {from_ to : Int} (t0 : 0 ≤ to) (t1 : to < 16)
include t0 t1
theorem swapM_facts (S : List (Int × Int)) (ho : OkL S) : OkL (swapM from_ to S) ∧ Norm (swapM from_ to S) ∧ total (swapM from_ to S) = total S ∧
    ∀ p, 0 ≤ p → p < total S → atL (swapM from_ to S) p = if atL S p = from_ then to else atL S p := by
  obtain ⟨n, hn⟩ : ∃ n, S.length = n := ⟨_, rfl⟩
  induction n generalizing S with
  | zero =>
    obtain rfl := List.eq_nil_of_length_eq_zero hn
    exact ⟨ho, trivial, rfl, fun p h0 h1 => by rw [Tr.total_nil] at h1; omega⟩
  | succ n ih =>
    rcases nil_or_snoc S with rfl | ⟨S, x, rfl⟩
    · simp at hn
    · obtain ⟨o1, o2⟩ := OkL.append.1 ho
      obtain ⟨⟨x1, x2, x3⟩, _⟩ := OkL.cons.1 o2
      obtain ⟨d1, d2, d3, d4⟩ := ih S o1 (by simpa using hn)
      have u : OkL [(x.1, if x.2 = from_ then to else x.2)] := one_ok x1 (by split <;> assumption) (by split <;> assumption)
      have ux : OkL [x] := o2
      rw [swapM_snoc]
      refine ⟨concatL_ok d1 u, concatL_norm d2 (one_norm _), ?_, ?_⟩
      · rw [concatL_total, d3, Tr.total_append, Tr.total_cons, Tr.total_cons]
      · intro p h0 h1
        rw [Tr.total_append, Tr.total_cons, Tr.total_nil] at h1
        rw [concatL_at d1 u p h0, d3, atL_append o1 p h0]
        by_cases hp : p < total S
        · rw [if_pos hp, if_pos hp, d4 p h0 hp]
        · rw [if_neg hp, if_neg hp]
          have hq : p - total S < x.1 := by omega
          simp only [atL, if_pos hq]
end
/-! ### Clipped runs -/
theorem clipL_chain {lo hi k : Int} {A : List (Int × Int)} (h : OkL A) (h1 : max k lo ≤ hi) (h2 : hi ≤ k + total A) : Chain (max k lo) (clipL lo hi k A) hi := by
  induction A generalizing k with
  | nil => rw [Tr.total_nil] at h2; show max k lo = hi; omega
  | cons x A ih =>
    obtain ⟨⟨x1, _, _⟩, hA⟩ := OkL.cons.1 h
    rw [Tr.total_cons] at h2
    simp only [clipL]
    by_cases c : max k lo < min (k + x.1) hi
    · rw [if_pos c]
      refine ⟨rfl, c, ?_⟩
      by_cases d : k + x.1 ≤ hi
      · have := ih (k := k + x.1) hA (by omega) (by omega)
        rw [show min (k + x.1) hi = max (k + x.1) lo from by omega]; exact this
      · show Chain _ (clipL lo hi (k + x.1) A) hi
        rw [clipL_right hA (by omega)]; show min (k + x.1) hi = hi; omega
    · rw [if_neg c, List.nil_append]
      by_cases d : k + x.1 ≤ lo
      · have := ih (k := k + x.1) hA (by omega) (by omega)
        rw [show max k lo = max (k + x.1) lo from by omega]; exact this
      · rw [clipL_right hA (by omega)]; show max k lo = hi; omega
theorem clipL_facts {lo hi k : Int} {A : List (Int × Int)} (h : OkL A) : OkL (segs (clipL lo hi k A)) ∧ ∀ p, 0 ≤ p → p < hi - max k lo → hi ≤ k + total A → atL (segs (clipL lo hi k A)) p = atL A (max k lo - k + p) := by
  induction A generalizing k with
  | nil => exact ⟨by simp [clipL, segs, OkL], fun p h0 h1 h2 => by rw [Tr.total_nil] at h2; omega⟩
  | cons x A ih =>
    obtain ⟨⟨x1, x2, x3⟩, hA⟩ := OkL.cons.1 h
    obtain ⟨i1, i2⟩ := ih (k := k + x.1) hA
    rw [Tr.total_cons]
    simp only [clipL]
    by_cases c : max k lo < min (k + x.1) hi
    · rw [if_pos c]
      refine ⟨OkL.cons.2 ⟨⟨by dsimp only; omega, x2, x3⟩, i1⟩, fun p h0 h1 h2 => ?_⟩
      simp only [List.cons_append, List.nil_append, segs, List.map_cons, atL]
      by_cases d : p < min (k + x.1) hi - max k lo
      · rw [if_pos d, if_pos (by omega)]
      · rw [if_neg d, if_neg (by omega)]
        have := i2 (p - (min (k + x.1) hi - max k lo)) (by omega) (by omega) (by omega)
        unfold segs at this
        rw [this]; congr 1; omega
    · rw [if_neg c, List.nil_append]
      refine ⟨i1, fun p h0 h1 h2 => ?_⟩
      simp only [atL]
      rw [if_neg (by omega), i2 p h0 (by omega) (by omega)]; congr 1; omega
/-- A list of runs after Swap. -/
def swapL (L : List (Int × Int)) (lo hi from_ to : Int) : List (Int × Int) := concatL (concatL (takeP lo L) (swapM from_ to (segs (clipL lo hi 0 L)))) (dropP (hi - lo) (dropP lo L))
section
variable {L : List (Int × Int)} (ho : OkL L) (hn : Norm L) {lo hi from_ to : Int} (h0 : 0 ≤ lo) (h1 : lo ≤ hi) (h2 : hi ≤ total L) (t0 : 0 ≤ to) (t1 : to < 16)
include ho t0 t1
theorem swapL_ok : OkL (swapL L lo hi from_ to) :=
  concatL_ok (concatL_ok (takeP_ok ho _) (swapM_facts t0 t1 _ (clipL_facts ho).1).1) (dropP_ok (dropP_ok ho _) _)
include hn
theorem swapL_norm : Norm (swapL L lo hi from_ to) :=
  concatL_norm (concatL_norm (takeP_norm hn _) (swapM_facts t0 t1 _ (clipL_facts ho).1).2.1) (dropP_norm (dropP_norm hn _) _)
omit hn
include h0 h1 h2
theorem swapM_total : total (swapM from_ to (segs (clipL lo hi 0 L))) = hi - lo := by
  rw [(swapM_facts t0 t1 _ (clipL_facts ho).1).2.2.1, (clipL_chain (k := 0) ho (by omega) (by omega)).total]; omega
theorem swapL_total : total (swapL L lo hi from_ to) = total L := by
  have e := dropP_total ho h0 (by omega)
  unfold swapL
  rw [concatL_total, concatL_total, takeP_total ho h0 (by omega), swapM_total ho h0 h1 h2 t0 t1, dropP_total (dropP_ok ho _) (by omega) (by rw [e]; omega), e]; omega
/-- The pieces after Swap. -/
theorem swapL_at (p : Int) (p0 : 0 ≤ p) : atL (swapL L lo hi from_ to) p = if lo ≤ p ∧ p < hi ∧ atL L p = from_ then to else atL L p := by
  have e1 := takeP_total ho h0 (by omega : lo ≤ total L)
  have o1 := takeP_ok ho lo
  have c := clipL_facts (lo := lo) (hi := hi) (k := 0) ho
  obtain ⟨o2, _, t2, a2⟩ := swapM_facts (from_ := from_) t0 t1 _ c.1
  have e2 := swapM_total (from_ := from_) ho h0 h1 h2 t0 t1
  have o3 := dropP_ok (dropP_ok ho lo) (hi - lo)
  unfold swapL
  rw [concatL_at (concatL_ok o1 o2) o3 p p0, concatL_total, e1, e2]
  by_cases h : p < hi
  · rw [if_pos (by omega), concatL_at o1 o2 p p0, e1]
    by_cases h' : p < lo
    · rw [if_pos h', if_neg (by omega), takeP_at p0 h']
    · rw [if_neg h', a2 (p - lo) (by omega) (by rw [← t2, e2]; omega), c.2 (p - lo) (by omega) (by omega) (by omega), show max 0 lo - 0 + (p - lo) = p from by omega]
      by_cases g : atL L p = from_
      · rw [if_pos g, if_pos ⟨by omega, h, g⟩]
      · rw [if_neg g, if_neg (fun hh => g hh.2.2)]
  · rw [if_neg (by omega), if_neg (by omega), dropP_at (dropP_ok ho _) (by omega) (by omega), dropP_at ho h0 (by omega)]
    congr 1; omega
end
/-- What Swap returns: an error, the number of pieces that have another tag, the runs of the map. -/
def swapR (L : List (Int × Int)) (lo hi from_ to : Int) : Int × Int × List (Int × Int) :=
  if L = [] then (1, 0, []) else if lo < 0 ∨ hi < lo ∨ total L < hi then (3, 0, []) else if (from_ < 0 ∨ 16 ≤ from_) ∨ (to < 0 ∨ 16 ≤ to) then (2, 0, [])
  else if 4096 < ((swapL L lo hi from_ to).length : Int) then (5, 0, []) else (0, midN from_ (clipL lo hi 0 L), swapL L lo hi from_ to)
theorem swapR_good {L : List (Int × Int)} (h : L = [] ∨ Good L) (lo hi from_ to : Int) : (swapR L lo hi from_ to).2.2 = [] ∨ Good (swapR L lo hi from_ to).2.2 := by
  unfold swapR
  split
  · exact .inl rfl
  · rename_i h1
    split
    · exact .inl rfl
    · rename_i h2
      split
      · exact .inl rfl
      · rename_i h3
        split
        · exact .inl rfl
        · rename_i h4
          obtain ⟨g1, g2, g3, g4, g5⟩ := h.resolve_left h1
          have e := swapL_total (from_ := from_) g2 (by omega : 0 ≤ lo) (by omega : lo ≤ hi) (by omega) (by omega : 0 ≤ to) (by omega)
          exact .inr ⟨ne_of_total (by rw [e]; exact total_pos g2 g1), swapL_ok g2 (by omega) (by omega), swapL_norm g2 g3 (by omega) (by omega), by rw [e]; exact g4, Int.not_lt.1 h4⟩
end Go.Proofs.Ytfmplibjhohpgaa
