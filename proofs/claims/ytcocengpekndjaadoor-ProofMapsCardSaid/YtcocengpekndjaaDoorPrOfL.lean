/- The runs of a list of tags. No program in sight. -/
import Derived.Test.YtcocengpekndjaaDoorSpBase
namespace Go.Proofs.YtcocengpekndjaaDoor
open Tr (total totalOf OkL)
theorem nil_or_snoc {α : Type} (l : List α) : l = [] ∨ ∃ l' y, l = l' ++ [y] := by
  rcases List.eq_nil_or_concat l with h | ⟨l', y, h⟩
  · exact .inl h
  · exact .inr ⟨l', y, by rw [h, List.concat_eq_append]⟩
/-- Runs that follow one another from a piece to another one. -/
def Chn : Int → List Rn → Int → Prop
  | lo, [], hi => lo = hi
  | lo, x :: l, hi => x.lo = lo ∧ lo < x.hi ∧ Chn x.hi l hi
theorem Chn.snoc {lo hi : Int} {l : List Rn} {x : Rn} (h : Chn lo l x.lo) (h1 : x.lo < x.hi) (h2 : x.hi = hi) : Chn lo (l ++ [x]) hi := by
  induction l generalizing lo with
  | nil => have h : lo = x.lo := h; exact ⟨h.symm, by omega, h2⟩
  | cons y l ih => exact ⟨h.1, h.2.1, ih h.2.2⟩
theorem Chn.of_snoc {lo hi : Int} {l : List Rn} {x : Rn} (h : Chn lo (l ++ [x]) hi) : Chn lo l x.lo ∧ x.lo < x.hi ∧ x.hi = hi := by
  induction l generalizing lo with
  | nil => obtain ⟨h1, h2, h3⟩ := h; exact ⟨h1.symm, by omega, h3⟩
  | cons y l ih => obtain ⟨h1, h2, h3⟩ := ih h.2.2; exact ⟨⟨h.1, h.2.1, h1⟩, h2, h3⟩
theorem Chn.le {lo hi : Int} {l : List Rn} (h : Chn lo l hi) : lo ≤ hi := by
  induction l generalizing lo with
  | nil => have h : lo = hi := h; omega
  | cons y l ih => have := ih h.2.2; have := h.2.1; omega
theorem Chn.total {lo hi : Int} {l : List Rn} (h : Chn lo l hi) : total (segs l) = hi - lo := by
  induction l generalizing lo with
  | nil => have h : lo = hi := h; simp only [segs, List.map_nil, Tr.total_nil]; omega
  | cons y l ih =>
    have := ih h.2.2
    have h1 := h.1
    simp only [segs, List.map_cons, Tr.total_cons] at this ⊢; omega
/-- A run behind runs: of the same tag as the last one it is a part of it. -/
def pushRn : List Rn → Rn → List Rn
  | [], r => [r]
  | y :: l, r => match l with
    | [] => if y.tag = r.tag then [⟨y.lo, r.hi, y.tag⟩] else [y, r]
    | _ :: _ => y :: pushRn l r
theorem pushRn_snoc (l : List Rn) (y r : Rn) : pushRn (l ++ [y]) r = if y.tag = r.tag then l ++ [⟨y.lo, r.hi, y.tag⟩] else l ++ [y] ++ [r] := by
  induction l with
  | nil => simp only [List.nil_append, pushRn]; split <;> rfl
  | cons z l ih =>
    have e : pushRn (z :: (l ++ [y])) r = z :: pushRn (l ++ [y]) r := by cases l <;> rfl
    rw [List.cons_append, e, ih]; split <;> rfl
theorem pushRn_chn {lo : Int} {l : List Rn} {r : Rn} (h : Chn lo l r.lo) (hr : r.lo < r.hi) : Chn lo (pushRn l r) r.hi := by
  rcases nil_or_snoc l with rfl | ⟨l, y, rfl⟩
  · have h : lo = r.lo := h
    exact ⟨h.symm, by omega, rfl⟩
  · obtain ⟨h1, h2, h3⟩ := h.of_snoc
    rw [pushRn_snoc]
    split
    · exact Chn.snoc (x := ⟨y.lo, r.hi, y.tag⟩) h1 (by dsimp only; omega) rfl
    · exact Chn.snoc h hr rfl
theorem segs_append (a b : List Rn) : segs (a ++ b) = segs a ++ segs b := by simp [segs]
theorem pushRn_segs {lo : Int} {l : List Rn} {r : Rn} (h : Chn lo l r.lo) : segs (pushRn l r) = concatL (segs l) [(r.hi - r.lo, r.tag)] := by
  rcases nil_or_snoc l with rfl | ⟨l, y, rfl⟩
  · rfl
  · obtain ⟨h1, h2, h3⟩ := h.of_snoc
    rw [pushRn_snoc, segs_append l [y], show segs [y] = [(y.hi - y.lo, y.tag)] from rfl, concatL_snoc]
    simp only [consM]
    split
    · rename_i ht
      rw [segs_append]
      simp only [segs, List.map_cons, List.map_nil, ht]
      congr 3; omega
    · rw [segs_append, segs_append, List.append_assoc]; rfl
theorem pushRn_length (l : List Rn) (r : Rn) : (pushRn l r).length ≤ l.length + 1 := by
  rcases nil_or_snoc l with rfl | ⟨l, y, rfl⟩
  · simp [pushRn]
  · rw [pushRn_snoc]; split <;> simp
theorem one_ok {len tag : Int} (h : 1 ≤ len) (h0 : 0 ≤ tag) (h1 : tag < 16) : OkL [(len, tag)] := OkL.cons.2 ⟨⟨h, h0, h1⟩, by simp [OkL]⟩
theorem rscan_lay {L : List (Int × Int)} (h : OkL L) (hn : Norm L) : ∀ (k t : Int), (∀ y, L.head? = some y → y.2 ≠ t) → rscan k t (lay k L) = some (k + total L) := by
  induction L with
  | nil => intro k t _; simp [lay, rscan, Tr.total]
  | cons x L ih =>
    intro k t ht
    have h' := OkL.cons.1 h
    simp only [lay, rscan]
    rw [if_neg]
    · rw [ih h'.2 hn.2 (k + x.1) x.2 (fun y hy => (hn.1 y hy).symm), Tr.total_cons]
      congr 1
      omega
    · have := ht x rfl
      unfold rbad
      dsimp only
      omega
theorem segs_lay (L : List (Int × Int)) : ∀ k, segs (lay k L) = L := by
  induction L with
  | nil => intro k; rfl
  | cons x L ih =>
    intro k
    show (k + x.1 - k, x.2) :: segs (lay (k + x.1) L) = _
    rw [ih, show k + x.1 - k = x.1 from by omega]
/-- From accepts the runs of a map. -/
theorem fromR_lay {L : List (Int × Int)} (g : Good L) : fromR (total L) (lay 0 L) = (0, L) := by
  have h1 := total_pos g.2.1 g.1
  rw [fromR_rscan ⟨h1, g.2.2.2.1⟩, rscan_lay g.2.1 g.2.2.1 0 (-1) (fun y hy => by
    have := g.2.1 y (List.mem_of_mem_head? hy); omega), if_pos (by rw [Int.zero_add]), lay_length, if_neg (by have := g.2.2.2.2; omega), segs_lay]
theorem Chn.laid {lo hi : Int} {l : List Rn} (h : Chn lo l hi) : lay lo (segs l) = l := by
  induction l generalizing lo with
  | nil => rfl
  | cons y l ih =>
    obtain ⟨h1, h2, h3⟩ := h
    subst h1
    have e : y.lo + (y.hi - y.lo) = y.hi := by omega
    show (⟨y.lo, y.lo + (y.hi - y.lo), y.tag⟩ : Rn) :: lay (y.lo + (y.hi - y.lo)) (segs l) = y :: l
    rw [e, ih h3]
/-- The tag that a byte stands for. -/
def tagO (t : UInt8) : Int := ((t.toNat % 16 : Nat) : Int)
theorem tagO_range (t : UInt8) : 0 ≤ tagO t ∧ tagO t < 16 := by unfold tagO; omega
/-- The runs of a list of tags. -/
def ofR (ts : List UInt8) : List Rn := (ts.foldl (fun (p : Nat × List Rn) t => (p.1 + 1, pushRn p.2 ⟨(p.1 : Int), (p.1 : Int) + 1, tagO t⟩)) (0, [])).2
theorem ofR_count (ts : List UInt8) : ∀ p : Nat × List Rn, (ts.foldl (fun (p : Nat × List Rn) t => (p.1 + 1, pushRn p.2 ⟨(p.1 : Int), (p.1 : Int) + 1, tagO t⟩)) p).1 = p.1 + ts.length := by
  induction ts with
  | nil => intro p; rfl
  | cons t ts ih => intro p; rw [List.foldl_cons, ih]; simp only [List.length_cons]; omega
theorem ofR_nil : ofR [] = [] := rfl
theorem ofR_snoc (ts : List UInt8) (t : UInt8) : ofR (ts ++ [t]) = pushRn (ofR ts) ⟨(ts.length : Int), (ts.length : Int) + 1, tagO t⟩ := by
  have h := ofR_count ts (0, [])
  unfold ofR
  rw [List.foldl_append]
  simp only [List.foldl_cons, List.foldl_nil]
  rw [h, Nat.zero_add]
theorem ofR_spec (ts : List UInt8) : Chn 0 (ofR ts) ts.length ∧ OkL (segs (ofR ts)) ∧ Norm (segs (ofR ts)) ∧ total (segs (ofR ts)) = ts.length ∧ (ofR ts).length ≤ ts.length ∧ ∀ (i : Nat) (h : i < ts.length), atL (segs (ofR ts)) i = tagO ts[i] := by
  obtain ⟨n, hn⟩ : ∃ n, ts.length = n := ⟨_, rfl⟩
  induction n generalizing ts with
  | zero =>
    obtain rfl := List.eq_nil_of_length_eq_zero hn
    exact ⟨rfl, by simp [ofR_nil, segs, OkL], trivial, rfl, Nat.le_refl _, fun i h => absurd h (Nat.not_lt_zero _)⟩
  | succ n ih =>
    rcases nil_or_snoc ts with rfl | ⟨ts, t, rfl⟩
    · simp at hn
    · have hl : ts.length = n := by simpa using hn
      obtain ⟨c1, c2, c3, c4, c5, c6⟩ := ih ts hl
      have tr := tagO_range t
      have ok1 : OkL [((1 : Int), tagO t)] := one_ok (by omega) tr.1 tr.2
      have cx : Chn 0 (ofR ts) (⟨(ts.length : Int), (ts.length : Int) + 1, tagO t⟩ : Rn).lo := c1
      have sg := pushRn_segs (r := ⟨(ts.length : Int), (ts.length : Int) + 1, tagO t⟩) cx
      have e1 : ((ts.length : Int) + 1 - (ts.length : Int)) = 1 := by omega
      dsimp only at sg
      rw [e1] at sg
      rw [ofR_snoc, sg]
      refine ⟨?_, concatL_ok c2 ok1, concatL_norm c3 ⟨by simp, trivial⟩, ?_, ?_, ?_⟩
      · have := pushRn_chn (r := ⟨(ts.length : Int), (ts.length : Int) + 1, tagO t⟩) cx (by dsimp only; omega)
        rw [List.length_append]
        simpa using this
      · rw [concatL_total, c4, List.length_append]
        simp [Tr.total]
      · have := pushRn_length (ofR ts) ⟨(ts.length : Int), (ts.length : Int) + 1, tagO t⟩
        rw [List.length_append]
        simp only [List.length_cons, List.length_nil]
        omega
      · intro i h
        rw [concatL_at c2 ok1 _ (by omega), c4]
        by_cases hi : i < ts.length
        · rw [if_pos (by omega), c6 i hi, List.getElem_append_left hi]
        · have e : i = ts.length := by simp at h; omega
          subst e
          rw [if_neg (by omega)]
          simp [atL]
/-- The lengths and tags of a list of tags. -/
def ofL (ts : List UInt8) : List (Int × Int) := segs (ofR ts)
theorem ofL_lay (ts : List UInt8) : lay 0 (ofL ts) = ofR ts := (ofR_spec ts).1.laid
theorem ofL_total (ts : List UInt8) : total (ofL ts) = ts.length := (ofR_spec ts).2.2.2.1
theorem ofL_good {ts : List UInt8} (h1 : 1 ≤ ts.length) (h2 : ts.length ≤ 60) : Good (ofL ts) := by
  obtain ⟨c1, c2, c3, c4, c5, _⟩ := ofR_spec ts
  refine ⟨fun e => ?_, c2, c3, ?_, ?_⟩
  · have := ofL_total ts
    rw [e, Tr.total_nil] at this
    omega
  · rw [ofL_total]; omega
  · show ((segs (ofR ts)).length : Int) ≤ _
    rw [segs_length]; omega
theorem ofR_from {ts : List UInt8} (h1 : 1 ≤ ts.length) (h2 : ts.length ≤ 60) : fromR ts.length (ofR ts) = (0, ofL ts) := by
  have := fromR_lay (ofL_good h1 h2)
  rwa [ofL_lay, ofL_total] at this
end Go.Proofs.YtcocengpekndjaaDoor
