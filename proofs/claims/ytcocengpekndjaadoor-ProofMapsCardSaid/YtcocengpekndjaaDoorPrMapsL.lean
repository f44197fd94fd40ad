/- What State and Range return, and what is accepted: the plain laws. -/
import Derived.Test.YtcocengpekndjaaDoorPrShortT
import Derived.Test.YtcocengpekndjaaDoorPrRange
import Derived.Test.YtcocengpekndjaaDoorPrOfL
namespace Go.Proofs.YtcocengpekndjaaDoor
open Go.RowKit
/-- How many runs end ahead of a place, and how many of the others begin ahead of another one. -/
def covF (lo : Int) (R : List Rn) : Nat := R.countP fun x => decide (x.hi ≤ lo)
def covN (lo hi : Int) (R : List Rn) : Nat := R.countP fun x => decide (lo < x.hi) && decide (x.lo < hi)
theorem covF_snoc (lo : Int) (R : List Rn) (x : Rn) : covF lo (R ++ [x]) = covF lo R + if x.hi ≤ lo then 1 else 0 := by
  unfold covF
  rw [List.countP_append, List.countP_singleton]
  by_cases h : x.hi ≤ lo <;> simp [h]
theorem covN_snoc (lo hi : Int) (R : List Rn) (x : Rn) : covN lo hi (R ++ [x]) = covN lo hi R + if lo < x.hi ∧ x.lo < hi then 1 else 0 := by
  unfold covN
  rw [List.countP_append, List.countP_singleton]
  by_cases h : lo < x.hi <;> by_cases h' : x.lo < hi <;> simp [h, h']
theorem covF_le (lo : Int) (R : List Rn) : covF lo R ≤ R.length := List.countP_le_length
theorem covN_le (lo hi : Int) (R : List Rn) : covN lo hi R ≤ R.length := List.countP_le_length
theorem covFN_le (lo hi : Int) (R : List Rn) : covF lo R + covN lo hi R ≤ R.length := by
  induction R with
  | nil => exact Nat.le_refl _
  | cons x R ih =>
    unfold covF covN at *
    rw [List.countP_cons, List.countP_cons, List.length_cons]
    by_cases h : x.hi ≤ lo
    · have : ¬ lo < x.hi := by omega
      simp only [h, this, decide_true, decide_false, Bool.false_and, if_true, Bool.false_eq_true, if_false]
      omega
    · by_cases h' : x.lo < hi <;> simp only [h, h', decide_true, decide_false, Bool.and_true, Bool.and_false, Bool.false_eq_true, if_false, decide_eq_true_eq] <;> (try split) <;> omega
theorem cov_tail {R : List Rn} (h : Srt R) (hi : Int) : (R.countP fun x => decide (x.lo < hi)) = cntM hi R := by
  induction R with
  | nil => rfl
  | cons x R ih =>
    rw [List.countP_cons]
    simp only [cntM]
    by_cases c : x.lo < hi
    · rw [if_pos c, ih h.tail]; simp [c]
    · rw [if_neg c]
      have : (R.countP fun x => decide (x.lo < hi)) = 0 := by
        rw [List.countP_eq_zero]
        intro y hy
        obtain ⟨j, hj, rfl⟩ := List.getElem_of_mem hy
        have a := h.2 0 (j + 1) (by simp) (by simpa using hj) (by omega)
        have b := h.1 x (by simp)
        simp only [List.getElem_cons_zero, List.getElem_cons_succ] at a
        simp only [decide_eq_true_eq]
        omega
      rw [this]
      simp [c]
theorem cov_any {L : List (Int × Int)} (g : Good L) {lo hi : Int} (h0 : 0 ≤ lo) (h1 : lo < hi) (h2 : hi ≤ Tr.total L) {R : List Rn} (hR : lay 0 L = R) :
    covF lo R = fromM lo R ∧ covN lo hi R = toM lo hi R - fromM lo R := by
  have srt := lay_srt g.2.1 0
  have hfl := from_lay g (lo := lo) (by omega)
  have hs := own_sound g h0 h1 h2 hR
  rw [hR] at srt hfl
  obtain ⟨f1, f2⟩ := fromM_spec hfl
  obtain ⟨f, hf⟩ : ∃ f, fromM lo R = f := ⟨_, rfl⟩
  have hft := toM_lt lo hi R
  have hne : (R.drop (fromM lo R)).take (toM lo hi R - fromM lo R) ≠ [] := fun h => by
    have := hs.1.2.2.2.2.1
    rw [h] at this; exact this rfl
  have he := (hs.2.2 hne).1.2.1
  rw [List.head_eq_getElem, List.getElem_take, List.getElem_drop] at he
  simp only [Nat.add_zero] at he
  simp only [hf] at f1 f2 hfl he
  have e : R = R.take f ++ R.drop f := (List.take_append_drop f R).symm
  have lt : (R.take f).length = f := by rw [List.length_take]; omega
  have a1 : ∀ x ∈ R.take f, x.hi ≤ lo := fun x hx => by
    obtain ⟨j, hj, rfl⟩ := List.getElem_of_mem hx
    rw [List.getElem_take]
    rw [lt] at hj
    exact f2 j (by omega) hj
  have a2 : ∀ x ∈ R.drop f, lo < x.hi := fun x hx => by
    obtain ⟨j, hj, rfl⟩ := List.getElem_of_mem hx
    rw [List.getElem_drop]
    rw [List.length_drop] at hj
    by_cases c : j = 0
    · subst c; exact f1
    · have a := srt.2 f (f + j) hfl (by omega) (by omega)
      have b := srt.1 _ (List.getElem_mem (show f + j < R.length by omega))
      omega
  have cF : covF lo R = f := by
    unfold covF
    conv => lhs; rw [e]
    rw [List.countP_append]
    have z1 : ((R.take f).countP fun x => decide (x.hi ≤ lo)) = (R.take f).length := by
      rw [List.countP_eq_length]; intro x hx; simpa using a1 x hx
    have z2 : ((R.drop f).countP fun x => decide (x.hi ≤ lo)) = 0 := by
      rw [List.countP_eq_zero]; intro x hx; have := a2 x hx; simp only [decide_eq_true_eq]; omega
    rw [z1, z2, lt]; omega
  have cN : covN lo hi R = toM lo hi R - f := by
    unfold covN
    conv => lhs; rw [e]
    rw [List.countP_append]
    have z1 : ((R.take f).countP fun x => decide (lo < x.hi) && decide (x.lo < hi)) = 0 := by
      rw [List.countP_eq_zero]; intro x hx
      have h := a1 x hx
      have : ¬ lo < x.hi := by omega
      simp [this]
    have z2 : ((R.drop f).countP fun x => decide (lo < x.hi) && decide (x.lo < hi)) = (R.drop f).countP fun x => decide (x.lo < hi) := by
      apply List.countP_congr
      intro x hx
      simp [a2 x hx]
    rw [z1, z2, cov_tail (srt.drop f) hi, cntM_drop hi R f hfl, if_pos (by omega)]
    unfold toM
    rw [hf]
    omega
  exact ⟨by rw [cF, hf], by rw [cN, hf]⟩
/-- The tag of a piece is the tag of its run. -/
theorem lay_tag {L : List (Int × Int)} (ho : Tr.OkL L) : ∀ (k : Int) (i : Nat) (h : i < (lay k L).length) (p : Int), (lay k L)[i].lo ≤ p → p < (lay k L)[i].hi → atL L (p - k) = (lay k L)[i].tag := by
  induction L with
  | nil => intro k i h; simp [lay] at h
  | cons x L ih =>
    intro k i h p h1 h2
    have ho' := Tr.OkL.cons.1 ho
    cases i with
    | zero =>
      simp only [lay, List.getElem_cons_zero] at h1 h2 ⊢
      simp only [atL]
      rw [if_pos (by omega)]
    | succ i =>
      simp only [lay, List.getElem_cons_succ] at h1 h2 ⊢
      simp only [lay, List.length_cons] at h
      have hlo : ∀ (M : List (Int × Int)) (hM : Tr.OkL M) (q : Int), ∀ y ∈ lay q M, q ≤ y.lo := by
        intro M
        induction M with
        | nil => intro _ q y hy; simp [lay] at hy
        | cons z M ihM =>
          intro hM q y hy
          have hM' := Tr.OkL.cons.1 hM
          simp only [lay, List.mem_cons] at hy
          rcases hy with rfl | hy
          · exact Int.le_refl _
          · have := ihM hM'.2 _ y hy; omega
      have hb := hlo L ho'.2 (k + x.1) _ (List.getElem_mem (show i < (lay (k + x.1) L).length by omega))
      simp only [atL]
      rw [if_neg (by omega), show p - k - x.1 = p - (k + x.1) from by omega]
      exact ih ho'.2 (k + x.1) i (by omega) p h1 h2
theorem of_tag {ts : List UInt8} {i : Nat} (h : i < (ofR ts).length) {p : Nat} (hp : p < ts.length) (h1 : (ofR ts)[i].lo ≤ p) (h2 : (p : Int) < (ofR ts)[i].hi) : (ofR ts)[i].tag = tagO ts[p] := by
  have sp := ofR_spec ts
  have e := ofL_lay ts
  have := lay_tag (L := ofL ts) sp.2.1 0 i (by rw [e]; exact h) p (by simp only [e]; exact h1) (by simp only [e]; exact h2)
  simp only [e] at this
  rw [Int.sub_zero] at this
  rw [← this]
  exact sp.2.2.2.2.2 p hp
/-- The map hash of a list of runs. -/
noncomputable def rootO (ts : List UInt8) : Bs := sealM ts.length (ofR ts).length (topM sha ((ofR ts).map lvM))
theorem rootO_length (ts : List UInt8) : (rootO ts).length = 32 := sha_length _
theorem own_true {ts : List UInt8} (h1 : 1 ≤ ts.length) (h2 : ts.length ≤ 60) {lo hi : Int} (l0 : 0 ≤ lo) (l1 : lo < hi) (l2 : hi ≤ ts.length) :
    acceptM (rootO ts) lo hi (((ofR ts).drop (fromM lo (ofR ts))).take (toM lo hi (ofR ts) - fromM lo (ofR ts))) (fromM lo (ofR ts)) (ofR ts).length ts.length (visitM sha ((ofR ts).map lvM) (fromM lo (ofR ts)) (toM lo hi (ofR ts))) = true := by
  have := own_accept (ofL_good h1 h2) l0 l1 (by rw [ofL_total]; exact l2) (ofL_lay ts)
  rwa [ofL_total] at this
theorem ofR_fit {ts : List UInt8} (h1 : 1 ≤ ts.length) (h2 : ts.length ≤ 60) : ∀ x ∈ ofR ts, Fit x := fun x hx => by
  have g := ofL_good h1 h2
  have e := ofL_lay ts
  have hok := okL_lay g.2.1 0 (Int.le_refl _)
  rw [e] at hok
  have o := hok x hx
  have hle : x.hi ≤ ts.length := by
    obtain ⟨j, hj, rfl⟩ := List.getElem_of_mem hx
    have srt := lay_srt g.2.1 0
    rw [e] at srt
    by_cases c : j + 1 = (ofR ts).length
    · have := lay_end (L := ofL ts) 0 j (by rw [e]; exact hj) (by rw [e]; exact c)
      simp only [e] at this
      rw [ofL_total] at this
      omega
    · have a := srt.2 j ((ofR ts).length - 1) hj (by omega) (by omega)
      have b := srt.1 _ (List.getElem_mem (show (ofR ts).length - 1 < (ofR ts).length by omega))
      have := lay_end (L := ofL ts) 0 ((ofR ts).length - 1) (by rw [e]; omega) (by rw [e]; omega)
      simp only [e] at this
      rw [ofL_total] at this
      omega
  unfold Fit
  omega
theorem sound_fit {lo hi : Int} {X : List Rn} {first count size : Int} (h : Sound lo hi X first count size) : ∀ x ∈ X, Fit x := by
  obtain ⟨hd, hc, he⟩ := h
  unfold Head at hd
  intro x hx
  obtain ⟨j, hj, rfl⟩ := List.getElem_of_mem hx
  have hne : X ≠ [] := fun e => by rw [e] at hj; simp at hj
  obtain ⟨⟨e1, e2, e3, e4, e5, e6⟩, _, _⟩ := he hne
  rw [List.head_eq_getElem] at e1 e2 e3
  rw [List.getLast_eq_getElem] at e4 e5 e6
  have mono : ∀ d i (h : i + d < X.length), X[i].lo ≤ X[i + d].lo ∧ X[i].hi ≤ X[i + d].hi := by
    intro d
    induction d with
    | zero => intro i h; exact ⟨Int.le_refl _, Int.le_refl _⟩
    | succ d ih =>
      intro i h
      obtain ⟨a, b⟩ := ih i (by omega)
      have c := hc (i + (d + 1)) h (by omega)
      have c0 := hc (i + d) (by omega) (by omega)
      have := c.2.2.2 X[i + d] (by unfold prevR; rw [if_neg (by omega), List.getElem?_eq_getElem (by omega)]; simp only [show i + (d + 1) - 1 = i + d from by omega])
      have := c.1
      have := c0.1
      exact ⟨by omega, by omega⟩
  have m1 := mono j 0 (by omega)
  have m2 := mono (X.length - 1 - j) j (by omega)
  simp only [Nat.zero_add] at m1
  simp only [show j + (X.length - 1 - j) = X.length - 1 from by omega] at m2
  have o := hc j hj hj
  unfold OkR at o
  unfold Fit
  omega
/-- What is accepted for a range states its runs and has its outer hashes, if no two strings have one hash. -/
theorem exact_claim {ts : List UInt8} (h1 : 1 ≤ ts.length) (h2 : ts.length ≤ 60) {lo hi : Int} {X : List Rn} {first count size : Int} {path : List Bs} (hp : H32 path)
    (ha : acceptM (rootO ts) lo hi X first count size path = true) :
    ∃ h, Sound lo hi X first count size ∧ foldM sha count.toNat first (X.map lvM) path = some (h, path.length) ∧
      (¬ ClashL sha (mapT ts.length (ofR ts) ++ foldT sha count.toNat first (X.map textM) path ++ [sealT size count h]) →
        hi ≤ ts.length ∧ size = ts.length ∧ count = (ofR ts).length ∧ first = fromM lo (ofR ts) ∧ X = ((ofR ts).drop (fromM lo (ofR ts))).take (toM lo hi (ofR ts) - fromM lo (ofR ts)) ∧ path = visitM sha ((ofR ts).map lvM) (fromM lo (ofR ts)) (toM lo hi (ofR ts))) := by
  have hS : Sound lo hi X first count size := by
    by_cases c : Sound lo hi X first count size
    · exact c
    · rw [acceptM_unsound c] at ha; cases ha
  rw [acceptM_fold hS] at ha
  cases e : foldM sha count.toNat first (X.map lvM) path with
  | none => rw [e] at ha; cases ha
  | some r =>
    obtain ⟨h, u⟩ := r
    rw [e] at ha
    simp only [Bool.and_eq_true, beq_iff_eq, decide_eq_true_eq] at ha
    obtain ⟨hr, rfl⟩ := ha
    refine ⟨h, hS, rfl, fun hn => ?_⟩
    have g := ofL_good h1 h2
    have el := ofL_lay ts
    have srt := lay_srt g.2.1 0
    rw [el] at srt
    have hlen : (ofR ts).length = (ofL ts).length := by rw [← el]; exact lay_length 0 _
    have hRn : 1 ≤ (ofR ts).length := by
      rw [hlen]
      have := g.1
      cases hh : ofL ts with
      | nil => exact absurd hh this
      | cons => simp
    have hRl : (ofR ts).length ≤ 60 := Nat.le_trans (ofR_spec ts).2.2.2.2.1 h2
    obtain ⟨hd, hch, hE⟩ := hS
    have hd' := hd
    unfold Head at hd
    have hXn : X ≠ [] := fun c => by rw [c] at hd; exact hd.2.2.2.2.1 rfl
    have key := map_inj (T := ts.length) (ofR_fit h1 h2) (sound_fit ⟨hd', hch, hE⟩) hRn (by omega) hXn hp (by omega) (by omega) (by omega) e hr hn
    obtain ⟨k1, k2, k3, k4⟩ := key
    obtain ⟨⟨e1, e2, e3, e4, e5, e6⟩, _, _⟩ := hE hXn
    rw [List.head_eq_getElem] at e1 e2 e3
    rw [List.getLast_eq_getElem] at e4 e5 e6
    obtain ⟨f, hf⟩ : ∃ f : Nat, first = f := ⟨first.toNat, by omega⟩
    subst hf
    have get : ∀ j (hj : j < X.length), X[j] = (ofR ts)[f + j]'(by omega) := fun j hj => by
      have := k3 (f + j) (by omega) (by omega) (by omega)
      rw [show ((((f + j : Nat) : Int)) - (f : Int)).toNat = j from by omega, List.getElem?_eq_getElem hj, List.getElem?_eq_getElem (by omega), Option.some.injEq] at this
      exact this
    have xl : 0 < X.length := by omega
    rw [get 0 xl] at e1 e2 e3
    rw [get (X.length - 1) (by omega)] at e4 e5 e6
    simp only [Nat.add_zero] at e1 e2 e3
    have hfr := fromM_at srt (i := f) (by omega) e2 e3
    have hto := toM_at srt (lo := lo) (hi := hi) (i := f) (j := f + (X.length - 1)) (by omega) (by omega) hfr e6 e5
    rw [show f + (X.length - 1) + 1 = f + X.length from by omega] at hto
    rw [hfr, hto, show f + X.length - f = X.length from by omega]
    refine ⟨by omega, k1, k2, rfl, ?_, ?_⟩
    · apply List.ext_getElem
      · rw [List.length_take, List.length_drop]; omega
      · intro j g1 g2
        rw [List.getElem_take, List.getElem_drop]
        exact get j g1
    · rw [List.take_of_length_le (Nat.le_refl _)] at k4
      rw [k4]
      congr 1
/-- A hash more, a hash less. -/
theorem loses_more {ts : List UInt8} (h1 : 1 ≤ ts.length) (h2 : ts.length ≤ 60) {lo hi : Int} (l0 : 0 ≤ lo) (l1 : lo < hi) (l2 : hi ≤ ts.length) (x : Bs) :
    acceptM (rootO ts) lo hi (((ofR ts).drop (fromM lo (ofR ts))).take (toM lo hi (ofR ts) - fromM lo (ofR ts))) (fromM lo (ofR ts)) (ofR ts).length ts.length (visitM sha ((ofR ts).map lvM) (fromM lo (ofR ts)) (toM lo hi (ofR ts)) ++ [x]) = false := by
  have g := ofL_good h1 h2
  have hs := own_sound g l0 l1 (by rw [ofL_total]; exact l2) (ofL_lay ts)
  have hfl := from_lay g (lo := lo) (by rw [ofL_total]; omega)
  rw [ofL_lay] at hfl
  rw [ofL_total] at hs
  rw [acceptM_fold hs, Int.toNat_natCast, own_fold (toM_lt lo hi _) (toM_le (hi := hi) hfl) [x]]
  simp
theorem loses_less {ts : List UInt8} (h1 : 1 ≤ ts.length) (h2 : ts.length ≤ 60) {lo hi : Int} (l0 : 0 ≤ lo) (l1 : lo < hi) (l2 : hi ≤ ts.length) {V : List Bs} (hV : visitM sha ((ofR ts).map lvM) (fromM lo (ofR ts)) (toM lo hi (ofR ts)) = V) (h0 : 0 < V.length) :
    acceptM (rootO ts) lo hi (((ofR ts).drop (fromM lo (ofR ts))).take (toM lo hi (ofR ts) - fromM lo (ofR ts))) (fromM lo (ofR ts)) (ofR ts).length ts.length (V.take (V.length - 1)) = false := by
  have g := ofL_good h1 h2
  have hs := own_sound g l0 l1 (by rw [ofL_total]; exact l2) (ofL_lay ts)
  have hfl := from_lay g (lo := lo) (by rw [ofL_total]; omega)
  rw [ofL_lay] at hfl
  rw [ofL_total] at hs
  rw [acceptM_fold hs, Int.toNat_natCast]
  have ow := own_fold (toM_lt lo hi (ofR ts)) (toM_le (hi := hi) hfl) []
  rw [hV] at ow
  cases e : foldM sha (ofR ts).length (fromM lo (ofR ts)) ((((ofR ts).drop (fromM lo (ofR ts))).take (toM lo hi (ofR ts) - fromM lo (ofR ts))).map lvM) (V.take (V.length - 1)) with
  | none => rfl
  | some r =>
    obtain ⟨h, u⟩ := r
    have := fold_used sha (ofR ts).length _ _ _ _ _ _ _ _ _ _ (Nat.le_refl _) rfl e ow
    have : u ≠ (V.take (V.length - 1)).length := by rw [List.length_take]; omega
    show ((sealM _ _ h == rootO ts) && decide (u = (V.take (V.length - 1)).length)) = false
    rw [decide_eq_false this, Bool.and_false]
end Go.Proofs.YtcocengpekndjaaDoor
