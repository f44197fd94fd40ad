/- The journal layer: what is read behind a new epoch, or of what a crash leaves of it. -/
import Derived.Test.YtkljfampkkfgdaaJLawC
namespace Go.Proofs.Ytkljfampkkfgdaa
theorem hdr_a (e r : Int) : (hdrM e r).take 17 = magicM := by simp [hdrM, magicM, eightM]
theorem hdr_b (e r : Int) : ((hdrM e r).drop 32).take 8 = eightM e := by simp [hdrM, magicM, eightM, List.replicate]
theorem hdr_c (e r : Int) : ((hdrM e r).drop 40).take 8 = eightM r := by simp [hdrM, magicM, eightM, List.replicate]
theorem see_hdr {e r : Int} {p : Int × Int} (he : 0 ≤ e) (he2 : e < 9223372036854775808) (hr : 0 ≤ r ∧ r ≤ 1) (hp : p.1 < e) : seeM (hdrM e r) p = (e, r) := by
  unfold seeM
  rw [hdr_a, hdr_b, hdr_c, numM_eight e he he2, numM_eight r hr.1 (by omega), if_pos rfl, if_pos ⟨hp, hr.1, by omega⟩]
theorem see_le (b : Bs) (p : Int × Int) : p.1 ≤ (seeM b p).1 := by
  unfold seeM
  repeat' split
  · rename_i h; simp only; omega
  · exact Int.le_refl _
  · exact Int.le_refl _
theorem see_max {b : Bs} {p q : Int × Int} {e : Int} (h : (seeM b p).1 ≤ e) (hq : e ≤ q.1) : seeM b q = q := by
  unfold seeM at h ⊢
  by_cases hm : b.take 17 = magicM
  · rw [if_pos hm] at h ⊢
    rw [if_neg]
    rintro ⟨h1, h2⟩
    by_cases hp : p.1 < numM ((b.drop 32).take 8)
    · rw [if_pos ⟨hp, h2⟩] at h
      simp only at h
      omega
    · rw [if_neg fun h => hp h.1] at h
      omega
  · rw [if_neg hm]
theorem curC_eq (g : Nat → Bs) : curC g = seeM (g 1) (seeM (g 0) (0, 0)) := rfl
theorem new_cur {D : Dk} {l : List Bs} {g : Nat → Bs} (h : NewG D l g) (he : (curC (getM D)).1 < 4611686018427387904) : curC g = ((curC (getM D)).1 + 1, nextR (curC (getM D))) := by
  have hck := curC_ok (getM D)
  have hnk := nextR_ok (getM D)
  have hb2 := base_two D.sec.length hnk.1
  have hD := curC_eq (getM D)
  have hmax : ∀ q : Int × Int, (curC (getM D)).1 ≤ q.1 → seeM (getM D 1) q = q := fun q hq => see_max (p := seeM (getM D 0) (0, 0)) (e := (curC (getM D)).1) (by rw [← hD]; exact Int.le_refl _) hq
  have hle : (seeM (getM D 0) (0, 0)).1 ≤ (curC (getM D)).1 := by rw [hD]; exact see_le _ _
  rw [curC_eq g]
  rcases (by omega : (((curC (getM D)).1 + 1) % 2).toNat = 0 ∨ (((curC (getM D)).1 + 1) % 2).toNat = 1) with e | e
  · have h0 := h.head
    rw [e] at h0
    have h1 := h.rest 1 (.inl (by omega)) (by rw [e]; decide)
    rw [h0, h1, see_hdr (by omega) (by omega) hnk (by simp only; omega)]
    exact hmax _ (by simp only; omega)
  · have h1 := h.head
    rw [e] at h1
    have h0 := h.rest 0 (.inl (by omega)) (by rw [e]; decide)
    rw [h0, h1, see_hdr (by omega) (by omega) hnk (by omega)]
theorem new_parse {D : Dk} {st : Bs} {rs : List Bs} {g : Nat → Bs} (h : NewG D (st :: rs) g) (he : (curC (getM D)).1 < 4611686018427387904) (huse : usedM (st :: rs) ≤ capM D.sec.length) (hs : ∀ s ∈ st :: rs, s.length ≤ 65536) (hN : D.sec.length ≤ 4096) :
    parseC g D.sec.length = some (st, rs) := by
  have hc := new_cur h he
  have hck := curC_ok (getM D)
  have hc1 : (curC g).1 = (curC (getM D)).1 + 1 := by rw [hc]
  have hc2 : (curC g).2 = nextR (curC (getM D)) := by rw [hc]
  have hl : Laid (fun p x => g (baseM D.sec.length (curC g).2 + p) = x) (curC g).1 0 0 (st :: rs) := by rw [hc1, hc2]; exact h.laid
  have hz : ∀ p, usedM (st :: rs) ≤ p → p < capM D.sec.length → g (baseM D.sec.length (curC g).2 + p) = zeroB := by rw [hc2]; exact h.zero
  have hl2 : Laid (fun p x => g (baseM D.sec.length (curC g).2 + p) = x) (curC g).1 (unitsM st.length) 1 rs := by have := hl.2; rwa [Nat.zero_add] at this
  obtain ⟨k, h1, h2, h3⟩ := parse_live (by omega) (by omega) hs huse hN ⟨hl.1, trivial⟩ (hl2.mono fun p x _ _ h => .inl h) hz
  have := h3 rs.length (Nat.le_refl _) (by rw [List.take_length]; exact hl2)
  rw [h2, List.take_of_length_le this]
/-- Contents that agree on the disk. -/
theorem same_read {g g' : Nat → Bs} {N : Nat} (hN : 8 ≤ N) (h : ∀ j, j < N → g j = g' j) : parseC g N = parseC g' N ∧ curC g = curC g' := by
  have h0 := h 0 (by omega)
  have h1 := h 1 (by omega)
  have hck := curC_ok g
  have hfit := fit_base (N := N) ⟨hck.2.1, hck.2.2⟩ (by omega)
  exact ⟨parse_congr h0 h1 fun _ j hj => h _ (by omega), curC_congr h0 h1⟩
/-- What a crash leaves of a new epoch: what it would have left without it, or the new one. -/
theorem begin_choice {D : Dk} (h8 : 8 ≤ D.sec.length) (hN : D.sec.length ≤ 4096) {st : Bs} {rs : List Bs} {R : Int × Dk} (h : BeginP D (st :: rs) R) (he : (curC (getM D)).1 < 4611686018427387904) (huse : usedM (st :: rs) ≤ capM D.sec.length) (hs : ∀ s ∈ st :: rs, s.length ≤ 65536)
    (hh : ∀ j, j < 2 → ∀ y, poss D j y → y = getM D j) {c : Nat → Bs} (hc : Choice R.2 c) :
    (R.1 = 70 ∧ ∃ c0, Choice D c0 ∧ parseC c D.sec.length = parseC c0 D.sec.length ∧ curC c = curC c0) ∨ (parseC c D.sec.length = some (st, rs) ∧ (curC c).1 = (curC (getM D)).1 + 1) := by
  have hck := curC_ok (getM D)
  have hnk := nextR_ok (getM D)
  have hb2 := base_two D.sec.length hnk.1
  have hfit := fit_base (N := D.sec.length) hnk (by omega)
  have hlen := h.len
  have hcc : ∀ j, j < D.sec.length → poss R.2 j (c j) := fun j hj => hc j (by rw [hlen]; exact hj)
  have fresh : ∀ g, NewG D (st :: rs) g → (∀ j, j < D.sec.length → c j = g j) → parseC c D.sec.length = some (st, rs) ∧ (curC c).1 = (curC (getM D)).1 + 1 := by
    intro g hg hcg
    obtain ⟨q1, q2⟩ := same_read h8 hcg
    rw [q1, q2, new_parse hg he huse hs hN, new_cur hg he]
    exact ⟨rfl, rfl⟩
  -- the region in use is not the one that is written
  have other : (curC (getM D)).1 ≠ 0 → ∀ j, j < capM D.sec.length → baseM D.sec.length (curC (getM D)).2 + j < baseM D.sec.length (nextR (curC (getM D))) ∨ baseM D.sec.length (nextR (curC (getM D))) + capM D.sec.length ≤ baseM D.sec.length (curC (getM D)).2 + j := by
    intro hne j hj
    have e1 := baseM_eq D.sec.length hck.2.1
    have e2 := baseM_eq D.sec.length hnk.1
    have e3 : nextR (curC (getM D)) = 1 - (curC (getM D)).2 := by unfold nextR; rw [if_pos (by omega)]
    rw [e3] at e2 ⊢
    rcases (by omega : (curC (getM D)).2 = 0 ∨ (curC (getM D)).2 = 1) with q | q
    · rw [q] at e1 e2 ⊢; omega
    · rw [q] at e1 e2 ⊢; omega
  rcases h.res with ⟨_, _, _, h1, h2⟩ | ⟨h1, _, _, hA | ⟨g, hg, hp⟩⟩
  · exact .inr (fresh _ h2 fun j hj => h1 j _ (hcc j hj))
  · refine .inl ⟨h1, fun j => if j < baseM D.sec.length (nextR (curC (getM D))) ∨ baseM D.sec.length (nextR (curC (getM D))) + capM D.sec.length ≤ j then c j else getM D j, fun j hj => ?_, ?_, ?_⟩
    · by_cases hr : j < baseM D.sec.length (nextR (curC (getM D))) ∨ baseM D.sec.length (nextR (curC (getM D))) + capM D.sec.length ≤ j
      · simp only [if_pos hr]; exact hA j hr _ (hcc j hj)
      · simp only [if_neg hr]; exact poss_lat hj
    · have c0 : c 0 = getM D 0 := hh 0 (by omega) _ (hA 0 (.inl (by omega)) _ (hcc 0 (by omega)))
      have c1 : c 1 = getM D 1 := hh 1 (by omega) _ (hA 1 (.inl (by omega)) _ (hcc 1 (by omega)))
      refine parse_congr (by simp only [if_pos (show (0 : Nat) < baseM D.sec.length (nextR (curC (getM D))) ∨ baseM D.sec.length (nextR (curC (getM D))) + capM D.sec.length ≤ 0 from .inl (by omega))])
        (by simp only [if_pos (show (1 : Nat) < baseM D.sec.length (nextR (curC (getM D))) ∨ baseM D.sec.length (nextR (curC (getM D))) + capM D.sec.length ≤ 1 from .inl (by omega))]) fun hne j hj => ?_
      have hcur : curC c = curC (getM D) := curC_congr c0 c1
      rw [hcur] at hne ⊢
      simp only [if_pos (other hne j hj)]
    · exact curC_congr (by simp only [if_pos (show (0 : Nat) < baseM D.sec.length (nextR (curC (getM D))) ∨ baseM D.sec.length (nextR (curC (getM D))) + capM D.sec.length ≤ 0 from .inl (by omega))])
        (by simp only [if_pos (show (1 : Nat) < baseM D.sec.length (nextR (curC (getM D))) ∨ baseM D.sec.length (nextR (curC (getM D))) + capM D.sec.length ≤ 1 from .inl (by omega))])
  · obtain ⟨hb, hhb⟩ : ∃ hb, (((curC (getM D)).1 + 1) % 2).toNat = hb := ⟨_, rfl⟩
    have hb1 : hb < 2 := by omega
    rw [hhb] at hp
    have hrest := hg.rest
    rw [hhb] at hrest
    by_cases hch : c hb = g hb
    · refine .inr (fresh g hg fun j hj => ?_)
      rcases hp j _ (hcc j hj) with q | ⟨rfl, q⟩
      · exact q
      · exact hch
    · refine .inl ⟨h1, getM D, choice_lat D, ?_⟩
      have hold : c hb = getM D hb := by
        rcases hp hb _ (hcc hb (by omega)) with q | ⟨_, q⟩
        · exact absurd q hch
        · exact q
      have hout : ∀ j, j < D.sec.length → (j < baseM D.sec.length (nextR (curC (getM D))) ∨ baseM D.sec.length (nextR (curC (getM D))) + capM D.sec.length ≤ j) → c j = getM D j := by
        intro j hj hr
        by_cases hjb : j = hb
        · rw [hjb]; exact hold
        · rcases hp j _ (hcc j hj) with q | ⟨q, _⟩
          · rw [q]; exact hrest j hr hjb
          · exact absurd q hjb
      have c0 := hout 0 (by omega) (.inl (by omega))
      have c1 := hout 1 (by omega) (.inl (by omega))
      have hcur : curC c = curC (getM D) := curC_congr c0 c1
      refine ⟨parse_congr c0 c1 fun hne j hj => ?_, hcur⟩
      rw [hcur] at hne ⊢
      have hfit2 := fit_base (N := D.sec.length) ⟨hck.2.1, hck.2.2⟩ (by omega)
      exact hout _ (by omega) (other hne j hj)
end Go.Proofs.Ytkljfampkkfgdaa
