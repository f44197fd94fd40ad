/- The journal layer: what a new epoch leaves. -/
import Derived.Test.YtkljfampkkfgdaaJLawB
import Derived.Test.YtkljfampkkfgdaaJOwn
namespace Go.Proofs.Ytkljfampkkfgdaa
/-- The contents behind a new epoch: a header names the other region, in which the strings lie, and nothing else. -/
structure NewG (D : Dk) (l : List Bs) (g : Nat → Bs) : Prop where
  head : g (((curC (getM D)).1 + 1) % 2).toNat = hdrM ((curC (getM D)).1 + 1) (nextR (curC (getM D)))
  laid : Laid (fun p x => g (baseM D.sec.length (nextR (curC (getM D))) + p) = x) ((curC (getM D)).1 + 1) 0 0 l
  zero : ∀ p, usedM l ≤ p → p < capM D.sec.length → g (baseM D.sec.length (nextR (curC (getM D))) + p) = zeroB
  rest : ∀ j, j < baseM D.sec.length (nextR (curC (getM D))) ∨ baseM D.sec.length (nextR (curC (getM D))) + capM D.sec.length ≤ j → j ≠ (((curC (getM D)).1 + 1) % 2).toNat → g j = getM D j
/-- What begin leaves. -/
structure BeginP (D : Dk) (l : List Bs) (R : Int × Dk) : Prop where
  len : R.2.sec.length = D.sec.length
  own : R.2.own = D.own
  res : (R.1 = 0 ∧ R.2.off = false ∧ (D.fuse < 0 → R.2.fuse < 0) ∧ (∀ j y, poss R.2 j y → y = getM R.2 j) ∧ NewG D l (getM R.2)) ∨
    (R.1 = 70 ∧ R.2.off = true ∧ 0 ≤ D.fuse ∧
      ((∀ j, j < baseM D.sec.length (nextR (curC (getM D))) ∨ baseM D.sec.length (nextR (curC (getM D))) + capM D.sec.length ≤ j → ∀ y, poss R.2 j y → poss D j y) ∨
       ∃ g, NewG D l g ∧ ∀ j y, poss R.2 j y → y = g j ∨ (j = (((curC (getM D)).1 + 1) % 2).toNat ∧ y = getM D j)))
theorem base_two (N : Nat) {r : Int} (h : 0 ≤ r) : 2 ≤ baseM N r := by
  have := baseM_eq N h
  have : 0 ≤ r * (capM N : Nat) := Int.mul_nonneg h (by omega)
  omega
theorem begin_spec {D : Dk} (ho : D.off = false) (h8 : 8 ≤ D.sec.length) {l : List Bs} (huse : usedM l ≤ capM D.sec.length) : BeginP D l (beginM D l) := by
  have hck := curC_ok (getM D)
  have hnk := nextR_ok (getM D)
  have hfit := fit_base (N := D.sec.length) hnk (by omega)
  have hb2 := base_two D.sec.length hnk.1
  unfold beginM
  obtain ⟨base, hbase⟩ : ∃ base, baseM D.sec.length (nextR (curC (getM D))) = base := ⟨_, rfl⟩
  obtain ⟨C, hC⟩ : ∃ C, capM D.sec.length = C := ⟨_, rfl⟩
  rw [hbase] at hfit hb2
  rw [hC] at hfit huse
  rw [hbase, hC]
  obtain ⟨s1, s2⟩ := stores_spec (base := base) (e := (curC (getM D)).1 + 1) l D 0 0 ho (by omega)
  generalize hS : storesM D base ((curC (getM D)).1 + 1) 0 0 l = S at *
  have s1' : Only D S.2 base C := s1.wide (by omega) (by omega)
  rcases s2 with ⟨a1, a2, a3, a4⟩ | ⟨a1, a2, a3⟩
  · rw [bindE_ok a1]
    obtain ⟨c1, c2⟩ := clear_spec (C - usedM l) (base + usedM l) S.2 a2 (by rw [s1.len]; omega)
    generalize hK : clearM (C - usedM l) (base + usedM l) S.2 = K at *
    have c1' : Only D K.2 base C := s1'.trans (c1.wide (by omega) (by omega))
    rcases c2 with ⟨b1, b2, b3, b4⟩ | ⟨b1, b2, b3⟩
    · rw [bindE_ok b1]
      obtain ⟨y1, y2, y3⟩ := sync_spec b2
      generalize hY : syncM K.2 = Y at *
      rcases y3 with ⟨d1, d2, d3, d4, d5, d6⟩ | ⟨d1, d2, d3, d4⟩
      · rw [bindE_ok d1]
        obtain ⟨hb, hhb⟩ : ∃ hb : Nat, (((curC (getM D)).1 + 1) % 2) = (hb : Int) := ⟨(((curC (getM D)).1 + 1) % 2).toNat, by omega⟩
        have hb1 : hb < 2 := by omega
        rw [hhb]
        obtain ⟨w1, w2⟩ := write_spec (n := hb) d2 (by rw [y2, c1'.len]; omega) (s := hdrM ((curC (getM D)).1 + 1) (nextR (curC (getM D)))) (by rw [hdr_length]; omega)
        rw [padB_full (hdr_length _ _)] at w1 w2
        generalize hW : writeM Y.2 (hb : Int) (hdrM ((curC (getM D)).1 + 1) (nextR (curC (getM D)))) = V at *
        -- the contents behind the header's write
        have gnew : ∀ g : Nat → Bs, g hb = hdrM ((curC (getM D)).1 + 1) (nextR (curC (getM D))) → (∀ j, j ≠ hb → g j = getM K.2 j) → NewG D l g := by
          intro g h1 h2
          refine ⟨by rw [hhb, Int.toNat_natCast]; exact h1, ?_, fun p hp1 hp2 => ?_, fun j hj hne => ?_⟩
          · rw [hbase]
            refine a3.mono fun p x _ hp hx => ?_
            rw [h2 _ (by omega), getM_same (c1.far (base + p) (by omega))]
            exact hx
          · rw [hbase, h2 _ (by omega)]
            rw [hC] at hp2
            have := b3 (p - usedM l) (by omega)
            rw [show base + usedM l + (p - usedM l) = base + p from by omega] at this
            exact this
          · rw [hhb, Int.toNat_natCast] at hne
            rw [hbase, hC] at hj
            rw [h2 j hne, getM_same (c1'.far j hj)]
        have vfar : ∀ j, j ≠ hb → ∀ y, poss V.2 j y → y = getM K.2 j := fun j hj y hy => d4 j y ((poss_same (w1.far j (by omega))).1 hy)
        have vhb : ∀ y, poss V.2 hb y → y = getM K.2 hb ∨ y = hdrM ((curC (getM D)).1 + 1) (nextR (curC (getM D))) := fun y hy => by
          rcases w1.poss 0 (by omega) y hy with h | h
          · exact .inl (d4 hb y h)
          · exact .inr h
        have khb : getM K.2 hb = getM D hb := getM_same (c1'.far hb (by omega))
        have case2 : ∀ E : Dk, E.sec = V.2.sec → ∃ g, NewG D l g ∧ ∀ j y, poss E j y → y = g j ∨ (j = (((curC (getM D)).1 + 1) % 2).toNat ∧ y = getM D j) := by
          intro E hE
          refine ⟨fun j => if j = hb then hdrM ((curC (getM D)).1 + 1) (nextR (curC (getM D))) else getM K.2 j, gnew _ (by simp) (fun j hj => by simp [hj]), fun j y hy => ?_⟩
          have hy' : poss V.2 j y := by unfold poss at hy ⊢; rw [← hE]; exact hy
          by_cases hj : j = hb
          · subst hj
            rcases vhb y hy' with h | h
            · exact .inr ⟨by rw [hhb, Int.toNat_natCast], h.trans khb⟩
            · exact .inl (by simp [h])
          · exact .inl (by simp only [if_neg hj]; exact vfar j hj y hy')
        have vlen : V.2.sec.length = D.sec.length := by rw [w1.len, y2, c1'.len]
        have vown : V.2.own = D.own := by rw [w1.own, y1, c1'.own]
        rcases w2 with ⟨e1, e2, e3, e4⟩ | ⟨e1, e2, e3⟩
        · rw [bindE_ok e1]
          obtain ⟨z1, z2, z3⟩ := sync_spec e2
          generalize hZ : syncM V.2 = Z at *
          refine ⟨z2.trans vlen, z1.trans vown, ?_⟩
          rcases z3 with ⟨f1, f2, f3, f4, f5, f6⟩ | ⟨f1, f2, f3, f4⟩
          · refine .inl ⟨f1, f2, fun h => f6 (e4 (d6 (b4 (a4 h)))), fun j y hy => by rw [f3 j]; exact f4 j y hy, ?_⟩
            have hgz : getM Z.2 = getM V.2 := funext f3
            rw [hgz]
            exact gnew _ e3 fun j hj => by rw [getM_same (w1.far j (by omega)), d3 j]
          · refine .inr ⟨f1, f2, ?_, .inr (case2 _ f3)⟩
            refine Classical.byContradiction fun hn => ?_
            have := e4 (d6 (b4 (a4 (by omega))))
            omega
        · rw [bindE_no (by rw [e1]; decide)]
          refine ⟨vlen, vown, .inr ⟨e1, e2, ?_, .inr (case2 _ rfl)⟩⟩
          refine Classical.byContradiction fun hn => ?_
          have := d6 (b4 (a4 (by omega)))
          omega
      · rw [bindE_no (by rw [d1]; decide)]
        refine ⟨y2.trans c1'.len, y1.trans c1'.own, .inr ⟨d1, d2, ?_, .inl fun j hj y hy => ?_⟩⟩
        · refine Classical.byContradiction fun hn => ?_
          have := b4 (a4 (by omega))
          omega
        · rw [hbase, hC] at hj
          refine (poss_same (c1'.far j hj)).1 ?_
          unfold poss at hy ⊢
          rw [← d3]; exact hy
    · rw [bindE_no (by rw [b1]; decide)]
      refine ⟨c1'.len, c1'.own, .inr ⟨b1, b2, ?_, .inl fun j hj y hy => ?_⟩⟩
      · refine Classical.byContradiction fun hn => ?_
        have := a4 (by omega)
        omega
      · rw [hbase, hC] at hj
        exact (poss_same (c1'.far j hj)).1 hy
  · rw [bindE_no (by rw [a1]; decide)]
    refine ⟨s1'.len, s1'.own, .inr ⟨a1, a2, a3, .inl fun j hj y hy => ?_⟩⟩
    rw [hbase, hC] at hj
    exact (poss_same (s1'.far j hj)).1 hy
end Go.Proofs.Ytkljfampkkfgdaa
