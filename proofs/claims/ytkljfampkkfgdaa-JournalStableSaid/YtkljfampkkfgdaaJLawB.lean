/- The journal layer: what writes leave, step by step. -/
import Derived.Test.YtkljfampkkfgdaaJLawA
namespace Go.Proofs.Ytkljfampkkfgdaa
/-- Writes on blocks from fr on: nothing else has changed, and each block may have what it might have, or what was written. -/
structure Wrote (D E : Dk) (fr n : Nat) (u : Nat → Bs) : Prop where
  len : E.sec.length = D.sec.length
  own : E.own = D.own
  far : ∀ j, j < fr ∨ fr + n ≤ j → E.sec[j]? = D.sec[j]?
  poss : ∀ k, k < n → ∀ y, poss E (fr + k) y → poss D (fr + k) y ∨ y = u k
theorem padB_full {s : Bs} (h : s.length = 64) : padB s = s := by simp [padB, h]
theorem padB_nil : padB [] = zeroB := by simp [padB, zeroB]
/-- One write. -/
theorem write_spec {D : Dk} (ho : D.off = false) {n : Nat} (hn : n < D.sec.length) {s : Bs} (hs : s.length ≤ 64) :
    Wrote D (writeM D n s).2 n 1 (fun _ => padB s) ∧
    (((writeM D n s).1 = 0 ∧ (writeM D n s).2.off = false ∧ getM (writeM D n s).2 n = padB s ∧ (D.fuse < 0 → (writeM D n s).2.fuse < 0)) ∨ ((writeM D n s).1 = 70 ∧ (writeM D n s).2.off = true ∧ 0 ≤ D.fuse)) := by
  unfold writeM
  rw [if_neg (by simp [ho]), if_neg (by omega), if_neg (by omega)]
  by_cases hf : D.fuse = 0
  · rw [if_pos hf]
    exact ⟨⟨rfl, rfl, fun _ _ => rfl, fun k _ y h => .inl h⟩, .inr ⟨rfl, rfl, by omega⟩⟩
  · rw [if_neg hf]
    have hg : (D.sec.modify n fun x => { x with pend := x.pend ++ [padB s] })[n]? = some { D.sec[n] with pend := D.sec[n].pend ++ [padB s] } := by
      rw [List.getElem?_modify, List.getElem?_eq_getElem hn]; simp
    refine ⟨⟨by simp, rfl, fun j hj => ?_, fun k hk y h => ?_⟩, .inl ⟨rfl, ho, ?_, fun h => ?_⟩⟩
    · simp only [Int.toNat_natCast]
      rw [List.getElem?_modify]
      simp only [if_neg (show ¬ n = j from by omega)]
      simp
    · obtain rfl : k = 0 := by omega
      obtain ⟨x, h1, h2⟩ := h
      simp only [Int.toNat_natCast, Nat.add_zero] at h1
      rw [hg] at h1
      cases h1
      rcases h2 with rfl | h2
      · exact .inl ⟨_, List.getElem?_eq_getElem hn, .inl rfl⟩
      · simp only [List.mem_append, List.mem_singleton] at h2
        rcases h2 with h2 | h2
        · exact .inl ⟨_, List.getElem?_eq_getElem hn, .inr h2⟩
        · exact .inr h2
    · have : ({ D with fuse := fdec D.fuse, sec := D.sec.modify n fun x => { x with pend := x.pend ++ [padB s] } } : Dk).sec[n]? = some { D.sec[n] with pend := D.sec[n].pend ++ [padB s] } := hg
      simp only [Int.toNat_natCast]
      rw [getM_at this]
      simp [Sec.latest]
    · simp only [fdec]; split <;> omega
theorem Wrote.refl (D : Dk) (fr : Nat) (u : Nat → Bs) : Wrote D D fr 0 u := ⟨rfl, rfl, fun _ _ => rfl, fun k hk => by omega⟩
/-- One block more. -/
theorem Wrote.snoc {D E E' : Dk} {fr n : Nat} {u : Nat → Bs} (h : Wrote D E fr n u) (h' : Wrote E E' (fr + n) 1 (fun _ => u n)) : Wrote D E' fr (n + 1) u := by
  refine ⟨h'.len.trans h.len, h'.own.trans h.own, fun j hj => (h'.far j (by omega)).trans (h.far j (by omega)), fun k hk y hy => ?_⟩
  by_cases hkn : k < n
  · exact h.poss k hkn y ((poss_same (h'.far (fr + k) (by omega))).1 hy)
  · obtain rfl : k = n := by omega
    rcases h'.poss 0 (by omega) y (by rw [Nat.add_zero]; exact hy) with q | q
    · rw [Nat.add_zero] at q
      exact .inl ((poss_same (h.far (fr + k) (by omega))).1 q)
    · exact .inr q
/-- Writes in a row. -/
def rowW (fr : Nat) (u : Nat → Bs) (n : Nat) : List (Int × Bs) := (List.range n).map fun (i : Nat) => (((fr + i : Nat) : Int), u i)
theorem rowW_succ (fr : Nat) (u : Nat → Bs) (n : Nat) : rowW fr u (n + 1) = rowW fr u n ++ [(((fr + n : Nat) : Int), u n)] := by simp [rowW, List.range_succ]
theorem row_spec {D : Dk} (ho : D.off = false) {fr : Nat} {u : Nat → Bs} : ∀ n, fr + n ≤ D.sec.length → (∀ i, i < n → (u i).length = 64) →
    ∃ m, m ≤ n ∧ Wrote D (writesM (rowW fr u n) D).2 fr m u ∧
    (((writesM (rowW fr u n) D).1 = 0 ∧ (writesM (rowW fr u n) D).2.off = false ∧ (∀ k, k < n → getM (writesM (rowW fr u n) D).2 (fr + k) = u k) ∧ (D.fuse < 0 → (writesM (rowW fr u n) D).2.fuse < 0)) ∨ ((writesM (rowW fr u n) D).1 = 70 ∧ (writesM (rowW fr u n) D).2.off = true ∧ 0 ≤ D.fuse)) := by
  intro n
  induction n with
  | zero => intro _ _; exact ⟨0, Nat.le_refl _, Wrote.refl _ _ _, .inl ⟨rfl, ho, fun k hk => by omega, fun h => h⟩⟩
  | succ n ih =>
    intro hn hu
    obtain ⟨m, hm, hw, hr⟩ := ih (by omega) fun i hi => hu i (by omega)
    rw [rowW_succ]
    rcases hr with ⟨h1, h2, h3, h4⟩ | ⟨h1, h2, h3⟩
    · rw [writesM_snoc h1]
      simp only
      have hnn : fr + n < (writesM (rowW fr u n) D).2.sec.length := by rw [hw.len]; omega
      have hlen := hu n (by omega)
      have hw' : Wrote D (writesM (rowW fr u n) D).2 fr n u := by
        refine ⟨hw.len, hw.own, fun j hj => hw.far j (by omega), fun k hk y hy => ?_⟩
        by_cases hkm : k < m
        · exact hw.poss k hkm y hy
        · exact .inl ((poss_same (hw.far (fr + k) (by omega))).1 hy)
      obtain ⟨q1, q2⟩ := write_spec h2 hnn (s := u n) (by omega)
      rw [padB_full hlen] at q1 q2
      refine ⟨n + 1, Nat.le_refl _, hw'.snoc q1, ?_⟩
      rcases q2 with ⟨a1, a2, a3, a4⟩ | ⟨a1, a2, a3⟩
      · refine .inl ⟨a1, a2, fun k hk => ?_, fun h => a4 (h4 h)⟩
        by_cases hkn : k < n
        · rw [getM_same (q1.far (fr + k) (by omega))]; exact h3 k hkn
        · obtain rfl : k = n := by omega
          exact a3
      · exact .inr ⟨a1, a2, by
          refine Classical.byContradiction fun hn => ?_
          have := h4 (by omega)
          omega⟩
    · rw [writesM_stop (by rw [h1]; decide)]
      exact ⟨m, by omega, hw, .inr ⟨h1, h2, h3⟩⟩
theorem strW_row (fr : Nat) (e q : Int) (s : Bs) (k : Nat) : strW (fr : Int) e q s k = rowW fr (fun i => unitM e q i s) k := by
  unfold strW rowW
  refine List.map_congr_left fun i _ => ?_
  simp
/-- A string is laid. -/
theorem store_spec {D : Dk} (ho : D.off = false) {fr : Nat} {e q : Int} {s : Bs} (hn : fr + unitsM s.length ≤ D.sec.length) :
    ∃ m, m ≤ unitsM s.length ∧ Wrote D (storeM D fr e q s).2 fr m (fun i => unitM e q i s) ∧
    (((storeM D fr e q s).1 = 0 ∧ (storeM D fr e q s).2.off = false ∧ (∀ k, k < unitsM s.length → getM (storeM D fr e q s).2 (fr + k) = unitM e q k s) ∧ (D.fuse < 0 → (storeM D fr e q s).2.fuse < 0)) ∨ ((storeM D fr e q s).1 = 70 ∧ (storeM D fr e q s).2.off = true ∧ 0 ≤ D.fuse)) := by
  have := row_spec ho (fr := fr) (u := fun i => unitM e q i s) (unitsM s.length) hn fun i _ => unit_length ..
  unfold storeM
  rw [strW_row]
  exact this
/-- Only blocks from fr on, n of them, may have changed. -/
structure Only (D E : Dk) (fr n : Nat) : Prop where
  len : E.sec.length = D.sec.length
  own : E.own = D.own
  far : ∀ j, j < fr ∨ fr + n ≤ j → E.sec[j]? = D.sec[j]?
theorem Only.refl (D : Dk) (fr n : Nat) : Only D D fr n := ⟨rfl, rfl, fun _ _ => rfl⟩
theorem Only.trans {D E G : Dk} {fr n : Nat} (h : Only D E fr n) (k : Only E G fr n) : Only D G fr n := ⟨k.len.trans h.len, k.own.trans h.own, fun j hj => (k.far j hj).trans (h.far j hj)⟩
theorem Only.wide {D E : Dk} {fr n fr' n' : Nat} (h : Only D E fr n) (h1 : fr' ≤ fr) (h2 : fr + n ≤ fr' + n') : Only D E fr' n' := ⟨h.len, h.own, fun j hj => h.far j (by omega)⟩
theorem Wrote.only {D E : Dk} {fr n : Nat} {u : Nat → Bs} (h : Wrote D E fr n u) : Only D E fr n := ⟨h.len, h.own, h.far⟩
/-- Strings are laid. -/
theorem stores_spec {base : Nat} {e : Int} : ∀ (l : List Bs) (D : Dk) (a q : Nat), D.off = false → base + a + usedM l ≤ D.sec.length →
    Only D (storesM D base e a q l).2 (base + a) (usedM l) ∧
    (((storesM D base e a q l).1 = 0 ∧ (storesM D base e a q l).2.off = false ∧ Laid (fun p x => getM (storesM D base e a q l).2 (base + p) = x) e a q l ∧ (D.fuse < 0 → (storesM D base e a q l).2.fuse < 0)) ∨ ((storesM D base e a q l).1 = 70 ∧ (storesM D base e a q l).2.off = true ∧ 0 ≤ D.fuse)) := by
  intro l
  induction l with
  | nil => intro D a q ho _; exact ⟨Only.refl _ _ _, .inl ⟨rfl, ho, trivial, fun h => h⟩⟩
  | cons s l ih =>
    intro D a q ho hn
    simp only [usedM] at hn
    obtain ⟨m, hm, hw, hr⟩ := store_spec ho (fr := base + a) (e := e) (q := (q : Int)) (s := s) (by omega)
    have hw1 : Only D (storeM D ((base + a : Nat) : Int) e (q : Int) s).2 (base + a) (unitsM s.length) := hw.only.wide (Nat.le_refl _) (by omega)
    rw [storesM]
    rcases hr with ⟨h1, h2, h3, h4⟩ | ⟨h1, h2, h3⟩
    · rw [bindE_ok h1]
      obtain ⟨q1, q2⟩ := ih (storeM D ((base + a : Nat) : Int) e (q : Int) s).2 (a + unitsM s.length) (q + 1) h2 (by rw [hw1.len]; omega)
      refine ⟨(hw1.wide (Nat.le_refl _) (by simp only [usedM]; omega)).trans (q1.wide (by omega) (by simp only [usedM]; omega)), ?_⟩
      rcases q2 with ⟨a1, a2, a3, a4⟩ | ⟨a1, a2, a3⟩
      · refine .inl ⟨a1, a2, ⟨fun k hk => ?_, a3⟩, fun h => a4 (h4 h)⟩
        show getM _ (base + (a + k)) = _
        rw [← Nat.add_assoc, getM_same (q1.far (base + a + k) (by omega))]
        exact h3 k hk
      · exact .inr ⟨a1, a2, by
          refine Classical.byContradiction fun hn => ?_
          have := h4 (by omega)
          omega⟩
    · rw [bindE_no (by rw [h1]; decide)]
      exact ⟨hw1.wide (Nat.le_refl _) (by simp only [usedM]; omega), .inr ⟨h1, h2, h3⟩⟩
/-- Blocks are cleared. -/
theorem clear_spec : ∀ (n i : Nat) (D : Dk), D.off = false → i + n ≤ D.sec.length →
    Only D (clearM n i D).2 i n ∧
    (((clearM n i D).1 = 0 ∧ (clearM n i D).2.off = false ∧ (∀ k, k < n → getM (clearM n i D).2 (i + k) = zeroB) ∧ (D.fuse < 0 → (clearM n i D).2.fuse < 0)) ∨ ((clearM n i D).1 = 70 ∧ (clearM n i D).2.off = true ∧ 0 ≤ D.fuse)) := by
  intro n
  induction n with
  | zero => intro i D ho _; exact ⟨Only.refl _ _ _, .inl ⟨rfl, ho, fun k hk => by omega, fun h => h⟩⟩
  | succ n ih =>
    intro i D ho hn
    rw [clearM]
    by_cases hz : getM D i = zeroB
    · rw [if_pos hz]
      obtain ⟨q1, q2⟩ := ih (i + 1) D ho (by omega)
      refine ⟨q1.wide (by omega) (by omega), ?_⟩
      rcases q2 with ⟨a1, a2, a3, a4⟩ | h
      · refine .inl ⟨a1, a2, fun k hk => ?_, a4⟩
        cases k with
        | zero => rw [show i + 0 = i from rfl, getM_same (q1.far i (by omega))]; exact hz
        | succ k => rw [show i + (k + 1) = i + 1 + k from by omega]; exact a3 k (by omega)
      · exact .inr h
    · rw [if_neg hz]
      obtain ⟨q1, q2⟩ := write_spec ho (n := i) (by omega) (s := []) (by simp)
      rw [padB_nil] at q1 q2
      rcases q2 with ⟨a1, a2, a3, a4⟩ | ⟨a1, a2, a3⟩
      · rw [if_pos a1]
        obtain ⟨r1, r2⟩ := ih (i + 1) (writeM D i []).2 a2 (by rw [q1.len]; omega)
        refine ⟨(q1.only.wide (Nat.le_refl _) (by omega)).trans (r1.wide (by omega) (by omega)), ?_⟩
        rcases r2 with ⟨b1, b2, b3, b4⟩ | ⟨b1, b2, b3⟩
        · refine .inl ⟨b1, b2, fun k hk => ?_, fun h => b4 (a4 h)⟩
          cases k with
          | zero => rw [show i + 0 = i from rfl, getM_same (r1.far i (by omega))]; exact a3
          | succ k => rw [show i + (k + 1) = i + 1 + k from by omega]; exact b3 k (by omega)
        · exact .inr ⟨b1, b2, by
            refine Classical.byContradiction fun hn => ?_
            have := a4 (by omega)
            omega⟩
      · rw [if_neg (by rw [a1]; decide)]
        exact ⟨q1.only.wide (Nat.le_refl _) (by omega), .inr ⟨a1, a2, a3⟩⟩
/-- All is made durable. -/
theorem sync_spec {D : Dk} (ho : D.off = false) : (syncM D).2.own = D.own ∧ (syncM D).2.sec.length = D.sec.length ∧
    (((syncM D).1 = 0 ∧ (syncM D).2.off = false ∧ (∀ j, getM (syncM D).2 j = getM D j) ∧ (∀ j y, poss (syncM D).2 j y → y = getM D j) ∧ (∀ s ∈ (syncM D).2.sec, s.pend = []) ∧ (D.fuse < 0 → (syncM D).2.fuse < 0)) ∨ ((syncM D).1 = 70 ∧ (syncM D).2.off = true ∧ (syncM D).2.sec = D.sec ∧ 0 ≤ D.fuse)) := by
  unfold syncM
  rw [if_neg (by simp [ho])]
  by_cases hf : D.fuse = 0
  · rw [if_pos hf]
    exact ⟨rfl, rfl, .inr ⟨rfl, rfl, rfl, by omega⟩⟩
  · rw [if_neg hf]
    have hg : ∀ j, getM { D with fuse := fdec D.fuse, sec := D.sec.map fun x => ⟨x.latest, []⟩ } j = getM D j := fun j => by
      unfold getM
      simp only [List.getD_eq_getElem?_getD, List.getElem?_map]
      cases h : D.sec[j]? with
      | none => rfl
      | some s => simp [Sec.latest]
    refine ⟨rfl, by simp, .inl ⟨rfl, ho, hg, fun j y hy => ?_, fun s hs => ?_, fun h => by simp only [fdec]; split <;> omega⟩⟩
    · rw [← hg j]
      obtain ⟨s, h1, h2⟩ := hy
      rw [getM_at h1]
      simp only [List.getElem?_map, Option.map_eq_some_iff] at h1
      obtain ⟨x, _, rfl⟩ := h1
      rcases h2 with rfl | h2
      · rfl
      · cases h2
    · obtain ⟨x, _, rfl⟩ := List.mem_map.1 hs
      rfl
end Go.Proofs.Ytkljfampkkfgdaa
