/- The journal layer: a journal that is open, and its disk, plainly. -/
import Derived.Test.YtkljfampkkfgdaaJLawD
namespace Go.Proofs.Ytkljfampkkfgdaa
/-- What is read of contents in which a state lies, records, and the first d of them surely. -/
theorem read_live {c : Nat → Bs} {N : Nat} {st : Bs} {l : List Bs} {d : Nat} {ep reg : Int} (hcur : curC c = (ep, reg)) (he : 1 ≤ ep) (he2 : ep < 9223372036854775808) (hs : ∀ s ∈ st :: l, s.length ≤ 65536) (hfit : usedM (st :: l) ≤ capM N) (hN : N ≤ 4096) (hd : d ≤ l.length)
    (hfull : Laid (fun p x => c (baseM N reg + p) = x) ep 0 0 (st :: l.take d)) (hlive : Laid (fun p x => c (baseM N reg + p) = x ∨ c (baseM N reg + p) = zeroB) ep 0 0 (st :: l)) (hz : ∀ p, usedM (st :: l) ≤ p → p < capM N → c (baseM N reg + p) = zeroB) :
    ∃ k, d ≤ k ∧ k ≤ l.length ∧ parseC c N = some (st, l.take k) := by
  have e1 : (curC c).1 = ep := by rw [hcur]
  have e2 : (curC c).2 = reg := by rw [hcur]
  have f2 := hfull.2
  have l2 := hlive.2
  rw [Nat.zero_add] at f2 l2
  obtain ⟨k, h1, h2, h3⟩ := parse_live (g := c) (N := N) (st := st) (l := l) (by omega) (by omega) hs hfit hN (by rw [e1, e2]; exact ⟨hfull.1, trivial⟩) (by rw [e1, e2]; exact l2) (by rw [e2]; exact hz)
  exact ⟨k, h3 d hd (by rw [e1, e2]; exact f2), h1, h2⟩
/-- The journal J is open on the disk D. -/
structure Live (D : Dk) (J : Jn) : Prop where
  cur : curC (getM D) = (J.ep, J.reg)
  ep : 1 ≤ J.ep
  used : J.used = usedM (J.st :: J.recs)
  fit : J.used ≤ capM D.sec.length
  dur : J.dur ≤ J.recs.length
  small : ∀ s ∈ J.st :: J.recs, s.length ≤ 65536
  laid : Laid (fun p x => getM D (baseM D.sec.length J.reg + p) = x) J.ep 0 0 (J.st :: J.recs)
  zero : ∀ p, J.used ≤ p → p < capM D.sec.length → getM D (baseM D.sec.length J.reg + p) = zeroB
  sure : ∀ j y, poss D j y → y = getM D j ∨ (y = zeroB ∧ baseM D.sec.length J.reg + usedM (J.st :: J.recs.take J.dur) ≤ j ∧ j < baseM D.sec.length J.reg + capM D.sec.length)
theorem Live.regOk {D : Dk} {J : Jn} (h : Live D J) : 0 ≤ J.reg ∧ J.reg ≤ 1 := by
  have := curC_ok (getM D)
  rw [h.cur] at this
  exact this.2
theorem Live.heads {D : Dk} {J : Jn} (h : Live D J) : ∀ j, j < 2 → ∀ y, poss D j y → y = getM D j := fun j hj y hy => by
  have := base_two D.sec.length h.regOk.1
  rcases h.sure j y hy with q | ⟨_, q, _⟩
  · exact q
  · omega
theorem Live.curC {D : Dk} {J : Jn} (h : Live D J) (h8 : 8 ≤ D.sec.length) {c : Nat → Bs} (hc : Choice D c) : curC c = (J.ep, J.reg) := by
  rw [← h.cur]
  exact curC_congr (h.heads 0 (by omega) _ (hc 0 (by omega))) (h.heads 1 (by omega) _ (hc 1 (by omega)))
theorem used_cons_take (st : Bs) (l : List Bs) (d : Nat) : usedM (st :: l.take d) ≤ usedM (st :: l) := by
  have := usedM_take_le l d
  simp only [usedM]; omega
/-- What is read of what a crash leaves: the sure records, and some of the others. -/
theorem Live.read {D : Dk} {J : Jn} (h : Live D J) (h8 : 8 ≤ D.sec.length) (hN : D.sec.length ≤ 4096) (he2 : J.ep < 9223372036854775808) {c : Nat → Bs} (hc : Choice D c) : ∃ k, J.dur ≤ k ∧ k ≤ J.recs.length ∧ parseC c D.sec.length = some (J.st, J.recs.take k) := by
  have hfb := fit_base (N := D.sec.length) h.regOk (by omega)
  have hu := h.used
  have hf := h.fit
  have hin : ∀ p, p < capM D.sec.length → poss D (baseM D.sec.length J.reg + p) (c (baseM D.sec.length J.reg + p)) := fun p hp => hc _ (by omega)
  refine read_live (h.curC h8 hc) h.ep he2 h.small (by rw [← hu]; exact hf) hN h.dur ?_ ?_ ?_
  · have e : J.st :: J.recs = (J.st :: J.recs.take J.dur) ++ J.recs.drop J.dur := by simp
    have hl := h.laid
    rw [e, Laid.append] at hl
    have hle := used_cons_take J.st J.recs J.dur
    refine hl.1.mono fun p x hp1 hp2 hx => ?_
    rcases h.sure _ _ (hin p (by omega)) with q | ⟨_, q, _⟩
    · rw [q]; exact hx
    · omega
  · refine h.laid.mono fun p x hp1 hp2 hx => ?_
    rcases h.sure _ _ (hin p (by omega)) with q | ⟨q, _⟩
    · exact .inl (by rw [q]; exact hx)
    · exact .inr q
  · intro p hp1 hp2
    rcases h.sure _ _ (hin p hp2) with q | ⟨q, _⟩
    · rw [q]; exact h.zero p (by rw [hu]; exact hp1) hp2
    · exact q
/-- The journal behind a new epoch. -/
theorem begin_live {D : Dk} {st : Bs} {rs : List Bs} {R : Int × Dk} (h : BeginP D (st :: rs) R) (h0 : R.1 = 0) (he : (_root_.Go.Proofs.Ytkljfampkkfgdaa.curC (getM D)).1 < 4611686018427387904) (huse : usedM (st :: rs) ≤ capM D.sec.length) (hs : ∀ s ∈ st :: rs, s.length ≤ 65536) (J : Jn) : Live R.2 (begunJ D J st rs) := by
  have hck := curC_ok (getM D)
  rcases h.res with ⟨_, h2, _, h4, h5⟩ | ⟨h1, _⟩
  · have hl := h5.laid
    have hz := h5.zero
    refine ⟨new_cur h5 he, by simp only [begunJ]; omega, rfl, by simp only [begunJ]; rw [h.len]; exact huse, Nat.le_refl _, hs, ?_, ?_, fun j y hy => .inl (h4 j y hy)⟩
    · rw [h.len]; exact hl
    · rw [h.len]; exact hz
  · rw [h0] at h1; cases h1
/-- A record is laid behind the others. -/
theorem append_live {D : Dk} {J : Jn} (h : Live D J) (ho : D.off = false) (h8 : 8 ≤ D.sec.length) (hN : D.sec.length ≤ 4096) (he2 : J.ep < 9223372036854775808) {s : Bs} (hs : s.length ≤ 1024) (hfit : J.used + unitsM s.length ≤ capM D.sec.length) {R : Int × Dk} (hR : storeM D ((baseM D.sec.length J.reg + J.used : Nat) : Int) J.ep ((J.recs.length + 1 : Nat) : Int) s = R) :
    R.2.sec.length = D.sec.length ∧ R.2.own = D.own ∧ ((R.1 = 0 ∧ R.2.off = false ∧ (D.fuse < 0 → R.2.fuse < 0) ∧ Live R.2 { J with recs := J.recs ++ [s], used := J.used + unitsM s.length }) ∨
      (R.1 = 70 ∧ R.2.off = true ∧ 0 ≤ D.fuse ∧ ∀ c, Choice R.2 c → curC c = (J.ep, J.reg) ∧ ∃ k, J.dur ≤ k ∧ k ≤ (J.recs ++ [s]).length ∧ parseC c D.sec.length = some (J.st, (J.recs ++ [s]).take k))) := by
  have hfb := fit_base (N := D.sec.length) h.regOk (by omega)
  have hb2 := base_two D.sec.length h.regOk.1
  have hu := h.used
  have hl := h.laid
  have hz := h.zero
  obtain ⟨m, hm, hw, hr⟩ := store_spec ho (fr := baseM D.sec.length J.reg + J.used) (e := J.ep) (q := ((J.recs.length + 1 : Nat) : Int)) (s := s) (by omega)
  rw [hR] at hw hr
  obtain ⟨base, hbase⟩ : ∃ base, baseM D.sec.length J.reg = base := ⟨_, rfl⟩
  obtain ⟨C, hC⟩ : ∃ C, capM D.sec.length = C := ⟨_, rfl⟩
  have hsure := h.sure
  rw [hbase] at hfb hb2 hl hz hw hr hsure
  rw [hC] at hfit hfb hz hsure
  have hdu := used_cons_take J.st J.recs J.dur
  have htake : (J.recs ++ [s]).take J.dur = J.recs.take J.dur := List.take_append_of_le_length h.dur
  have hsmall : ∀ x ∈ J.st :: (J.recs ++ [s]), x.length ≤ 65536 := fun x hx => by
    rw [← List.cons_append, List.mem_append, List.mem_singleton] at hx
    rcases hx with hx | rfl
    · exact h.small x hx
    · omega
  have hused : usedM (J.st :: (J.recs ++ [s])) = J.used + unitsM s.length := by
    rw [hu, ← List.cons_append, usedM_append]; simp [usedM]
  -- a block that was written, or was empty
  have hposs : ∀ j y, poss R.2 j y → (poss D j y ∧ (j < base + J.used ∨ base + J.used + unitsM s.length ≤ j)) ∨ ∃ k, k < unitsM s.length ∧ j = base + J.used + k ∧ (y = zeroB ∨ y = unitM J.ep ((J.recs.length + 1 : Nat) : Int) k s) := by
    intro j y hy
    by_cases hj : j < base + J.used ∨ base + J.used + unitsM s.length ≤ j
    · exact .inl ⟨(poss_same (hw.far j (by omega))).1 hy, hj⟩
    · refine .inr ⟨j - (base + J.used), by omega, by omega, ?_⟩
      have old : poss D j y → y = zeroB := fun q => by
        rcases hsure j y q with q | ⟨q, _⟩
        · rw [q]
          have := hz (j - base) (by omega) (by omega)
          rw [show base + (j - base) = j from by omega] at this
          exact this
        · exact q
      by_cases hjm : j - (base + J.used) < m
      · rcases hw.poss (j - (base + J.used)) hjm y (by rw [show base + J.used + (j - (base + J.used)) = j from by omega]; exact hy) with q | q
        · rw [show base + J.used + (j - (base + J.used)) = j from by omega] at q
          exact .inl (old q)
        · exact .inr q
      · exact .inl (old ((poss_same (hw.far j (by omega))).1 hy))
  refine ⟨hw.len, hw.own, ?_⟩
  rcases hr with ⟨a1, a2, a3, a4⟩ | ⟨a1, a2, a3⟩
  · refine .inl ⟨a1, a2, a4, ?_⟩
    have g0 : ∀ j, (j < base + J.used ∨ base + J.used + unitsM s.length ≤ j) → getM R.2 j = getM D j := fun j hj => getM_same (hw.far j (by omega))
    refine ⟨?_, h.ep, hused.symm, by rw [hw.len, hC]; exact hfit, by simp only [List.length_append, List.length_singleton]; have := h.dur; omega, hsmall, ?_, ?_, ?_⟩
    · simp only
      rw [← h.cur]
      exact curC_congr (g0 0 (.inl (by omega))) (g0 1 (.inl (by omega)))
    · simp only
      rw [hw.len, hbase, ← List.cons_append, Laid.append]
      refine ⟨hl.mono fun p x hp1 hp2 hx => by rw [g0 _ (.inl (by omega))]; exact hx, fun k hk => ?_, trivial⟩
      rw [Nat.zero_add, ← hu, List.length_cons, Nat.zero_add]
      show getM R.2 (base + (J.used + k)) = _
      rw [← Nat.add_assoc]
      exact a3 k hk
    · intro p hp1 hp2
      rw [hw.len, hC] at hp2
      rw [hw.len, hbase]
      simp only at hp1 ⊢
      rw [g0 _ (.inr (by omega))]
      exact hz p (by omega) hp2
    · intro j y hy
      simp only
      rw [hw.len, hbase, hC, htake]
      rcases hposs j y hy with ⟨q, hj⟩ | ⟨k, hk, rfl, q | q⟩
      · rw [g0 j hj]; exact hsure j y q
      · exact .inr ⟨q, by omega, by omega⟩
      · exact .inl (by rw [a3 k hk]; exact q)
  · refine .inr ⟨a1, a2, a3, fun c hc => ?_⟩
    have hcc : ∀ j, j < D.sec.length → poss R.2 j (c j) := fun j hj => hc j (by rw [hw.len]; exact hj)
    have low : ∀ j, j < D.sec.length → j < base + usedM (J.st :: J.recs.take J.dur) → c j = getM D j := fun j hj hlt => by
      rcases hposs j _ (hcc j hj) with ⟨q, _⟩ | ⟨k, hk, e, _⟩
      · rcases hsure j _ q with q | ⟨_, q, _⟩
        · exact q
        · omega
      · omega
    have hcur : curC c = (J.ep, J.reg) := by
      rw [← h.cur]
      exact curC_congr (low 0 (by omega) (by omega)) (low 1 (by omega) (by omega))
    refine ⟨hcur, ?_⟩
    refine read_live hcur h.ep he2 hsmall (by rw [hused, hC]; exact hfit) hN (by simp only [List.length_append, List.length_singleton]; have := h.dur; omega) ?_ ?_ ?_
    · rw [hbase, htake]
      have e : J.st :: J.recs = (J.st :: J.recs.take J.dur) ++ J.recs.drop J.dur := by simp
      have hl2 := hl
      rw [e, Laid.append] at hl2
      exact hl2.1.mono fun p x hp1 hp2 hx => by rw [low _ (by omega) (by omega)]; exact hx
    · rw [hbase, ← List.cons_append, Laid.append]
      refine ⟨hl.mono fun p x hp1 hp2 hx => ?_, fun k hk => ?_, trivial⟩
      · rcases hposs _ _ (hcc (base + p) (by omega)) with ⟨q, _⟩ | ⟨k, hk, e, _⟩
        · rcases hsure _ _ q with q | ⟨q, _⟩
          · exact .inl (by rw [q]; exact hx)
          · exact .inr q
        · omega
      · rw [Nat.zero_add, ← hu, List.length_cons, Nat.zero_add]
        rcases hposs _ _ (hcc (base + (J.used + k)) (by omega)) with ⟨_, q⟩ | ⟨k', hk', e, q | q⟩
        · omega
        · exact .inr q
        · obtain rfl : k = k' := by omega
          exact .inl q
    · intro p hp1 hp2
      rw [hused] at hp1
      rw [hC] at hp2
      rw [hbase]
      rcases hposs _ _ (hcc (base + p) (by omega)) with ⟨q, _⟩ | ⟨k', hk', e, _⟩
      · rcases hsure _ _ q with q | ⟨q, _⟩
        · rw [q]; exact hz p (by omega) hp2
        · exact q
      · omega
/-- All records become sure. -/
theorem commit_live {D : Dk} {J : Jn} (h : Live D J) (ho : D.off = false) : (syncM D).2.own = D.own ∧ (syncM D).2.sec.length = D.sec.length ∧
    (((syncM D).1 = 0 ∧ (syncM D).2.off = false ∧ (D.fuse < 0 → (syncM D).2.fuse < 0) ∧ Live (syncM D).2 { J with dur := J.recs.length }) ∨ ((syncM D).1 = 70 ∧ (syncM D).2.off = true ∧ (syncM D).2.sec = D.sec ∧ 0 ≤ D.fuse)) := by
  obtain ⟨y1, y2, y3⟩ := sync_spec ho
  refine ⟨y1, y2, ?_⟩
  rcases y3 with ⟨d1, d2, d3, d4, d5, d6⟩ | q
  · have hg : getM (syncM D).2 = getM D := funext d3
    refine .inl ⟨d1, d2, d6, by rw [hg]; exact h.cur, h.ep, h.used, by rw [y2]; exact h.fit, Nat.le_refl _, h.small, by rw [y2, hg]; exact h.laid, by rw [y2, hg]; exact h.zero, fun j y hy => .inl (by rw [hg]; exact d4 j y hy)⟩
  · exact .inr q
end Go.Proofs.Ytkljfampkkfgdaa
