/- The journal layer: two disks side by side. -/
import Derived.Test.YtkljfampkkfgdaaJRef
namespace Go.Proofs.Ytkljfampkkfgdaa
open Go.RowKit
/-- A disk with a journal, and another disk, apart from each other and from the blocks K. -/
def TwoD (K : Nat → Prop) (W : World) (dk jb : Nat) (D : Dk) (J : Jn) (ck : Nat) (C : Dk) : Prop :=
  (∀ i, K i → i < W.heap.size) ∧ ∃ F G H, DiskAt W dk D F ∧ JAt W jb dk J G ∧ DiskAt W ck C H ∧ (∀ i, F i → ¬ G i) ∧ (∀ i, H i → ¬ F i ∧ ¬ G i) ∧ (∀ i, F i → ¬ K i) ∧ (∀ i, G i → ¬ K i) ∧ ∀ i, H i → ¬ K i
section
variable {K : Nat → Prop} {W W' : World} {dk jb ck : Nat} {D C : Dk} {J : Jn}
theorem TwoD.of (h : JD K W dk jb D J) (hB : Below W.heap.size W W') {H : Nat → Prop} (hc : DiskAt W' ck C H) (hH : ∀ i, H i → W.heap.size ≤ i) : TwoD K W' dk jb D J ck C := by
  obtain ⟨h1, F, G, h2, h3, h4, h5, h6⟩ := h
  exact ⟨fun i hi => Nat.lt_of_lt_of_le (h1 i hi) hB.size, F, G, H, h2.next hB, h3.next hB, hc, h4, fun i hi => ⟨fun hf => by have := h2.lt i hf; have := hH i hi; omega, fun hg => by have := h3.lt i hg; have := hH i hi; omega⟩, h5, h6, fun i hi hk => by have := h1 i hk; have := hH i hi; omega⟩
theorem TwoD.next (h : TwoD K W dk jb D J ck C) (hB : Below W.heap.size W W') : TwoD K W' dk jb D J ck C := by
  obtain ⟨h1, F, G, H, h2, h3, h4, h5⟩ := h
  exact ⟨fun i hi => Nat.lt_of_lt_of_le (h1 i hi) hB.size, F, G, H, h2.next hB, h3.next hB, h4.next hB, h5⟩
theorem TwoD.more (h : TwoD K W dk jb D J ck C) (hB : Below W.heap.size W W') : TwoD (fun i => K i ∨ (W.heap.size ≤ i ∧ i < W'.heap.size)) W' dk jb D J ck C := by
  obtain ⟨h1, F, G, H, h2, h3, h4, h5, h6, h7, h8, h9⟩ := h
  exact ⟨fun i hi => hi.elim (fun hi => Nat.lt_of_lt_of_le (h1 i hi) hB.size) fun hi => hi.2, F, G, H, h2.next hB, h3.next hB, h4.next hB, h5, h6,
    fun i hi hk => hk.elim (h7 i hi) fun hk => (by have := h2.lt i hi; omega), fun i hi hk => hk.elim (h8 i hi) fun hk => (by have := h3.lt i hi; omega), fun i hi hk => hk.elim (h9 i hi) fun hk => (by have := h4.lt i hi; omega)⟩
theorem TwoD.jd (h : TwoD K W dk jb D J ck C) : JD K W dk jb D J := by
  obtain ⟨h1, F, G, H, h2, h3, h4, h5, h6, h7, h8, h9⟩ := h
  exact ⟨h1, F, G, h2, h3, h5, h7, h8⟩
/-- What is done to the first disk keeps the second one. -/
theorem TwoD.left (h : TwoD K W dk jb D J ck C) : ∃ K1, (∀ i, K i → K1 i) ∧ JD K1 W dk jb D J ∧ ∀ w' D' J', JD K1 w' dk jb D' J' → Kp K1 W w' → TwoD K w' dk jb D' J' ck C ∧ Kp K W w' := by
  obtain ⟨h1, F, G, H, h2, h3, h4, h5, h6, h7, h8, h9⟩ := h
  refine ⟨fun i => K i ∨ H i, fun i => .inl, ⟨fun i hi => hi.elim (h1 i) (h4.lt i), F, G, h2, h3, h5, fun i hi hk => hk.elim (h7 i hi) fun hh => (h6 i hh).1 hi, fun i hi hk => hk.elim (h8 i hi) fun hh => (h6 i hh).2 hi⟩, fun w' D' J' hj hk => ?_⟩
  obtain ⟨q1, F', G', q2, q3, q4, q5, q6⟩ := hj
  exact ⟨⟨fun i hi => q1 i (.inl hi), F', G', H, q2, q3, h4.but hk fun i hi hn => hn (.inr hi), q4, fun i hi => ⟨fun hf => q5 i hf (.inr hi), fun hg => q6 i hg (.inr hi)⟩, fun i hi hh => q5 i hi (.inl hh), fun i hi hh => q6 i hi (.inl hh), h9⟩, hk.mono fun i => .inl⟩
/-- What is done to the second disk keeps the first one. -/
theorem TwoD.right (h : TwoD K W dk jb D J ck C) : ∃ K2, (∀ i, K i → K2 i) ∧ DD K2 W ck C ∧ ∀ w' C', DD K2 w' ck C' → Kp K2 W w' → TwoD K w' dk jb D J ck C' ∧ Kp K W w' := by
  obtain ⟨h1, F, G, H, h2, h3, h4, h5, h6, h7, h8, h9⟩ := h
  refine ⟨fun i => K i ∨ F i ∨ G i, fun i => .inl, ⟨fun i hi => hi.elim (h1 i) fun hi => hi.elim (h2.lt i) (h3.lt i), H, h4, fun i hi hk => hk.elim (h9 i hi) fun hk => hk.elim (h6 i hi).1 (h6 i hi).2⟩, fun w' C' hd hk => ?_⟩
  obtain ⟨q1, H', q2, q3⟩ := hd
  exact ⟨⟨fun i hi => q1 i (.inl hi), F, G, H', h2.but hk fun i hi hn => hn (.inr (.inl hi)), h3.but hk fun i hi hn => hn (.inr (.inr hi)), q2, h5, fun i hi => ⟨fun hf => q3 i hi (.inr (.inl hf)), fun hg => q3 i hi (.inr (.inr hg))⟩, h7, h8, fun i hi hh => q3 i hi (.inl hh)⟩, hk.mono fun i => .inl⟩
end
/-- What is read of a journal all of whose records are sure. -/
theorem Live.parse_all {D : Dk} {J : Jn} (h : Live D J) (h8 : 8 ≤ D.sec.length) (hN : D.sec.length ≤ 4096) (he2 : J.ep < 9223372036854775808) (hd : J.dur = J.recs.length) : parseC (getM D) D.sec.length = some (J.st, J.recs) := by
  obtain ⟨k, h1, h2, h3⟩ := h.read h8 hN he2 (choice_lat D)
  rw [h3, List.take_of_length_le (by omega)]
theorem WS.owned {N n : Nat} {D : Dk} {m : Md} (h : WS N n D m) : WS N n { D with own := 0 } m := ⟨h.len, h.low, h.high, h.good, h.heads, ⟨Int.le_refl _, by show (0 : Int) ≤ n; omega⟩, h.few, h.bud⟩
/-- Open finds all sure records, if there is no fuse. -/
theorem WS.reopen {N n : Nat} {D : Dk} {m : Md} (h : WS N n D m) (hn : n + 1 < 160) (ho : D.off = false) (hf : D.fuse < 0) {st : Bs} {rs : List Bs} (hp : parseC (getM D) N = some (st, rs)) : ∃ E K, openM D = (0, E, some K) ∧ E.fuse < 0 ∧ E.own = D.own + 1 ∧ K.st = st ∧ K.recs = rs ∧ K.dur = K.recs.length ∧ WJ N (n + 2) E K (openedM st rs) := by
  obtain ⟨r1, r2⟩ := h.open_ hn
  rcases r2 with ⟨J, b1, b2, b3, b4, b5, b6, b7⟩ | ⟨_, _, _, b4, _⟩ | ⟨_, _, b3, _⟩
  · rw [hp] at b5
    simp only [Option.some.injEq, Prod.mk.injEq] at b5
    rw [← b5.1, ← b5.2] at b7
    exact ⟨_, J, b1, b3 hf, r1, b5.1.symm, b5.2.symm, b6, b7⟩
  · rw [hp] at b4; cases b4
  · rcases b3 with b3 | b3
    · rw [ho] at b3; cases b3
    · omega
theorem jready_no {D : Dk} {J : Jn} (h : J.broken = true ∨ J.own ≠ D.own) : jreadyM D J = (72, J) := by unfold jreadyM; rw [if_pos h]
theorem append_no {D : Dk} {J : Jn} (h : J.broken = true ∨ J.own ≠ D.own) (s : Bs) : appendM D J s = (72, D, J) := by unfold appendM; rw [jready_no h, if_pos (by show (72 : Int) ≠ 0; decide)]
theorem commit_no {D : Dk} {J : Jn} (h : J.broken = true ∨ J.own ≠ D.own) : commitM D J = (72, D, J) := by unfold commitM; rw [jready_no h, if_pos (by show (72 : Int) ≠ 0; decide)]
theorem check_no {D : Dk} {J : Jn} (h : J.broken = true ∨ J.own ≠ D.own) (s : Bs) : checkM D J s = (72, D, J) := by unfold checkM; rw [jready_no h, if_pos (by show (72 : Int) ≠ 0; decide)]
end Go.Proofs.Ytkljfampkkfgdaa
