/- The journal layer: records that are sent to a journal while its disk may be turned off. -/
import Derived.Test.YtkljfampkkfgdaaJReplaces
import Derived.Test.YtkljfampkkfgdaaJTwo
namespace Go.Proofs.Ytkljfampkkfgdaa
open Go.RowKit
/-- What is known while records are sent: those that were sent, and how many of them are sure. -/
structure KP (N n : Nat) (D : Dk) (J : Jn) (m : Md) (first : Bs) (sent : List Bs) (sure : Nat) : Prop where
  ws : WS N n D m
  jbd : JBd J
  mS : m.S = first
  mRA : m.R ++ m.A = sent
  mR : sure ≤ m.R.length
  mK : m.Sure = true
  mW : m.Swap = false
  mE : m.Empty = false
  st : WJ N n D J m ∨ J.broken = true
theorem WJ.recs_eq {N n : Nat} {D : Dk} {J : Jn} {m : Md} (h : WJ N n D J m) : m.R ++ m.A = J.recs := by rw [h.mR, h.mA, List.take_append_drop]
theorem JBd.brk {J : Jn} (h : JBd J) : JBd { J with broken := true } := ⟨h.reg, h.ep, h.recs, h.used⟩
theorem KP.append {N n : Nat} {D : Dk} {J : Jn} {m : Md} {first : Bs} {sent : List Bs} {sure : Nat} (h : KP N n D J m first sent sure) (hn : n < 150) {s : Bs} (hs : s.length ≤ 200) :
    ∃ er D' J' m', appendM D J s = (er, D', J') ∧ (((er = 5 ∨ er = 72) ∧ KP N (n + 1) D' J' m' first sent sure) ∨ ((er = 0 ∨ er = 70) ∧ KP N (n + 1) D' J' m' first (sent ++ [s]) sure)) := by
  rcases h.st with hw | hb
  · rcases hw.append (by omega) s with ⟨q, _⟩ | ⟨_, _, q⟩ | ⟨_, _, _, ⟨q1, q2, q3⟩ | ⟨q1, q2, q3, q4⟩⟩
    · omega
    · exact ⟨_, _, _, _, q, .inl ⟨.inl rfl, h.ws.more (by omega) (by omega), h.jbd, h.mS, h.mRA, h.mR, h.mK, h.mW, h.mE, .inl (hw.more (by omega) (by omega))⟩⟩
    · exact ⟨_, _, _, _, q1, .inr ⟨.inl rfl, q3.ws, q3.jbd, h.mS, by simp only [addedM]; rw [← List.append_assoc, h.mRA], h.mR, h.mK, h.mW, h.mE, .inl q3⟩⟩
    · exact ⟨_, _, _, _, q1, .inr ⟨.inr rfl, q4, h.jbd.brk, h.mS, by simp only [addedM]; rw [← List.append_assoc, h.mRA], h.mR, h.mK, h.mW, h.mE, .inr rfl⟩⟩
  · exact ⟨_, _, _, _, append_no (.inl hb) s, .inl ⟨.inr rfl, h.ws.more (by omega) (by omega), h.jbd, h.mS, h.mRA, h.mR, h.mK, h.mW, h.mE, .inr hb⟩⟩
theorem KP.commit {N n : Nat} {D : Dk} {J : Jn} {m : Md} {first : Bs} {sent : List Bs} {sure : Nat} (h : KP N n D J m first sent sure) :
    ∃ er D' J' m', commitM D J = (er, D', J') ∧ ((er = 0 ∧ KP N n D' J' m' first sent sent.length) ∨ (er ≠ 0 ∧ KP N n D' J' m' first sent sure)) := by
  rcases h.st with hw | hb
  · have hr := hw.recs_eq
    rw [h.mRA] at hr
    obtain ⟨_, ⟨q1, q2, q3⟩ | ⟨q1, q2, q3, q4⟩⟩ := hw.commit
    · exact ⟨_, _, _, _, q1, .inl ⟨rfl, q3.ws, q3.jbd, by rw [← h.mS, hw.mS]; rfl, by simp only [openedM, List.append_nil]; exact hr.symm, by rw [hr]; exact Nat.le_refl _, rfl, rfl, rfl, .inl q3⟩⟩
    · exact ⟨_, _, _, _, q1, .inr ⟨by decide, q4, h.jbd.brk, h.mS, h.mRA, h.mR, h.mK, h.mW, h.mE, .inr rfl⟩⟩
  · exact ⟨_, _, _, _, commit_no (.inl hb), .inr ⟨by decide, h.ws, h.jbd, h.mS, h.mRA, h.mR, h.mK, h.mW, h.mE, .inr hb⟩⟩
theorem KP.final {N n : Nat} {D : Dk} {J : Jn} {m : Md} {first : Bs} {sent : List Bs} {sure : Nat} (h : KP N n D J m first sent sure) (hn : n < 150) (keep : List Int) :
    ∃ E K, openM (crashM D keep) = (0, E, some K) ∧ Bd (crashM D keep) ∧ JBd K ∧ Bd E ∧ K.st = first ∧ sure ≤ K.recs.length ∧ beginsM sent K.recs = true := by
  obtain ⟨k1, k2, k3, _⟩ := h.ws.crash (by omega) keep
  obtain ⟨E, K, l1, l2, l3, l4, l5⟩ := k1.opens (by omega) k2 k3 h.mK
  simp only [allowsM, h.mW, h.mE, h.mK, h.mS, h.mRA, Bool.false_and, Bool.false_or, Bool.true_and, Bool.and_eq_true, beq_iff_eq] at l3
  refine ⟨E, K, l1, k1.bd, l5.jbd, l5.ws.bd, l3.1.1, ?_, l3.2⟩
  obtain ⟨t, ht⟩ := begins_iff.1 l3.1.2
  have := congrArg List.length ht
  simp only [List.length_append] at this
  have := h.mR
  omega
/-- The journal behind the first checkpoint, and the fuse. -/
theorem keeps_first {N : Nat} {D2 : Dk} {J : Jn} (w2 : WJ N 4 D2 J (openedM [] [])) (f2 : D2.fuse < 0) {s : Bs} (hs : s.length ≤ 200) (fuse : Int) :
    ∃ er D3 J3 D4 first, checkM D2 J s = (er, D3, J3) ∧ (er = 0 ∨ (er = 5 ∧ capM N < unitsM s.length)) ∧ J3.st = first ∧ setM D3 fuse = (0, D4) ∧ KP N 5 D4 J3 (openedM first []) first [] 0 := by
  have mk : ∀ {n : Nat} {D : Dk} {J : Jn} {st : Bs}, n ≤ 5 → WJ N n D J (openedM st []) → ∃ E, setM D fuse = (0, E) ∧ KP N 5 E J (openedM st []) st [] 0 := by
    intro n D J st hn h
    obtain ⟨E, g1, g2, g3⟩ := h.fuse fuse
    have g4 := g3.more hn (by decide)
    exact ⟨E, g1, g4.ws, g4.jbd, rfl, rfl, Nat.zero_le _, rfl, rfl, rfl, .inl g4⟩
  rcases w2.check (by decide) s with ⟨q, _⟩ | ⟨_, q, q2⟩ | ⟨_, _, _, ⟨c1, c2, c3, c4, c5, c6⟩ | ⟨_, _, q, _⟩⟩
  · omega
  · obtain ⟨E, e1, e2⟩ := mk (by decide) w2
    exact ⟨5, D2, J, E, [], q2, .inr ⟨rfl, q⟩, w2.mS.symm, e1, e2⟩
  · obtain ⟨E, e1, e2⟩ := mk (by decide) c6
    exact ⟨0, _, _, E, s, c1, .inl rfl, c3, e1, e2⟩
  · omega
/-- Bools in memory. -/
def Bools (w : World) (A : Option Addr) (l : List Bool) : Prop := l = [] ∨ ∃ a, A = some a ∧ ∀ i (h : i < l.length), w.cell? (a.add i) = some (.bool l[i])
theorem Bools.next {w w' : World} {A : Option Addr} {l : List Bool} (h : Bools w A l) (hB : Below w.heap.size w w') : Bools w' A l := by
  rcases h with h | ⟨a, e, h⟩
  · exact .inl h
  · exact .inr ⟨a, e, fun i hi => cell_kept hB (h i hi)⟩
/-- The row of strings that was kept has grown. -/
theorem JD.row {W w wa w' : World} {v v' : Value} {l : List Bs} {dk jb : Nat} {D : Dk} {J : Jn} (h : JD (fun i => Old W i ∨ v.ownBlock = some i) w dk jb D J) (b : Below w.heap.size w wa) (hb : ButS (fun i => v.ownBlock = some i) wa w') (hO : OwnStrs w' 0 v' l) (hON : OldNew wa v v') :
    JD (fun i => Old W i ∨ v'.ownBlock = some i) w' dk jb D J := by
  obtain ⟨h1, F, G, h2, h3, h4, h5, h6⟩ := h
  have hs := b.size
  have hs2 := hb.size
  refine ⟨fun i hi => ?_, F, G, (h2.next b).but hb fun i hi hv => h5 i hi (.inr hv), (h3.next b).but hb fun i hi hv => h6 i hi (.inr hv), h4, fun i hi hk => ?_, fun i hi hk => ?_⟩
  · rcases hi with hi | hi
    · have := h1 i (.inl hi); omega
    · exact hO.lt hi
  · rcases hk with hk | hk
    · exact h5 i hi (.inl hk)
    · rcases hON with q | q
      · exact h5 i hi (.inr (q ▸ hk))
      · have := q i hk; have := h2.lt i hi; omega
  · rcases hk with hk | hk
    · exact h6 i hi (.inl hk)
    · rcases hON with q | q
      · exact h6 i hi (.inr (q ▸ hk))
      · have := q i hk; have := h3.lt i hi; omega
end Go.Proofs.Ytkljfampkkfgdaa
