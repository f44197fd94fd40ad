/- Worlds that differ in a reader and two boxes. -/
import Derived.Test.YtcocengpekndjaaDoorPrStep
namespace Go.Proofs.YtcocengpekndjaaDoor
open Go.RowKit
section
variable {P : Program} {Q : Exit → Act → World → Prop} {T : List Tmp} {a0 : Act} {G : (Nat → Prop) → World → Prop} {l : List Cl}
/-- An operation that calls a function which changes one older block. -/
theorem stepR {ops : Array Oper} {k : Nat} {o : Oper} {t : Tmp} {c : Cl} (b : Nat) (hg : o.guard = none) (hd : o.dst = some t) (hT : t ∈ T) (hz : t < a0.tmps.size) (hc : l.filter (fun c => c.op == some k) = [c]) (hct : c.slot = t)
    (hso : slotsOk ops l k t = true) (St : ∀ c' ∈ l, c'.op = some k ∨ c'.used = some k ∨ ∀ u W W', But b W W' → c'.p u W → c'.p u W') (SG : ∀ d d' W W', G d W → (∀ j, d j → d' j) → But b W W' → G d' W')
    (run : ∀ d a W, Fr T a0 a → G d W → Held d a W l → ¬ d k → Closed ops d → (∀ j, waits o j = true → d j) → ∃ f args, (execOp a.eval o).run P W = .ok (.enter f args) W ∧ Calls P f args W fun e W' => ∃ v, e = .returned v ∧ But b W W' ∧ c.p v W') :
    StepOk P Q ops (Inv T a0 G l) k o := by
  refine ⟨hg, fun d d' a W ⟨hF, hG, hH⟩ hn hcl hw hk hu hself => ?_⟩
  obtain ⟨f, args, hr, hcall⟩ := run d a W hF hG hH hn hcl hw
  refine wp_enters hr hcall fun e W' ⟨v, he, hb, hv⟩ => ⟨v, he, ?_⟩
  rw [hd]
  refine ⟨hF.put hT v, SG _ _ _ _ hG hu hb, hH.put hc hct hso hcl hn hk hu hself (by rw [hF.size]; exact hz) (fun x hx hne h1 h2 u q => ?_) hv⟩
  rcases St x hx with e | e | e
  · exact (hne e).elim
  · exact (h2 (by rw [e]; exact hself)).elim
  · exact e u W W' hb q
end
/-- The worlds differ in three blocks at most, and in what is new. -/
def But3 (b p q : Nat) (w w' : World) : Prop := w'.os = w.os ∧ w'.tape = w.tape ∧ w'.output = w.output ∧ w.heap.size ≤ w'.heap.size ∧ ∀ i, i < w.heap.size → i ≠ b → i ≠ p → i ≠ q → w'.heap[i]? = w.heap[i]?
theorem But3.refl (b p q : Nat) (w : World) : But3 b p q w w := ⟨rfl, rfl, rfl, Nat.le_refl _, fun _ _ _ _ _ => rfl⟩
theorem But3.next {b p q : Nat} {w w1 w2 : World} (h : But3 b p q w w1) (k : Below w1.heap.size w1 w2) : But3 b p q w w2 :=
  ⟨k.os.trans h.1, k.tape.trans h.2.1, k.output.trans h.2.2.1, Nat.le_trans h.2.2.2.1 k.size, fun i hi h0 h1 h2 => (k.block i (Nat.lt_of_lt_of_le hi h.2.2.2.1)).trans (h.2.2.2.2 i hi h0 h1 h2)⟩
theorem But3.on {b p q g : Nat} {w w1 w2 : World} (h : But3 b p q w w1) (k : But g w1 w2) (hg : g = b ∨ g = p ∨ g = q) : But3 b p q w w2 :=
  ⟨k.1.trans h.1, k.2.1.trans h.2.1, k.2.2.1.trans h.2.2.1, Nat.le_trans h.2.2.2.1 k.size, fun i hi h0 h1 h2 => (k.2.2.2.2 i (Nat.lt_of_lt_of_le hi h.2.2.2.1) (by omega)).trans (h.2.2.2.2 i hi h0 h1 h2)⟩
theorem But3.box {b p q : Nat} {w w1 : World} (h : But3 b p q w w1) {g : Nat} {t : TypeId} {k : IntKind} {l : List Int} (x : BoxA w g t k l) (hb : g ≠ b) (hp : g ≠ p) (hq : g ≠ q) : BoxA w1 g t k l := (h.2.2.2.2 g x.lt hb hp hq).trans x
theorem But3.kon {b p q : Nat} {w w1 : World} (h : But3 b p q w w1) (k : Kon w) (hb : b ≠ 0) (hp : p ≠ 0) (hq : q ≠ 0) : Kon w1 :=
  k.low (n₀ := 1) (by omega) ⟨h.1, h.2.1, h.2.2.1, h.2.2.2.1, fun i hi => h.2.2.2.2 i (by have := k.1; omega) (by omega) (by omega) (by omega)⟩
theorem But3.but {b p q : Nat} {w0 w w1 : World} (h : But3 b p q w w1) (B : But b w0 w) (hp : w0.heap.size ≤ p) (hq : w0.heap.size ≤ q) : But b w0 w1 :=
  ⟨h.1.trans B.1, h.2.1.trans B.2.1, h.2.2.1.trans B.2.2.1, Nat.le_trans B.size h.2.2.2.1, fun i hi hb => (h.2.2.2.2 i (Nat.lt_of_lt_of_le hi B.size) hb (by omega) (by omega)).trans (B.2.2.2.2 i hi hb)⟩
theorem But2.but {b p q : Nat} {w0 w w1 : World} (h : But2 p q w w1) (B : But b w0 w) (hp : w0.heap.size ≤ p) (hq : w0.heap.size ≤ q) : But b w0 w1 :=
  ⟨h.1.trans B.1, h.2.1.trans B.2.1, h.2.2.1.trans B.2.2.1, Nat.le_trans B.size h.2.2.2.1, fun i hi hb => (h.2.2.2.2 i (Nat.lt_of_lt_of_le hi B.size) (by omega) (by omega)).trans (B.2.2.2.2 i hi hb)⟩
theorem But2.rd {p q m b : Nat} {w w1 : World} {r : Rd} (h : But2 p q w w1) (x : BoxRd w m b r) (hp : b ≠ p) (hq : b ≠ q) (mp : m ≤ p) (mq : m ≤ q) : BoxRd w1 m b r := by
  have hl := x.lt
  obtain ⟨hm, A, c, h1, h2, h3, h4⟩ := x
  exact ⟨hm, A, c, (h.2.2.2.2 b hl hp hq).trans h1, h2, h.hs h3 h4 (by omega) mp mq, h4⟩
/-- A reader, two boxes for results, and nothing else changed. -/
def GR (w0 : World) (b p q : Nat) (_ : Nat → Prop) (W : World) : Prop := But3 b p q w0 W ∧ (∃ m, BoxA W p 30 .u8 m ∧ m.length = 32) ∧ ∃ m, BoxA W q 30 .u8 m ∧ m.length = 32
theorem GR.next {w0 : World} {b p q : Nat} {d d' : Nat → Prop} {W W' : World} (h : GR w0 b p q d W) (k : Below W.heap.size W W') : GR w0 b p q d' W' := by
  obtain ⟨h, ⟨m, hm, e⟩, ⟨m', hm', e'⟩⟩ := h
  exact ⟨h.next k, ⟨m, hm.next k, e⟩, ⟨m', hm'.next k, e'⟩⟩
theorem GR.rd {w0 : World} {b p q : Nat} {d d' : Nat → Prop} {W W' : World} (h : GR w0 b p q d W) (hp : p ≠ b) (hq : q ≠ b) (k : But b W W') : GR w0 b p q d' W' := by
  obtain ⟨h, ⟨m, hm, e⟩, ⟨m', hm', e'⟩⟩ := h
  exact ⟨h.on k (.inl rfl), ⟨m, hm.but hp k, e⟩, ⟨m', hm'.but hq k, e'⟩⟩
theorem GR.rowp {w0 : World} {b p q : Nat} {d d' : Nat → Prop} {W : World} (h : GR w0 b p q d W) (hpq : p ≠ q) (x : Bs) (hx : x.length = 32) : GR w0 b p q d' (W.setRow p (ints .u8 (nums x))) := by
  obtain ⟨h, ⟨m, hm, e⟩, ⟨m', hm', e'⟩⟩ := h
  exact ⟨h.on (But.row W p _) (.inr (.inl rfl)), ⟨nums x, hm.setRow, by rw [nums_length, hx]⟩, ⟨m', hm'.farRow (Ne.symm hpq) _, e'⟩⟩
theorem GR.rowq {w0 : World} {b p q : Nat} {d d' : Nat → Prop} {W : World} (h : GR w0 b p q d W) (hpq : p ≠ q) (x : Bs) (hx : x.length = 32) : GR w0 b p q d' (W.setRow q (ints .u8 (nums x))) := by
  obtain ⟨h, ⟨m, hm, e⟩, ⟨m', hm', e'⟩⟩ := h
  exact ⟨h.on (But.row W q _) (.inr (.inr rfl)), ⟨m, hm.farRow hpq _, e⟩, ⟨nums x, hm'.setRow, by rw [nums_length, hx]⟩⟩
theorem bothM_32 {S : Bs → Bs} (hS : ∀ l, (S l).length = 32) (k : Nat) : ∀ (old : Bs) (m n : Nat) (whole : Bool) (r : Rd), n ≤ k → 1 ≤ m → m ≤ n → old.length = 32 → H32 r.1 → (bothM S old m n whole r).1.1.length = 32 ∧ (bothM S old m n whole r).1.2.length = 32 ∧ H32 (bothM S old m n whole r).2.1 ∧ (bothM S old m n whole r).2.1.length ≤ r.1.length := by
  have hnx : ∀ r : Rd, H32 r.1 → (nextM r).1.length = 32 ∧ H32 (nextM r).2.1 ∧ (nextM r).2.1.length ≤ r.1.length := by
    rintro ⟨p, s⟩ h
    cases p with
    | nil => exact ⟨by simp [nextM, zeroH], h, Nat.le_refl _⟩
    | cons x p => exact ⟨h x (by simp), fun y hy => h y (List.mem_cons_of_mem _ hy), by simp [nextM]⟩
  induction k with
  | zero => intro old m n whole r h h0 h1; omega
  | succ k ih =>
    intro old m n whole r h h0 h1 ho hr
    by_cases e : m = n
    · rw [bothM_all S e]
      cases whole
      · obtain ⟨x1, x2, x3⟩ := hnx r hr
        exact ⟨x1, x1, x2, x3⟩
      · exact ⟨ho, ho, hr, Nat.le_refl _⟩
    · have n2 : 2 ≤ n := by omega
      have hh := half_range n2
      by_cases c : m ≤ half n
      · rw [bothM_left S n2 c]
        obtain ⟨i1, i2, i3, i4⟩ := ih old m (half n) whole r (by omega) h0 c ho hr
        obtain ⟨x1, x2, x3⟩ := hnx _ i3
        exact ⟨i1, hS _, x2, Nat.le_trans x3 i4⟩
      · rw [bothM_right S n2 c e]
        obtain ⟨i1, i2, i3, i4⟩ := ih old (m - half n) (n - half n) false r (by omega) (by omega) (by omega) ho hr
        obtain ⟨x1, x2, x3⟩ := hnx _ i3
        exact ⟨hS _, hS _, x2, Nat.le_trans x3 i4⟩
theorem nextM_32 {r : Rd} (h : H32 r.1) : (nextM r).1.length = 32 ∧ H32 (nextM r).2.1 ∧ (nextM r).2.1.length ≤ r.1.length := by
  obtain ⟨p, s⟩ := r
  cases p with
  | nil => exact ⟨by simp [nextM, zeroH], h, Nat.le_refl _⟩
  | cons x p => exact ⟨h x (by simp), fun y hy => h y (List.mem_cons_of_mem _ hy), by simp [nextM]⟩
end Go.Proofs.YtcocengpekndjaaDoor
