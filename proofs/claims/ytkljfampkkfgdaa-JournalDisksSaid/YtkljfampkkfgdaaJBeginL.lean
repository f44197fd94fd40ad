/- The journal layer: what begin does, plainly. -/
import Derived.Test.YtkljfampkkfgdaaJReady
namespace Go.Proofs.Ytkljfampkkfgdaa
/-- One step after the other, up to the first error. -/
def bindE (r : Int × Dk) (f : Dk → Int × Dk) : Int × Dk := if r.1 = 0 then f r.2 else r
theorem bindE_ok {r : Int × Dk} {f : Dk → Int × Dk} (h : r.1 = 0) : bindE r f = f r.2 := if_pos h
theorem bindE_no {r : Int × Dk} {f : Dk → Int × Dk} (h : r.1 ≠ 0) : bindE r f = r := if_neg h
/-- How many units strings take. -/
def usedM : List Bs → Nat
  | [] => 0
  | s :: l => unitsM s.length + usedM l
theorem usedM_append (a b : List Bs) : usedM (a ++ b) = usedM a + usedM b := by
  induction a with
  | nil => simp [usedM]
  | cons x a ih => simp only [List.cons_append, usedM, ih]; omega
theorem usedM_take_le (l : List Bs) (k : Nat) : usedM (l.take k) ≤ usedM l := by
  have := usedM_append (l.take k) (l.drop k)
  rw [List.take_append_drop] at this
  omega
theorem unitsM_pos (n : Nat) : 0 < unitsM n := by unfold unitsM; omega
theorem usedM_len (l : List Bs) : l.length ≤ usedM l := by
  induction l with
  | nil => exact Nat.le_refl _
  | cons x l ih => have := unitsM_pos x.length; simp only [usedM, List.length_cons]; omega
/-- Strings are laid, one after the other. -/
def storesM (D : Dk) (base : Nat) (e : Int) : Nat → Nat → List Bs → Int × Dk
  | _, _, [] => (0, D)
  | a, q, s :: l => bindE (storeM D ((base + a : Nat) : Int) e (q : Int) s) fun E => storesM E base e (a + unitsM s.length) (q + 1) l
theorem writesM_few' {l : List (Int × Bs)} {D : Dk} {m : Nat} (h : Few m D) : Few (m + l.length) (writesM l D).2 := writesM_few h
theorem storeM_few {D : Dk} {m : Nat} (h : Few m D) (fr e q : Int) (s : Bs) : Few (m + unitsM s.length) (storeM D fr e q s).2 := by
  have h1 := writesM_few (l := strW fr e q s (unitsM s.length)) h
  rwa [show (strW fr e q s (unitsM s.length)).length = unitsM s.length from by simp [strW]] at h1
theorem storeM_length (D : Dk) (fr e q : Int) (s : Bs) : (storeM D fr e q s).2.sec.length = D.sec.length := writesM_length
theorem Few.mono {m n : Nat} {D : Dk} (h : Few m D) (hmn : m ≤ n) : Few n D := fun x hx => Nat.le_trans (h x hx) hmn
theorem storesM_few (base : Nat) (e : Int) (l : List Bs) : ∀ (D : Dk) (m a q : Nat), Few m D → Few (m + usedM l) (storesM D base e a q l).2 := by
  induction l with
  | nil => intro D m a q h; exact h
  | cons s l ih =>
    intro D m a q h
    have h1 := storeM_few h ((base + a : Nat) : Int) e (q : Int) s
    unfold storesM bindE
    split
    · have := ih _ _ (a + unitsM s.length) (q + 1) h1
      simp only [usedM]
      exact this.mono (by omega)
    · simp only [usedM]; exact h1.mono (by omega)
theorem storesM_length (base : Nat) (e : Int) (l : List Bs) : ∀ (D : Dk) (a q : Nat), (storesM D base e a q l).2.sec.length = D.sec.length := by
  induction l with
  | nil => intro D a q; rfl
  | cons s l ih =>
    intro D a q
    unfold storesM bindE
    split
    · rw [ih, storeM_length]
    · exact storeM_length ..
theorem clearM_few (n : Nat) : ∀ (D : Dk) (m i : Nat), Few m D → Few (m + n) (clearM n i D).2 := by
  induction n with
  | zero => intro D m i h; exact h
  | succ n ih =>
    intro D m i h
    unfold clearM
    split
    · exact (ih _ _ _ h).mono (by omega)
    · have := writeM_few h (i : Int) []
      split
      · exact (ih _ _ _ this).mono (by omega)
      · exact this.mono (by omega)
theorem clearM_length (n : Nat) : ∀ (D : Dk) (i : Nat), (clearM n i D).2.sec.length = D.sec.length := by
  induction n with
  | zero => intro D i; rfl
  | succ n ih =>
    intro D i
    unfold clearM
    split
    · exact ih ..
    · split
      · rw [ih, writeM_length]
      · exact writeM_length ..
theorem syncM_few {m : Nat} {D : Dk} (h : Few m D) : Few m (syncM D).2 := by
  unfold syncM
  split
  · exact h
  · split
    · exact h
    · intro x hx
      simp only at hx
      obtain ⟨y, hy, rfl⟩ := List.mem_map.1 hx
      exact Nat.zero_le _
theorem syncM_length (D : Dk) : (syncM D).2.sec.length = D.sec.length := by
  unfold syncM
  split
  · rfl
  · split
    · rfl
    · simp
/-- The region that is not in use; where a region begins. -/
def nextR (p : Int × Int) : Int := if 0 < p.1 then 1 - p.2 else p.2
def baseM (N : Nat) (r : Int) : Nat := (2 + r * (capM N : Nat)).toNat
theorem baseM_eq (N : Nat) {r : Int} (h0 : 0 ≤ r) : 2 + r * (capM N : Nat) = (baseM N r : Int) := by
  unfold baseM
  have : 0 ≤ r * (capM N : Nat) := Int.mul_nonneg h0 (by omega)
  omega
theorem seeM_ok (b : Bs) (p : Int × Int) (h : 0 ≤ p.1 ∧ 0 ≤ p.2 ∧ p.2 ≤ 1) : 0 ≤ (seeM b p).1 ∧ 0 ≤ (seeM b p).2 ∧ (seeM b p).2 ≤ 1 := by
  unfold seeM
  repeat' split
  · rename_i h2; exact ⟨by have := h2.1; have := h.1; simp only; omega, h2.2.1, by have := h2.2.2; simp only; omega⟩
  · exact h
  · exact h
theorem curK_ok (g : Nat → Bs) (k : Nat) : 0 ≤ (curK g k).1 ∧ 0 ≤ (curK g k).2 ∧ (curK g k).2 ≤ 1 := by
  induction k with
  | zero => exact ⟨Int.le_refl _, Int.le_refl _, by show (0 : Int) ≤ 1; omega⟩
  | succ k ih => exact seeM_ok _ _ ih
theorem curC_ok (g : Nat → Bs) : 0 ≤ (curC g).1 ∧ 0 ≤ (curC g).2 ∧ (curC g).2 ≤ 1 := curK_ok g 2
theorem nextR_ok (g : Nat → Bs) : 0 ≤ nextR (curC g) ∧ nextR (curC g) ≤ 1 := by
  have := curC_ok g
  unfold nextR
  split <;> omega
/-- A new epoch. -/
def beginM (D : Dk) (l : List Bs) : Int × Dk :=
  bindE (storesM D (baseM D.sec.length (nextR (curC (getM D)))) ((curC (getM D)).1 + 1) 0 0 l) fun D1 =>
  bindE (clearM (capM D.sec.length - usedM l) (baseM D.sec.length (nextR (curC (getM D))) + usedM l) D1) fun D2 =>
  bindE (syncM D2) fun D3 =>
  bindE (writeM D3 (((curC (getM D)).1 + 1) % 2) (hdrM ((curC (getM D)).1 + 1) (nextR (curC (getM D))))) syncM
/-- The journal that begin leaves. -/
def begunJ (D : Dk) (J : Jn) (s : Bs) (l : List Bs) : Jn := { J with ep := (curC (getM D)).1 + 1, reg := nextR (curC (getM D)), st := s, recs := l, dur := l.length, used := usedM (s :: l) }
end Go.Proofs.Ytkljfampkkfgdaa
