/- Digits to the base 65536; powers; prime numbers. The constants of the hash: the roots of the first prime numbers. -/
import Derived.Laws.BitsAllLaws
import Derived.Test.YtcocengpekndjaaDoorPrTreeL
namespace Go.Proofs.YtcocengpekndjaaDoor
section
/-- The number with these digits, the lowest first. -/
def val : List Int → Int
  | [] => 0
  | d :: l => d + 65536 * val l
theorem val_set (l : List Int) (i : Nat) (x : Int) (h : i < l.length) : val (l.set i x) = val l + (x - l[i]) * 65536 ^ i := by
  induction l generalizing i with
  | nil => simp at h
  | cons d l ih =>
    cases i with
    | zero => simp [val]; omega
    | succ i =>
      have hi : i < l.length := by simpa using h
      simp only [List.set_cons_succ, val, List.getElem_cons_succ]
      rw [ih i hi]
      grind
theorem val_carry (l : List Int) (i : Nat) (h : i + 1 < l.length) : val ((l.set (i + 1) (l[i + 1] + l[i] / 65536)).set i (l[i] % 65536)) = val l := by
  rw [val_set _ _ _ (by simp; omega), val_set _ _ _ h]
  rw [List.getElem_set_ne (by omega)]
  have e := Int.mul_ediv_add_emod l[i] 65536
  have e2 : l[i] % 65536 = l[i] - 65536 * (l[i] / 65536) := by omega
  rw [e2]
  generalize l[i] / 65536 = q
  grind
theorem val_append (a b : List Int) : val (a ++ b) = val a + 65536 ^ a.length * val b := by
  induction a with
  | nil => simp [val]
  | cons d a ih => simp only [List.cons_append, val, ih, List.length_cons]; grind
theorem val_take (l : List Int) (k : Nat) (h : k < l.length) : val (l.take (k + 1)) = val (l.take k) + l[k] * 65536 ^ k := by
  rw [List.take_add_one, List.getElem?_eq_getElem h, val_append]
  simp [val, Nat.min_eq_left (Nat.le_of_lt h)]
  exact Int.mul_comm _ _
theorem val_drop (l : List Int) (k : Nat) (h : k < l.length) : val (l.drop k) = l[k] + 65536 * val (l.drop (k + 1)) := by
  rw [List.drop_eq_getElem_cons h]; rfl
theorem val_split (l : List Int) (k : Nat) (h : k ≤ l.length) : val l = val (l.take k) + 65536 ^ k * val (l.drop k) := by
  conv => lhs; rw [← List.take_append_drop k l]
  rw [val_append]; simp [Nat.min_eq_left h]
theorem val_nonneg (l : List Int) (h : ∀ x ∈ l, 0 ≤ x) : 0 ≤ val l := by
  induction l with
  | nil => exact Int.le_refl 0
  | cons d l ih =>
    have := ih (fun x hx => h x (List.mem_cons_of_mem _ hx))
    have := h d List.mem_cons_self
    simp only [val]; omega
theorem val_lt (l : List Int) (h : ∀ x ∈ l, x < 65536) : val l < 65536 ^ l.length := by
  induction l with
  | nil => simp [val]
  | cons d l ih =>
    have := ih (fun x hx => h x (List.mem_cons_of_mem _ hx))
    have := h d List.mem_cons_self
    simp only [val, List.length_cons, Int.pow_succ]; omega
theorem val_drop_nonneg (l : List Int) (h : ∀ x ∈ l, 0 ≤ x) (k : Nat) : 0 ≤ val (l.drop k) := val_nonneg _ fun x hx => h x (List.mem_of_mem_drop hx)
theorem val_drop_le (l : List Int) (h : ∀ x ∈ l, 0 ≤ x) (j k : Nat) (hk : j ≤ k) : val (l.drop k) ≤ val (l.drop j) := by
  induction hk with
  | refl => exact Int.le_refl _
  | step h' ih =>
    rename_i m
    refine Int.le_trans ?_ ih
    by_cases hm : m < l.length
    · rw [val_drop l m hm]
      have h1 := h _ (List.getElem_mem hm)
      have h2 := val_drop_nonneg l h (m + 1)
      show val (l.drop (m + 1)) ≤ _
      omega
    · rw [List.drop_eq_nil_of_le (by omega), List.drop_eq_nil_of_le (by omega)]; exact Int.le_refl _
theorem pow_pos' (k : Nat) : (0 : Int) < 65536 ^ k := Int.pow_pos (by decide)
/-- A digit of a number that is small has its bound. -/
theorem val_top (l : List Int) (h : ∀ x ∈ l, 0 ≤ x) (hv : val l < 65536 ^ l.length) (k : Nat) (hk : k + 1 = l.length) : l[k]'(by omega) < 65536 := by
  have e := val_split l k (by omega)
  rw [val_drop l k (by omega), List.drop_eq_nil_of_le (by omega)] at e
  have t : 0 ≤ val (l.take k) := val_nonneg _ fun x hx => h x (List.mem_of_mem_take hx)
  rw [← hk, Int.pow_succ] at hv
  have hp := pow_pos' k
  simp only [val] at e
  refine Int.lt_of_not_ge fun hh => ?_
  have : (65536 : Int) ^ k * 65536 ≤ 65536 ^ k * l[k] := Int.mul_le_mul_of_nonneg_left hh (Int.le_of_lt hp)
  simp only [Int.mul_zero, Int.add_zero] at e
  omega
theorem val_zeros (n : Nat) : val (List.replicate n 0) = 0 := by
  induction n with
  | zero => rfl
  | succ n ih => simp [List.replicate_succ, val, ih]
/-- The sum of digits. -/
def sumD : List Int → Int
  | [] => 0
  | d :: l => d + sumD l
theorem sumD_append (a b : List Int) : sumD (a ++ b) = sumD a + sumD b := by
  induction a with
  | nil => simp [sumD]
  | cons d a ih => simp only [List.cons_append, sumD, ih]; omega
theorem sumD_take (l : List Int) (k : Nat) (h : k < l.length) : sumD (l.take (k + 1)) = sumD (l.take k) + l[k] := by
  rw [List.take_add_one, List.getElem?_eq_getElem h, sumD_append]; simp [sumD]
theorem sumD_nonneg (l : List Int) (h : ∀ x ∈ l, 0 ≤ x) : 0 ≤ sumD l := by
  induction l with
  | nil => exact Int.le_refl 0
  | cons d l ih =>
    have := ih (fun x hx => h x (List.mem_cons_of_mem _ hx))
    have := h d List.mem_cons_self
    simp only [sumD]; omega
theorem sumD_le (l : List Int) (h : ∀ x ∈ l, x < 65536) : sumD l ≤ 65536 * l.length := by
  induction l with
  | nil => simp [sumD]
  | cons d l ih =>
    have := ih (fun x hx => h x (List.mem_cons_of_mem _ hx))
    have := h d List.mem_cons_self
    simp only [sumD, List.length_cons]; omega
theorem sumD_zero (l : List Int) (h : ∀ x ∈ l, 0 ≤ x) : sumD l = 0 ↔ val l = 0 := by
  induction l with
  | nil => simp [sumD, val]
  | cons d l ih =>
    have i := ih (fun x hx => h x (List.mem_cons_of_mem _ hx))
    have h1 := h d List.mem_cons_self
    have h2 := sumD_nonneg l (fun x hx => h x (List.mem_cons_of_mem _ hx))
    have h3 := val_nonneg l (fun x hx => h x (List.mem_cons_of_mem _ hx))
    simp only [sumD, val]
    constructor
    · intro e; have : val l = 0 := i.1 (by omega); omega
    · intro e; have : sumD l = 0 := i.2 (by omega); omega
/-- The comparison of the reference. -/
theorem below_law (l : List Int) (n : Nat) (p : Int) (h0 : ∀ x ∈ l, 0 ≤ x) (h1 : ∀ x ∈ l, x < 65536) (hn : n ≤ l.length) :
    (val (l.drop n) < p ∨ val (l.drop n) = p ∧ sumD (l.take n) = 0) ↔ val l ≤ p * 65536 ^ n := by
  have e := val_split l n hn
  have t0 : 0 ≤ val (l.take n) := val_nonneg _ fun x hx => h0 x (List.mem_of_mem_take hx)
  have t1 : val (l.take n) < 65536 ^ n := by
    have := val_lt (l.take n) fun x hx => h1 x (List.mem_of_mem_take hx)
    simpa [Nat.min_eq_left hn] using this
  rw [sumD_zero _ fun x hx => h0 x (List.mem_of_mem_take hx)]
  have hp := pow_pos' n
  generalize val (l.drop n) = D at *
  generalize val (l.take n) = T at *
  generalize (65536 : Int) ^ n = P at *
  rw [e]
  constructor
  · rintro (hd | ⟨rfl, rfl⟩)
    · have : P * (D + 1) ≤ P * p := Int.mul_le_mul_of_nonneg_left (by omega) (Int.le_of_lt hp)
      rw [Int.mul_add] at this
      rw [Int.mul_comm p P]; omega
    · rw [Int.mul_comm D P]; omega
  · intro hh
    rw [Int.mul_comm p P] at hh
    by_cases hd : D < p
    · exact .inl hd
    · have : P * p ≤ P * D := Int.mul_le_mul_of_nonneg_left (by omega) (Int.le_of_lt hp)
      have hT : T = 0 := by omega
      refine .inr ⟨?_, hT⟩
      subst hT
      by_cases hq : D = p
      · exact hq
      · have : P * (p + 1) ≤ P * D := Int.mul_le_mul_of_nonneg_left (by omega) (Int.le_of_lt hp)
        rw [Int.mul_add] at this
        omega
/-- The lowest digits of a number of 64 bits, one after the other. -/
theorem part_succ (y : Int) (m : Nat) (h : m < 4) : y % 65536 ^ (m + 1) = y % 65536 ^ m + (y / 65536 ^ m % 65536) * 65536 ^ m := by
  rcases (by omega : m = 0 ∨ m = 1 ∨ m = 2 ∨ m = 3) with rfl | rfl | rfl | rfl <;> simp <;> omega
/-- A prime number, told by trying all divisors. -/
def isP (p : Nat) : Bool := (List.range p).all fun d => decide (d < 2) || p % d != 0
/-- How many prime numbers there are up to a number. -/
def cntP : Nat → Nat
  | 0 => 0
  | p + 1 => cntP p + if 2 ≤ p + 1 ∧ isP (p + 1) then 1 else 0
def primes : List Nat := [2, 3, 5, 7, 11, 13, 17, 19, 23, 29, 31, 37, 41, 43, 47, 53, 59, 61, 67, 71, 73, 79, 83, 89, 97, 101, 103, 107, 109, 113, 127, 131, 137, 139, 149, 151, 157, 163, 167, 173, 179, 181, 191, 193, 197, 199, 211, 223, 227, 229, 233, 239, 241, 251, 257, 263, 269, 271, 277, 281, 283, 293, 307, 311]
theorem cntP_311 : cntP 311 = 64 := by decide +kernel
theorem primes_at : ∀ p, p < 312 → (decide (2 ≤ p) && isP p) = true → primes[cntP p - 1]? = some p := by decide +kernel
theorem cntP_mono {p q : Nat} (h : p ≤ q) : cntP p ≤ cntP q := by
  induction h with
  | refl => exact Nat.le_refl _
  | step h ih => simp only [cntP]; omega
end
section
/-- The cube roots and the square roots, times 2^32, rounded down. -/
def rtK : List Int := [5411319704, 6194414737, 7344290767, 8215976869, 9551921755, 10098905585, 11043570340, 11460697813, 12214315672, 13195500289, 13492127166, 14311783875, 14809980276, 15046980094, 15499789991, 16133124468, 16720292289, 16907126662, 17444216262, 17784676812, 17950125167, 18429019306, 18734950876, 19175934170, 19734090066, 20001703533, 20132865992, 20390182855, 20516441075, 20764397895, 21588763473, 21813078375, 22141143685, 22248366392, 22769593852, 22871018771, 23170020180, 23461497531, 23651862830, 23931792517, 24205322401, 24295138891, 24734567280, 24820601251, 24990902297, 25075189284, 25569408389, 26045227120, 26200031510, 26276752392, 26428864332, 26653801653, 26727943347, 27092625994, 27306805839, 27517677555, 27725365998, 27793908591, 27997534228, 28131656200, 28198240250, 28526537963, 28973835255, 29099129074]
def rtH : List Int := [6074000999, 7439101573, 9603838834, 11363415354, 14244795007, 15485724812, 17708603819, 18721328409]
def primeI (i : Nat) : Int := ((primes.getD i 0 : Nat) : Int)
theorem rtK_ok : ∀ i, i < 64 → (0 ≤ rtK.getD i 0 ∧ rtK.getD i 0 ^ 3 ≤ primeI i * 4294967296 ^ 3 ∧ primeI i * 4294967296 ^ 3 < (rtK.getD i 0 + 1) ^ 3 ∧ rtK.getD i 0 % 4294967296 = kM.getD i 0) := by unfold primeI; decide +kernel
theorem rtH_ok : ∀ i, i < 8 → (0 ≤ rtH.getD i 0 ∧ rtH.getD i 0 ^ 2 ≤ primeI i * 4294967296 ^ 2 ∧ primeI i * 4294967296 ^ 2 < (rtH.getD i 0 + 1) ^ 2 ∧ rtH.getD i 0 % 4294967296 = hM.getD i 0) := by unfold primeI; decide +kernel
theorem primes_range : ∀ i, i < 64 → (2 ≤ primes.getD i 0 ∧ primes.getD i 0 ≤ 311 ∧ cntP (primes.getD i 0) = i + 1) := by decide +kernel
theorem pow_mono {a b : Int} (h0 : 0 ≤ a) (h : a ≤ b) (n : Nat) : a ^ n ≤ b ^ n := by
  induction n with
  | zero => simp
  | succ n ih =>
    rw [Int.pow_succ, Int.pow_succ]
    exact Int.mul_le_mul ih h h0 (Int.pow_nonneg (by omega))
theorem root_one {n : Nat} {x y P : Int} (hx : 0 ≤ x) (hy : 0 ≤ y) (h1 : x ^ n ≤ P) (h2 : P < (x + 1) ^ n) (h3 : y ^ n ≤ P) (h4 : P < (y + 1) ^ n) : x = y := by
  by_cases e : x = y
  · exact e
  · exfalso
    by_cases l : x < y
    · have := pow_mono (a := x + 1) (b := y) (by omega) (by omega) n; omega
    · have := pow_mono (a := y + 1) (b := x) (by omega) (by omega) n; omega
theorem root_k {i : Nat} (hi : i < 64) {x : Int} (hx : 0 ≤ x) (h1 : x ^ 3 ≤ primeI i * 4294967296 ^ 3) (h2 : primeI i * 4294967296 ^ 3 < (x + 1) ^ 3) : x % 4294967296 = kM.getD i 0 := by
  obtain ⟨r0, r1, r2, r3⟩ := rtK_ok i hi
  rw [root_one hx r0 h1 h2 r1 r2]; exact r3
theorem root_h {i : Nat} (hi : i < 8) {x : Int} (hx : 0 ≤ x) (h1 : x ^ 2 ≤ primeI i * 4294967296 ^ 2) (h2 : primeI i * 4294967296 ^ 2 < (x + 1) ^ 2) : x % 4294967296 = hM.getD i 0 := by
  obtain ⟨r0, r1, r2, r3⟩ := rtH_ok i hi
  rw [root_one hx r0 h1 h2 r1 r2]; exact r3
/-- One bit more of a root. -/
theorem root_start {n : Nat} {x p : Int} (h1 : x ^ n ≤ p) (h2 : p < (x + 1) ^ n) : (x * 4294967296) ^ n ≤ p * 4294967296 ^ n ∧ p * 4294967296 ^ n < (x * 4294967296 + 4294967296) ^ n := by
  have hp : (0 : Int) < 4294967296 ^ n := Int.pow_pos (by decide)
  rw [show x * 4294967296 + 4294967296 = (x + 1) * 4294967296 from by omega, Int.mul_pow, Int.mul_pow]
  exact ⟨Int.mul_le_mul_of_nonneg_right h1 (by omega), Int.mul_lt_mul_of_pos_right h2 hp⟩
theorem root_bound {n : Nat} {x p : Int} (hn : n ≠ 0) (hp : p < 512) (h1 : x ^ n ≤ p * 4294967296 ^ n) : x < 2199023255552 := by
  by_cases h : x < 2199023255552
  · exact h
  · exfalso
    have a := pow_mono (a := 512 * 4294967296) (b := x) (by omega) (by omega) n
    rw [Int.mul_pow] at a
    have q : (0 : Int) < 4294967296 ^ n := Int.pow_pos (by decide)
    obtain ⟨m, rfl⟩ : ∃ m, n = m + 1 := ⟨n - 1, by omega⟩
    have c : (512 : Int) ≤ 512 ^ (m + 1) := by
      rw [Int.pow_succ]
      have : (1 : Int) ≤ 512 ^ m := by have : (0 : Int) < 512 ^ m := Int.pow_pos (by decide); omega
      omega
    have d := Int.mul_le_mul_of_nonneg_right c (Int.le_of_lt q)
    have e := Int.mul_lt_mul_of_pos_right hp q
    omega
end
end Go.Proofs.YtcocengpekndjaaDoor
