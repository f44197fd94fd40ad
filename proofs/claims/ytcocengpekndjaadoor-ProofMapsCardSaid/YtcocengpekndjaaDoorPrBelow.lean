/- The walks over power and prime of the reference. The walk over below of the reference: a number to a power, compared by its digits. -/
import Derived.Test.YtcocengpekndjaaDoorPrComp
import Derived.Test.YtcocengpekndjaaDoorPrRootL
import Derived.StillTailTactics
import Derived.Outline
namespace Go.Proofs.YtcocengpekndjaaDoor
section
open Go.RowKit
theorem pow_le_mono {x : Int} (h0 : 0 ≤ x) (h1 : x ≤ 1000) : ∀ k : Nat, k ≤ 3 → 0 ≤ x ^ k ∧ x ^ k ≤ 1000000000 := by
  intro k hk
  have h2 : x * x ≤ 1000 * 1000 := Int.mul_le_mul h1 h1 h0 (by decide)
  have h2' : 0 ≤ x * x := Int.mul_nonneg h0 h0
  have h3 : x * x * x ≤ 1000 * 1000 * 1000 := Int.mul_le_mul h2 h1 h0 (by decide)
  have h3' : 0 ≤ x * x * x := Int.mul_nonneg h2' h0
  match k, hk with
  | 0, _ => rw [Int.pow_zero]; omega
  | 1, _ => rw [show x ^ 1 = x from by rw [Int.pow_succ, Int.pow_zero, Int.one_mul]]; omega
  | 2, _ => rw [show x ^ 2 = x * x from by rw [Int.pow_succ, Int.pow_succ, Int.pow_zero, Int.one_mul]]; omega
  | 3, _ => rw [show x ^ 3 = x * x * x from by rw [Int.pow_succ, Int.pow_succ, Int.pow_succ, Int.pow_zero, Int.one_mul]]; omega
set_option maxRecDepth 100000 in
set_option maxHeartbeats 1000000 in
theorem rpower_any (x : Int) (n : Nat) (w : World) (h0 : 0 ≤ x) (h1 : x ≤ 1000) (hn : n ≤ 3) : Calls Tryd.prog 87 #[.int .u64 x, .int .i64 n] w fun e w' => e = .returned (.int .u64 (x ^ n)) ∧ w = w' := by
  obtain ⟨P, hP⟩ : ∃ P, x ^ n = P := ⟨_, rfl⟩
  rw [hP]
  have HP := Lib.hid hP
  clear hP
  go_enter Tryd.func87, Tryd.ntmps87
  go_wp2_with (fail)
  go_loop [5, 6] (fun o i => ∃ k : Nat, k ≤ n ∧ i = .int .i64 k ∧ o = .int .u64 (x ^ k)) (fun _ i => n - (intOf i).toNat)
  case atStart => exact ⟨0, Nat.zero_le _, rfl, by rw [Int.pow_zero]⟩
  case round =>
    obtain ⟨k, hk, rfl, rfl⟩ := hrel
    by_cases hlt : k < n
    · have k1 : (k : Int) < n := by omega
      have k0 : 0 ≤ (k : Int) := by omega
      have b0 := pow_le_mono h0 h1 k (by omega)
      have b1 := pow_le_mono h0 h1 (k + 1) (by omega)
      have es : x ^ (k + 1) = x ^ k * x := Int.pow_succ x k
      rw [es] at b1
      have m0 : IntKind.u64.wrap (x ^ k * x) = x ^ k * x := IntWalk.u64_in _ (by omega)
      generalize x ^ k = y at *
      have ES := Lib.hid es
      clear es
      go_wp2_with (fail)
      exact ⟨⟨k + 1, by omega, by go_num, by rw [ES.out]⟩, by simp [intOf]; omega⟩
    · obtain rfl : n = k := by omega
      rw [HP.out]
      go_wp2_with (fail)
      go_ret
      exact ⟨rfl, rfl⟩
/-- Whether no number from 2 up to d - 1 divides p. -/
def noDiv (p d : Nat) : Bool := (List.range d).all fun d => decide (d < 2) || p % d != 0
theorem noDiv_two (p : Nat) : noDiv p 2 = true := rfl
theorem noDiv_succ (p d : Nat) (h : 2 ≤ d) : noDiv p (d + 1) = (noDiv p d && (p % d != 0)) := by
  unfold noDiv
  rw [List.range_succ, List.all_append]
  have : decide (d < 2) = false := by simp; omega
  simp [this]
theorem cntP_lt {p n : Nat} (h : cntP p ≤ n) (hn : n < 64) : p < 311 := by
  by_cases hp : p < 311
  · exact hp
  · have := cntP_mono (show 311 ≤ p by omega)
    rw [cntP_311] at this; omega
set_option maxRecDepth 100000 in
set_option maxHeartbeats 1000000 in
theorem rprime_any (n : Nat) (w : World) (hn : n < 64) : Calls Tryd.prog 56 #[.int .i64 n] w fun e w' => e = .returned (.int .u64 (primeI n)) ∧ w = w' := by
  obtain ⟨Z, hZ⟩ : ∃ Z, primeI n = Z := ⟨_, rfl⟩
  rw [hZ]
  have HZ := Lib.hid hZ
  clear hZ
  go_enter Tryd.func56, Tryd.ntmps56
  go_wp2_with (fail)
  go_loop [3, 4, 5, 6] (fun p i _ _ => ∃ q k : Nat, 1 ≤ q ∧ q ≤ 311 ∧ p = .int .u64 q ∧ i = .int .i64 k ∧ cntP q = k ∧ k ≤ n + 1 ∧ (k = n + 1 → primes[n]? = some q)) (fun p _ _ _ => 400 - (intOf p).toNat)
  case atStart => exact ⟨1, 0, by decide, by decide, rfl, rfl, by decide, by omega, fun h => by omega⟩
  case round =>
    obtain ⟨q, k, hq1, hq2, rfl, rfl, hc, hk, he⟩ := hrel
    by_cases hlt : k ≤ n
    · have k1 : (k : Int) ≤ n := by omega
      have q3 : q < 311 := cntP_lt (n := n) (by omega) hn
      have hcs : cntP (q + 1) = k + if noDiv (q + 1) (q + 1) = true then 1 else 0 := by
        show cntP q + _ = _
        rw [hc]
        congr 1
        have : 2 ≤ q + 1 := by omega
        simp only [this, true_and]
        rfl
      have hpr : noDiv (q + 1) (q + 1) = true → k + 1 = n + 1 → primes[n]? = some (q + 1) := fun h1 h2 => by
        have := primes_at (q + 1) (by omega) (by rw [Bool.and_eq_true]; exact ⟨by simp; omega, h1⟩)
        rw [hcs, if_pos h1] at this
        rw [show n = k + 1 - 1 from by omega]; exact this
      have HCS := Lib.hid hcs
      have HPR := Lib.hid hpr
      clear he hc hcs hpr
      go_wp2_with (fail)
      go_loop [5, 6] (fun b d => ∃ j : Nat, 2 ≤ j ∧ j ≤ q + 1 ∧ d = .int .u64 j ∧ b = .bool (noDiv (q + 1) j)) (fun _ d => 400 - (intOf d).toNat)
      case atStart => exact ⟨2, by decide, by omega, rfl, rfl⟩
      case round =>
        obtain ⟨j, hj2, hj, rfl, rfl⟩ := hrel
        by_cases hjl : j < q + 1
        · have j1 : (j : Int) < (q : Int) + 1 := by omega
          have hs := noDiv_succ (q + 1) j hj2
          have hm : (((q : Int) + 1) % (j : Int) != 0) = ((q + 1) % j != 0) := by
            have : ((q : Int) + 1) % (j : Int) = (((q + 1) % j : Nat) : Int) := by simp
            rw [this]
            cases h : ((q + 1) % j) with
            | zero => rfl
            | succ m => rfl
          have HS := Lib.hid hs
          have HM := Lib.hid hm
          cases hb : noDiv (q + 1) j with
          | false =>
            rw [hb, Bool.false_and] at HS
            clear hs hm
            go_wp2_with (fail)
            exact ⟨⟨j + 1, by omega, by omega, by go_num, by rw [HS.out]⟩, by simp [intOf]; omega⟩
          | true =>
            rw [hb, Bool.true_and] at HS
            clear hs hm
            go_wp2_with (fail)
            exact ⟨⟨j + 1, by omega, by omega, by go_num, by rw [HM.out, HS.out]⟩, by simp [intOf]; omega⟩
        · obtain rfl : j = q + 1 := by omega
          have hcs := HCS.out
          have hpr := HPR.out
          have j1 : ¬ ((q : Int) + 1 < (q : Int) + 1) := by omega
          cases hb : noDiv (q + 1) (q + 1) with
          | false =>
            rw [hb] at hcs
            clear hpr
            have C := Lib.hid hcs
            clear hcs
            go_wp2_with (fail)
            exact ⟨⟨q + 1, k, by omega, by omega, by go_num, rfl, by simpa using C.out, by omega, fun h => by omega⟩, by simp [intOf]; omega⟩
          | true =>
            rw [hb] at hcs
            have C := Lib.hid hcs
            have R := Lib.hid (hpr hb)
            clear hcs hpr
            go_wp2_with (fail)
            exact ⟨⟨q + 1, k + 1, by omega, by omega, by go_num, by go_num, by simpa using C.out, by omega, R.out⟩, by simp [intOf]; omega⟩
    · obtain rfl : k = n + 1 := by omega
      have hp := he rfl
      have e : primeI n = (q : Int) := by
        unfold primeI
        rw [List.getD_eq_getElem?_getD, hp]; rfl
      rw [HZ.out] at e
      subst e
      clear he hp hc
      go_wp2_with (fail)
      go_ret
      exact ⟨rfl, rfl⟩
end
section
open Go.RowKit
/-- Digits to the base 65536. -/
def Dg (l : List Int) : Prop := ∀ q (h : q < l.length), 0 ≤ l[q] ∧ l[q] < 65536
theorem Dg.nn {l : List Int} (h : Dg l) : ∀ x ∈ l, 0 ≤ x := fun x hx => by obtain ⟨i, hi, rfl⟩ := List.mem_iff_getElem.1 hx; exact (h i hi).1
theorem Dg.lt {l : List Int} (h : Dg l) : ∀ x ∈ l, x < 65536 := fun x hx => by obtain ⟨i, hi, rfl⟩ := List.mem_iff_getElem.1 hx; exact (h i hi).2
theorem infoU64 : (Tryd.prog.info? 96).map (fun i => (i.zero, i.size, i.bytes)) = some (some (.int .u64 0), 1, 8) := by kernel_rfl
theorem make64 (n : Nat) (hn : n ≤ 1000) (W : World) : (Instr.makeSlice 146 (.int .i64 n) (.int .i64 n)).run Tryd.prog W = .ok (.slice (some ⟨W.heap.size, 0, none⟩) n n) (W.alloc (.cells (ints .u64 (List.replicate n 0)) 96)) := by
  obtain ⟨i0, hi, hz0, hz1, hz2⟩ := info_parts infoU64
  have h := run_make (P := Tryd.prog) W 146 96 i0 (.int .u64 0) (by kernel_rfl) hi hz0 .i64 .i64 n n (by omega) (by omega) (by rw [hz2]; omega) (by omega)
  rw [h, hz1]
  have e : madeCells (Value.int .u64 0).cells (((n : Nat) : Int).toNat * 1) = ints .u64 (List.replicate n 0) := by
    apply Array.toList_inj.1
    rw [show (Value.int .u64 0).cells = #[.int .u64 0] from rfl, toList_madeCells_one]
    simp [ints]
  rw [e]; rfl
/-- What is added: one digit more of y. -/
theorem val_part {l : List Int} {k m : Nat} {a y V : Int} (hk : k + m < l.length) (hm : m < 4) (hv : val l = V + a * (y % 65536 ^ m) * 65536 ^ k) :
    val (l.set (k + m) (l[k + m] + a * (y / 65536 ^ m % 65536))) = V + a * (y % 65536 ^ (m + 1)) * 65536 ^ k := by
  rw [val_set _ _ _ hk, hv, part_succ y m hm, Int.pow_add]
  generalize y / 65536 ^ m % 65536 = d
  generalize (65536 : Int) ^ k = K
  generalize (65536 : Int) ^ m = M
  generalize l[k + m] = z
  generalize y % M = r
  grind
/-- The bounds of the digits while products are added. -/
def Part (l : List Int) (t : Nat) : Prop := ∀ q (h : q < l.length), 0 ≤ l[q] ∧ l[q] ≤ 4294901760 ∧ (t ≤ q → l[q] < 65536)
theorem Part.of {l : List Int} (h : Dg l) (t : Nat) : Part l t := fun q hq => by have := h q hq; omega
theorem Part.step {l : List Int} {t : Nat} (h : Part l t) (ht : t < l.length) {x : Int} (h0 : 0 ≤ x) (h1 : x ≤ 4294836225) : Part (l.set t (l[t] + x)) (t + 1) := fun q hq => by
  rw [List.length_set] at hq
  have h2 := h q hq
  have h3 := h t ht
  rw [List.getElem_set]
  split <;> omega
/-- The bounds of the digits while they are carried. -/
def Carry (l : List Int) (t : Nat) : Prop := ∀ q (h : q < l.length), 0 ≤ l[q] ∧ l[q] ≤ 8589934592 ∧ (q < t → l[q] < 65536) ∧ (t < q → l[q] ≤ 4294901760)
theorem Carry.of {l : List Int} {t : Nat} (h : Part l t) : Carry l 0 := fun q hq => by have := h q hq; omega
theorem Carry.step {l : List Int} {t : Nat} (h : Carry l t) (ht : t + 1 < l.length) : Carry ((l.set (t + 1) (l[t + 1] + l[t] / 65536)).set t (l[t] % 65536)) (t + 1) := fun q hq => by
  simp only [List.length_set] at hq
  have h2 := h q hq
  have h3 := h t (by omega)
  have h4 := h (t + 1) ht
  rw [List.getElem_set, List.getElem_set]
  split
  · omega
  · split <;> omega
theorem Carry.done {l : List Int} {t : Nat} (h : Carry l t) (ht : t + 1 = l.length) (hv : val l < 65536 ^ l.length) : Dg l := fun q hq => by
  have h2 := h q hq
  by_cases e : q = t
  · subst e
    have := val_top l (fun x hx => by obtain ⟨i, hi, rfl⟩ := List.mem_iff_getElem.1 hx; exact (h i hi).1) hv q ht
    omega
  · omega
theorem pow_16 (m : Nat) : (2 : Int) ^ (16 * m) = 65536 ^ m := by rw [Int.pow_mul]; rfl
theorem mul_16 {a d : Int} (ha : 0 ≤ a ∧ a < 65536) (hd : 0 ≤ d ∧ d < 65536) : 0 ≤ a * d ∧ a * d ≤ 4294836225 := by
  have := Int.mul_le_mul (show a ≤ 65535 by omega) (show d ≤ 65535 by omega) hd.1 (by decide)
  exact ⟨Int.mul_nonneg ha.1 hd.1, by omega⟩
/-- A product of digits has its bound. -/
theorem val_bound {l : List Int} (h : Dg l) {j : Nat} (hj : j ≤ l.length) {y : Int} (h0 : 0 ≤ y) (h1 : y < 18446744073709551616) : val (l.take j) * y < 65536 ^ (l.length + 4) := by
  have a := val_lt (l.take j) (fun x hx => h.lt x (List.mem_of_mem_take hx))
  have b := val_nonneg (l.take j) (fun x hx => h.nn x (List.mem_of_mem_take hx))
  rw [List.length_take, Nat.min_eq_left hj] at a
  have c : (65536 : Int) ^ j ≤ 65536 ^ l.length := pow_le j l.length hj
  have d : val (l.take j) * y ≤ 65536 ^ l.length * 18446744073709551615 := Int.mul_le_mul (by omega) (by omega) h0 (Int.le_of_lt (pow_pos' _))
  have p := pow_pos' l.length
  rw [Int.pow_add, show (65536 : Int) ^ 4 = 18446744073709551616 from rfl]
  generalize (65536 : Int) ^ l.length = P at *
  omega
where
  pow_le (j k : Nat) (h : j ≤ k) : (65536 : Int) ^ j ≤ 65536 ^ k := by
    obtain ⟨d, rfl⟩ := Nat.exists_eq_add_of_le h
    rw [Int.pow_add]
    have := pow_pos' d
    have q := pow_pos' j
    have := Int.mul_le_mul_of_nonneg_left (show (1 : Int) ≤ 65536 ^ d by omega) (Int.le_of_lt q)
    omega
theorem high_bound {l : List Int} {y : Int} {n : Nat} (h : ∀ x ∈ l, 0 ≤ x) (hv : val l = y ^ n) (h0 : 0 ≤ y) (h1 : y < 4398046511104) (hn : n ≤ 3) (hl : 2 * n ≤ l.length) : 0 ≤ val (l.drop (2 * n)) ∧ val (l.drop (2 * n)) < 1099511627776 := by
  have a := val_drop_nonneg l h (2 * n)
  refine ⟨a, Int.lt_of_not_ge fun hh => ?_⟩
  have e := val_split l (2 * n) hl
  have t : 0 ≤ val (l.take (2 * n)) := val_nonneg _ fun x hx => h x (List.mem_of_mem_take hx)
  have b := Int.mul_le_mul_of_nonneg_left hh (Int.le_of_lt (pow_pos' (2 * n)))
  have c : y ^ n ≤ 4398046511103 ^ n := pow_mono h0 (by omega) n
  have d : (4398046511103 : Int) ^ n < 65536 ^ (2 * n) * 1099511627776 := by
    rcases (by omega : n = 0 ∨ n = 1 ∨ n = 2 ∨ n = 3) with rfl | rfl | rfl | rfl <;> decide
  rw [hv] at e
  generalize (65536 : Int) ^ (2 * n) = P at *
  generalize val (l.drop (2 * n)) = D at *
  generalize (4398046511103 : Int) ^ n = Y at *
  generalize y ^ n = Z at *
  generalize P * D = PD at *
  omega
set_option maxRecDepth 100000 in
set_option maxHeartbeats 2000000 in
theorem rbelow_any (y p : Int) (n : Nat) (w : World) (h0 : 0 ≤ y) (h1 : y < 4398046511104) (hp0 : 0 ≤ p) (hp1 : p < 512) (hn : n ≤ 3) :
    Calls Tryd.prog 88 #[.int .u64 y, .int .u64 p, .int .i64 n] w fun e w' => e = .returned (.bool (decide (y ^ n ≤ p * 4294967296 ^ n))) ∧ Below w.heap.size w w' := by
  obtain ⟨Z, hZ⟩ : ∃ Z, decide (y ^ n ≤ p * 4294967296 ^ n) = Z := ⟨_, rfl⟩
  rw [hZ]
  have HZ := Lib.hid hZ
  clear hZ
  go_enter Tryd.func88, Tryd.ntmps88
  go_wp2_with (fail)
  go_loopw [7, 8, 9, 10, 11, 12] (fun o i _ _ _ _ W => ∃ (k g : Nat) (l : List Int), k ≤ n ∧ i = .int .i64 k ∧ o = .slice (some ⟨g, 0, none⟩) l.length l.length ∧ l.length = 1 + 4 * k ∧ BoxA W g 96 .u64 l ∧ Dg l ∧ val l = y ^ k ∧ Below w.heap.size w W) (fun _ i _ _ _ _ _ => n - (intOf i).toNat)
  case atStart => exact ⟨0, w.heap.size, [1], Nat.zero_le _, rfl, rfl, rfl, BoxA.new w _ _ [1] _ rfl, fun q hq => by (obtain rfl : q = 0 := by simpa using hq); simp, by rw [Int.pow_zero]; rfl, Below.new1 _ _⟩
  case round =>
    obtain ⟨k, g, l, hk, rfl, rfl, hlen, hb, hd, hv, hB⟩ := hrel
    obtain ⟨N, hN⟩ : ∃ N, l.length = N := ⟨_, rfl⟩
    rw [hN] at hlen ⊢
    have HN := Lib.hid hN
    have HV := Lib.hid hv
    have HD := Lib.hid hd
    have HLEN := Lib.hid hlen
    by_cases hlt : k < n
    · have k1 : (k : Int) < n := by omega
      have mk := make64 (N + 4) (by omega) wr
      rw [show (((N + 4 : Nat) : Int)) = (N : Int) + 4 from by omega] at mk
      have nn : N ≤ 9 := by omega
      clear hN hv hd hlen
      go_wp2_with (fail)
      generalize hgo : wr.heap.size = g2 at *
      have hlg := hb.lt
      have v9 : BoxA (wr.alloc (.cells (ints .u64 (List.replicate (N + 4) 0)) 96)) g2 96 .u64 (List.replicate (N + 4) 0) := hgo ▸ BoxA.new wr _ _ _ _ rfl
      have v7 := hb.next (Below.new1 wr (.cells (ints .u64 (List.replicate (N + 4) 0)) 96))
      have vB := Below.on hB (Below.new1 wr (.cells (ints .u64 (List.replicate (N + 4) 0)) 96))
      have hg2 : w.heap.size ≤ g2 := hgo ▸ hB.size
      have hne : g ≠ g2 := by omega
      clear hb hB mk hgo
      generalize World.alloc wr (.cells (ints .u64 (List.replicate (N + 4) 0)) 96) = w1 at *
      go_loopw [10, 11, 12] (fun i _ _ W => ∃ (j : Nat) (X : List Int), j ≤ N ∧ i = .int .i64 j ∧ X.length = N + 4 ∧ BoxA W g 96 .u64 l ∧ BoxA W g2 96 .u64 X ∧ Dg X ∧ val X = val (l.take j) * y ∧ Below w.heap.size w W) (fun i _ _ _ => N - (intOf i).toNat)
      case atStart => exact ⟨0, List.replicate (N + 4) 0, Nat.zero_le _, rfl, List.length_replicate, v7, v9, fun q hq => by rw [List.getElem_replicate]; decide, by rw [List.take_zero, val_zeros]; show (0 : Int) = 0 * y; omega, vB⟩
      case round =>
        clear v7 v9 vB
        obtain ⟨j, X, hj, rfl, hXl, v7, v9, hXd, hXv, vB⟩ := hrel
        have HXL := Lib.hid hXl
        have HXV := Lib.hid hXv
        have HXD := Lib.hid hXd
        by_cases hjl : j < N
        · have j1 : (j : Int) < N := by omega
          clear hXl hXv hXd
          go_wp2_with (fail)
          obtain ⟨a, ha⟩ : ∃ a, l[j]'(by rw [HN.out]; exact hjl) = a := ⟨_, rfl⟩
          have hda : 0 ≤ a ∧ a < 65536 := ha ▸ HD.out j (by rw [HN.out]; exact hjl)
          have HA := Lib.hid ha
          clear ha
          go_loopw [11] (fun i W => ∃ (m : Nat) (Y : List Int), m ≤ 4 ∧ i = .int .i64 m ∧ Y.length = N + 4 ∧ BoxA W g 96 .u64 l ∧ BoxA W g2 96 .u64 Y ∧ Part Y (j + m) ∧ val Y = val X + a * (y % 65536 ^ m) * 65536 ^ j ∧ Below w.heap.size w W) (fun i _ => 4 - (intOf i).toNat)
          case atStart => exact ⟨0, X, by decide, rfl, HXL.out, v7, v9, Part.of HXD.out _, by rw [show (65536 : Int) ^ 0 = 1 from rfl, Int.emod_one]; simp, vB⟩
          case round =>
            clear v7 v9 vB
            obtain ⟨m, Y, hm, rfl, hYl, v7, v9, hYp, hYv, vB⟩ := hrel
            by_cases hml : m < 4
            · have m1 : (m : Int) < 4 := by omega
              have c7 := v7.cell (i := j) (by rw [HN.out]; exact hjl)
              rw [HA.out] at c7
              have c9 := v9.cell (i := j + m) (by omega)
              have f9 := v9.frozen (j + m)
              have hp := hYp (j + m) (by omega)
              have hdd : 0 ≤ y / 65536 ^ m % 65536 ∧ y / 65536 ^ m % 65536 < 65536 := by omega
              have hmul := mul_16 hda hdd
              have kp := hYp.step (by omega) hmul.1 hmul.2
              have kv := val_part (by omega) hml hYv
              rw [← pow_16 m] at hmul kp kv hdd
              have sz9 := v9.lt
              have b0 : 0 ≤ Y[j + m] := hp.1
              have b1 : Y[j + m] ≤ 65535 := by have := hp.2.2 (Nat.le_refl _); omega
              obtain ⟨z, hz⟩ : ∃ z, Y[j + m] = z := ⟨_, rfl⟩
              rw [hz] at c9 kp kv b0 b1
              obtain ⟨d, hd⟩ : ∃ d, y / 2 ^ (16 * m) % 65536 = d := ⟨_, rfl⟩
              rw [hd] at hmul kp kv hdd
              obtain ⟨e1, e2⟩ := hmul
              have w1 : IntKind.u64.wrap (a * d) = a * d := IntWalk.u64_in _ (by omega)
              have w2 : IntKind.u64.wrap (z + a * d) = z + a * d := IntWalk.u64_in _ (by omega)
              have w3 : IntKind.i64.wrap (16 * (m : Int)) = 16 * m := IntWalk.i64_in _ (by omega)
              have KP := Lib.hid kp
              have KV := Lib.hid kv
              have nn2 : (j : Int) + m < (N : Int) + 4 := by omega
              have nn3 : 0 ≤ (j : Int) + m := by omega
              have nn4 : 0 ≤ (j : Int) := by omega
              have w4 : IntKind.i64.wrap ((j : Int) + m) = (j : Int) + m := IntWalk.i64_in _ (by omega)
              have w7 : (y / 2 ^ (16 * m)).tmod 65536 = d := by
                rw [Int.tmod_eq_emod_of_nonneg (Int.ediv_nonneg h0 (Int.le_of_lt (Int.pow_pos (by decide))))]; exact hd
              have w6 : ((j : Int) + m).toNat = j + m := by omega
              have w5 : IntKind.u64.wrap (16 * (m : Int)) = 16 * m := IntWalk.u64_in _ (by omega)
              clear kp kv hp hYp hYv hz
              go_upto_region 12 with (fail)
              go_still_tail 19, (by kernel_rfl)
              change wpList _ _ _ _ _ wr.drew
              have Dd : Below wr.heap.size wr wr.drew := Below.drawn wr 1 _
              replace v7 := v7.next Dd
              replace v9 := v9.next Dd
              replace vB := Below.on vB Dd
              replace c9 := cell_kept Dd c9
              clear f9 c7
              generalize wr.drew = wd at *
              have f9 := v9.frozen (j + m)
              have key := v9.set (j + m) (z + a * d)
              have v7' := v7.far hne (j + m) none (.int .u64 (z + a * d))
              have vB' := vB.setCell (p := ⟨g2, j + m, none⟩) hg2 (.int .u64 (z + a * d))
              have KEY := Lib.hid key
              have K7 := Lib.hid v7'
              have KB := Lib.hid vB'
              clear key v7' vB'
              go_wp2_with (fail)
              exact ⟨⟨m + 1, _, by omega, by go_num, by rw [List.length_set]; exact hYl, K7.out, KEY.out, KP.out, KV.out, KB.out⟩, by simp [intOf]; omega⟩
            · obtain rfl : m = 4 := by omega
              have hYv2 : val Y = val (l.take (j + 1)) * y := by
                rw [hYv, HXV.out, val_take l j (by rw [HN.out]; exact hjl), HA.out, Int.emod_eq_of_lt h0 (by rw [show (65536 : Int) ^ 4 = 18446744073709551616 from rfl]; omega)]
                generalize val (l.take j) = v
                generalize (65536 : Int) ^ j = q
                grind
              have hbd := val_bound HD.out (show j + 1 ≤ l.length by rw [HN.out]; omega) h0 (show y < 18446744073709551616 by omega)
              rw [HN.out, ← hYv2] at hbd
              have HYV := Lib.hid hYv2
              have HBD := Lib.hid hbd
              have HC := Carry.of hYp
              clear hYv hYv2 hYp hbd HXV HXD
              go_wp2_with (fail)
              go_loopw [12] (fun i W => ∃ (m : Nat) (U : List Int), m + 1 ≤ N + 4 ∧ i = .int .i64 m ∧ U.length = N + 4 ∧ BoxA W g 96 .u64 l ∧ BoxA W g2 96 .u64 U ∧ Carry U m ∧ val U = val Y ∧ Below w.heap.size w W) (fun i _ => N + 4 - (intOf i).toNat)
              case atStart => exact ⟨0, Y, by omega, rfl, hYl, v7, v9, HC, rfl, vB⟩
              case round =>
                clear v7 v9 vB HC hYl
                obtain ⟨m, U, hm1, rfl, hUl, v7, v9, hUc, hUv, vB⟩ := hrel
                have w1 : IntKind.i64.wrap ((m : Int) + 1) = (m : Int) + 1 := IntWalk.i64_in _ (by omega)
                have w2 : ((m : Int) + 1).toNat = m + 1 := by omega
                by_cases hml2 : m + 1 < N + 4
                · have m1 : (m : Int) + 1 < (N : Int) + 4 := by omega
                  have m0 : 0 ≤ (m : Int) + 1 := by omega
                  have m3 : (m : Int) < (N : Int) + 4 := by omega
                  have m4 : 0 ≤ (m : Int) := by omega
                  have cA := v9.cell (i := m + 1) (by omega)
                  have cB := v9.cell (i := m) (by omega)
                  have hp := hUc (m + 1) (by omega)
                  have hq := hUc m (by omega)
                  have kv := (val_carry U m (by omega)).trans hUv
                  have kc := hUc.step (by omega)
                  have kl : ((U.set (m + 1) (U[m + 1] + U[m] / 65536)).set m (U[m] % 65536)).length = N + 4 := by rw [List.length_set, List.length_set]; exact hUl
                  obtain ⟨x, hx⟩ : ∃ x, U[m + 1]'(by omega) = x := ⟨_, rfl⟩
                  obtain ⟨z, hz⟩ : ∃ z, U[m]'(by omega) = z := ⟨_, rfl⟩
                  rw [hx] at cA hp kv kc kl
                  rw [hz] at cB hq kv kc kl
                  have w3 : IntKind.u64.wrap (x + z / 65536) = x + z / 65536 := IntWalk.u64_in _ (by omega)
                  have KV := Lib.hid kv
                  have KC := Lib.hid kc
                  have KL := Lib.hid kl
                  have HZ2 := Lib.hid hz
                  have q0 : 0 ≤ z := hq.1
                  have q1 : 0 ≤ x := hp.1
                  clear hp hq kv kc kl hUc hUv hx hz
                  go_upto_region 16 with (fail)
                  go_still_tail 12, (by kernel_rfl)
                  change wpList _ _ _ _ _ wr.drew
                  have Dd : Below wr.heap.size wr wr.drew := Below.drawn wr 1 _
                  replace v7 := v7.next Dd
                  replace v9 := v9.next Dd
                  replace vB := Below.on vB Dd
                  replace cA := cell_kept Dd cA
                  replace cB := cell_kept Dd cB
                  generalize wr.drew = wd at *
                  have fA := v9.frozen (m + 1)
                  have fB := v9.frozen m
                  have key := (v9.set (m + 1) (x + z / 65536)).set m (z % 65536)
                  have v7' := (v7.far hne (m + 1) none (.int .u64 (x + z / 65536))).far hne m none (.int .u64 (z % 65536))
                  have vB' := (vB.setCell (p := ⟨g2, m + 1, none⟩) hg2 (.int .u64 (x + z / 65536))).setCell (p := ⟨g2, m, none⟩) hg2 (.int .u64 (z % 65536))
                  have KEY := Lib.hid key
                  have K7 := Lib.hid v7'
                  have KB := Lib.hid vB'
                  clear key v7' vB'
                  go_wp2_with (fail)
                  refine ⟨?_, by simp [intOf]; omega⟩
                  repeat (first | exact ⟨⟨m + 1, _, by omega, by go_num, KL.out, K7.out, KEY.out, KC.out, KV.out, KB.out⟩, rfl⟩ | apply Exists.intro)
                · have hme : m + 1 = U.length := by omega
                  have hBD := HBD.out
                  rw [← hUv, ← hUl] at hBD
                  have hD := hUc.done hme hBD
                  have hV := hUv.trans HYV.out
                  have D2 := Lib.hid hD
                  have V2 := Lib.hid hV
                  have m1 : ¬ ((m : Int) + 1 < (N : Int) + 4) := by omega
                  clear hme hBD hD hV hUc hUv
                  go_wp2_with (fail)
                  exact ⟨⟨j + 1, U, by omega, by go_num, hUl, v7, v9, D2.out, V2.out, vB⟩, by simp [intOf]; omega⟩
        · obtain rfl : N = j := by omega
          have hV : val X = y ^ (k + 1) := by
            rw [hXv, List.take_of_length_le (by rw [HN.out]; omega), HV.out, Int.pow_succ]
          have V2 := Lib.hid hV
          have hlen := HLEN.out
          have e4 : (N : Int) + 4 = ((X.length : Nat) : Int) := by omega
          have e5 : N + 4 = X.length := hXl.symm
          clear hV hXv
          rw [e5] at *
          go_wp2_with (fail)
          exact ⟨⟨k + 1, g2, X, by omega, by go_num, rfl, by omega, v9, HXD.out, V2.out, vB⟩, by simp [intOf]; omega⟩
    · obtain rfl : n = k := by omega
      have hm0 : ∀ x ∈ l, 0 ≤ x := hd.nn
      have hbl := below_law l (2 * n) p hm0 hd.lt (by omega)
      have e16 : (65536 : Int) ^ (2 * n) = 4294967296 ^ n := by rw [Int.pow_mul]; rfl
      rw [e16, hv] at hbl
      have hsp := val_split l (2 * n) (by omega)
      have hhi : 0 ≤ val (l.drop (2 * n)) ∧ val (l.drop (2 * n)) < 1099511627776 := high_bound hm0 hv h0 h1 hn (by omega)
      have hdl := fun j (h : 2 * n ≤ j) => val_drop_le l hm0 (2 * n) j h
      have hdn := fun j => val_drop_nonneg l hm0 j
      have HBL := Lib.hid hbl
      have HHI := Lib.hid hhi
      have HDL := Lib.hid hdl
      have HDN := Lib.hid hdn
      have n3 : N ≤ 13 := by omega
      have m0 : IntKind.i64.wrap (2 * (n : Int)) = 2 * n := IntWalk.i64_in _ (by omega)
      clear hbl hhi hdl hdn hsp e16 hm0 hv hlen hN
      go_wp2_with (fail)
      go_loop [13, 14] (fun h i => ∃ (j : Nat), 2 * n ≤ j ∧ j ≤ N ∧ i = .int .i64 ((j : Int) - 1) ∧ h = .int .u64 (val (l.drop j))) (fun _ i => (intOf i + 1).toNat)
      case atStart => exact ⟨N, by have := HLEN.out; omega, Nat.le_refl _, rfl, by rw [List.drop_eq_nil_of_le (by rw [HN.out]; exact Nat.le_refl _)]; rfl⟩
      case round =>
        obtain ⟨j, hj1, hj2, rfl, rfl⟩ := hrel
        by_cases hjl : 2 * n < j
        · obtain ⟨j', rfl⟩ : ∃ j', j = j' + 1 := ⟨j - 1, by omega⟩
          have hlt2 : j' < l.length := by rw [HN.out]; omega
          have c7 := hb.cell (i := j') hlt2
          have e := val_drop l j' hlt2
          have r1 := HDL.out (j' + 1) (by omega)
          have r2 := HDN.out (j' + 1)
          have r3 := HDL.out j' (by omega)
          have r4 := HHI.out
          have q := hd j' hlt2
          generalize l[j'] = x at *
          generalize val (l.drop (j' + 1)) = v at *
          have w1 : IntKind.u64.wrap (v * 65536) = v * 65536 := IntWalk.u64_in _ (by omega)
          have w2 : IntKind.u64.wrap (v * 65536 + x) = v * 65536 + x := IntWalk.u64_in _ (by omega)
          have i1 : ((j' + 1 : Nat) : Int) - 1 = j' := by omega
          have i2 : (2 * (n : Int)) ≤ j' := by omega
          have E := Lib.hid e
          rw [i1]
          clear e r1 r2 r3 r4 q hlt2 i1
          go_wp2_with (fail)
          exact ⟨⟨j', by omega, by omega, rfl, by rw [E.out, Int.mul_comm 65536 v, Int.add_comm]⟩, by simp only [intOf]; omega⟩
        · obtain rfl : j = 2 * n := by omega
          go_wp2_with (fail)
          go_loop [15, 16] (fun r i => ∃ (j : Nat), j ≤ 2 * n ∧ i = .int .i64 (j : Int) ∧ r = .int .u64 (sumD (l.take j))) (fun _ i => 2 * n - (intOf i).toNat)
          case atStart => exact ⟨0, Nat.zero_le _, rfl, rfl⟩
          case round =>
            obtain ⟨j, hj1, rfl, rfl⟩ := hrel
            by_cases hjl : j < 2 * n
            · have j1 : (j : Int) < 2 * (n : Int) := by omega
              have j2 : (j : Int) < N := by omega
              have j0 : 0 ≤ (j : Int) := by omega
              have hlt2 : j < l.length := by rw [HN.out]; omega
              have c7 := hb.cell (i := j) hlt2
              have e := sumD_take l j hlt2
              have r1 := sumD_nonneg (l.take j) (fun x hx => hd.nn x (List.mem_of_mem_take hx))
              have r2 := sumD_le (l.take j) (fun x hx => hd.lt x (List.mem_of_mem_take hx))
              have r3 : (l.take j).length ≤ 10 := by rw [List.length_take]; omega
              have q := hd j hlt2
              generalize l[j] = x at *
              generalize sumD (l.take j) = v at *
              have w2 : IntKind.u64.wrap (v + x) = v + x := IntWalk.u64_in _ (by omega)
              have E := Lib.hid e
              clear e r1 r2 r3 q hlt2
              go_wp2_with (fail)
              exact ⟨⟨j + 1, by omega, by go_num, by rw [E.out]⟩, by simp [intOf]; omega⟩
            · obtain rfl : j = 2 * n := by omega
              have hbl := HBL.out
              have hz := HZ.out
              generalize val (l.drop (2 * n)) = D at *
              generalize sumD (l.take (2 * n)) = R at *
              clear HBL HHI HDL HDN HV HZ
              by_cases c1 : D < p
              · obtain rfl : Z = true := by rw [← hz, decide_eq_true (hbl.1 (.inl c1))]
                clear hz hbl
                go_wp2_with (fail)
                go_ret
                exact ⟨rfl, hB⟩
              · by_cases c2 : D = p
                · subst c2
                  by_cases c3 : R = 0
                  · subst c3
                    obtain rfl : Z = true := by rw [← hz, decide_eq_true (hbl.1 (.inr ⟨rfl, rfl⟩))]
                    clear hz hbl
                    go_wp2_with (fail)
                    go_ret
                    exact ⟨rfl, hB⟩
                  · obtain rfl : Z = false := by rw [← hz, decide_eq_false (fun h => by rcases hbl.2 h with h | h; exact c1 h; exact c3 h.2)]
                    have c4 : (R == 0) = false := by simpa using c3
                    clear hz hbl
                    go_wp2_with (fail)
                    go_ret
                    exact ⟨rfl, hB⟩
                · obtain rfl : Z = false := by rw [← hz, decide_eq_false (fun h => by rcases hbl.2 h with h | h; exact c1 h; exact c2 h.1)]
                  have c4 : (D == p) = false := by simpa using c2
                  clear hz hbl
                  go_wp2_with (fail)
                  go_ret
                  exact ⟨rfl, hB⟩
end
end Go.Proofs.YtcocengpekndjaaDoor
