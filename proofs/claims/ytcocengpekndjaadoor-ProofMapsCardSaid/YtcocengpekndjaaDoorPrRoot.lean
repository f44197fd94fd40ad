/- The walks over root and Constants of the reference. -/
import Derived.Test.YtcocengpekndjaaDoorPrBelow
import Derived.Test.YtcocengpekndjaaDoorPrTop
namespace Go.Proofs.YtcocengpekndjaaDoor
open Go.RowKit
theorem prime_range {i : Nat} (h : i < 64) : 2 ≤ primeI i ∧ primeI i ≤ 311 := by
  have := primes_range i h
  unfold primeI; omega
theorem whole_bound {x p : Int} {n : Nat} (hn : n = 2 ∨ n = 3) (_h0 : 1 ≤ x) (hp : p ≤ 311) (h : x ^ n ≤ p) : x ≤ 17 := by
  refine Int.not_lt.1 fun hh => ?_
  have a := pow_mono (a := 18) (b := x) (by decide) (by omega) n
  rcases hn with rfl | rfl
  · have : (18 : Int) ^ 2 = 324 := by decide
    omega
  · have : (18 : Int) ^ 3 = 5832 := by decide
    omega
set_option maxRecDepth 100000 in
set_option maxHeartbeats 2000000 in
theorem rroot_any (p : Int) (n : Nat) (r : Int) (w : World) (hp : 2 ≤ p ∧ p ≤ 311) (hn : n = 2 ∨ n = 3) (hr : ∀ x : Int, 0 ≤ x → x ^ n ≤ p * 4294967296 ^ n → p * 4294967296 ^ n < (x + 1) ^ n → x % 4294967296 = r) :
    Calls Tryd.prog 55 #[.int .u64 p, .int .i64 n] w fun e w' => e = .returned (.int .u32 r) ∧ Below w.heap.size w w' := by
  have hpow := fun (x : Int) (W : World) (h0 : 0 ≤ x) (h1 : x ≤ 1000) => rpower_any x n W h0 h1 (by omega)
  have hbel := fun (y : Int) (W : World) (h0 : 0 ≤ y) (h1 : y < 4398046511104) => rbelow_any y p n W h0 h1 (by omega) (by omega) (by omega)
  have HP := Lib.hid hpow
  have HB := Lib.hid hbel
  have HR := Lib.hid hr
  have HN := Lib.hid hn
  obtain ⟨p1, p2⟩ := hp
  have n3 : n ≤ 3 := by omega
  clear hpow hbel hr hn
  go_enter Tryd.func55, Tryd.ntmps55
  go_wp2_with (fail)
  go_loop [5] (fun x => ∃ k : Int, 1 ≤ k ∧ k ≤ 17 ∧ k ^ n ≤ p ∧ x = .int .u64 k) (fun x => 400 - (intOf x).toNat)
  case atStart => exact ⟨1, by decide, by decide, by rw [Int.one_pow]; omega, rfl⟩
  case round =>
    obtain ⟨k, hk1, hk2, hkp, rfl⟩ := hrel
    have m1 : IntKind.u64.wrap (k + 1) = k + 1 := IntWalk.u64_in _ (by omega)
    by_cases hlt : (k + 1) ^ n ≤ p
    · have hb := whole_bound HN.out (show 1 ≤ k + 1 by omega) p2 hlt
      have L := Lib.hid hlt
      generalize hq : (k + 1) ^ n = q at *
      go_wp2_with (go_at_call 87; refine (HP.out (k + 1) _ (by omega) (by omega)).mono ?_; rw [hq]; rintro e w' ⟨rfl, rfl⟩)
      exact ⟨⟨k + 1, by omega, hb, by rw [hq]; exact L.out, rfl⟩, by simp only [intOf]; omega⟩
    · have hx := root_start hkp (Int.not_le.1 hlt)
      have x0 : 0 ≤ k * 4294967296 := by omega
      obtain ⟨P, hP⟩ : ∃ P, p * 4294967296 ^ n = P := ⟨_, rfl⟩
      rw [hP] at hx HR
      have hbnd := fun (y : Int) (h : y ^ n ≤ P) => root_bound (n := n) (x := y) (p := p) (by have := HN.out; omega) (by omega) (by rw [hP]; exact h)
      have HBND := Lib.hid hbnd
      rw [hP] at HB
      have L : ¬ ((k + 1) ^ n ≤ p) := hlt
      generalize hq : (k + 1) ^ n = q at *
      have HX := Lib.hid hx
      clear hx hkp hlt hbnd
      have m2 : IntKind.u64.wrap (k * 4294967296) = k * 4294967296 := IntWalk.u64_in _ (by omega)
      go_wp2_with (go_at_call 87; refine (HP.out (k + 1) _ (by omega) (by omega)).mono ?_; rw [hq]; rintro e w' ⟨rfl, rfl⟩)
      go_loopw [6, 7, 8] (fun x b _ W => ∃ (t : Nat) (X : Int), t ≤ 32 ∧ 0 ≤ X ∧ X ^ n ≤ P ∧ P < (X + 2 ^ t) ^ n ∧ b = .int .i64 ((t : Int) - 1) ∧ x = .int .u64 X ∧ Below w.heap.size w W) (fun _ b _ _ => (intOf b + 1).toNat)
      case atStart => exact ⟨32, k * 4294967296, by decide, x0, HX.out.1, HX.out.2, rfl, rfl, Below.refl _ _⟩
      case round =>
        obtain ⟨t, X, ht, hX0, hX1, hX2, rfl, rfl, hB⟩ := hrel
        have hXb := HBND.out X hX1
        have H1 := Lib.hid hX1
        have H2 := Lib.hid hX2
        clear hX1 hX2
        by_cases htl : 0 < t
        · obtain ⟨t', rfl⟩ : ∃ t', t = t' + 1 := ⟨t - 1, by omega⟩
          have i1 : ((t' + 1 : Nat) : Int) - 1 = t' := by omega
          rw [i1]
          have i0 : 0 ≤ (t' : Int) := by omega
          have i2 : (t' : Int) < 32 := by omega
          have b2 : (2 : Int) ^ t' ≤ 2147483648 := by
            have : (2 : Int) ^ t' ≤ 2 ^ 31 := by exact_mod_cast Nat.pow_le_pow_right (by decide) (show t' ≤ 31 by omega)
            simpa using this
          have b1 : (1 : Int) ≤ 2 ^ t' := Int.pow_pos (by decide)
          have es : (2 : Int) ^ (t' + 1) = 2 ^ t' + 2 ^ t' := by rw [Int.pow_succ]; omega
          rw [es] at H2
          obtain ⟨c, hc⟩ : ∃ c, decide ((X + 2 ^ t') ^ n ≤ P) = c := ⟨_, rfl⟩
          have HC := Lib.hid hc
          have HBW := Lib.hid (fun W => hc ▸ HB.out (X + 2 ^ t') W (by omega) (by omega))
          clear hc es
          cases c with
          | true =>
            go_wp2_with (go_at_call 88; refine (HBW.out _).mono ?_; rintro e w1 ⟨rfl, b9⟩)
            exact ⟨⟨t', X + 2 ^ t', by omega, by omega, of_decide_eq_true HC.out, by rw [Int.add_assoc]; exact H2.out, rfl, rfl, Below.on hB b9⟩, by simp only [intOf]; omega⟩
          | false =>
            go_wp2_with (go_at_call 88; refine (HBW.out _).mono ?_; rintro e w1 ⟨rfl, b9⟩)
            exact ⟨⟨t', X, by omega, by omega, H1.out, Int.not_le.1 (of_decide_eq_false HC.out), rfl, rfl, Below.on hB b9⟩, by simp only [intOf]; omega⟩
        · obtain rfl : t = 0 := by omega
          have e := HR.out X hX0 H1.out (by have := H2.out; rw [show (2 : Int) ^ 0 = 1 from rfl] at this; exact this)
          have E := Lib.hid e
          clear e
          go_wp2_with (fail)
          go_ret
          exact ⟨by rw [E.out]; rfl, hB⟩
/-- The constants, the first k of them. -/
def wordsL : List Int := hM ++ kM
def constP : Nat → List Int
  | 0 => List.replicate 72 0
  | k + 1 => (constP k).set k (wordsL.getD k 0)
theorem constP_length (k : Nat) : (constP k).length = 72 := by
  induction k with
  | zero => rfl
  | succ k ih => rw [constP, List.length_set, ih]
theorem constP_72 : constP 72 = wordsL := by decide +kernel
theorem words_h {i : Nat} (h : i < 8) : wordsL.getD i 0 = hM.getD i 0 := by
  revert i; decide +kernel
theorem words_k {i : Nat} (h : i < 64) : wordsL.getD (8 + i) 0 = kM.getD i 0 := by
  revert i; decide +kernel
theorem wordsL_length : wordsL.length = 72 := rfl
/-- The constants as a value; block b is a variable that holds them. -/
abbrev wordsV : Value := .agg (ints .u32 wordsL)
abbrev BoxW (W : World) (b : Nat) : Prop := BoxA W b 27 .u32 wordsL
theorem szWords : (Tryd.prog.info? 27).map (·.size) = some 72 := by kernel_rfl
theorem wpList_loadW {ops : Array Oper} {rest : List Oper} {o : Oper} {a : Act} {w : World} {Q : Exit → Act → World → Prop} (hgd : o.guard = none) (x : Operand) (ho : o.op = .load 27 x) (g : Nat) (hx : a.eval x = .pointer (some ⟨g, 0, none⟩)) (hg : BoxW w g)
    (K : wpList Tryd.prog ops Q rest (a.put o.dst wordsV) w) : wpList Tryd.prog ops Q (o :: rest) a w :=
  wpList_load_row hgd 27 x ho g hx 27 (ints .u32 wordsL) (0, 0) (.struct (Tryd.prog.fieldsOf 27)) hg (by kernel_rfl) rfl (by rw [ints_size, wordsL_length]; exact szWords) K
theorem BoxW.new (w : World) : BoxW (w.alloc (.cells (ints .u32 wordsL) 27)) w.heap.size := BoxA.new w _ _ _ _ rfl
set_option maxRecDepth 100000 in
set_option maxHeartbeats 2000000 in
theorem constants_any (w : World) : Calls Tryd.prog 18 #[] w fun e w' => e = .returned wordsV ∧ Below w.heap.size w w' := by
  go_enter Tryd.func18, Tryd.ntmps18
  go_wp2_with (fail)
  have z27 : (Obj.cells Tryd.zeroCells27 27 : Obj) = .cells (ints .u32 (List.replicate 72 0)) 27 := by kernel_rfl
  rw [z27]
  have v0 : BoxA ((w.alloc (.cells (ints .u32 (List.replicate 72 0)) 27)).alloc (.cells (ints .u32 (List.replicate 72 0)) 27)) w.heap.size 27 .u32 (List.replicate 72 0) := (BoxA.new w _ _ _ _ rfl).next (Below.new1 _ _)
  have v1 : BoxA ((w.alloc (.cells (ints .u32 (List.replicate 72 0)) 27)).alloc (.cells (ints .u32 (List.replicate 72 0)) 27)) (w.heap.size + 1) 27 .u32 (List.replicate 72 0) := by
    have := BoxA.new (w.alloc (.cells (ints .u32 (List.replicate 72 0)) 27)) 27 .u32 (List.replicate 72 0) _ rfl
    rw [World.size_alloc] at this; exact this
  have vB : Below w.heap.size w ((w.alloc (.cells (ints .u32 (List.replicate 72 0)) 27)).alloc (.cells (ints .u32 (List.replicate 72 0)) 27)) := Below.on (Below.new1 _ _) (Below.new1 _ _)
  clear z27
  generalize World.alloc (w.alloc (.cells (ints .u32 (List.replicate 72 0)) 27)) (.cells (ints .u32 (List.replicate 72 0)) 27) = w0 at *
  go_loopw [2] (fun i W => ∃ k : Nat, k ≤ 8 ∧ i = .int .i64 k ∧ BoxA W w.heap.size 27 .u32 (List.replicate 72 0) ∧ BoxA W (w.heap.size + 1) 27 .u32 (constP k) ∧ Below w.heap.size w W) (fun i _ => 8 - (intOf i).toNat)
  case atStart => exact ⟨0, by decide, rfl, v0, v1, vB⟩
  case round =>
    clear v0 v1 vB
    obtain ⟨k, hk, rfl, v0, v1, vB⟩ := hrel
    by_cases hlt : k < 8
    · have k1 : (k : Int) < 8 := by omega
      have k0 : 0 ≤ (k : Int) := by omega
      have hp := fun W => rprime_any k W (by omega)
      have hpr := prime_range (i := k) (by omega)
      have hr := fun W => rroot_any (primeI k) 2 (hM.getD k 0) W hpr (.inl rfl) (fun x h0 h1 h2 => root_h hlt h0 h1 h2)
      have HPR := Lib.hid hp
      have HR := Lib.hid hr
      have HW := Lib.hid (words_h hlt)
      clear hp hpr hr
      generalize primeI k = q at *
      generalize hM.getD k 0 = r at *
      go_wp2_with (first
        | (go_at_call 56; refine (HPR.out _).mono ?_; rintro e w' ⟨rfl, rfl⟩)
        | (go_at_call 55; refine (HR.out _).mono ?_; rintro e w1 ⟨rfl, b1⟩
           replace v0 := v0.next b1
           replace v1 := v1.next b1
           replace vB := Below.on vB b1
           have c1 := v1.cell (i := k) (by rw [constP_length]; omega)
           have f1 := v1.frozen k))
      have key := v1.set k r
      rw [show (constP k).set k r = constP (k + 1) from by rw [constP, HW.out]] at key
      exact ⟨⟨k + 1, by omega, by go_num, v0.far (by omega) _ _ _, key, vB.setCell (p := ⟨w.heap.size + 1, k, none⟩) (show w.heap.size ≤ w.heap.size + 1 by omega) _⟩, by simp [intOf]; omega⟩
    · obtain rfl : k = 8 := by omega
      go_wp2_with (fail)
      go_loopw [3] (fun i W => ∃ k : Nat, k ≤ 64 ∧ i = .int .i64 k ∧ BoxA W w.heap.size 27 .u32 (List.replicate 72 0) ∧ BoxA W (w.heap.size + 1) 27 .u32 (constP (8 + k)) ∧ Below w.heap.size w W) (fun i _ => 64 - (intOf i).toNat)
      case atStart => exact ⟨0, by decide, rfl, v0, v1, vB⟩
      case round =>
        clear v0 v1 vB
        obtain ⟨k, hk, rfl, v0, v1, vB⟩ := hrel
        by_cases hlt : k < 64
        · have k1 : (k : Int) < 64 := by omega
          have k0 : 0 ≤ (k : Int) := by omega
          have hp := fun W => rprime_any k W (by omega)
          have hpr := prime_range (i := k) (by omega)
          have hr := fun W => rroot_any (primeI k) 3 (kM.getD k 0) W hpr (.inr rfl) (fun x h0 h1 h2 => root_k hlt h0 h1 h2)
          have HPR := Lib.hid hp
          have HR := Lib.hid hr
          have HW := Lib.hid (words_k hlt)
          clear hp hpr hr
          generalize primeI k = q at *
          generalize kM.getD k 0 = r at *
          go_wp2_with (first
            | (go_at_call 56; refine (HPR.out _).mono ?_; rintro e w' ⟨rfl, rfl⟩)
            | (go_at_call 55; refine (HR.out _).mono ?_; rintro e w1 ⟨rfl, b1⟩
               replace v0 := v0.next b1
               replace v1 := v1.next b1
               replace vB := Below.on vB b1
               have c1 := v1.cell (i := 8 + k) (by rw [constP_length]; omega)
               have f1 := v1.frozen (8 + k)))
          have key := v1.set (8 + k) r
          rw [show (constP (8 + k)).set (8 + k) r = constP (8 + (k + 1)) from by rw [← Nat.add_assoc, constP, HW.out]] at key
          refine ⟨?_, by simp [intOf]; omega⟩
          repeat (first | exact ⟨⟨k + 1, by omega, by go_num, v0.far (by omega) _ _ _, key, vB.setCell (p := ⟨w.heap.size + 1, 8 + k, none⟩) (show w.heap.size ≤ w.heap.size + 1 by omega) _⟩, rfl⟩ | apply Exists.intro)
        · obtain rfl : k = 64 := by omega
          rw [show constP (8 + 64) = wordsL from constP_72] at v1
          have sz : (Tryd.prog.info? 27).map (·.size) = some (ints .u32 wordsL).size := by rw [ints_size, wordsL_length]; exact szWords
          have HSZ := Lib.hid sz
          clear sz
          go_wp2_with (first
            | (refine wpList_loadW rfl (.tmp 1) rfl (w.heap.size + 1) rfl v1 ?_)
            | (refine wpList_store_row rfl 27 (.tmp 0) (.tmp 24) rfl w.heap.size (ints .u32 wordsL) rfl rfl 27 _ v0 HSZ.out (by rw [ints_size, ints_size, wordsL_length, List.length_replicate]) (ints_one _ _) ?_))
          exact bodyPost_ret (v := wordsV) (results_cell_row (p := 0) (ty := 27) rfl _ _ w.heap.size 27 (ints .u32 wordsL) (0, 0) (.struct (Tryd.prog.fieldsOf 27)) rfl v0.setRow (by kernel_rfl) rfl HSZ.out) rfl ⟨rfl, below_setRow vB (Nat.le_refl _) _⟩
end Go.Proofs.YtcocengpekndjaaDoor
