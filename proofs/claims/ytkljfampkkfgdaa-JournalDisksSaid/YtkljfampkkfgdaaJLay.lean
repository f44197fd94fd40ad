/- The journal layer: numbers in blocks; units, capacity. -/
import Derived.Test.YtkljfampkkfgdaaJDClone
namespace Go.Proofs.Ytkljfampkkfgdaa
open Go.RowKit
/-- A number of eight bytes, as it is read. -/
def numM (b : Bs) : Int := b.foldl (fun a x => IntKind.i64.wrap (a * 256 + (x.toNat : Int))) 0
theorem or_byte (a : Int) (x : Nat) (hx : x < 256) : bits .or .i64 (IntKind.i64.wrap (a * 256)) (x : Int) = IntKind.i64.wrap (a * 256 + x) := by
  have h2 : (BitVec.ofInt 64 (x : Int)).toNat = x := by
    rw [BitVec.ofInt_natCast, BitVec.toNat_ofNat]; exact Nat.mod_eq_of_lt (by omega)
  have h1 : ((BitVec.ofInt 64 (IntKind.i64.wrap (a * 256))).toNat : Int) = (a * 256) % 18446744073709551616 := by
    rw [BitVec.toNat_ofInt, IntKind.wrap_i64]; omega
  obtain ⟨X, hX⟩ : ∃ X, (BitVec.ofInt 64 (IntKind.i64.wrap (a * 256))).toNat = X := ⟨_, rfl⟩
  rw [hX] at h1
  show IntKind.i64.wrap ((BitVec.ofInt 64 (IntKind.i64.wrap (a * 256)) ||| BitVec.ofInt 64 (x : Int)).toNat : Int) = _
  rw [BitVec.toNat_or, h2, hX, nat_join 8 X x (by omega) (by omega), IntKind.wrap_i64, IntKind.wrap_i64]
  omega
theorem numM_snoc (b : Bs) (x : UInt8) : numM (b ++ [x]) = IntKind.i64.wrap (numM b * 256 + (x.toNat : Int)) := by simp [numM]
set_option maxRecDepth 100000 in
set_option maxHeartbeats 1000000 in
theorem number_any (b : Bs) (W : World) (hb : b.length = 8) : Calls Try.prog 74 #[.string ⟨b.toArray⟩] W fun e w' => e = .returned (.int .i64 (numM b)) ∧ w' = W := by
  have HB := Lib.hid hb
  clear hb
  go_enter Try.func74, Try.ntmps74
  go_wp2_with (fail)
  go_loopw [3, 4, 5] (fun n _ i w => ∃ k : Nat, k ≤ 8 ∧ i = .int .i64 k ∧ n = .int .i64 (numM (b.take k)) ∧ w = W) (fun _ _ i _ => 8 - (intOf i).toNat)
  case atStart => exact ⟨0, by decide, rfl, rfl, rfl⟩
  case round =>
    obtain ⟨k, hk, rfl, rfl, rfl⟩ := hrel
    by_cases hlt : k < 8
    · have k1 : (k : Int) < 8 := by omega
      have k0 : 0 ≤ (k : Int) := by omega
      have hl : k < b.length := by have := HB.out; omega
      have ix := fun W => bs_index (P := Try.prog) b W 9 (by kernel_rfl) .i64 (k : Int) k rfl hl
      have e1 := numM_snoc (b.take k) b[k]
      rw [← List.take_succ_eq_append_getElem hl] at e1
      have eb : byt b k = ((b[k].toNat : Nat) : Int) := by unfold byt; rw [List.getD_eq_getElem?_getD, List.getElem?_eq_getElem hl]; rfl
      rw [eb] at ix
      have hor := or_byte (numM (b.take k)) b[k].toNat b[k].toNat_lt
      rw [← e1] at hor
      have hz : b[k].toNat < 256 := b[k].toNat_lt
      generalize numM (b.take k) = y at *
      generalize b[k].toNat = z at *
      rw [IntWalk.i64_left] at hor
      have E1 := Lib.hid hor
      clear e1 eb hor
      go_wp2_with (fail)
      exact ⟨⟨k + 1, by omega, rfl, by rw [← E1.out], trivial⟩, by simp [intOf]; omega⟩
    · obtain rfl : k = 8 := by omega
      have e1 : b.take 8 = b := List.take_of_length_le (by rw [HB.out]; omega)
      have E1 := Lib.hid e1
      clear e1
      go_wp2_with (fail)
      go_ret
      exact ⟨by rw [E1.out]; rfl, rfl⟩
/-- The first k bytes of a number, laid into a row from place o on. -/
def putP (n : Int) (o : Nat) (l : List Int) : Nat → List Int
  | 0 => l
  | k + 1 => (putP n o l k).set (o + k) (n / 2 ^ (56 - 8 * k) % 256)
theorem putP_length (n : Int) (o : Nat) (l : List Int) (k : Nat) : (putP n o l k).length = l.length := by
  induction k with
  | zero => rfl
  | succ k ih => rw [putP, List.length_set, ih]
set_option maxRecDepth 100000 in
set_option maxHeartbeats 1000000 in
theorem putnumber_any (W : World) (g o c : Nat) (t : TypeId) (l : List Int) (n : Int) (h : BoxA W g t .u8 l) (hl : o + 8 ≤ l.length) (_h0 : 0 ≤ n) (_h1 : n < 9223372036854775808) (_ho : o ≤ 1000) :
    Calls Try.prog 83 #[.slice (some ⟨g, o, none⟩) 8 c, .int .i64 n] W fun e w' => e = .returned (.tuple #[]) ∧ BoxA w' g t .u8 (putP n o l 8) ∧ ButS (fun i => i = g) W w' := by
  go_enter Try.func83, Try.ntmps83
  go_wp2_with (fail)
  go_loopw [4, 5] (fun _ i w => ∃ k : Nat, k ≤ 8 ∧ i = .int .i64 k ∧ BoxA w g t .u8 (putP n o l k) ∧ ButS (fun i => i = g) W w) (fun _ i _ => 8 - (intOf i).toNat)
  case atStart => exact ⟨0, by decide, rfl, h, ButS.refl _ _⟩
  case round =>
    obtain ⟨k, hk, rfl, hb, hB⟩ := hrel
    by_cases hlt : k < 8
    · have k1 : (k : Int) < 8 := by omega
      have k0 : 0 ≤ (k : Int) := by omega
      have cf := hb.frozen (o + k)
      have ck := hb.cell (i := o + k) (by rw [putP_length]; omega)
      have m0 : IntKind.i64.wrap (8 * (k : Int)) = 8 * k := IntWalk.i64_in _ (by omega)
      have m1 : IntKind.i64.wrap (56 - 8 * (k : Int)) = 56 - 8 * k := IntWalk.i64_in _ (by omega)
      go_wp2_with (fail)
      exact ⟨⟨k + 1, by omega, by go_num, hb.set (o + k) _, hB.trans (ButS.setCell (F := fun i => i = g) _ (p := ⟨g, o + k, none⟩) rfl _) fun _ h => .inl h⟩, by simp [intOf]; omega⟩
    · obtain rfl : k = 8 := by omega
      go_wp2_with (fail)
      go_end0
      exact ⟨rfl, hb, hB⟩
/-- How many units a string takes; how many a disk has; where a region begins. -/
def unitsM (n : Nat) : Nat := max 1 ((n + 39) / 40)
def capM (n : Nat) : Nat := (n - 2) / 2
set_option maxRecDepth 100000 in
set_option maxHeartbeats 400000 in
theorem units_any (s : Bs) (W : World) (hs : s.length ≤ 1000000) : Calls Try.prog 47 #[.string ⟨s.toArray⟩] W fun e w' => e = .returned (.int .i64 (unitsM s.length : Nat)) ∧ w' = W := by
  have hx : ((unitsM s.length : Nat) : Int) = max 1 (((s.length : Int) + 40 - 1) / 40) := by unfold unitsM; omega
  have HX := Lib.hid hx
  clear hx
  go_enter Try.func47, Try.ntmps47
  go_wp2_with (fail)
  all_goals
    go_ret
    refine ⟨?_, rfl⟩
    refine congrArg (fun y => Ending.returned (Value.int .i64 y)) (?_ : _ = ((unitsM s.length : Nat) : Int))
    rw [HX.out]
    omega
set_option maxRecDepth 100000 in
set_option maxHeartbeats 400000 in
theorem capacity_any {W : World} {dk : Nat} {D : Dk} {F : Nat → Prop} (h : DiskAt W dk D F) (h8 : 8 ≤ D.sec.length) : Calls Try.prog 44 #[.pointer (some ⟨dk, 0, none⟩)] W fun e w' => e = .returned (.int .i64 (capM D.sec.length : Nat)) ∧ w' = W := by
  obtain ⟨b, c, vs, h, rfl⟩ := h
  have c0 := h.c0
  have hf := h.ok.few
  have hx : ((capM D.sec.length : Nat) : Int) = ((D.sec.length : Int) - 2) / 2 := by unfold capM; omega
  have HX := Lib.hid hx
  clear hx h
  generalize D.sec.length = N at *
  go_enter Try.func44, Try.ntmps44
  go_wp2_with (fail)
  go_ret
  exact ⟨by rw [HX.out]; rfl, rfl⟩
set_option maxRecDepth 100000 in
set_option maxHeartbeats 400000 in
theorem first_any {W : World} {dk : Nat} {D : Dk} {F : Nat → Prop} (h : DiskAt W dk D F) (h8 : 8 ≤ D.sec.length) (r : Int) (r0 : 0 ≤ r) (r1 : r ≤ 1) : Calls Try.prog 49 #[.pointer (some ⟨dk, 0, none⟩), .int .i64 r] W fun e w' => e = .returned (.int .i64 (2 + r * (capM D.sec.length : Nat))) ∧ w' = W := by
  have hc := capacity_any h h8
  have hf := h.ok.few
  have hcl : capM D.sec.length ≤ 4096 := by unfold capM; omega
  clear h
  generalize capM D.sec.length = C at *
  have hb : 0 ≤ r * (C : Int) ∧ r * (C : Int) ≤ 4096 := by
    rcases (by omega : r = 0 ∨ r = 1) with rfl | rfl <;> omega
  go_enter Try.func49, Try.ntmps49
  go_wp2_with (go_at_call 44; refine hc.mono ?_; rintro e w1 ⟨rfl, rfl⟩)
  go_ret
  exact ⟨rfl, rfl⟩
end Go.Proofs.Ytkljfampkkfgdaa
