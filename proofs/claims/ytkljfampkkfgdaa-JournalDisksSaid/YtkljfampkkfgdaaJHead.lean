/- The journal layer: headers and units. -/
import Derived.Test.YtkljfampkkfgdaaJLay
namespace Go.Proofs.Ytkljfampkkfgdaa
open Go.RowKit
theorem eightM_at (n : Int) {k : Nat} (hk : k < 8) : (nums (eightM n))[k]? = some (n / 2 ^ (56 - 8 * k) % 256) := by
  match k, hk with
  | 0, _ => simp [nums, eightM]; omega
  | 1, _ => simp [nums, eightM]; omega
  | 2, _ => simp [nums, eightM]; omega
  | 3, _ => simp [nums, eightM]; omega
  | 4, _ => simp [nums, eightM]; omega
  | 5, _ => simp [nums, eightM]; omega
  | 6, _ => simp [nums, eightM]; omega
  | 7, _ => simp [nums, eightM]; omega
theorem putP_take (n : Int) (o : Nat) (l : List Int) (hl : o + 8 ≤ l.length) : ∀ k, k ≤ 8 → putP n o l k = l.take o ++ (nums (eightM n)).take k ++ l.drop (o + k) := by
  intro k
  induction k with
  | zero => intro _; simp [putP]
  | succ k ih =>
    intro hk
    have h8 : (nums (eightM n)).length = 8 := by simp [nums, eightM]
    have hx := eightM_at n (k := k) (by omega)
    rw [putP, ih (by omega)]
    have e1 : (l.take o ++ (nums (eightM n)).take k).length = o + k := by simp [h8]; omega
    rw [List.set_append_right _ _ (by omega), e1, Nat.sub_self, List.drop_eq_getElem_cons (by omega), List.set_cons_zero, List.take_succ_eq_append_getElem (by omega)]
    have e2 : (nums (eightM n))[k]'(by omega) = n / 2 ^ (56 - 8 * k) % 256 := by
      rw [List.getElem?_eq_getElem (by omega)] at hx; exact Option.some.inj hx
    rw [e2]; simp [Nat.add_assoc]
theorem putP_eq (n : Int) (o : Nat) (l : List Int) (hl : o + 8 ≤ l.length) : putP n o l 8 = l.take o ++ nums (eightM n) ++ l.drop (o + 8) := by
  have h8 : (nums (eightM n)).length = 8 := by simp [nums, eightM]
  rw [putP_take n o l hl 8 (Nat.le_refl _), List.take_of_length_le (l := nums (eightM n)) (by omega)]
/-- A header. -/
def magicM : Bs := [103, 117, 105, 108, 108, 111, 99, 104, 101, 32, 106, 111, 117, 114, 110, 97, 108]
def hdrM (e r : Int) : Bs := magicM ++ List.replicate 15 0 ++ eightM e ++ eightM r ++ List.replicate 16 0
theorem hdr_length (e r : Int) : (hdrM e r).length = 64 := by simp [hdrM, magicM, eightM]
theorem hdr_row (e r : Int) : putP r 40 (putP e 32 ((List.replicate 64 (0 : Int)).take 0 ++ nums magicM ++ (List.replicate 64 (0 : Int)).drop (0 + magicM.length)) 8) 8 = nums (hdrM e r) := by
  rw [putP_eq _ _ _ (by simp [putP_length, magicM, nums]), putP_eq _ _ _ (by simp [magicM, nums])]
  simp [hdrM, magicM, eightM, nums, List.replicate]
set_option maxRecDepth 100000 in
set_option maxHeartbeats 1000000 in
theorem header_any (e r : Int) (W : World) (e0 : 0 ≤ e) (e1 : e < 9223372036854775808) (r0 : 0 ≤ r) (r1 : r < 9223372036854775808) : Calls Try.prog 76 #[.int .i64 e, .int .i64 r] W fun x w' => x = .returned (.string ⟨(hdrM e r).toArray⟩) ∧ Below W.heap.size W w' := by
  have HROW := Lib.hid (hdr_row e r)
  have ml : magicM.length = 17 := rfl
  go_enter Try.func76, Try.ntmps76
  go_upto_region 2 with (fail)
  generalize hW0 : World.alloc W _ = w0
  have b0 : Below W.heap.size W w0 := hW0 ▸ Below.new1 _ _
  have x5 : BoxA w0 W.heap.size 95 .u8 (List.replicate 64 0) := hW0 ▸ BoxA.new W _ _ _ _ rfl
  clear hW0
  generalize hg : W.heap.size = g at *
  go_upto_region 3 with (refine wpList_exec rfl _ (exec_copyB (ev := _) (.tmp 6) (.const (.string ⟨magicM.toArray⟩)) rfl g 0 64 64 magicM _ rfl rfl x5 (by rw [ml]; decide) (by rw [ml]; simp)) ?_)
  have x6 := BoxA.setRow (l' := (List.replicate 64 (0 : Int)).take 0 ++ nums magicM ++ (List.replicate 64 (0 : Int)).drop (0 + magicM.length)) x5
  have b1 : Below g W (World.setRow w0 g (ints .u8 ((List.replicate 64 (0 : Int)).take 0 ++ nums magicM ++ (List.replicate 64 (0 : Int)).drop (0 + magicM.length)))) := below_setRow b0 (Nat.le_refl _) _
  have hL : ((List.replicate 64 (0 : Int)).take 0 ++ nums magicM ++ (List.replicate 64 (0 : Int)).drop (0 + magicM.length)).length = 64 := by simp [magicM, nums]
  generalize (List.replicate 64 (0 : Int)).take 0 ++ nums magicM ++ (List.replicate 64 (0 : Int)).drop (0 + magicM.length) = l at *
  generalize World.setRow w0 g (ints .u8 l) = w1 at *
  clear x5 b0 ml
  go_upto_region 5 with (first
    | (go_at_call_of 83 (Value.int IntKind.i64 e); refine (putnumber_any _ g 32 _ _ l e x6 (by omega) e0 e1 (by decide)).mono ?_; rintro x w2 ⟨rfl, x7, b2⟩)
    | (go_at_call 83; refine (putnumber_any _ g 40 _ _ _ r x7 (by rw [putP_length]; omega) r0 r1 (by decide)).mono ?_; rintro x w3 ⟨rfl, x8, b3⟩))
  rw [HROW.out] at x8
  have cv := BoxH.text x8 (hdr_length e r) 64
  have s1 := b1.size
  have s2 := b2.size
  have b4 : Below g W w3 := (b1.trans (b2.below (n := g) (by omega) (fun i h => by omega))).trans (b3.below (n := g) (by omega) (fun i h => by omega))
  clear x6 x7 x8 b1 b2 b3
  go_wp2_with (fail)
  go_ret
  exact ⟨rfl, by rw [hg]; exact b4⟩
end Go.Proofs.Ytkljfampkkfgdaa
