/- The reference's Accept returns what the program's does. -/
import Derived.Test.YtcocengpekndjaaDoorPrRAccB
import Derived.Test.YtcocengpekndjaaDoorPrAcc
import Derived.Test.YtcocengpekndjaaDoorPrVer
namespace Go.Proofs.YtcocengpekndjaaDoor
open Go.RowKit
/-- Folding, and rebuilding: the same answers. -/
theorem fold_acc (f : Bs → Bs) (root : Bs) {n : Nat} {i : Int} {inside path : List Bs} (hn : 0 < n) (hi : inside ≠ []) :
    ((foldR n i inside path).2.2 && (foldR n i inside path).2.1 == path.length && root == f (foldR n i inside path).1) = ((f (rebuildM sha n i (inside.map (leafM sha)) (path, false)).1 == root) && doneM (rebuildM sha n i (inside.map (leafM sha)) (path, false)).2) := by
  have hb := rebuild_fold sha n n i (inside.map (leafM sha)) path (Nat.le_refl _) hn (by simpa using hi)
  have hf := foldR_fold n n i inside path (Nat.le_refl _)
  cases e : foldM sha n i (inside.map (leafM sha)) path with
  | none =>
    rw [e] at hb hf
    simp only at hb hf
    rw [hf, hb]
    simp [doneM]
  | some x =>
    obtain ⟨a, u⟩ := x
    rw [e] at hb hf
    simp only at hb hf
    rw [hf, hb.1]
    have hd : (path.drop u).isEmpty = (u == path.length) := by
      have := hb.2
      rw [Bool.eq_iff_iff]
      simp [List.isEmpty_iff]; omega
    have hq : (root == f a) = (f a == root) := by rw [Bool.eq_iff_iff, beq_iff_eq, beq_iff_eq]; exact eq_comm
    simp only [doneM, hd, hq, Bool.not_false, Bool.true_and]
    cases (u == path.length) <;> cases (f a == root) <;> rfl
/-- What the document asks of a claim of a piece. -/
def Acc1 (at_ : Int) (X : Rn) (index count size : Int) : Prop := 0 ≤ X.lo ∧ X.lo ≤ at_ ∧ at_ < X.hi ∧ X.hi ≤ size ∧ size ≤ 1099511627776 ∧ 0 ≤ X.tag ∧ X.tag < 16 ∧ 0 ≤ index ∧ index < count ∧ count ≤ 4096 ∧ (X.lo = 0 ↔ index = 0) ∧ (X.hi = size ↔ index = count - 1)
theorem sound1 {at_ : Int} {X : Rn} {index count size : Int} : Sound at_ (at_ + 1) [X] index count size ↔ Acc1 at_ X index count size := by
  unfold Sound Head Ends Acc1
  constructor
  · rintro ⟨h, hC, hE⟩
    obtain ⟨⟨a1, a2, a3, a4, a5, a6⟩, e1, e2⟩ := hE (by simp)
    obtain ⟨b1, b2, b3, _⟩ := hC 0 (by simp) (by simp)
    simp only [List.head_cons, List.getLast_singleton, List.getElem_cons_zero, List.length_cons, List.length_nil] at *
    refine ⟨by omega, by omega, by omega, by omega, by omega, by omega, by omega, by omega, by omega, by omega, e1, by omega⟩
  · rintro ⟨a1, a2, a3, a4, a5, a6, a7, a8, a9, a10, a11, a12⟩
    refine ⟨by simp only [List.length_cons, List.length_nil]; omega, fun i h _ => ?_, fun _ => ?_⟩
    · obtain rfl : i = 0 := by simpa using h
      exact ⟨by simp only [List.getElem_cons_zero]; omega, a6, a7, fun y hy => by simp [prevR] at hy⟩
    · simp only [List.head_cons, List.getLast_singleton, List.length_cons, List.length_nil]
      exact ⟨by omega, a11, by omega⟩
theorem accept1M_no {root : Bs} {at_ : Int} {X : Rn} {index count size : Int} {path : List Bs} (h : ¬ Acc1 at_ X index count size) : accept1M root at_ X index count size path = (0, false) := by
  unfold accept1M acceptM
  rw [soundB_no (fun hs => h (sound1.1 hs))]
  simp
theorem accept1M_yes {root : Bs} {at_ : Int} {X : Rn} {index count : Nat} {size : Int} {path : List Bs} (h : Acc1 at_ X index count size) : accept1M root at_ X index count size path = if ((foldR count index [textM X] path).2.2 && (foldR count index [textM X] path).2.1 == path.length && root == sealM size count (foldR count index [textM X] path).1) = true then (X.tag, true) else (0, false) := by
  rw [fold_acc (sealM size count) root (show 0 < count by obtain ⟨_, _, _, _, _, _, _, _, h, _⟩ := h; omega) (by simp)]
  unfold accept1M acceptM
  rw [soundB_yes (sound1.2 h), if_pos (by obtain ⟨_, _, _, _, _⟩ := h; omega), Int.toNat_natCast, Bool.true_and]
  rfl
theorem not_iff_bne {a b : Prop} [Decidable a] [Decidable b] (h : ¬ (a ↔ b)) : decide b = !decide a := by by_cases a <;> by_cases b <;> simp_all
theorem iff_beq {a b : Prop} [Decidable a] [Decidable b] (h : a ↔ b) : decide b = decide a := by by_cases a <;> by_cases b <;> simp_all
theorem racc_any (root : Bs) (at_ : Int) (X : Rn) (index count size : Int) (path : List Bs) (PA : Option Addr) (pn pc : Nat) (w : World) (hr : root.length = 32) (hs : Hs w PA path) (hpn : path.length = pn) (hpc : pn ≤ pc) (hp5 : pn ≤ 5000) :
    Calls Tryd.prog 22 #[wordsV, hashV root, .int .i64 at_, claim1V X index count size PA pn pc] w fun e w' => e = .returned (.tuple #[.int .i64 (accept1M root at_ X index count size path).1, .bool (accept1M root at_ X index count size path).2]) ∧ Below w.heap.size w w' := by
  by_cases hA : Acc1 at_ X index count size
  · obtain ⟨h0, h1, h2, h3, h4, h5, h6, h7, h8, h9, h10, h11⟩ := id hA
    obtain ⟨i, rfl⟩ := Int.eq_ofNat_of_zero_le h7
    obtain ⟨n, rfl⟩ := Int.eq_ofNat_of_zero_le (show 0 ≤ count by omega)
    rw [accept1M_yes hA, hpn]
    refine (racc_yes root at_ X i n size path PA pn pc w h0 h1 h2 h3 h4 (by omega) (by omega) h7 h8 h9 _ _ rfl (iff_beq h10) rfl (iff_beq h11) hr hs hpn hpc hp5 _ rfl).mono fun e w' h => ⟨?_, h.2⟩
    rw [h.1]
    split <;> rfl
  · rw [accept1M_no hA]
    simp only
    by_cases h0 : ¬ (0 ≤ X.lo)
    · exact racc_no0 root at_ X index count size PA pn pc w  h0
    replace h0 := Decidable.not_not.1 h0
    by_cases h1 : ¬ (X.lo ≤ at_)
    · exact racc_no1 root at_ X index count size PA pn pc w h0 h1
    replace h1 := Decidable.not_not.1 h1
    by_cases h2 : ¬ (at_ < X.hi)
    · exact racc_no2 root at_ X index count size PA pn pc w h0 h1 h2
    replace h2 := Decidable.not_not.1 h2
    by_cases h3 : ¬ (X.hi ≤ size)
    · exact racc_no3 root at_ X index count size PA pn pc w h0 h1 h2 h3
    replace h3 := Decidable.not_not.1 h3
    by_cases h4 : ¬ (size ≤ 1099511627776)
    · exact racc_no4 root at_ X index count size PA pn pc w h0 h1 h2 h3 h4
    replace h4 := Decidable.not_not.1 h4
    by_cases h5 : X.tag < 0
    · exact racc_no5 root at_ X index count size PA pn pc w h0 h1 h2 h3 h4 h5
    by_cases h6 : 16 ≤ X.tag
    · exact racc_no6 root at_ X index count size PA pn pc w h0 h1 h2 h3 h4 h5 h6
    by_cases h7 : ¬ (0 ≤ index)
    · exact racc_no7 root at_ X index count size PA pn pc w h0 h1 h2 h3 h4 h5 h6 h7
    replace h7 := Decidable.not_not.1 h7
    by_cases h8 : ¬ (index < count)
    · exact racc_no8 root at_ X index count size PA pn pc w h0 h1 h2 h3 h4 h5 h6 h7 h8
    replace h8 := Decidable.not_not.1 h8
    by_cases h9 : ¬ (count ≤ 4096)
    · exact racc_no9 root at_ X index count size PA pn pc w h0 h1 h2 h3 h4 h5 h6 h7 h8 h9
    replace h9 := Decidable.not_not.1 h9
    by_cases h10 : ¬ (X.lo = 0 ↔ index = 0)
    · exact racc_no10 root at_ X index count size PA pn pc w h0 h1 h2 h3 h4 h5 h6 h7 h8 h9 _ rfl (not_iff_bne h10)
    replace h10 := Decidable.not_not.1 h10
    by_cases h11 : ¬ (X.hi = size ↔ index = count - 1)
    · exact racc_no11 root at_ X index count size PA pn pc w h0 h1 h2 h3 h4 h5 h6 h7 h8 h9 _ _ rfl (iff_beq h10) rfl (not_iff_bne h11)
    replace h11 := Decidable.not_not.1 h11
    exact absurd ⟨h0, h1, h2, h3, h4, by omega, by omega, h7, h8, h9, h10, h11⟩ hA
end Go.Proofs.YtcocengpekndjaaDoor
