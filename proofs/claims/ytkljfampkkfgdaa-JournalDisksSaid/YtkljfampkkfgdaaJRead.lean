/- The journal layer: the walk over Read. -/
import Derived.Test.YtkljfampkkfgdaaJDisk2
namespace Go.Proofs.Ytkljfampkkfgdaa
open Go.RowKit
section
variable {W W' : World} {d b c : Nat} {vs : List Value} {D : Dk} {F : Nat → Prop}
theorem strV (s : Bs) : (Value.string ⟨s.toArray⟩) = Value.string ⟨s.toArray⟩ := rfl
set_option maxRecDepth 100000 in
set_option maxHeartbeats 1000000 in
theorem dread_any (h : DiskAt W d D F) (n : Int) : Calls Try.prog 38 #[.pointer (some ⟨d, 0, none⟩), .int .i64 n] W fun e w' => e = .returned (.tuple #[.string ⟨(readM D n).1.toArray⟩, .int .i64 (readM D n).2]) ∧ Below W.heap.size W w' := by
  have hu := dready_any h
  obtain ⟨b, c, vs, h, rfl⟩ := h
  have c0 := h.c0
  unfold readyM at hu
  unfold readM
  cases ho : D.off
  · rw [ho] at hu
    rw [if_neg (by simp)]
    by_cases hr : n < 0 ∨ (D.sec.length : Int) ≤ n
    · rw [if_pos hr]
      clear h
      by_cases h0 : n < 0
      · go_enter Try.func38, Try.ntmps38
        go_wp2_with (go_at_call 65; refine hu.mono ?_; rintro e w1 ⟨rfl, hw1⟩; obtain rfl := hw1.symm)
        go_ret2
        exact ⟨rfl, Below.refl _ _⟩
      · have h1 : n ≥ (D.sec.length : Int) := by omega
        go_enter Try.func38, Try.ntmps38
        go_wp2_with (go_at_call 65; refine hu.mono ?_; rintro e w1 ⟨rfl, hw1⟩; obtain rfl := hw1.symm)
        go_ret2
        exact ⟨rfl, Below.refl _ _⟩
    · rw [if_neg hr]
      obtain ⟨i, rfl⟩ : ∃ i : Nat, n = i := ⟨n.toNat, by omega⟩
      have hi : i < D.sec.length := by omega
      have h0 : ¬ ((i : Int) < 0) := by omega
      have h1 : ¬ ((i : Int) ≥ (D.sec.length : Int)) := by omega
      have h2 : (i : Int) < (D.sec.length : Int) := by omega
      have h3 : 0 ≤ (i : Int) := by omega
      obtain ⟨s, v, e1, e2, r1, r2, r3, r4⟩ := h.sec_ hi
      have e3 : D.sec.getD (i : Int).toNat ⟨[], []⟩ = s := by rw [List.getD_eq_getElem?_getD, Int.toNat_natCast, e1]; rfl
      rw [e3]
      have hl := latest_length r4 r3.1
      have hlat := latest_any s v b i r1 r2 r3 r4
      have HL := Lib.hid hl
      have HLAT := Lib.hid hlat
      clear r1 r2 r3 r4 hl hlat e1 e2 e3 h hr
      go_enter Try.func38, Try.ntmps38
      go_wp2_with (first
        | (go_at_call 65; refine hu.mono ?_; rintro e w1 ⟨rfl, hw1⟩; obtain rfl := hw1.symm)
        | (go_at_call 71; refine HLAT.out.mono ?_; rintro e w2 ⟨rfl, b2⟩)
        | (refine wpList_storeH rfl (.tmp 7) (.tmp 30) rfl w2.heap.size s.latest rfl rfl (BoxA.new w2 _ _ (List.replicate 64 0) _ rfl) (by simp) HL.out ?_
           generalize hW3 : World.setRow (World.alloc w2 _) _ _ = w3
           have b3 : Below W.heap.size W w3 := hW3 ▸ below_setRow (Below.on b2 (Below.new1 _ _)) b2.size _
           have x7 : BoxH w3 w2.heap.size s.latest := hW3 ▸ BoxA.setRow (BoxA.new w2 _ _ (List.replicate 64 0) _ rfl)
           have cv := x7.text HL.out 64
           clear hW3 x7))
      go_ret2
      exact ⟨rfl, b3⟩
  · rw [ho] at hu
    rw [if_pos rfl]
    clear h
    go_enter Try.func38, Try.ntmps38
    go_wp2_with (go_at_call 65; refine hu.mono ?_; rintro e w1 ⟨rfl, hw1⟩; obtain rfl := hw1.symm)
    go_ret2
    exact ⟨rfl, Below.refl _ _⟩
end
end Go.Proofs.Ytkljfampkkfgdaa
