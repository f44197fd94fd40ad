/- The walk over Alike of the reference: whether two lists of runs are the same. -/
import Derived.Test.YtcocengpekndjaaDoorSpBase
import Derived.Deep.DeepCutAuto
import Derived.Deep.CutRange
namespace Go.Proofs.YtcocengpekndjaaDoor
section
open Go.RowKit Go.Shelf
attribute [local go_sem] Oper.semAt_some

/-- What a comparison answers, and that it turns nothing. -/
def SameAns (w : World) (p : Prop) (e : Ending) (w' : World) : Prop := (∃ x : Bool, e = .returned (.bool x) ∧ (x = true ↔ p)) ∧ Below w.heap.size w w'
set_option maxRecDepth 100000 in
set_option maxHeartbeats 1000000 in
theorem ralike_len (A B : Option Addr) (m n c d : Nat) (w : World) (_hm : (m : Int) ≤ 1000000) (_hn : (n : Int) ≤ 1000000) (h : ¬ m = n) :
    Calls Tryd.prog 41 #[.slice A m c, .slice B n d] w fun e w' => e = .returned (.bool false) ∧ w = w' := by
  have t1 : ((m : Int) != (n : Int)) = true := by simp; omega
  go_enter Tryd.func41, Tryd.ntmps41
  go_wp2_with (fail)
  go_ret
  exact ⟨rfl, rfl⟩
set_option maxRecDepth 100000 in
set_option maxHeartbeats 2000000 in
theorem ralike_eq (V V' : List Rn) (A B : Option Addr) (n c d : Nat) (w : World) (hA : Runs w A V) (hB : Runs w B V') (hn : V.length = n) (hn' : V'.length = n) (hc : n ≤ c) (hd : n ≤ d) (hm : (n : Int) ≤ 1000000) :
    Calls Tryd.prog 41 #[.slice A n c, .slice B n d] w fun e w' => (∃ x : Bool, e = .returned (.bool x) ∧ (x = true ↔ V = V')) ∧ Quiet w w' := by
  have hne : ∀ {k : Nat} {X Y : Rn}, (∃ (h : k < V.length) (h' : k < V'.length), V[k] = X ∧ V'[k] = Y ∧ X ≠ Y) → ¬ V = V' := by
    rintro k X Y ⟨h, h', e1, e2, e3⟩ e
    subst e
    exact e3 (e1.symm.trans e2)
  have HNE : Hid (∀ {k : Nat} {X Y : Rn}, (∃ (h : k < V.length) (h' : k < V'.length), V[k] = X ∧ V'[k] = Y ∧ X ≠ Y) → ¬ V = V') := hne
  have HN := Lib.hid hn
  have HN' := Lib.hid hn'
  clear hn hn' hne
  go_enter Tryd.func41, Tryd.ntmps41
  go_wp2_with (fail)
  go_loopw [5] (fun i wr => ∃ k : Nat, k ≤ n ∧ i = .int .i64 k ∧ Hid (∀ j (h : j < V.length) (h' : j < V'.length), j < k → V[j] = V'[j]) ∧ Quiet w wr) (fun i _ => n - (intOf i).toNat)
  case atStart => exact ⟨0, by omega, rfl, fun j _ _ h => by omega, Quiet.refl _⟩
  case round =>
    obtain ⟨k, hk, rfl, hP, q, rfl⟩ := hrel
    by_cases hlt : k < n
    · have hkL : k < V.length := by have := HN.out; omega
      have hkL' : k < V'.length := by have := HN'.out; omega
      obtain ⟨a, rfl⟩ : ∃ a, A = some a := by
        rcases hA with hh | ⟨a, hh, _⟩
        · rw [hh] at hkL; simp at hkL
        · exact ⟨a, hh⟩
      obtain ⟨b, rfl⟩ : ∃ b, B = some b := by
        rcases hB with hh | ⟨b, hh, _⟩
        · rw [hh] at hkL'; simp at hkL'
        · exact ⟨b, hh⟩
      obtain ⟨_, f0, f1, f2⟩ := hA.at_ hkL
      obtain ⟨_, g0, g1, g2⟩ := hB.at_ hkL'
      obtain ⟨X, hX⟩ : ∃ X, V[k] = X := ⟨_, rfl⟩
      obtain ⟨Y, hY⟩ : ∃ Y, V'[k] = Y := ⟨_, rfl⟩
      rw [hX] at f0 f1 f2
      rw [hY] at g0 g1 g2
      have EX := Lib.hid hX
      have EY := Lib.hid hY
      clear hX hY
      have k0 : (0 : Int) ≤ (k : Int) := by omega
      have k1 : (k : Int) < (n : Int) := by omega
      by_cases h0 : X.lo = Y.lo
      · by_cases h1 : X.hi = Y.hi
        · by_cases h2 : X.tag = Y.tag
          · have e : X = Y := Rn.ext_ h0 h1 h2
            subst e
            clear h0 h1 h2
            go_wp2_with (fail)
            go_quiet (fail)
            go_wp2_with (fail)
            go_roundw
            case rel =>
              have hP2 : Hid (∀ j (h : j < V.length) (h' : j < V'.length), j < k + 1 → V[j] = V'[j]) := fun j h h' hj => by
                by_cases e : j = k
                · subst e; rw [EX.out, EY.out]
                · exact hP.out j h h' (by omega)
              exact ⟨k + 1, by omega, by go_num, hP2, _, rfl⟩
            case measure => simp [intOf]; omega
          · have HD : ∃ (h : k < V.length) (h' : k < V'.length), V[k] = X ∧ V'[k] = Y ∧ X ≠ Y := ⟨hkL, hkL', EX.out, EY.out, fun e => h2 (by rw [e])⟩
            have HD := Lib.hid HD
            have t1 : (X.tag == Y.tag) = false := by simpa using h2
            go_wp2_with (fail)
            go_quiet (fail)
            go_wp2_with (fail)
            go_ret
            exact ⟨⟨false, rfl, by simp only [Bool.false_eq_true, false_iff]; exact HNE.out HD⟩, ⟨_, World.drewN_drewN _ _ _⟩⟩
        · have HD : ∃ (h : k < V.length) (h' : k < V'.length), V[k] = X ∧ V'[k] = Y ∧ X ≠ Y := ⟨hkL, hkL', EX.out, EY.out, fun e => h1 (by rw [e])⟩
          have HD := Lib.hid HD
          have t1 : (X.hi == Y.hi) = false := by simpa using h1
          go_wp2_with (fail)
          go_quiet (fail)
          go_wp2_with (fail)
          go_ret
          exact ⟨⟨false, rfl, by simp only [Bool.false_eq_true, false_iff]; exact HNE.out HD⟩, ⟨_, World.drewN_drewN _ _ _⟩⟩
      · have HD : ∃ (h : k < V.length) (h' : k < V'.length), V[k] = X ∧ V'[k] = Y ∧ X ≠ Y := ⟨hkL, hkL', EX.out, EY.out, fun e => h0 (by rw [e])⟩
        have HD := Lib.hid HD
        have t1 : (X.lo == Y.lo) = false := by simpa using h0
        go_wp2_with (fail)
        go_quiet (fail)
        go_wp2_with (fail)
        go_ret
        exact ⟨⟨false, rfl, by simp only [Bool.false_eq_true, false_iff]; exact HNE.out HD⟩, ⟨_, World.drewN_drewN _ _ _⟩⟩
    · obtain rfl : k = n := by omega
      go_wp2_with (fail)
      go_ret
      refine ⟨⟨true, rfl, by simp only [true_iff]; exact List.ext_getElem (by rw [HN.out, HN'.out]) fun j h h' => hP.out j h h' (by have := HN.out; omega)⟩, _, rfl⟩
theorem ralike_any (V V' : List Rn) (A B : Option Addr) (c d : Nat) (w : World) (hA : Runs w A V) (hB : Runs w B V') (hc : V.length ≤ c) (hd : V'.length ≤ d) (hm : (V.length : Int) ≤ 1000000) (hm' : (V'.length : Int) ≤ 1000000) :
    Calls Tryd.prog 41 #[.slice A V.length c, .slice B V'.length d] w (SameAns w (V = V')) := by
  by_cases h : V.length = V'.length
  · have := ralike_eq V V' A B V.length c d w hA hB rfl h.symm hc (by omega) hm
    rw [← h]
    exact this.mono fun e w' ⟨h1, h2⟩ => ⟨h1, h2.below _⟩
  · exact (ralike_len A B _ _ c d w hm hm' h).mono fun e w' ⟨h1, h2⟩ => ⟨⟨false, h1, by simp only [Bool.false_eq_true, false_iff]; exact fun e => h (by rw [e])⟩, h2 ▸ Below.refl _ _⟩
end
end Go.Proofs.YtcocengpekndjaaDoor
