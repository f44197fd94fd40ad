/- Swap of the reference, whatever its arguments: what Set and Swap compute. -/
import Derived.Test.YtfmplibjhohpgaaSpRefSwapB
import Derived.Test.YtfmplibjhohpgaaSpRefSwapC
namespace Go.Proofs.Ytfmplibjhohpgaa
open Go.RowKit Go.Shelf

theorem lay_fine {L : List (Int × Int)} (h : Tr.OkL L) : ∀ {k : Int}, 0 ≤ k → k + Tr.total L ≤ 1099511627776 → ∀ x ∈ lay k L, 0 ≤ x.lo ∧ x.lo < x.hi ∧ x.hi ≤ 1099511627776 := by
  induction L with
  | nil => intro k _ _ x hx; simp [lay] at hx
  | cons y L ih =>
    intro k h0 h1 x hx
    have h' := Tr.OkL.cons.1 h
    have := total_nonneg h'.2
    rw [Tr.total_cons] at h1
    simp only [lay, List.mem_cons] at hx
    rcases hx with rfl | hx
    · exact ⟨h0, by dsimp only; omega, by dsimp only; omega⟩
    · exact ih h'.2 (by omega) (by omega) x hx
theorem lay_take (L : List (Int × Int)) : ∀ (j : Int) (k : Nat), (lay j L).take k = lay j (L.take k) := by
  induction L with
  | nil => intro j k; simp [lay]
  | cons x L ih =>
    intro j k
    cases k with
    | zero => rfl
    | succ k => simp only [lay, List.take_succ_cons, ih]
theorem refN_fine (any : Bool) (lo hi from_ : Int) {L : List (Int × Int)} (h : Tr.OkL L) (h1 : Tr.total L ≤ 1099511627776) (k : Nat) : 0 ≤ refN any lo hi from_ ((lay 0 L).take k) ∧ refN any lo hi from_ ((lay 0 L).take k) ≤ 1099511627776 := by
  have e : L = L.take k ++ L.drop k := (List.take_append_drop k L).symm
  have h2 := h
  rw [e] at h2
  obtain ⟨o1, o2⟩ := Tr.OkL.append.1 h2
  have n2 := total_nonneg o2
  have t : Tr.total L = Tr.total (L.take k) + Tr.total (L.drop k) := by rw [← Tr.total_append, List.take_append_drop]
  have b := refN_bounds any lo hi from_ (L.take k) 0 o1
  rw [lay_take]
  omega
theorem rswap_any (w : World) (L : List (Int × Int)) (size : Int) (A : Option Addr) (n c : Nat) (lo hi from_ to : Int) (hL : L = [] ∨ Good L) (hR : Runs w A (lay 0 L)) (hn : L.length = n) (hnc : n ≤ c) (hsz : Tr.total L = size) :
    Calls Try.prog 65 #[.agg #[.int .i64 size, .slice A n c], .int .i64 lo, .int .i64 hi, .int .i64 from_, .int .i64 to, .bool false] w (RSwapPost w (swapR L lo hi from_ to).1 (swapR L lo hi from_ to).2.2 (fun k => k = (swapR L lo hi from_ to).2.1)) := by
  by_cases hl : L = []
  · have e : swapR L lo hi from_ to = (1, 0, []) := by unfold swapR; rw [if_pos hl]
    rw [e]
    subst hl
    obtain rfl : n = 0 := by rw [← hn]; rfl
    exact rswap_none_false w size A c lo hi from_ to _ rfl
  · have g := hL.resolve_left hl
    have hp : 0 < n := by rw [← hn]; exact List.length_pos_iff.2 hl
    have hm := g.2.2.2.2
    unfold swapR
    rw [if_neg hl]
    by_cases h1 : lo < 0 ∨ hi < lo ∨ Tr.total L < hi
    · rw [if_pos h1]
      exact rswap_range_false w size A n c lo hi from_ to (by omega) hp (by omega) _ rfl
    rw [if_neg h1]
    by_cases h2 : (from_ < 0 ∨ 16 ≤ from_) ∨ (to < 0 ∨ 16 ≤ to)
    · rw [if_pos h2]
      by_cases h3 : from_ < 0 ∨ 16 ≤ from_
      · exact rswap_from_false w size A n c lo hi from_ to (by omega) hp (by omega) (by omega) (by omega) h3 _ rfl
      · exact rswap_to_false w size A n c lo hi from_ to (by omega) hp (by omega) (by omega) (by omega) (by omega) (by omega) _ rfl
    rw [if_neg h2]
    obtain ⟨a, rfl⟩ : ∃ a, A = some a := by
      rcases hR with hh | ⟨a, hh, _⟩
      · exfalso
        have := congrArg List.length hh
        rw [lay_length] at this
        simp at this
        exact hl this
      · exact ⟨a, hh⟩
    have r := refL_swap (from_ := from_) g (by omega : 0 ≤ lo) (by omega : lo ≤ hi) (by omega) (by omega : 0 ≤ to) (by omega)
    have t := swapL_total (from_ := from_) g.2.1 (by omega : 0 ≤ lo) (by omega : lo ≤ hi) (by omega) (by omega : 0 ≤ to) (by omega)
    have := rswap_good_false w size a n c lo hi from_ to (by omega) hp (by omega) (by omega) (by omega) (by rw [← hsz]; exact g.2.2.2.1) (by omega) (by omega) (lay 0 L) (by rw [lay_length]; exact hn) hR hnc (lay_fine g.2.1 (Int.le_refl _) (by rw [Int.zero_add]; exact g.2.2.2.1)) (refN_fine false lo hi from_ g.2.1 g.2.2.2.1) (swapL L lo hi from_ to) r (t.trans hsz)
    rw [refN_clip lo hi from_ L 0 g.2.1] at this
    by_cases h4 : 4096 < ((swapL L lo hi from_ to).length : Int)
    · simp only [if_pos h4] at this ⊢; exact this
    · simp only [if_neg h4] at this ⊢; exact this
theorem rset_any (w : World) (L : List (Int × Int)) (size : Int) (A : Option Addr) (n c : Nat) (lo hi from_ to : Int) (hL : L = [] ∨ Good L) (hR : Runs w A (lay 0 L)) (hn : L.length = n) (hnc : n ≤ c) (hsz : Tr.total L = size) :
    Calls Try.prog 65 #[.agg #[.int .i64 size, .slice A n c], .int .i64 lo, .int .i64 hi, .int .i64 from_, .int .i64 to, .bool true] w (RSwapPost w (setR L lo hi to).1 (setR L lo hi to).2 (fun _ => True)) := by
  by_cases hl : L = []
  · have e : setR L lo hi to = (1, []) := by unfold setR; rw [if_pos hl]
    rw [e]
    subst hl
    obtain rfl : n = 0 := by rw [← hn]; rfl
    exact rswap_none_true w size A c lo hi from_ to _ trivial
  · have g := hL.resolve_left hl
    have hp : 0 < n := by rw [← hn]; exact List.length_pos_iff.2 hl
    have hm := g.2.2.2.2
    unfold setR
    rw [if_neg hl]
    by_cases h1 : lo < 0 ∨ hi < lo ∨ Tr.total L < hi
    · rw [if_pos h1]
      exact rswap_range_true w size A n c lo hi from_ to (by omega) hp (by omega) _ trivial
    rw [if_neg h1]
    by_cases h2 : to < 0 ∨ 16 ≤ to
    · rw [if_pos h2]
      exact rswap_to_true w size A n c lo hi from_ to (by omega) hp (by omega) (by omega) (by omega) h2 _ trivial
    rw [if_neg h2]
    obtain ⟨a, rfl⟩ : ∃ a, A = some a := by
      rcases hR with hh | ⟨a, hh, _⟩
      · exfalso
        have := congrArg List.length hh
        rw [lay_length] at this
        simp at this
        exact hl this
      · exact ⟨a, hh⟩
    have r := refL_set (from_ := from_) g (by omega : 0 ≤ lo) (by omega : lo ≤ hi) (by omega) (by omega : 0 ≤ to) (by omega)
    have t := setL_total (tag := to) g.2.1 (by omega : 0 ≤ lo) (by omega : lo ≤ hi) (by omega)
    have := (rswap_good_true w size a n c lo hi from_ to (by omega) hp (by omega) (by omega) (by omega) (by rw [← hsz]; exact g.2.2.2.1) (by omega) (lay 0 L) (by rw [lay_length]; exact hn) hR hnc (lay_fine g.2.1 (Int.le_refl _) (by rw [Int.zero_add]; exact g.2.2.2.1)) (refN_fine true lo hi from_ g.2.1 g.2.2.2.1) (setL L lo hi to) r (t.trans hsz)).mono fun e w' ⟨A', c', k, h1, _, h3⟩ => (⟨A', c', k, h1, trivial, h3⟩ : RSwapPost w _ _ (fun _ => True) e w')
    by_cases h4 : 4096 < ((setL L lo hi to).length : Int)
    · simp only [if_pos h4] at this ⊢; exact this
    · simp only [if_neg h4] at this ⊢; exact this
end Go.Proofs.Ytfmplibjhohpgaa
