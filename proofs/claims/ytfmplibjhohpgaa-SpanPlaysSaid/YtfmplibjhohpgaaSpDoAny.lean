/- do, whatever the update: both maps have the same runs. -/
import Derived.Test.YtfmplibjhohpgaaSpDoB
import Derived.Test.YtfmplibjhohpgaaSpDoC
namespace Go.Proofs.Ytfmplibjhohpgaa
open Go.RowKit Go.Shelf

theorem do_any (w : World) (p : Option Addr) (A : Option Addr) (c : Nat) (x : Ac) (L : List (Int × Int)) (hL : L = [] ∨ Good L) (h : Rep w p L) (hA : RunsT w A (lay 0 L)) (hnc : L.length ≤ c) :
    Calls Try.prog 32 #[.agg #[.pointer p], .agg #[.int .i64 (Tr.total L), .slice A L.length c], .agg #[.bool x.swap, .int .i64 x.lo, .int .i64 x.hi, .int .i64 x.frm, .int .i64 x.to]] w (DoPost w (actL L x)) := by
  obtain ⟨R, hR⟩ : ∃ R, actR L x = R := ⟨_, rfl⟩
  obtain ⟨err, N⟩ := R
  have hc : (err ≠ 0 ∧ N = []) ∨ err = 0 := by
    by_cases hl : L = []
    · left
      subst hl
      unfold actR swapR setR at hR
      split at hR <;> simp at hR <;> exact ⟨by omega, hR.2⟩
    · have := actR_cases (hL.resolve_left hl) x
      rw [hR] at this
      rcases this with ⟨h1, h2⟩ | ⟨h1, _⟩
      · exact .inl ⟨h1, h2⟩
      · exact .inr h1
  unfold actL
  rw [hR]
  rcases hc with ⟨herr, rfl⟩ | rfl
  · rw [if_neg herr]
    cases hs : x.swap with
    | true => have := do_swap_err w p A L.length c x L _ hL h hA rfl hnc rfl hs err hR herr; rwa [hs] at this
    | false => have := do_set_err w p A L.length c x L _ hL h hA rfl hnc rfl hs err hR herr; rwa [hs] at this
  · rw [if_pos rfl]
    cases hs : x.swap with
    | true => have := do_swap_ok w p A L.length c x L _ hL h hA rfl hnc rfl hs N hR; rwa [hs] at this
    | false => have := do_set_ok w p A L.length c x L _ hL h hA rfl hnc rfl hs N hR; rwa [hs] at this
theorem actL_good {L : List (Int × Int)} (h : L = [] ∨ Good L) (x : Ac) : actL L x = [] ∨ Good (actL L x) := by
  unfold actL
  split
  · exact actR_good h x
  · exact h
end Go.Proofs.Ytfmplibjhohpgaa
