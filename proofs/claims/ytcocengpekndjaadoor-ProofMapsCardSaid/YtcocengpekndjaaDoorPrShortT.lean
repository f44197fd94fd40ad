/- What is hashed is not too long. -/
import Derived.Test.YtcocengpekndjaaDoorPrStrs
namespace Go.Proofs.YtcocengpekndjaaDoor
open Go.RowKit
theorem h32_known (l : List Bs) : ∀ x ∈ l.map (leafM sha), x.length = 32 := fun x hx => by obtain ⟨s, _, rfl⟩ := List.mem_map.1 hx; exact sha_length _
/-- What is hashed is not too long. -/
theorem treeT_short (m : Nat) : ∀ (l : List Bs), l.length ≤ m → (∀ s ∈ l, s.length ≤ 90000) → ∀ x ∈ treeT sha l, x.length ≤ 99999 := by
  induction m with
  | zero =>
    intro l h _ x hx
    obtain rfl : l = [] := List.length_eq_zero_iff.1 (by omega)
    rw [treeT_nil] at hx
    obtain rfl := List.mem_singleton.1 hx
    simp
  | succ m ih =>
    intro l h hl x hx
    by_cases h2 : 2 ≤ l.length
    · have hr := half_range h2
      rw [treeT_two sha h2] at hx
      rcases List.mem_append.1 hx with hx | hx
      · rcases List.mem_append.1 hx with hx | hx
        · exact ih _ (by rw [List.length_take]; omega) (fun s hs => hl s (List.mem_of_mem_take hs)) x hx
        · exact ih _ (by rw [List.length_drop]; omega) (fun s hs => hl s (List.mem_of_mem_drop hs)) x hx
      · obtain rfl := List.mem_singleton.1 hx
        simp only [List.length_cons, List.length_append, treeM_length sha sha_length]
        omega
    · match l, h2 with
      | [], _ =>
        rw [treeT_nil] at hx
        obtain rfl := List.mem_singleton.1 hx
        simp
      | [s], _ =>
        rw [treeT_one] at hx
        obtain rfl := List.mem_singleton.1 hx
        have := hl s (by simp)
        simp only [List.length_cons]; omega
      | x :: y :: l, h2 => simp at h2
theorem foldT_short (m : Nat) : ∀ (n : Nat) (i : Int) (inside path : List Bs), n ≤ m → (∀ s ∈ inside, s.length ≤ 90000) → H32 path → ∀ x ∈ foldT sha n i inside path, x.length ≤ 99999 := by
  induction m with
  | zero => intro n i inside path h _ _ x hx; rw [foldT_out sha (by omega)] at hx; simp at hx
  | succ m ih =>
    intro n i inside path h hin hp x hx
    by_cases c : i + inside.length ≤ 0 ∨ (n : Int) ≤ i ∨ inside = [] ∨ n = 0
    · rw [foldT_out sha c] at hx; simp at hx
    · by_cases e1 : n = 1
      · subst e1
        rw [foldT_one sha c] at hx
        obtain rfl := List.mem_singleton.1 hx
        have jl : (-i).toNat < inside.length := by omega
        rw [List.getElem?_eq_getElem jl, Option.getD_some]
        have := hin _ (List.getElem_mem jl)
        simp only [List.length_cons]; omega
      · have hr := half_range (n := n) (by omega)
        rw [foldT_two sha c e1] at hx
        split at hx
        · simp at hx
        · rename_i a u ea
          split at hx
          · simp at hx
          · rename_i b v eb
            have la := foldM_length sha sha_length _ _ _ _ _ (Nat.le_refl _) (h32_known inside) hp _ _ ea
            have lb := foldM_length sha sha_length _ _ _ _ _ (Nat.le_refl _) (h32_known inside) (hp.drop u) _ _ eb
            rcases List.mem_append.1 hx with hx | hx
            · rcases List.mem_append.1 hx with hx | hx
              · exact ih _ _ _ _ (by omega) hin hp x hx
              · exact ih _ _ _ _ (by omega) hin (hp.drop _) x hx
            · obtain rfl := List.mem_singleton.1 hx
              simp only [List.length_cons, List.length_append]
              omega
end Go.Proofs.YtcocengpekndjaaDoor
