/- What Extend returns: the plain law. -/
import Derived.Test.YtcocengpekndjaaDoorPrGrowV
import Derived.Test.YtcocengpekndjaaDoorPrHoldsL
namespace Go.Proofs.YtcocengpekndjaaDoor
open Go.RowKit
theorem vext_true {old root : Bs} {m n : Nat} {path : List Bs} (h1 : 1 ≤ m) (h2 : m ≤ n) (h3 : n ≤ 4096) : vextM old root m n path = true ↔ grownM sha old m n true path = some (old, root, path.length) := by
  unfold vextM
  rw [if_pos (by omega)]
  simp only [Int.toNat_natCast]
  cases e : grownM sha old m n true path with
  | none => simp
  | some x =>
    obtain ⟨a, b, u⟩ := x
    simp only [Bool.and_eq_true, beq_iff_eq, Option.some.injEq, Prod.mk.injEq]
    constructor
    · rintro ⟨⟨p, q⟩, r⟩; exact ⟨q, r, p⟩
    · rintro ⟨p, q, r⟩; exact ⟨⟨r, p⟩, q⟩
section
variable {L : List Bs} {m : Nat} (h1 : 1 ≤ m) (h2 : m ≤ L.length) (h3 : L.length ≤ 4096)
include h1 h2 h3
theorem grows_own : vextM (treeM sha (L.take m)) (treeM sha L) m L.length (extendM sha (L.map (leafM sha)) m true) = true := by
  rw [vext_true h1 h2 h3]
  have := grown_extend sha L.length (L.map (leafM sha)) m true (treeM sha (L.take m)) [] (by rw [List.length_map]; exact Nat.le_refl _) h1 (by rw [List.length_map]; exact h2) (fun _ => by unfold treeM; rw [List.map_take])
  rw [List.length_map, List.append_nil, ← List.map_take] at this
  exact this
theorem grows_other {old : Bs} {path : List Bs} (ho : old.length = 32) (hp : H32 path) (hd : old ≠ treeM sha (L.take m)) (hv : vextM old (treeM sha L) m L.length path = true) :
    ClashL sha (treeT sha L ++ treeT sha (L.take m) ++ grownT sha old m L.length true path) := by
  refine Classical.byContradiction fun hc => hd ?_
  rw [vext_true h1 h2 h3] at hv
  exact grown_inj sha sha_length L.length L m true old path old _ (Nat.le_refl _) h1 h2 ho hp hv (fun hh => hc (hh.mono fun x hx => by
    rcases List.mem_append.1 hx with hx | hx
    · simp [hx]
    · simp [hx]))
end
theorem grownT_short (d : Nat) : ∀ (old : Bs) (m n : Nat) (whole : Bool) (path : List Bs), n ≤ d → 1 ≤ m → m ≤ n → old.length = 32 → H32 path → ∀ x ∈ grownT sha old m n whole path, x.length ≤ 99999 := by
  induction d with
  | zero => intro old m n whole path h h1 h2; omega
  | succ d ih =>
    intro old m n whole path h h1 h2 ho hp x hx
    by_cases e : m = n
    · rw [grownT_all sha e] at hx; simp at hx
    · have n2 : 2 ≤ n := by omega
      have hr := half_range n2
      by_cases c : m ≤ half n
      · rw [grownT_left sha n2 c] at hx
        split at hx
        · simp at hx
        · rename_i a b u eg
          split at hx
          · simp at hx
          · rename_i y ey
            have lb := (grownM_length sha sha_length _ old m (half n) whole path (Nat.le_refl _) h1 c ho hp _ _ _ eg).2
            have ly : y.length = 32 := hp _ (List.mem_of_getElem? ey)
            rcases List.mem_append.1 hx with hx | hx
            · exact ih _ _ _ _ _ (by omega) h1 c ho hp x hx
            · obtain rfl := List.mem_singleton.1 hx
              simp only [List.length_cons, List.length_append]; omega
      · rw [grownT_right sha n2 c e] at hx
        split at hx
        · simp at hx
        · rename_i a b u eg
          split at hx
          · simp at hx
          · rename_i y ey
            have lab := grownM_length sha sha_length _ old (m - half n) (n - half n) false path (Nat.le_refl _) (by omega) (by omega) ho hp _ _ _ eg
            have ly : y.length = 32 := hp _ (List.mem_of_getElem? ey)
            obtain ⟨la, lb⟩ := lab
            rcases List.mem_append.1 hx with hx | hx
            · rcases List.mem_append.1 hx with hx | hx
              · exact ih _ _ _ _ _ (by omega) (by omega) (by omega) ho hp x hx
              · obtain rfl := List.mem_singleton.1 hx
                simp only [List.length_cons, List.length_append]; omega
            · obtain rfl := List.mem_singleton.1 hx
              simp only [List.length_cons, List.length_append]; omega
end Go.Proofs.YtcocengpekndjaaDoor
