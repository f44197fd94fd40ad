/- What Prove returns: the plain law. -/
import Derived.Test.YtcocengpekndjaaDoorPrRVer
import Derived.Test.YtcocengpekndjaaDoorPrRange
namespace Go.Proofs.YtcocengpekndjaaDoor
open Go.RowKit
theorem ver_true {root s : Bs} {i n : Nat} {path : List Bs} (h1 : i < n) (h2 : n ≤ 4096) : verM root s i n path = true ↔ foldM sha n i [leafM sha s] path = some (root, path.length) := by
  have hf := foldR_fold n n i [s] path (Nat.le_refl _)
  simp only [List.map_cons, List.map_nil] at hf
  unfold verM
  rw [if_pos (by omega), Int.toNat_natCast]
  cases e : foldM sha n i [leafM sha s] path with
  | none =>
    rw [e] at hf
    simp only at hf
    simp [hf]
  | some x =>
    obtain ⟨a, u⟩ := x
    rw [e] at hf
    simp only at hf
    rw [hf]
    simp only [Bool.true_and, Bool.and_eq_true, beq_iff_eq, Option.some.injEq, Prod.mk.injEq]
    exact and_comm
section
variable {L : List Bs} {i : Nat} (hi : i < L.length) (hn : L.length ≤ 4096)
include hi
theorem own_path (rest : List Bs) : foldM sha L.length i [leafM sha L[i]] (visitM sha (L.map (leafM sha)) i ((i : Int) + 1) ++ rest) = some (treeM sha L, (visitM sha (L.map (leafM sha)) i ((i : Int) + 1)).length) := by
  have := fold_visit sha L.length (L.map (leafM sha)) i [leafM sha L[i]] rest (by rw [List.length_map]; exact Nat.le_refl _) (by rw [List.length_map]; omega) (by simp) (fun p h0 h1 h2 => by
    have : p = i := by simp only [List.length_cons, List.length_nil] at h2; omega
    subst this
    rw [List.getElem?_map, List.getElem?_eq_getElem hi]
    simp)
  rw [List.length_map] at this
  exact this
include hn
theorem holds_own : verM (treeM sha L) L[i] i L.length (visitM sha (L.map (leafM sha)) i ((i : Int) + 1)) = true := by
  rw [ver_true hi hn]
  have := own_path hi []
  rwa [List.append_nil] at this
theorem holds_more (x : Bs) : verM (treeM sha L) L[i] i L.length (visitM sha (L.map (leafM sha)) i ((i : Int) + 1) ++ [x]) = false := by
  cases e : verM (treeM sha L) L[i] i L.length (visitM sha (L.map (leafM sha)) i ((i : Int) + 1) ++ [x]) with
  | false => rfl
  | true =>
    rw [ver_true hi hn, own_path hi [x]] at e
    simp at e
theorem holds_less (h0 : 0 < (visitM sha (L.map (leafM sha)) i ((i : Int) + 1)).length) : verM (treeM sha L) L[i] i L.length ((visitM sha (L.map (leafM sha)) i ((i : Int) + 1)).take ((visitM sha (L.map (leafM sha)) i ((i : Int) + 1)).length - 1)) = false := by
  cases e : verM (treeM sha L) L[i] i L.length ((visitM sha (L.map (leafM sha)) i ((i : Int) + 1)).take ((visitM sha (L.map (leafM sha)) i ((i : Int) + 1)).length - 1)) with
  | false => rfl
  | true =>
    rw [ver_true hi hn] at e
    have := fold_used sha L.length L.length i _ _ _ _ _ _ _ _ (Nat.le_refl _) rfl e (own_path hi [])
    rw [List.length_take] at this
    omega
theorem holds_other {other : Bs} (ho : other ≠ L[i]) (hv : verM (treeM sha L) other i L.length (visitM sha (L.map (leafM sha)) i ((i : Int) + 1)) = true) (h32 : H32 (visitM sha (L.map (leafM sha)) i ((i : Int) + 1))) :
    ClashL sha (treeT sha L ++ foldT sha L.length i [other] (visitM sha (L.map (leafM sha)) i ((i : Int) + 1))) := by
  refine Classical.byContradiction fun hc => ?_
  rw [ver_true hi hn] at hv
  have := (fold_inj sha sha_length L.length L i [other] _ _ (Nat.le_refl _) (by omega) (by simp) h32 hv hc).1 i hi (by omega) (by simp only [List.length_cons, List.length_nil]; omega)
  rw [List.getElem?_eq_getElem hi] at this
  simp at this
  exact ho this
theorem holds_turned {V' : List Bs} (hd : V' ≠ visitM sha (L.map (leafM sha)) i ((i : Int) + 1)) (h32 : H32 V') (hv : verM (treeM sha L) L[i] i L.length V' = true) : ClashL sha (treeT sha L ++ foldT sha L.length i [L[i]] V') := by
  refine Classical.byContradiction fun hc => ?_
  rw [ver_true hi hn] at hv
  have := (fold_inj sha sha_length L.length L i [L[i]] _ _ (Nat.le_refl _) (by omega) (by simp) h32 hv hc).2
  rw [List.take_of_length_le (Nat.le_refl _)] at this
  exact hd this
end
theorem h32_known (l : List Bs) : ∀ x ∈ l.map (leafM sha), x.length = 32 := fun x hx => by obtain ⟨s, _, rfl⟩ := List.mem_map.1 hx; exact sha_length _
/-- What is hashed is not too long. -/
theorem treeT_short (m : Nat) : ∀ (l : List Bs), l.length ≤ m → (∀ s ∈ l, s.length ≤ 90000) → ∀ x ∈ treeT sha l, x.length ≤ 99999 := by
  induction m with
  | zero =>
    intro l h _ x hx
    obtain rfl : l = [] := List.length_eq_zero_iff.1 (by omega)
    rw [treeT_nil] at hx
    obtain rfl := List.mem_singleton.1 hx
    simp
  | succ m ih =>
    intro l h hl x hx
    by_cases h2 : 2 ≤ l.length
    · have hr := half_range h2
      rw [treeT_two sha h2] at hx
      rcases List.mem_append.1 hx with hx | hx
      · rcases List.mem_append.1 hx with hx | hx
        · exact ih _ (by rw [List.length_take]; omega) (fun s hs => hl s (List.mem_of_mem_take hs)) x hx
        · exact ih _ (by rw [List.length_drop]; omega) (fun s hs => hl s (List.mem_of_mem_drop hs)) x hx
      · obtain rfl := List.mem_singleton.1 hx
        simp only [List.length_cons, List.length_append, treeM_length sha sha_length]
        omega
    · match l, h2 with
      | [], _ =>
        rw [treeT_nil] at hx
        obtain rfl := List.mem_singleton.1 hx
        simp
      | [s], _ =>
        rw [treeT_one] at hx
        obtain rfl := List.mem_singleton.1 hx
        have := hl s (by simp)
        simp only [List.length_cons]; omega
      | x :: y :: l, h2 => simp at h2
theorem foldT_short (m : Nat) : ∀ (n : Nat) (i : Int) (inside path : List Bs), n ≤ m → (∀ s ∈ inside, s.length ≤ 90000) → H32 path → ∀ x ∈ foldT sha n i inside path, x.length ≤ 99999 := by
  induction m with
  | zero => intro n i inside path h _ _ x hx; rw [foldT_out sha (by omega)] at hx; simp at hx
  | succ m ih =>
    intro n i inside path h hin hp x hx
    by_cases c : i + inside.length ≤ 0 ∨ (n : Int) ≤ i ∨ inside = [] ∨ n = 0
    · rw [foldT_out sha c] at hx; simp at hx
    · by_cases e1 : n = 1
      · subst e1
        rw [foldT_one sha c] at hx
        obtain rfl := List.mem_singleton.1 hx
        have jl : (-i).toNat < inside.length := by omega
        rw [List.getElem?_eq_getElem jl, Option.getD_some]
        have := hin _ (List.getElem_mem jl)
        simp only [List.length_cons]; omega
      · have hr := half_range (n := n) (by omega)
        rw [foldT_two sha c e1] at hx
        split at hx
        · simp at hx
        · rename_i a u ea
          split at hx
          · simp at hx
          · rename_i b v eb
            have la := foldM_length sha sha_length _ _ _ _ _ (Nat.le_refl _) (h32_known inside) hp _ _ ea
            have lb := foldM_length sha sha_length _ _ _ _ _ (Nat.le_refl _) (h32_known inside) (hp.drop u) _ _ eb
            rcases List.mem_append.1 hx with hx | hx
            · rcases List.mem_append.1 hx with hx | hx
              · exact ih _ _ _ _ (by omega) hin hp x hx
              · exact ih _ _ _ _ (by omega) hin (hp.drop _) x hx
            · obtain rfl := List.mem_singleton.1 hx
              simp only [List.length_cons, List.length_append]
              omega
end Go.Proofs.YtcocengpekndjaaDoor
