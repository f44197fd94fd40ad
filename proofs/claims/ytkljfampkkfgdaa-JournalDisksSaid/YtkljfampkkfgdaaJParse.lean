/- The journal layer: what Open reads, plainly. -/
import Derived.Test.YtkljfampkkfgdaaJBeginL
namespace Go.Proofs.Ytkljfampkkfgdaa
/-- The records, from one place on. -/
def recsK (g : Nat → Bs) (base cap : Nat) (e : Int) : Nat → Nat → Nat → List Bs
  | 0, _, _ => []
  | f + 1, a, q => match loadC g base cap e a q with
    | none => []
    | some s => s :: recsK g base cap e f (a + unitsM s.length) (q + 1)
/-- The journal on a disk with contents g. -/
def parseC (g : Nat → Bs) (N : Nat) : Option (Bs × List Bs) :=
  if (curC g).1 = 0 then none
  else match loadC g (baseM N (curC g).2) (capM N) (curC g).1 0 0 with
    | none => none
    | some st => some (st, recsK g (baseM N (curC g).2) (capM N) (curC g).1 (capM N + 1) (unitsM st.length) 1)
theorem loadK_fits (g : Nat → Bs) (base cap : Nat) (e : Int) (a q : Nat) (f : Nat) : ∀ (i : Nat) (t : Bs) (len : Int) (s : Bs), (i = 0 ∨ a + i ≤ cap) → t.length ≤ 40 * i → (i = 0 ∨ (t.length : Int) ≤ len) → (i = 0 ∨ len ≤ 65536) → loadK g base cap e a q f i t len = some s → a + unitsM s.length ≤ cap ∧ s.length ≤ 65536 := by
  induction f with
  | zero => intro i t len s _ _ _ _ h; cases h
  | succ f ih =>
    intro i t len s h1 h2 h3 h4 h
    rw [loadK] at h
    split at h
    · split at h
      · cases h
      · split at h
        · split at h
          · split at h
            · cases h
            · split at h
              · cases h
              · split at h
                · cases h
                · rename_i hc hcap _ _ h0 h6 h7
                  generalize hn : numM (((g (base + a + i)).drop 16).take 8) = n at *
                  have hl : (t ++ ((g (base + a + i)).drop 24).take (min 40 (n - 40 * (i : Int)).toNat)).length ≤ t.length + min 40 (n - 40 * (i : Int)).toNat := by simp; omega
                  refine ih (i + 1) _ n s (.inr (by omega)) (by omega) (.inr ?_) (.inr (by omega)) h
                  by_cases hi : i = 0
                  · subst hi; have : t.length = 0 := by omega
                    omega
                  · have : n = len := by
                      rcases Classical.em (n = len) with h | h
                      · exact h
                      · exact absurd ⟨by omega, h⟩ h7
                    omega
          · cases h
        · cases h
    · rename_i hc
      cases h
      have hi : i ≠ 0 := fun h => hc (.inl h)
      refine ⟨?_, by omega⟩
      have : unitsM t.length ≤ i := by unfold unitsM; omega
      omega
theorem load_fits {g : Nat → Bs} {base cap : Nat} {e : Int} {a q : Nat} {s : Bs} (h : loadC g base cap e a q = some s) : a + unitsM s.length ≤ cap ∧ s.length ≤ 65536 :=
  loadK_fits g base cap e a q _ 0 [] 0 s (.inl rfl) (by simp) (.inl rfl) (.inl rfl) h
theorem recs_fits (g : Nat → Bs) (base cap : Nat) (e : Int) (f : Nat) : ∀ (a q : Nat), a ≤ cap → a + usedM (recsK g base cap e f a q) ≤ cap ∧ ∀ s ∈ recsK g base cap e f a q, s.length ≤ 65536 := by
  induction f with
  | zero => intro a q h; exact ⟨h, nofun⟩
  | succ f ih =>
    intro a q h
    rw [recsK]
    split
    · exact ⟨h, nofun⟩
    · rename_i s hs
      have h1 := load_fits hs
      have h2 := ih (a + unitsM s.length) (q + 1) h1.1
      refine ⟨by simp only [usedM]; omega, fun x hx => ?_⟩
      rcases List.mem_cons.1 hx with rfl | hx
      · exact h1.2
      · exact h2.2 x hx
theorem parse_fits {g : Nat → Bs} {N : Nat} {st : Bs} {rs : List Bs} (h : parseC g N = some (st, rs)) : usedM (st :: rs) ≤ capM N ∧ ∀ s ∈ st :: rs, s.length ≤ 65536 := by
  unfold parseC at h
  split at h
  · cases h
  · split at h
    · cases h
    · rename_i s hs
      simp only [Option.some.injEq, Prod.mk.injEq] at h
      obtain ⟨rfl, rfl⟩ := h
      have h1 := load_fits hs
      have h2 := recs_fits g (baseM N (curC g).2) (capM N) (curC g).1 (capM N + 1) (unitsM s.length) 1 (by omega)
      refine ⟨by simp only [usedM]; omega, fun x hx => ?_⟩
      rcases List.mem_cons.1 hx with rfl | hx
      · exact h1.2
      · exact h2.2 x hx
/-- What Format and Open do. -/
def formatM (D : Dk) : Int × Dk := if D.off then (70, bumpM D) else beginM (bumpM D) [[]]
def openM (D : Dk) : Int × Dk × Option Jn :=
  if D.off then (70, bumpM D, none)
  else match parseC (getM D) D.sec.length with
    | none => (71, bumpM D, none)
    | some (st, rs) => if (beginM (bumpM D) (st :: rs)).1 = 0 then (0, (beginM (bumpM D) (st :: rs)).2, some (begunJ (bumpM D) (newJ (bumpM D).own) st rs)) else ((beginM (bumpM D) (st :: rs)).1, (beginM (bumpM D) (st :: rs)).2, none)
end Go.Proofs.Ytkljfampkkfgdaa
