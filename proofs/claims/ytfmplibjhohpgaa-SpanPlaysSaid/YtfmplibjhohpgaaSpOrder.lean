/- A region that draws its order, walked by an invariant: what holds before an operation that may come up holds behind it; what holds when all have come up is what follows. Each operation is looked at once, whatever the order. -/
import Derived.Test.YtfmplibjhohpgaaSpPure
import Derived.Deep.RegionHeld3
namespace Go.Proofs.Ytfmplibjhohpgaa
open Go

theorem count_set_false (i : Nat) : ∀ (l : List Bool), l[i]? = some false → (l.set i true).count false + 1 = l.count false := by
  induction i with
  | zero => intro l h; cases l with
    | nil => simp at h
    | cons b l => simp at h; subst h; simp
  | succ i ih => intro l h; cases l with
    | nil => simp at h
    | cons b l =>
      simp at h
      have := ih l h
      simp only [List.set_cons_succ, List.count_cons]
      omega
section
variable {P : Program} {ops : Array Oper} {Q : Exit → Act → World → Prop}
/-- What has come up. -/
def dn (l : Array Bool) (k : Nat) : Prop := l.getD k false = true
theorem dn_set {l : Array Bool} {i k : Nat} (h : dn (l.setIfInBounds i true) k) (hk : k ≠ i) : dn l k := by
  unfold dn at h ⊢
  rwa [getD_set_ne false (fun e => hk e.symm)] at h
/-- Every operation waits only for earlier ones. -/
def onward (ops : Array Oper) : Bool := (List.range ops.size).all fun i => ((ops[i]?).map fun o => o.after.toList.all fun e => !Region.binds .any e || decide (e.on < i)).getD true
theorem onward_spec (h : onward ops = true) {i : Nat} {o : Oper} (ho : ops[i]? = some o) : ∀ e ∈ o.after, Region.binds .any e = true → e.on < i := by
  unfold onward at h
  rw [List.all_eq_true] at h
  have hlt : i < ops.size := (Array.getElem?_eq_some_iff.1 ho).1
  have := h i (List.mem_range.2 hlt)
  rw [ho] at this
  simp only [Option.map_some, Option.getD_some, List.all_eq_true] at this
  intro e he hb
  have := this e (Array.mem_toList_iff.2 he)
  rw [hb] at this
  simpa using this
theorem all_done (h : onward ops = true) {l : Array Bool} (hs : l.size = ops.size) (hr : Region.ready .any ops l = []) : ∀ i, i < ops.size → dn l i := by
  intro i
  induction i using Nat.strongRecOn with
  | _ i ih =>
    intro hi
    by_cases c : dn l i
    · exact c
    exfalso
    have ho : ops[i]? = some ops[i] := Array.getElem?_eq_getElem hi
    have : i ∈ Region.ready .any ops l := by
      refine mem_ready.2 ⟨?_, ops[i], ho, fun e he hb => ?_⟩
      · unfold dn at c
        have hi' : i < l.size := by omega
        simp only [Array.getD, hi', dite_true] at c ⊢
        simpa using c
      · have := onward_spec h ho e he hb
        exact ih e.on this (by omega)
    rw [hr] at this
    cases this
theorem dn_mono {l : Array Bool} {i k : Nat} (h : dn l k) : dn (l.setIfInBounds i true) k := by
  unfold dn at h ⊢
  by_cases e : i = k
  · subst e
    have hk : i < l.size := by
      rcases Nat.lt_or_ge i l.size with g | g
      · exact g
      · simp [Array.getD, Nat.not_lt.2 g] at h
    simp [Array.getD, hk]
  · rwa [getD_set_ne false e]
/-- The operation waits for the one with this number. -/
def waits (o : Oper) (k : Nat) : Bool := o.after.toList.any fun e => e.on == k && Region.binds .any e
/-- What has come up stands behind all that it waits for. -/
def Closed (ops : Array Oper) (d : Nat → Prop) : Prop := ∀ i o j, ops[i]? = some o → waits o j = true → d i → d j
theorem waits_of {o : Oper} {d : Nat → Prop} (h : ∀ e ∈ o.after, Region.binds .any e = true → d e.on) {j : Nat} (hj : waits o j = true) : d j := by
  unfold waits at hj
  rw [List.any_eq_true] at hj
  obtain ⟨e, he, h2⟩ := hj
  rw [Bool.and_eq_true] at h2
  have := h e (Array.mem_toList_iff.1 he) h2.2
  rwa [eq_of_beq h2.1] at this
theorem wpAny_inv {I : (Nat → Prop) → Act → World → Prop} (hd : onward ops = true)
    (step : ∀ (d d' : Nat → Prop) (a : Act) (w : World) (i : Nat) (o : Oper), ops[i]? = some o → I d a w → ¬ d i → Closed ops d → (∀ j, waits o j = true → d j) → (∀ k, k ≠ i → d' k → d k) → (∀ k, d k → d' k) → d' i →
      wpOp P ops Q i (fun a' w' => I d' a' w') a w)
    (fin : ∀ (d : Nat → Prop) (a : Act) (w : World), I d a w → (∀ i, i < ops.size → d i) → Q .normal a w) :
    ∀ (fuel : Nat) (l : Array Bool) (a : Act) (w : World), l.size = ops.size → l.toList.count false ≤ fuel → Closed ops (dn l) → I (dn l) a w → wpAny P .any ops Q fuel l a w := by
  intro fuel
  induction fuel with
  | zero =>
    intro l a w hs hc hcl hI
    have hr : Region.ready .any ops l = [] := by
      cases h : Region.ready .any ops l with
      | nil => rfl
      | cons i r =>
        exfalso
        have hm : i ∈ Region.ready .any ops l := by rw [h]; simp
        obtain ⟨h0, o, ho, -⟩ := mem_ready.1 hm
        have hi : i < l.size := by rw [hs]; exact (Array.getElem?_eq_some_iff.1 ho).1
        simp only [Array.getD, hi, dite_true] at h0
        have : false ∈ l.toList := by rw [← h0]; exact Array.getElem_mem_toList hi
        have := List.count_pos_iff.2 this
        omega
    exact ⟨hr, fin _ a w hI (all_done hd hs hr)⟩
  | succ fuel ih =>
    intro l a w hs hc hcl hI
    refine ⟨fun hr => fin _ a w hI (all_done hd hs hr), fun i hi => ?_⟩
    obtain ⟨h0, o, ho, hall⟩ := mem_ready.1 hi
    have hlt : i < l.size := by rw [hs]; exact (Array.getElem?_eq_some_iff.1 ho).1
    have h1 : l.toList[i]? = some false := by
      simp only [Array.getD, hlt, dite_true] at h0
      rw [Array.getElem?_toList, Array.getElem?_eq_getElem hlt]
      exact congrArg some h0
    have hn : ¬ dn l i := by
      unfold dn
      simp only [Array.getD, hlt, dite_true] at h0 ⊢
      rw [h0]; simp
    have hw : ∀ j, waits o j = true → dn l j := fun j hj => waits_of (fun e he hb => hall e he hb) hj
    have hcl' : Closed ops (dn (l.setIfInBounds i true)) := fun i' o' j ho' hj hd' => by
      by_cases e : i' = i
      · subst e
        rw [ho] at ho'
        obtain rfl := Option.some.inj ho'
        exact dn_mono (hw j hj)
      · exact dn_mono (hcl i' o' j ho' hj (dn_set hd' e))
    refine wpOp_mono (fun a' w' h => ih _ a' w' (by simpa using hs) ?_ hcl' h) (step _ _ a w i o ho hI hn hcl hw (fun k hk h => dn_set h hk) (fun k h => dn_mono h) (by unfold dn; simp [Array.getD, hlt]))
    have := count_set_false i l.toList h1
    rw [Array.toList_setIfInBounds]
    omega
/-- A region that draws its order, by an invariant. -/
theorem wp_region_inv {id : Nat} {a : Act} {w : World} {I : (Nat → Prop) → Act → World → Prop} (hm : P.follows .mixedOrders = true) (hd : onward ops = true)
    (h0 : I (fun _ => False) a w.drew)
    (step : ∀ (d d' : Nat → Prop) (a : Act) (w : World) (i : Nat) (o : Oper), ops[i]? = some o → I d a w → ¬ d i → Closed ops d → (∀ j, waits o j = true → d j) → (∀ k, k ≠ i → d' k → d k) → (∀ k, d k → d' k) → d' i →
      wpOp P ops Q i (fun a' w' => I d' a' w') a w)
    (fin : ∀ (d : Nat → Prop) (a : Act) (w : World), I d a w → (∀ i, i < ops.size → d i) → Q .normal a w) :
    (Code.region id ops true).wp P Q a w := by
  have e : dn (Array.replicate ops.size false) = fun _ => False := by
    funext k
    unfold dn
    simp only [Array.getD, Array.size_replicate, Array.getElem_replicate]
    split <;> simp
  refine wp_region_any hm (wpAny_inv hd step fin _ _ _ _ (by simp) ?_ ?_ ?_)
  · simp
  · rw [e]; exact fun _ _ _ _ _ h => h.elim
  · rw [e]; exact h0
end
end Go.Proofs.Ytfmplibjhohpgaa
