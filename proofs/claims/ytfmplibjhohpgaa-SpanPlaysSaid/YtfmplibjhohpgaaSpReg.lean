/- A region that draws its order, operation by operation: the frame outside the region's own slots is as it was; each operation is looked at once. -/
import Derived.Test.YtfmplibjhohpgaaSpOrder
import Derived.Test.YtfmplibjhohpgaaSpMem
namespace Go.Proofs.Ytfmplibjhohpgaa
open Go

theorem put_same (a : Act) (t : Tmp) (v : Value) (h : t < a.tmps.size) : (a.put (some t) v).eval (.tmp t) = v := by
  simp [Act.put, Act.eval, h]
theorem put_other (a : Act) {s t : Tmp} (v : Value) (h : s ≠ t) : (a.put (some t) v).eval (.tmp s) = a.eval (.tmp s) := by
  have h' : ¬ t = s := fun e => h e.symm
  simp only [Act.put, Act.eval, Array.getD_eq_getD_getElem?, Array.getElem?_setIfInBounds, h', if_false]
/-- The frame a is a0 outside the slots T. -/
structure Fr (T : List Tmp) (a0 a : Act) : Prop where
  defers : a.defers = a0.defers
  size : a.tmps.size = a0.tmps.size
  same : ∀ t, t ∉ T → a.eval (.tmp t) = a0.eval (.tmp t)
theorem Fr.refl (T : List Tmp) (a : Act) : Fr T a a := ⟨rfl, rfl, fun _ _ => rfl⟩
theorem Fr.put {T : List Tmp} {a0 a : Act} (h : Fr T a0 a) {t : Tmp} (ht : t ∈ T) (v : Value) : Fr T a0 (a.put (some t) v) :=
  ⟨h.defers, by simp [Act.put, h.size], fun s hs => (put_other a v (fun e => hs (by rw [e]; exact ht))).trans (h.same s hs)⟩
theorem foldl_put (f : Tmp → Value) : ∀ (T : List Tmp) (b : Act), (T.foldl (fun b t => b.put (some t) (f t)) b).defers = b.defers ∧ (T.foldl (fun b t => b.put (some t) (f t)) b).tmps.size = b.tmps.size ∧
    (∀ s, s ∉ T → (T.foldl (fun b t => b.put (some t) (f t)) b).eval (.tmp s) = b.eval (.tmp s)) ∧ ∀ s, s ∈ T → s < b.tmps.size → (T.foldl (fun b t => b.put (some t) (f t)) b).eval (.tmp s) = f s := by
  intro T
  induction T with
  | nil => intro b; exact ⟨rfl, rfl, fun _ _ => rfl, fun s hs => by cases hs⟩
  | cons t T ih =>
    intro b
    obtain ⟨h1, h2, h3, h4⟩ := ih (b.put (some t) (f t))
    have hz : (b.put (some t) (f t)).tmps.size = b.tmps.size := by simp [Act.put]
    refine ⟨h1, h2.trans hz, fun s hs => ?_, fun s hs hlt => ?_⟩
    · simp only [List.mem_cons, not_or] at hs
      exact (h3 s hs.2).trans (put_other b _ hs.1)
    · by_cases hT : s ∈ T
      · exact h4 s hT (by rw [hz]; exact hlt)
      · rcases List.mem_cons.1 hs with rfl | hs
        · exact (h3 s hT).trans (put_same b s _ hlt)
        · exact absurd hs hT
/-- A frame, written out. -/
theorem Fr.shape {T : List Tmp} {a0 a : Act} (h : Fr T a0 a) (hT : ∀ t ∈ T, t < a0.tmps.size) : a = T.foldl (fun b t => b.put (some t) (a.eval (.tmp t))) a0 := by
  obtain ⟨h1, h2, h3, h4⟩ := foldl_put (fun t => a.eval (.tmp t)) T a0
  generalize T.foldl (fun b t => b.put (some t) (a.eval (.tmp t))) a0 = b at *
  have key : ∀ s, a.eval (.tmp s) = b.eval (.tmp s) := fun s => by
    by_cases hs : s ∈ T
    · exact (h4 s hs (hT s hs)).symm
    · exact (h.same s hs).trans (h3 s hs).symm
  cases a with
  | mk ta da =>
    cases b with
    | mk tb db =>
      have e1 : da = db := h.defers.trans h1.symm
      have e2 : ta.size = tb.size := h.size.trans h2.symm
      have e3 : ta = tb := by
        refine Array.ext e2 fun i hi hj => ?_
        have := key i
        simp only [Act.eval, Array.getD, hi, hj, dite_true] at this
        exact this
      rw [e1, e3]
section
variable {P : Program} {Q : Exit → Act → World → Prop}
def StepOk (P : Program) (Q : Exit → Act → World → Prop) (ops : Array Oper) (I : (Nat → Prop) → Act → World → Prop) (k : Nat) (o : Oper) : Prop :=
  o.guard = none ∧ ∀ (d d' : Nat → Prop) (a : Act) (w : World), I d a w → ¬ d k → Closed ops d → (∀ j, waits o j = true → d j) → (∀ j, j ≠ k → d' j → d j) → (∀ j, d j → d' j) → d' k → o.wp P a w (fun a' w' => I d' a' w') Q
def AllSteps (P : Program) (Q : Exit → Act → World → Prop) (ops : Array Oper) (I : (Nat → Prop) → Act → World → Prop) : Nat → List Oper → Prop
  | _, [] => True
  | k, o :: l => StepOk P Q ops I k o ∧ AllSteps P Q ops I (k + 1) l
theorem AllSteps.get {ops : Array Oper} {I : (Nat → Prop) → Act → World → Prop} : ∀ {l : List Oper} {k : Nat}, AllSteps P Q ops I k l → ∀ {i : Nat} {o : Oper}, l[i]? = some o → StepOk P Q ops I (k + i) o := by
  intro l
  induction l with
  | nil => intro k _ i o h; simp at h
  | cons x l ih =>
    intro k h i o ho
    cases i with
    | zero => simp at ho; subst ho; exact h.1
    | succ i =>
      have := ih h.2 (i := i) (o := o) (by simpa using ho)
      rwa [show k + 1 + i = k + (i + 1) from by omega] at this
theorem wp_region_steps {id : Nat} {ops : List Oper} {a : Act} {w : World} (I : (Nat → Prop) → Act → World → Prop) (hm : P.follows .mixedOrders = true) (hd : onward ops.toArray = true)
    (h0 : I (fun _ => False) a w.drew) (hs : AllSteps P Q ops.toArray I 0 ops) (fin : ∀ (d : Nat → Prop) (a : Act) (w : World), I d a w → (∀ i, i < ops.length → d i) → Q .normal a w) :
    (Code.region id ops.toArray true).wp P Q a w := by
  refine wp_region_inv hm hd h0 (fun d d' a w i o ho hI hn hcl ha hk hu hself => ?_) (fun d a w hI h => fin d a w hI (by simpa using h))
  obtain ⟨hg, st⟩ := hs.get (i := i) (o := o) (by simpa using ho)
  rw [Nat.zero_add] at st
  unfold wpOp
  rw [ho]
  have hwt : Region.wanted o (yielded ops.toArray a.tmps) = true := by unfold Region.wanted; rw [hg]
  simp only [hwt, if_true]
  exact .inl (st d d' a w hI hn hcl ha hk hu hself)
/-- The frame is given a name. -/
theorem wp_name {c : Code} {a : Act} {w : World} (h : ∀ b, b = a → c.wp P Q b w) : c.wp P Q a w := h a rfl
variable {o : Oper} {a : Act} {w w' : World} {K : Act → World → Prop}
theorem wp_yields {v : Value} (h : (execOp a.eval o).run P w = .ok (.value v) w') (hk : K (a.put o.dst v) w') : o.wp P a w K Q := by
  unfold Oper.wp; rw [h]; exact hk
theorem wp_skips (h : (execOp a.eval o).run P w = .ok .skip w') (hk : K (a.put o.dst undef) w') : o.wp P a w K Q := by
  unfold Oper.wp; rw [h]; exact hk
theorem wp_enters {f : FuncId} {args : Array Value} {R : Ending → World → Prop} (h : (execOp a.eval o).run P w = .ok (.enter f args) w) (hc : Calls P f args w R)
    (hk : ∀ e w', R e w' → ∃ v, e = .returned v ∧ K (a.put o.dst v) w') : o.wp P a w K Q := by
  unfold Oper.wp; rw [h]
  refine Calls.mono hc fun e w' he => ?_
  obtain ⟨v, rfl, hv⟩ := hk e w' he
  exact hv
end
end Go.Proofs.Ytfmplibjhohpgaa
