/- A region that draws its order, walked by an invariant: what holds before an operation that may come up holds behind it; what holds when all have come up is what follows. Each operation is looked at once, whatever the order. A region that draws its order, operation by operation: the frame outside the region's own slots is as it was; each operation is looked at once. A region that draws its order, operation by operation, by a list of clauses: what a slot holds once its operation has come up, until another one has used it. -/
import Derived.Test.YtfmplibjhohpgaaSpPure
import Derived.Deep.RegionHeld3
import Derived.Test.YtfmplibjhohpgaaSpMem
namespace Go.Proofs.Ytfmplibjhohpgaa
section
open Go

theorem count_set_false (i : Nat) : ∀ (l : List Bool), l[i]? = some false → (l.set i true).count false + 1 = l.count false := by
  induction i with
  | zero => intro l h; cases l with
    | nil => simp at h
    | cons b l => simp at h; subst h; simp
  | succ i ih => intro l h; cases l with
    | nil => simp at h
    | cons b l =>
      simp at h
      have := ih l h
      simp only [List.set_cons_succ, List.count_cons]
      omega
section
variable {P : Program} {ops : Array Oper} {Q : Exit → Act → World → Prop}
/-- What has come up. -/
def dn (l : Array Bool) (k : Nat) : Prop := l.getD k false = true
theorem dn_set {l : Array Bool} {i k : Nat} (h : dn (l.setIfInBounds i true) k) (hk : k ≠ i) : dn l k := by
  unfold dn at h ⊢
  rwa [getD_set_ne false (fun e => hk e.symm)] at h
/-- Every operation waits only for earlier ones. -/
def onward (ops : Array Oper) : Bool := (List.range ops.size).all fun i => ((ops[i]?).map fun o => o.after.toList.all fun e => !Region.binds .any e || decide (e.on < i)).getD true
theorem onward_spec (h : onward ops = true) {i : Nat} {o : Oper} (ho : ops[i]? = some o) : ∀ e ∈ o.after, Region.binds .any e = true → e.on < i := by
  unfold onward at h
  rw [List.all_eq_true] at h
  have hlt : i < ops.size := (Array.getElem?_eq_some_iff.1 ho).1
  have := h i (List.mem_range.2 hlt)
  rw [ho] at this
  simp only [Option.map_some, Option.getD_some, List.all_eq_true] at this
  intro e he hb
  have := this e (Array.mem_toList_iff.2 he)
  rw [hb] at this
  simpa using this
theorem all_done (h : onward ops = true) {l : Array Bool} (hs : l.size = ops.size) (hr : Region.ready .any ops l = []) : ∀ i, i < ops.size → dn l i := by
  intro i
  induction i using Nat.strongRecOn with
  | _ i ih =>
    intro hi
    by_cases c : dn l i
    · exact c
    exfalso
    have ho : ops[i]? = some ops[i] := Array.getElem?_eq_getElem hi
    have : i ∈ Region.ready .any ops l := by
      refine mem_ready.2 ⟨?_, ops[i], ho, fun e he hb => ?_⟩
      · unfold dn at c
        have hi' : i < l.size := by omega
        simp only [Array.getD, hi', dite_true] at c ⊢
        simpa using c
      · have := onward_spec h ho e he hb
        exact ih e.on this (by omega)
    rw [hr] at this
    cases this
theorem dn_mono {l : Array Bool} {i k : Nat} (h : dn l k) : dn (l.setIfInBounds i true) k := by
  unfold dn at h ⊢
  by_cases e : i = k
  · subst e
    have hk : i < l.size := by
      rcases Nat.lt_or_ge i l.size with g | g
      · exact g
      · simp [Array.getD, Nat.not_lt.2 g] at h
    simp [Array.getD, hk]
  · rwa [getD_set_ne false e]
/-- The operation waits for the one with this number. -/
def waits (o : Oper) (k : Nat) : Bool := o.after.toList.any fun e => e.on == k && Region.binds .any e
/-- What has come up stands behind all that it waits for. -/
def Closed (ops : Array Oper) (d : Nat → Prop) : Prop := ∀ i o j, ops[i]? = some o → waits o j = true → d i → d j
theorem waits_of {o : Oper} {d : Nat → Prop} (h : ∀ e ∈ o.after, Region.binds .any e = true → d e.on) {j : Nat} (hj : waits o j = true) : d j := by
  unfold waits at hj
  rw [List.any_eq_true] at hj
  obtain ⟨e, he, h2⟩ := hj
  rw [Bool.and_eq_true] at h2
  have := h e (Array.mem_toList_iff.1 he) h2.2
  rwa [eq_of_beq h2.1] at this
theorem wpAny_inv {I : (Nat → Prop) → Act → World → Prop} (hd : onward ops = true)
    (step : ∀ (d d' : Nat → Prop) (a : Act) (w : World) (i : Nat) (o : Oper), ops[i]? = some o → I d a w → ¬ d i → Closed ops d → (∀ j, waits o j = true → d j) → (∀ k, k ≠ i → d' k → d k) → (∀ k, d k → d' k) → d' i →
      wpOp P ops Q i (fun a' w' => I d' a' w') a w)
    (fin : ∀ (d : Nat → Prop) (a : Act) (w : World), I d a w → (∀ i, i < ops.size → d i) → Q .normal a w) :
    ∀ (fuel : Nat) (l : Array Bool) (a : Act) (w : World), l.size = ops.size → l.toList.count false ≤ fuel → Closed ops (dn l) → I (dn l) a w → wpAny P .any ops Q fuel l a w := by
  intro fuel
  induction fuel with
  | zero =>
    intro l a w hs hc hcl hI
    have hr : Region.ready .any ops l = [] := by
      cases h : Region.ready .any ops l with
      | nil => rfl
      | cons i r =>
        exfalso
        have hm : i ∈ Region.ready .any ops l := by rw [h]; simp
        obtain ⟨h0, o, ho, -⟩ := mem_ready.1 hm
        have hi : i < l.size := by rw [hs]; exact (Array.getElem?_eq_some_iff.1 ho).1
        simp only [Array.getD, hi, dite_true] at h0
        have : false ∈ l.toList := by rw [← h0]; exact Array.getElem_mem_toList hi
        have := List.count_pos_iff.2 this
        omega
    exact ⟨hr, fin _ a w hI (all_done hd hs hr)⟩
  | succ fuel ih =>
    intro l a w hs hc hcl hI
    refine ⟨fun hr => fin _ a w hI (all_done hd hs hr), fun i hi => ?_⟩
    obtain ⟨h0, o, ho, hall⟩ := mem_ready.1 hi
    have hlt : i < l.size := by rw [hs]; exact (Array.getElem?_eq_some_iff.1 ho).1
    have h1 : l.toList[i]? = some false := by
      simp only [Array.getD, hlt, dite_true] at h0
      rw [Array.getElem?_toList, Array.getElem?_eq_getElem hlt]
      exact congrArg some h0
    have hn : ¬ dn l i := by
      unfold dn
      simp only [Array.getD, hlt, dite_true] at h0 ⊢
      rw [h0]; simp
    have hw : ∀ j, waits o j = true → dn l j := fun j hj => waits_of (fun e he hb => hall e he hb) hj
    have hcl' : Closed ops (dn (l.setIfInBounds i true)) := fun i' o' j ho' hj hd' => by
      by_cases e : i' = i
      · subst e
        rw [ho] at ho'
        obtain rfl := Option.some.inj ho'
        exact dn_mono (hw j hj)
      · exact dn_mono (hcl i' o' j ho' hj (dn_set hd' e))
    refine wpOp_mono (fun a' w' h => ih _ a' w' (by simpa using hs) ?_ hcl' h) (step _ _ a w i o ho hI hn hcl hw (fun k hk h => dn_set h hk) (fun k h => dn_mono h) (by unfold dn; simp [Array.getD, hlt]))
    have := count_set_false i l.toList h1
    rw [Array.toList_setIfInBounds]
    omega
/-- A region that draws its order, by an invariant. -/
theorem wp_region_inv {id : Nat} {a : Act} {w : World} {I : (Nat → Prop) → Act → World → Prop} (hm : P.follows .mixedOrders = true) (hd : onward ops = true)
    (h0 : I (fun _ => False) a w.drew)
    (step : ∀ (d d' : Nat → Prop) (a : Act) (w : World) (i : Nat) (o : Oper), ops[i]? = some o → I d a w → ¬ d i → Closed ops d → (∀ j, waits o j = true → d j) → (∀ k, k ≠ i → d' k → d k) → (∀ k, d k → d' k) → d' i →
      wpOp P ops Q i (fun a' w' => I d' a' w') a w)
    (fin : ∀ (d : Nat → Prop) (a : Act) (w : World), I d a w → (∀ i, i < ops.size → d i) → Q .normal a w) :
    (Code.region id ops true).wp P Q a w := by
  have e : dn (Array.replicate ops.size false) = fun _ => False := by
    funext k
    unfold dn
    simp only [Array.getD, Array.size_replicate]
    split <;> simp
  refine wp_region_any hm (wpAny_inv hd step fin _ _ _ _ (by simp) ?_ ?_ ?_)
  · simp
  · rw [e]; exact fun _ _ _ _ _ h => h.elim
  · rw [e]; exact h0
end
end
section
open Go

theorem put_same (a : Act) (t : Tmp) (v : Value) (h : t < a.tmps.size) : (a.put (some t) v).eval (.tmp t) = v := by
  simp [Act.put, Act.eval, h]
theorem put_other (a : Act) {s t : Tmp} (v : Value) (h : s ≠ t) : (a.put (some t) v).eval (.tmp s) = a.eval (.tmp s) := by
  have h' : ¬ t = s := fun e => h e.symm
  simp only [Act.put, Act.eval, Array.getD_eq_getD_getElem?, Array.getElem?_setIfInBounds, h', if_false]
/-- The frame a is a0 outside the slots T. -/
structure Fr (T : List Tmp) (a0 a : Act) : Prop where
  defers : a.defers = a0.defers
  size : a.tmps.size = a0.tmps.size
  same : ∀ t, t ∉ T → a.eval (.tmp t) = a0.eval (.tmp t)
theorem Fr.refl (T : List Tmp) (a : Act) : Fr T a a := ⟨rfl, rfl, fun _ _ => rfl⟩
theorem Fr.put {T : List Tmp} {a0 a : Act} (h : Fr T a0 a) {t : Tmp} (ht : t ∈ T) (v : Value) : Fr T a0 (a.put (some t) v) :=
  ⟨h.defers, by simp [Act.put, h.size], fun s hs => (put_other a v (fun e => hs (by rw [e]; exact ht))).trans (h.same s hs)⟩
theorem foldl_put (f : Tmp → Value) : ∀ (T : List Tmp) (b : Act), (T.foldl (fun b t => b.put (some t) (f t)) b).defers = b.defers ∧ (T.foldl (fun b t => b.put (some t) (f t)) b).tmps.size = b.tmps.size ∧
    (∀ s, s ∉ T → (T.foldl (fun b t => b.put (some t) (f t)) b).eval (.tmp s) = b.eval (.tmp s)) ∧ ∀ s, s ∈ T → s < b.tmps.size → (T.foldl (fun b t => b.put (some t) (f t)) b).eval (.tmp s) = f s := by
  intro T
  induction T with
  | nil => intro b; exact ⟨rfl, rfl, fun _ _ => rfl, fun s hs => by cases hs⟩
  | cons t T ih =>
    intro b
    obtain ⟨h1, h2, h3, h4⟩ := ih (b.put (some t) (f t))
    have hz : (b.put (some t) (f t)).tmps.size = b.tmps.size := by simp [Act.put]
    refine ⟨h1, h2.trans hz, fun s hs => ?_, fun s hs hlt => ?_⟩
    · simp only [List.mem_cons, not_or] at hs
      exact (h3 s hs.2).trans (put_other b _ hs.1)
    · by_cases hT : s ∈ T
      · exact h4 s hT (by rw [hz]; exact hlt)
      · rcases List.mem_cons.1 hs with rfl | hs
        · exact (h3 s hT).trans (put_same b s _ hlt)
        · exact absurd hs hT
/-- A frame, written out. -/
theorem Fr.shape {T : List Tmp} {a0 a : Act} (h : Fr T a0 a) (hT : ∀ t ∈ T, t < a0.tmps.size) : a = T.foldl (fun b t => b.put (some t) (a.eval (.tmp t))) a0 := by
  obtain ⟨h1, h2, h3, h4⟩ := foldl_put (fun t => a.eval (.tmp t)) T a0
  generalize T.foldl (fun b t => b.put (some t) (a.eval (.tmp t))) a0 = b at *
  have key : ∀ s, a.eval (.tmp s) = b.eval (.tmp s) := fun s => by
    by_cases hs : s ∈ T
    · exact (h4 s hs (hT s hs)).symm
    · exact (h.same s hs).trans (h3 s hs).symm
  cases a with
  | mk ta da =>
    cases b with
    | mk tb db =>
      have e1 : da = db := h.defers.trans h1.symm
      have e2 : ta.size = tb.size := h.size.trans h2.symm
      have e3 : ta = tb := by
        refine Array.ext e2 fun i hi hj => ?_
        have := key i
        simp only [Act.eval, Array.getD, hi, hj, dite_true] at this
        exact this
      rw [e1, e3]
section
variable {P : Program} {Q : Exit → Act → World → Prop}
def StepOk (P : Program) (Q : Exit → Act → World → Prop) (ops : Array Oper) (I : (Nat → Prop) → Act → World → Prop) (k : Nat) (o : Oper) : Prop :=
  o.guard = none ∧ ∀ (d d' : Nat → Prop) (a : Act) (w : World), I d a w → ¬ d k → Closed ops d → (∀ j, waits o j = true → d j) → (∀ j, j ≠ k → d' j → d j) → (∀ j, d j → d' j) → d' k → o.wp P a w (fun a' w' => I d' a' w') Q
def AllSteps (P : Program) (Q : Exit → Act → World → Prop) (ops : Array Oper) (I : (Nat → Prop) → Act → World → Prop) : Nat → List Oper → Prop
  | _, [] => True
  | k, o :: l => StepOk P Q ops I k o ∧ AllSteps P Q ops I (k + 1) l
theorem AllSteps.get {ops : Array Oper} {I : (Nat → Prop) → Act → World → Prop} : ∀ {l : List Oper} {k : Nat}, AllSteps P Q ops I k l → ∀ {i : Nat} {o : Oper}, l[i]? = some o → StepOk P Q ops I (k + i) o := by
  intro l
  induction l with
  | nil => intro k _ i o h; simp at h
  | cons x l ih =>
    intro k h i o ho
    cases i with
    | zero => simp at ho; subst ho; exact h.1
    | succ i =>
      have := ih h.2 (i := i) (o := o) (by simpa using ho)
      rwa [show k + 1 + i = k + (i + 1) from by omega] at this
theorem wp_region_steps {id : Nat} {ops : List Oper} {a : Act} {w : World} (I : (Nat → Prop) → Act → World → Prop) (hm : P.follows .mixedOrders = true) (hd : onward ops.toArray = true)
    (h0 : I (fun _ => False) a w.drew) (hs : AllSteps P Q ops.toArray I 0 ops) (fin : ∀ (d : Nat → Prop) (a : Act) (w : World), I d a w → (∀ i, i < ops.length → d i) → Q .normal a w) :
    (Code.region id ops.toArray true).wp P Q a w := by
  refine wp_region_inv hm hd h0 (fun d d' a w i o ho hI hn hcl ha hk hu hself => ?_) (fun d a w hI h => fin d a w hI (by simpa using h))
  obtain ⟨hg, st⟩ := hs.get (i := i) (o := o) (by simpa using ho)
  rw [Nat.zero_add] at st
  unfold wpOp
  rw [ho]
  have hwt : Region.wanted o (yielded ops.toArray a.tmps) = true := by unfold Region.wanted; rw [hg]
  simp only [hwt, if_true]
  exact .inl (st d d' a w hI hn hcl ha hk hu hself)
/-- The frame is given a name. -/
theorem wp_name {c : Code} {a : Act} {w : World} (h : ∀ b, b = a → c.wp P Q b w) : c.wp P Q a w := h a rfl
variable {o : Oper} {a : Act} {w w' : World} {K : Act → World → Prop}
theorem wp_yields {v : Value} (h : (execOp a.eval o).run P w = .ok (.value v) w') (hk : K (a.put o.dst v) w') : o.wp P a w K Q := by
  unfold Oper.wp; rw [h]; exact hk
theorem wp_skips (h : (execOp a.eval o).run P w = .ok .skip w') (hk : K (a.put o.dst undef) w') : o.wp P a w K Q := by
  unfold Oper.wp; rw [h]; exact hk
theorem wp_enters {f : FuncId} {args : Array Value} {R : Ending → World → Prop} (h : (execOp a.eval o).run P w = .ok (.enter f args) w) (hc : Calls P f args w R)
    (hk : ∀ e w', R e w' → ∃ v, e = .returned v ∧ K (a.put o.dst v) w') : o.wp P a w K Q := by
  unfold Oper.wp; rw [h]
  refine Calls.mono hc fun e w' he => ?_
  obtain ⟨v, rfl, hv⟩ := hk e w' he
  exact hv
end
end
section
open Go Go.RowKit

/-- Once the operation op has come up (or from the start), and until the operation used has, the slot holds a value with p. -/
structure Cl where
  op : Option Nat
  slot : Tmp
  used : Option Nat
  p : Value → World → Prop
/-- It has come up; nothing has to come up. -/
def came (d : Nat → Prop) : Option Nat → Prop
  | none => True
  | some k => d k
/-- It has come up; nothing can. -/
def gone (d : Nat → Prop) : Option Nat → Prop
  | none => False
  | some k => d k
theorem gone_mono {d d' : Nat → Prop} (hu : ∀ j, d j → d' j) {u : Option Nat} (h : gone d u) : gone d' u := by
  cases u with
  | none => exact h
  | some k => exact hu k h
/-- What the clauses say. -/
def Held (d : Nat → Prop) (a : Act) (W : World) (l : List Cl) : Prop := ∀ c ∈ l, came d c.op → ¬ gone d c.used → c.p (a.eval (.tmp c.slot)) W
/-- The frame, the rest, and the clauses. -/
def Inv (T : List Tmp) (a0 : Act) (G : (Nat → Prop) → World → Prop) (l : List Cl) (d : Nat → Prop) (a : Act) (W : World) : Prop := Fr T a0 a ∧ G d W ∧ Held d a W l
/-- All of a list. -/
@[reducible] def AllC (f : Cl → Prop) : List Cl → Prop
  | [] => True
  | c :: l => f c ∧ AllC f l
theorem AllC.mem {f : Cl → Prop} : ∀ {l : List Cl}, AllC f l → ∀ c ∈ l, f c := by
  intro l
  induction l with
  | nil => intro _ c hc; cases hc
  | cons x l ih =>
    intro h c hc
    rcases List.mem_cons.1 hc with rfl | hc
    · exact h.1
    · exact ih h.2 c hc
/-- Calls and allocations keep what the clause says. -/
def Lasts (c : Cl) : Prop := ∀ u W W', c.p u W → Below W.heap.size W W' → c.p u W'
/-- No other clause that may hold speaks of the slot that the operation writes. -/
def slotsOk (ops : Array Oper) (l : List Cl) (k : Nat) (t : Tmp) : Bool := l.all fun c => c.op == some k || c.slot != t || c.used == some k || (match c.op with
  | none => false
  | some j => ((ops[j]?).map fun o => waits o k).getD false)
section
variable {P : Program} {Q : Exit → Act → World → Prop} {T : List Tmp} {a0 : Act} {G : (Nat → Prop) → World → Prop} {l : List Cl} {d d' : Nat → Prop} {a : Act} {W W' : World}
theorem Held.at_ (h : Held d a W l) {i : Nat} {c : Cl} (hc : l[i]? = some c) (h1 : came d c.op) (h2 : ¬ gone d c.used) : c.p (a.eval (.tmp c.slot)) W := h c (List.mem_of_getElem? hc) h1 h2
theorem slotsOk_spec {ops : Array Oper} {k : Nat} {t : Tmp} (h : slotsOk ops l k t = true) (hcl : Closed ops d) (hn : ¬ d k) : ∀ c ∈ l, c.op ≠ some k → c.used ≠ some k → came d c.op → c.slot ≠ t := by
  unfold slotsOk at h
  rw [List.all_eq_true] at h
  intro c hc hk hu hd e
  have := h c hc
  simp only [Bool.or_eq_true, beq_iff_eq, bne_iff_ne] at this
  rcases this with ((this | this) | this) | this
  · exact hk this
  · exact this e
  · exact hu this
  · cases hop : c.op with
    | none => rw [hop] at this; cases this
    | some j =>
      rw [hop] at this hd
      dsimp only at this
      cases ho : ops[j]? with
      | none => rw [ho] at this; simp at this
      | some o =>
        rw [ho] at this
        exact hn (hcl j o k ho (by simpa using this) hd)
/-- The operation k writes v into the slot t. -/
theorem Held.put {ops : Array Oper} {k : Nat} {t : Tmp} {v : Value} {c : Cl} (h : Held d a W l) (hc : l.filter (fun c => c.op == some k) = [c]) (hct : c.slot = t) (hso : slotsOk ops l k t = true) (hcl : Closed ops d) (hn : ¬ d k)
    (hk : ∀ j, j ≠ k → d' j → d j) (hu : ∀ j, d j → d' j) (hself : d' k) (ht : t < a.tmps.size) (hold : ∀ x ∈ l, x.op ≠ some k → came d x.op → ¬ gone d' x.used → ∀ u, x.p u W → x.p u W') (hnew : c.p v W') : Held d' (a.put (some t) v) W' l := by
  intro x hx h1 h2
  by_cases e : x.op = some k
  · have hx' : x ∈ l.filter (fun c => c.op == some k) := List.mem_filter.2 ⟨hx, by simpa using e⟩
    rw [hc] at hx'
    obtain rfl := List.mem_singleton.1 hx'
    rw [hct, put_same _ _ _ ht]
    exact hnew
  · have h3 : came d x.op := by
      cases ho : x.op with
      | none => trivial
      | some j => rw [ho] at h1 e; exact hk j (fun q => e (by rw [q])) h1
    rw [put_other _ _ (slotsOk_spec hso hcl hn x hx e (fun q => h2 (by rw [q]; exact hself)) h3)]
    exact hold x hx e h3 h2 _ (h x hx h3 (fun q => h2 (gone_mono hu q)))
/-- The operation k changes the world alone; its clause speaks of an older slot. -/
theorem Held.store {k : Nat} {c : Cl} (h : Held d a W l) (hc : l.filter (fun c => c.op == some k) = [c])
    (hk : ∀ j, j ≠ k → d' j → d j) (hu : ∀ j, d j → d' j) (hold : ∀ x ∈ l, x.op ≠ some k → came d x.op → ¬ gone d' x.used → ∀ u, x.p u W → x.p u W') (hnew : c.p (a.eval (.tmp c.slot)) W') : Held d' a W' l := by
  intro x hx h1 h2
  by_cases e : x.op = some k
  · have hx' : x ∈ l.filter (fun c => c.op == some k) := List.mem_filter.2 ⟨hx, by simpa using e⟩
    rw [hc] at hx'
    obtain rfl := List.mem_singleton.1 hx'
    exact hnew
  · have h3 : came d x.op := by
      cases ho : x.op with
      | none => trivial
      | some j => rw [ho] at h1 e; exact hk j (fun q => e (by rw [q])) h1
    exact hold x hx e h3 h2 _ (h x hx h3 (fun q => h2 (gone_mono hu q)))
theorem Inv.start (h : G (fun _ => False) W) (hs : AllC (fun c => c.op = none → c.p (a0.eval (.tmp c.slot)) W) l) : Inv T a0 G l (fun _ => False) a0 W :=
  ⟨Fr.refl _ _, h, fun c hc h1 _ => hs.mem c hc (by cases ho : c.op with | none => rfl | some k => rw [ho] at h1; exact h1.elim)⟩
/-- An operation that yields a value and at most makes memory. -/
theorem stepB {ops : Array Oper} {k : Nat} {o : Oper} {t : Tmp} {c : Cl} (hg : o.guard = none) (hd : o.dst = some t) (hT : t ∈ T) (hz : t < a0.tmps.size) (hc : l.filter (fun c => c.op == some k) = [c]) (hct : c.slot = t)
    (hso : slotsOk ops l k t = true) (St : ∀ c ∈ l, Lasts c) (SG : ∀ d d' W W', G d W → (∀ j, d j → d' j) → Below W.heap.size W W' → G d' W')
    (run : ∀ d a W, Fr T a0 a → G d W → Held d a W l → ¬ d k → Closed ops d → (∀ j, waits o j = true → d j) → ∃ v W', (execOp a.eval o).run P W = .ok (.value v) W' ∧ Below W.heap.size W W' ∧ c.p v W') :
    StepOk P Q ops (Inv T a0 G l) k o := by
  refine ⟨hg, fun d d' a W ⟨hF, hG, hH⟩ hn hcl hw hk hu hself => ?_⟩
  obtain ⟨v, W', hr, hb, hv⟩ := run d a W hF hG hH hn hcl hw
  refine wp_yields hr ?_
  rw [hd]
  exact ⟨hF.put hT v, SG _ _ _ _ hG hu hb, hH.put hc hct hso hcl hn hk hu hself (by rw [hF.size]; exact hz) (fun x hx _ _ _ u q => St x hx u W W' q hb) hv⟩
/-- An operation that calls a function. -/
theorem stepC {ops : Array Oper} {k : Nat} {o : Oper} {t : Tmp} {c : Cl} (hg : o.guard = none) (hd : o.dst = some t) (hT : t ∈ T) (hz : t < a0.tmps.size) (hc : l.filter (fun c => c.op == some k) = [c]) (hct : c.slot = t)
    (hso : slotsOk ops l k t = true) (St : ∀ c ∈ l, Lasts c) (SG : ∀ d d' W W', G d W → (∀ j, d j → d' j) → Below W.heap.size W W' → G d' W')
    (run : ∀ d a W, Fr T a0 a → G d W → Held d a W l → ¬ d k → Closed ops d → (∀ j, waits o j = true → d j) → ∃ f args, (execOp a.eval o).run P W = .ok (.enter f args) W ∧ Calls P f args W fun e W' => ∃ v, e = .returned v ∧ Below W.heap.size W W' ∧ c.p v W') :
    StepOk P Q ops (Inv T a0 G l) k o := by
  refine ⟨hg, fun d d' a W ⟨hF, hG, hH⟩ hn hcl hw hk hu hself => ?_⟩
  obtain ⟨f, args, hr, hcall⟩ := run d a W hF hG hH hn hcl hw
  refine wp_enters hr hcall fun e W' ⟨v, he, hb, hv⟩ => ⟨v, he, ?_⟩
  rw [hd]
  exact ⟨hF.put hT v, SG _ _ _ _ hG hu hb, hH.put hc hct hso hcl hn hk hu hself (by rw [hF.size]; exact hz) (fun x hx _ _ _ u q => St x hx u W W' q hb) hv⟩
end
end
end Go.Proofs.Ytfmplibjhohpgaa
