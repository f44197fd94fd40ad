/- The journal layer: numbers, bytes, strings and blocks in memory; regions that draw their order. -/
import Derived.Test.YtkljfampkkfgdaaRows
import Derived.Laws.BitsAllLaws
import Derived.WalkKit
import Derived.WalkSpells
import Derived.WalkLawsBesides
import Derived.Deep.QuietTactic
import Derived.BigQuiet
import Derived.LoopTactic
import Derived.RegionTactic
import Derived.Deep.Cut
import Derived.Lib.Hide
import Derived.Deep.RegionHeld3
import Derived.Deep.MidRow
import Derived.Great.BuildSlice
import Derived.Laws.Rows
import Derived.Laws.Tables
import Derived.Laws.AppendOwn
import Derived.RangeFuncBox
import Derived.Laws.CopyOwn
import Derived.StillTailTactics
import Derived.Outline
import Derived.Laws.IdiomStrings
namespace Go.Proofs.Ytkljfampkkfgdaa
section
open Go

theorem count_set_false (i : Nat) : ∀ (l : List Bool), l[i]? = some false → (l.set i true).count false + 1 = l.count false := by
  induction i with
  | zero => intro l h; cases l with
    | nil => simp at h
    | cons b l => simp at h; subst h; simp
  | succ i ih => intro l h; cases l with
    | nil => simp at h
    | cons b l =>
      simp at h
      have := ih l h
      simp only [List.set_cons_succ, List.count_cons]
      omega
section
variable {P : Program} {ops : Array Oper} {Q : Exit → Act → World → Prop}
/-- What has come up. -/
def dn (l : Array Bool) (k : Nat) : Prop := l.getD k false = true
theorem dn_set {l : Array Bool} {i k : Nat} (h : dn (l.setIfInBounds i true) k) (hk : k ≠ i) : dn l k := by
  unfold dn at h ⊢
  rwa [getD_set_ne false (fun e => hk e.symm)] at h
/-- Every operation waits only for earlier ones. -/
def onward (ops : Array Oper) : Bool := (List.range ops.size).all fun i => ((ops[i]?).map fun o => o.after.toList.all fun e => !Region.binds .any e || decide (e.on < i)).getD true
theorem onward_spec (h : onward ops = true) {i : Nat} {o : Oper} (ho : ops[i]? = some o) : ∀ e ∈ o.after, Region.binds .any e = true → e.on < i := by
  unfold onward at h
  rw [List.all_eq_true] at h
  have hlt : i < ops.size := (Array.getElem?_eq_some_iff.1 ho).1
  have := h i (List.mem_range.2 hlt)
  rw [ho] at this
  simp only [Option.map_some, Option.getD_some, List.all_eq_true] at this
  intro e he hb
  have := this e (Array.mem_toList_iff.2 he)
  rw [hb] at this
  simpa using this
theorem all_done (h : onward ops = true) {l : Array Bool} (hs : l.size = ops.size) (hr : Region.ready .any ops l = []) : ∀ i, i < ops.size → dn l i := by
  intro i
  induction i using Nat.strongRecOn with
  | _ i ih =>
    intro hi
    by_cases c : dn l i
    · exact c
    exfalso
    have ho : ops[i]? = some ops[i] := Array.getElem?_eq_getElem hi
    have : i ∈ Region.ready .any ops l := by
      refine mem_ready.2 ⟨?_, ops[i], ho, fun e he hb => ?_⟩
      · unfold dn at c
        have hi' : i < l.size := by omega
        simp only [Array.getD, hi', dite_true] at c ⊢
        simpa using c
      · have := onward_spec h ho e he hb
        exact ih e.on this (by omega)
    rw [hr] at this
    cases this
theorem dn_mono {l : Array Bool} {i k : Nat} (h : dn l k) : dn (l.setIfInBounds i true) k := by
  unfold dn at h ⊢
  by_cases e : i = k
  · subst e
    have hk : i < l.size := by
      rcases Nat.lt_or_ge i l.size with g | g
      · exact g
      · simp [Array.getD, Nat.not_lt.2 g] at h
    simp [Array.getD, hk]
  · rwa [getD_set_ne false e]
/-- The operation waits for the one with this number. -/
def waits (o : Oper) (k : Nat) : Bool := o.after.toList.any fun e => e.on == k && Region.binds .any e
/-- What has come up stands behind all that it waits for. -/
def Closed (ops : Array Oper) (d : Nat → Prop) : Prop := ∀ i o j, ops[i]? = some o → waits o j = true → d i → d j
theorem waits_of {o : Oper} {d : Nat → Prop} (h : ∀ e ∈ o.after, Region.binds .any e = true → d e.on) {j : Nat} (hj : waits o j = true) : d j := by
  unfold waits at hj
  rw [List.any_eq_true] at hj
  obtain ⟨e, he, h2⟩ := hj
  rw [Bool.and_eq_true] at h2
  have := h e (Array.mem_toList_iff.1 he) h2.2
  rwa [eq_of_beq h2.1] at this
theorem wpAny_inv {I : (Nat → Prop) → Act → World → Prop} (hd : onward ops = true)
    (step : ∀ (d d' : Nat → Prop) (a : Act) (w : World) (i : Nat) (o : Oper), ops[i]? = some o → I d a w → ¬ d i → Closed ops d → (∀ j, waits o j = true → d j) → (∀ k, k ≠ i → d' k → d k) → (∀ k, d k → d' k) → d' i →
      wpOp P ops Q i (fun a' w' => I d' a' w') a w)
    (fin : ∀ (d : Nat → Prop) (a : Act) (w : World), I d a w → (∀ i, i < ops.size → d i) → Q .normal a w) :
    ∀ (fuel : Nat) (l : Array Bool) (a : Act) (w : World), l.size = ops.size → l.toList.count false ≤ fuel → Closed ops (dn l) → I (dn l) a w → wpAny P .any ops Q fuel l a w := by
  intro fuel
  induction fuel with
  | zero =>
    intro l a w hs hc hcl hI
    have hr : Region.ready .any ops l = [] := by
      cases h : Region.ready .any ops l with
      | nil => rfl
      | cons i r =>
        exfalso
        have hm : i ∈ Region.ready .any ops l := by rw [h]; simp
        obtain ⟨h0, o, ho, -⟩ := mem_ready.1 hm
        have hi : i < l.size := by rw [hs]; exact (Array.getElem?_eq_some_iff.1 ho).1
        simp only [Array.getD, hi, dite_true] at h0
        have : false ∈ l.toList := by rw [← h0]; exact Array.getElem_mem_toList hi
        have := List.count_pos_iff.2 this
        omega
    exact ⟨hr, fin _ a w hI (all_done hd hs hr)⟩
  | succ fuel ih =>
    intro l a w hs hc hcl hI
    refine ⟨fun hr => fin _ a w hI (all_done hd hs hr), fun i hi => ?_⟩
    obtain ⟨h0, o, ho, hall⟩ := mem_ready.1 hi
    have hlt : i < l.size := by rw [hs]; exact (Array.getElem?_eq_some_iff.1 ho).1
    have h1 : l.toList[i]? = some false := by
      simp only [Array.getD, hlt, dite_true] at h0
      rw [Array.getElem?_toList, Array.getElem?_eq_getElem hlt]
      exact congrArg some h0
    have hn : ¬ dn l i := by
      unfold dn
      simp only [Array.getD, hlt, dite_true] at h0 ⊢
      rw [h0]; simp
    have hw : ∀ j, waits o j = true → dn l j := fun j hj => waits_of (fun e he hb => hall e he hb) hj
    have hcl' : Closed ops (dn (l.setIfInBounds i true)) := fun i' o' j ho' hj hd' => by
      by_cases e : i' = i
      · subst e
        rw [ho] at ho'
        obtain rfl := Option.some.inj ho'
        exact dn_mono (hw j hj)
      · exact dn_mono (hcl i' o' j ho' hj (dn_set hd' e))
    refine wpOp_mono (fun a' w' h => ih _ a' w' (by simpa using hs) ?_ hcl' h) (step _ _ a w i o ho hI hn hcl hw (fun k hk h => dn_set h hk) (fun k h => dn_mono h) (by unfold dn; simp [Array.getD, hlt]))
    have := count_set_false i l.toList h1
    rw [Array.toList_setIfInBounds]
    omega
/-- A region that draws its order, by an invariant. -/
theorem wp_region_inv {id : Nat} {a : Act} {w : World} {I : (Nat → Prop) → Act → World → Prop} (hm : P.follows .mixedOrders = true) (hd : onward ops = true)
    (h0 : I (fun _ => False) a w.drew)
    (step : ∀ (d d' : Nat → Prop) (a : Act) (w : World) (i : Nat) (o : Oper), ops[i]? = some o → I d a w → ¬ d i → Closed ops d → (∀ j, waits o j = true → d j) → (∀ k, k ≠ i → d' k → d k) → (∀ k, d k → d' k) → d' i →
      wpOp P ops Q i (fun a' w' => I d' a' w') a w)
    (fin : ∀ (d : Nat → Prop) (a : Act) (w : World), I d a w → (∀ i, i < ops.size → d i) → Q .normal a w) :
    (Code.region id ops true).wp P Q a w := by
  have e : dn (Array.replicate ops.size false) = fun _ => False := by
    funext k
    unfold dn
    simp only [Array.getD, Array.size_replicate]
    split <;> simp
  refine wp_region_any hm (wpAny_inv hd step fin _ _ _ _ (by simp) ?_ ?_ ?_)
  · simp
  · rw [e]; exact fun _ _ _ _ _ h => h.elim
  · rw [e]; exact h0
end
end
section
open Go

theorem put_same (a : Act) (t : Tmp) (v : Value) (h : t < a.tmps.size) : (a.put (some t) v).eval (.tmp t) = v := by
  simp [Act.put, Act.eval, h]
theorem put_other (a : Act) {s t : Tmp} (v : Value) (h : s ≠ t) : (a.put (some t) v).eval (.tmp s) = a.eval (.tmp s) := by
  have h' : ¬ t = s := fun e => h e.symm
  simp only [Act.put, Act.eval, Array.getD_eq_getD_getElem?, Array.getElem?_setIfInBounds, h', if_false]
/-- The frame a is a0 outside the slots T. -/
structure Fr (T : List Tmp) (a0 a : Act) : Prop where
  defers : a.defers = a0.defers
  size : a.tmps.size = a0.tmps.size
  same : ∀ t, t ∉ T → a.eval (.tmp t) = a0.eval (.tmp t)
theorem Fr.refl (T : List Tmp) (a : Act) : Fr T a a := ⟨rfl, rfl, fun _ _ => rfl⟩
theorem Fr.put {T : List Tmp} {a0 a : Act} (h : Fr T a0 a) {t : Tmp} (ht : t ∈ T) (v : Value) : Fr T a0 (a.put (some t) v) :=
  ⟨h.defers, by simp [Act.put, h.size], fun s hs => (put_other a v (fun e => hs (by rw [e]; exact ht))).trans (h.same s hs)⟩
theorem foldl_put (f : Tmp → Value) : ∀ (T : List Tmp) (b : Act), (T.foldl (fun b t => b.put (some t) (f t)) b).defers = b.defers ∧ (T.foldl (fun b t => b.put (some t) (f t)) b).tmps.size = b.tmps.size ∧
    (∀ s, s ∉ T → (T.foldl (fun b t => b.put (some t) (f t)) b).eval (.tmp s) = b.eval (.tmp s)) ∧ ∀ s, s ∈ T → s < b.tmps.size → (T.foldl (fun b t => b.put (some t) (f t)) b).eval (.tmp s) = f s := by
  intro T
  induction T with
  | nil => intro b; exact ⟨rfl, rfl, fun _ _ => rfl, fun s hs => by cases hs⟩
  | cons t T ih =>
    intro b
    obtain ⟨h1, h2, h3, h4⟩ := ih (b.put (some t) (f t))
    have hz : (b.put (some t) (f t)).tmps.size = b.tmps.size := by simp [Act.put]
    refine ⟨h1, h2.trans hz, fun s hs => ?_, fun s hs hlt => ?_⟩
    · simp only [List.mem_cons, not_or] at hs
      exact (h3 s hs.2).trans (put_other b _ hs.1)
    · by_cases hT : s ∈ T
      · exact h4 s hT (by rw [hz]; exact hlt)
      · rcases List.mem_cons.1 hs with rfl | hs
        · exact (h3 s hT).trans (put_same b s _ hlt)
        · exact absurd hs hT
/-- A frame, written out. -/
theorem Fr.shape {T : List Tmp} {a0 a : Act} (h : Fr T a0 a) (hT : ∀ t ∈ T, t < a0.tmps.size) : a = T.foldl (fun b t => b.put (some t) (a.eval (.tmp t))) a0 := by
  obtain ⟨h1, h2, h3, h4⟩ := foldl_put (fun t => a.eval (.tmp t)) T a0
  generalize T.foldl (fun b t => b.put (some t) (a.eval (.tmp t))) a0 = b at *
  have key : ∀ s, a.eval (.tmp s) = b.eval (.tmp s) := fun s => by
    by_cases hs : s ∈ T
    · exact (h4 s hs (hT s hs)).symm
    · exact (h.same s hs).trans (h3 s hs).symm
  cases a with
  | mk ta da =>
    cases b with
    | mk tb db =>
      have e1 : da = db := h.defers.trans h1.symm
      have e2 : ta.size = tb.size := h.size.trans h2.symm
      have e3 : ta = tb := by
        refine Array.ext e2 fun i hi hj => ?_
        have := key i
        simp only [Act.eval, Array.getD, hi, hj, dite_true] at this
        exact this
      rw [e1, e3]
section
variable {P : Program} {Q : Exit → Act → World → Prop}
def StepOk (P : Program) (Q : Exit → Act → World → Prop) (ops : Array Oper) (I : (Nat → Prop) → Act → World → Prop) (k : Nat) (o : Oper) : Prop :=
  o.guard = none ∧ ∀ (d d' : Nat → Prop) (a : Act) (w : World), I d a w → ¬ d k → Closed ops d → (∀ j, waits o j = true → d j) → (∀ j, j ≠ k → d' j → d j) → (∀ j, d j → d' j) → d' k → o.wp P a w (fun a' w' => I d' a' w') Q
def AllSteps (P : Program) (Q : Exit → Act → World → Prop) (ops : Array Oper) (I : (Nat → Prop) → Act → World → Prop) : Nat → List Oper → Prop
  | _, [] => True
  | k, o :: l => StepOk P Q ops I k o ∧ AllSteps P Q ops I (k + 1) l
theorem AllSteps.get {ops : Array Oper} {I : (Nat → Prop) → Act → World → Prop} : ∀ {l : List Oper} {k : Nat}, AllSteps P Q ops I k l → ∀ {i : Nat} {o : Oper}, l[i]? = some o → StepOk P Q ops I (k + i) o := by
  intro l
  induction l with
  | nil => intro k _ i o h; simp at h
  | cons x l ih =>
    intro k h i o ho
    cases i with
    | zero => simp at ho; subst ho; exact h.1
    | succ i =>
      have := ih h.2 (i := i) (o := o) (by simpa using ho)
      rwa [show k + 1 + i = k + (i + 1) from by omega] at this
theorem wp_region_steps {id : Nat} {ops : List Oper} {a : Act} {w : World} (I : (Nat → Prop) → Act → World → Prop) (hm : P.follows .mixedOrders = true) (hd : onward ops.toArray = true)
    (h0 : I (fun _ => False) a w.drew) (hs : AllSteps P Q ops.toArray I 0 ops) (fin : ∀ (d : Nat → Prop) (a : Act) (w : World), I d a w → (∀ i, i < ops.length → d i) → Q .normal a w) :
    (Code.region id ops.toArray true).wp P Q a w := by
  refine wp_region_inv hm hd h0 (fun d d' a w i o ho hI hn hcl ha hk hu hself => ?_) (fun d a w hI h => fin d a w hI (by simpa using h))
  obtain ⟨hg, st⟩ := hs.get (i := i) (o := o) (by simpa using ho)
  rw [Nat.zero_add] at st
  unfold wpOp
  rw [ho]
  have hwt : Region.wanted o (yielded ops.toArray a.tmps) = true := by unfold Region.wanted; rw [hg]
  simp only [hwt, if_true]
  exact .inl (st d d' a w hI hn hcl ha hk hu hself)
/-- The frame is given a name. -/
theorem wp_name {c : Code} {a : Act} {w : World} (h : ∀ b, b = a → c.wp P Q b w) : c.wp P Q a w := h a rfl
variable {o : Oper} {a : Act} {w w' : World} {K : Act → World → Prop}
theorem wp_yields {v : Value} (h : (execOp a.eval o).run P w = .ok (.value v) w') (hk : K (a.put o.dst v) w') : o.wp P a w K Q := by
  unfold Oper.wp; rw [h]; exact hk
theorem wp_skips (h : (execOp a.eval o).run P w = .ok .skip w') (hk : K (a.put o.dst undef) w') : o.wp P a w K Q := by
  unfold Oper.wp; rw [h]; exact hk
theorem wp_enters {f : FuncId} {args : Array Value} {R : Ending → World → Prop} (h : (execOp a.eval o).run P w = .ok (.enter f args) w) (hc : Calls P f args w R)
    (hk : ∀ e w', R e w' → ∃ v, e = .returned v ∧ K (a.put o.dst v) w') : o.wp P a w K Q := by
  unfold Oper.wp; rw [h]
  refine Calls.mono hc fun e w' he => ?_
  obtain ⟨v, rfl, hv⟩ := hk e w' he
  exact hv
end
end
section
open Go Go.RowKit

/-- Once the operation op has come up (or from the start), and until the operation used has, the slot holds a value with p. -/
structure Cl where
  op : Option Nat
  slot : Tmp
  used : Option Nat
  p : Value → World → Prop
/-- It has come up; nothing has to come up. -/
def came (d : Nat → Prop) : Option Nat → Prop
  | none => True
  | some k => d k
/-- It has come up; nothing can. -/
def gone (d : Nat → Prop) : Option Nat → Prop
  | none => False
  | some k => d k
theorem gone_mono {d d' : Nat → Prop} (hu : ∀ j, d j → d' j) {u : Option Nat} (h : gone d u) : gone d' u := by
  cases u with
  | none => exact h
  | some k => exact hu k h
/-- What the clauses say. -/
def Held (d : Nat → Prop) (a : Act) (W : World) (l : List Cl) : Prop := ∀ c ∈ l, came d c.op → ¬ gone d c.used → c.p (a.eval (.tmp c.slot)) W
/-- The frame, the rest, and the clauses. -/
def Inv (T : List Tmp) (a0 : Act) (G : (Nat → Prop) → World → Prop) (l : List Cl) (d : Nat → Prop) (a : Act) (W : World) : Prop := Fr T a0 a ∧ G d W ∧ Held d a W l
/-- All of a list. -/
@[reducible] def AllC (f : Cl → Prop) : List Cl → Prop
  | [] => True
  | c :: l => f c ∧ AllC f l
theorem AllC.mem {f : Cl → Prop} : ∀ {l : List Cl}, AllC f l → ∀ c ∈ l, f c := by
  intro l
  induction l with
  | nil => intro _ c hc; cases hc
  | cons x l ih =>
    intro h c hc
    rcases List.mem_cons.1 hc with rfl | hc
    · exact h.1
    · exact ih h.2 c hc
/-- Calls and allocations keep what the clause says. -/
def Lasts (c : Cl) : Prop := ∀ u W W', c.p u W → Below W.heap.size W W' → c.p u W'
/-- No other clause that may hold speaks of the slot that the operation writes. -/
def slotsOk (ops : Array Oper) (l : List Cl) (k : Nat) (t : Tmp) : Bool := l.all fun c => c.op == some k || c.slot != t || c.used == some k || (match c.op with
  | none => false
  | some j => ((ops[j]?).map fun o => waits o k).getD false)
section
variable {P : Program} {Q : Exit → Act → World → Prop} {T : List Tmp} {a0 : Act} {G : (Nat → Prop) → World → Prop} {l : List Cl} {d d' : Nat → Prop} {a : Act} {W W' : World}
theorem Held.at_ (h : Held d a W l) {i : Nat} {c : Cl} (hc : l[i]? = some c) (h1 : came d c.op) (h2 : ¬ gone d c.used) : c.p (a.eval (.tmp c.slot)) W := h c (List.mem_of_getElem? hc) h1 h2
theorem slotsOk_spec {ops : Array Oper} {k : Nat} {t : Tmp} (h : slotsOk ops l k t = true) (hcl : Closed ops d) (hn : ¬ d k) : ∀ c ∈ l, c.op ≠ some k → c.used ≠ some k → came d c.op → c.slot ≠ t := by
  unfold slotsOk at h
  rw [List.all_eq_true] at h
  intro c hc hk hu hd e
  have := h c hc
  simp only [Bool.or_eq_true, beq_iff_eq, bne_iff_ne] at this
  rcases this with ((this | this) | this) | this
  · exact hk this
  · exact this e
  · exact hu this
  · cases hop : c.op with
    | none => rw [hop] at this; cases this
    | some j =>
      rw [hop] at this hd
      dsimp only at this
      cases ho : ops[j]? with
      | none => rw [ho] at this; simp at this
      | some o =>
        rw [ho] at this
        exact hn (hcl j o k ho (by simpa using this) hd)
/-- The operation k writes v into the slot t. -/
theorem Held.put {ops : Array Oper} {k : Nat} {t : Tmp} {v : Value} {c : Cl} (h : Held d a W l) (hc : l.filter (fun c => c.op == some k) = [c]) (hct : c.slot = t) (hso : slotsOk ops l k t = true) (hcl : Closed ops d) (hn : ¬ d k)
    (hk : ∀ j, j ≠ k → d' j → d j) (hu : ∀ j, d j → d' j) (hself : d' k) (ht : t < a.tmps.size) (hold : ∀ x ∈ l, x.op ≠ some k → came d x.op → ¬ gone d' x.used → ∀ u, x.p u W → x.p u W') (hnew : c.p v W') : Held d' (a.put (some t) v) W' l := by
  intro x hx h1 h2
  by_cases e : x.op = some k
  · have hx' : x ∈ l.filter (fun c => c.op == some k) := List.mem_filter.2 ⟨hx, by simpa using e⟩
    rw [hc] at hx'
    obtain rfl := List.mem_singleton.1 hx'
    rw [hct, put_same _ _ _ ht]
    exact hnew
  · have h3 : came d x.op := by
      cases ho : x.op with
      | none => trivial
      | some j => rw [ho] at h1 e; exact hk j (fun q => e (by rw [q])) h1
    rw [put_other _ _ (slotsOk_spec hso hcl hn x hx e (fun q => h2 (by rw [q]; exact hself)) h3)]
    exact hold x hx e h3 h2 _ (h x hx h3 (fun q => h2 (gone_mono hu q)))
/-- The operation k changes the world alone; its clause speaks of an older slot. -/
theorem Held.store {k : Nat} {c : Cl} (h : Held d a W l) (hc : l.filter (fun c => c.op == some k) = [c])
    (hk : ∀ j, j ≠ k → d' j → d j) (hu : ∀ j, d j → d' j) (hold : ∀ x ∈ l, x.op ≠ some k → came d x.op → ¬ gone d' x.used → ∀ u, x.p u W → x.p u W') (hnew : c.p (a.eval (.tmp c.slot)) W') : Held d' a W' l := by
  intro x hx h1 h2
  by_cases e : x.op = some k
  · have hx' : x ∈ l.filter (fun c => c.op == some k) := List.mem_filter.2 ⟨hx, by simpa using e⟩
    rw [hc] at hx'
    obtain rfl := List.mem_singleton.1 hx'
    exact hnew
  · have h3 : came d x.op := by
      cases ho : x.op with
      | none => trivial
      | some j => rw [ho] at h1 e; exact hk j (fun q => e (by rw [q])) h1
    exact hold x hx e h3 h2 _ (h x hx h3 (fun q => h2 (gone_mono hu q)))
theorem Inv.start (h : G (fun _ => False) W) (hs : AllC (fun c => c.op = none → c.p (a0.eval (.tmp c.slot)) W) l) : Inv T a0 G l (fun _ => False) a0 W :=
  ⟨Fr.refl _ _, h, fun c hc h1 _ => hs.mem c hc (by cases ho : c.op with | none => rfl | some k => rw [ho] at h1; exact h1.elim)⟩
/-- An operation that yields a value and at most makes memory. -/
theorem stepB {ops : Array Oper} {k : Nat} {o : Oper} {t : Tmp} {c : Cl} (hg : o.guard = none) (hd : o.dst = some t) (hT : t ∈ T) (hz : t < a0.tmps.size) (hc : l.filter (fun c => c.op == some k) = [c]) (hct : c.slot = t)
    (hso : slotsOk ops l k t = true) (St : ∀ c ∈ l, Lasts c) (SG : ∀ d d' W W', G d W → (∀ j, d j → d' j) → Below W.heap.size W W' → G d' W')
    (run : ∀ d a W, Fr T a0 a → G d W → Held d a W l → ¬ d k → Closed ops d → (∀ j, waits o j = true → d j) → ∃ v W', (execOp a.eval o).run P W = .ok (.value v) W' ∧ Below W.heap.size W W' ∧ c.p v W') :
    StepOk P Q ops (Inv T a0 G l) k o := by
  refine ⟨hg, fun d d' a W ⟨hF, hG, hH⟩ hn hcl hw hk hu hself => ?_⟩
  obtain ⟨v, W', hr, hb, hv⟩ := run d a W hF hG hH hn hcl hw
  refine wp_yields hr ?_
  rw [hd]
  exact ⟨hF.put hT v, SG _ _ _ _ hG hu hb, hH.put hc hct hso hcl hn hk hu hself (by rw [hF.size]; exact hz) (fun x hx _ _ _ u q => St x hx u W W' q hb) hv⟩
/-- An operation that calls a function. -/
theorem stepC {ops : Array Oper} {k : Nat} {o : Oper} {t : Tmp} {c : Cl} (hg : o.guard = none) (hd : o.dst = some t) (hT : t ∈ T) (hz : t < a0.tmps.size) (hc : l.filter (fun c => c.op == some k) = [c]) (hct : c.slot = t)
    (hso : slotsOk ops l k t = true) (St : ∀ c ∈ l, Lasts c) (SG : ∀ d d' W W', G d W → (∀ j, d j → d' j) → Below W.heap.size W W' → G d' W')
    (run : ∀ d a W, Fr T a0 a → G d W → Held d a W l → ¬ d k → Closed ops d → (∀ j, waits o j = true → d j) → ∃ f args, (execOp a.eval o).run P W = .ok (.enter f args) W ∧ Calls P f args W fun e W' => ∃ v, e = .returned v ∧ Below W.heap.size W W' ∧ c.p v W') :
    StepOk P Q ops (Inv T a0 G l) k o := by
  refine ⟨hg, fun d d' a W ⟨hF, hG, hH⟩ hn hcl hw hk hu hself => ?_⟩
  obtain ⟨f, args, hr, hcall⟩ := run d a W hF hG hH hn hcl hw
  refine wp_enters hr hcall fun e W' ⟨v, he, hb, hv⟩ => ⟨v, he, ?_⟩
  rw [hd]
  exact ⟨hF.put hT v, SG _ _ _ _ hG hu hb, hH.put hc hct hso hcl hn hk hu hself (by rw [hF.size]; exact hz) (fun x hx _ _ _ u q => St x hx u W W' q hb) hv⟩
end
end
section
open Go.RowKit
abbrev Bs := List UInt8
def byt (s : Bs) (i : Nat) : Int := ((s.getD i 0).toNat : Int)
def eightM (n : Int) : Bs := [(n / 2 ^ 56 % 256).toNat.toUInt8, (n / 2 ^ 48 % 256).toNat.toUInt8, (n / 2 ^ 40 % 256).toNat.toUInt8, (n / 2 ^ 32 % 256).toNat.toUInt8, (n / 2 ^ 24 % 256).toNat.toUInt8, (n / 2 ^ 16 % 256).toNat.toUInt8, (n / 2 ^ 8 % 256).toNat.toUInt8, (n % 256).toNat.toUInt8]
theorem eightM_length (n : Int) : (eightM n).length = 8 := rfl
theorem Below.on {w w0 w1 : World} (h : Below w.heap.size w w0) (hb : Below w0.heap.size w0 w1) : Below w.heap.size w w1 := h.trans (hb.mono h.size)
theorem Below.new1 (w : World) (o : Obj) : Below w.heap.size w (w.alloc o) := (Below.refl _ _).alloc (Nat.le_refl _) _
theorem Below.drawn (w : World) (n B : Nat) : Below B w (w.drewN n) := ⟨rfl, rfl, rfl, Nat.le_refl _, fun _ _ => rfl⟩
theorem cell_kept {w w' : World} (hB : Below w.heap.size w w') {p : Addr} {v : Value} (h : w.cell? p = some v) : w'.cell? p = some v := by
  have e := hB.block p.block (block_lt_of_cell h)
  unfold World.cell? at h ⊢
  rw [e]; exact h
/-- Numbers as values. -/
def ints (k : IntKind) (l : List Int) : Array Value := (l.map (Value.int k)).toArray
theorem ints_get {k : IntKind} {l : List Int} {i : Nat} (h : i < l.length) : (ints k l)[i]? = some (.int k l[i]) := by simp [ints, List.getElem?_eq_getElem h]
theorem ints_size (k : IntKind) (l : List Int) : (ints k l).size = l.length := by simp [ints]
theorem ints_set (k : IntKind) (l : List Int) (i : Nat) (x : Int) : (ints k l).setIfInBounds i (.int k x) = ints k (l.set i x) := by
  simp only [ints, List.setIfInBounds_toArray, List.map_set]
/-- Block b is a variable that holds an array of numbers. -/
def BoxA (W : World) (b : Nat) (t : TypeId) (k : IntKind) (l : List Int) : Prop := W.heap[b]? = some (.cells (ints k l) t (0, 0))
theorem BoxA.lt {W : World} {b : Nat} {t : TypeId} {k : IntKind} {l : List Int} (h : BoxA W b t k l) : b < W.heap.size := (Array.getElem?_eq_some_iff.1 h).1
theorem BoxA.next {W W' : World} {b : Nat} {t : TypeId} {k : IntKind} {l : List Int} (h : BoxA W b t k l) (hB : Below W.heap.size W W') : BoxA W' b t k l := (hB.block b h.lt).trans h
theorem BoxA.cell {W : World} {b : Nat} {t : TypeId} {k : IntKind} {l : List Int} (h : BoxA W b t k l) {i : Nat} (hi : i < l.length) : W.cell? ⟨b, i, none⟩ = some (.int k l[i]) := (cell_of_row W b i _ _ _ h).trans (ints_get hi)
theorem BoxA.cellD {W : World} {b : Nat} {t : TypeId} {k : IntKind} {l : List Int} (h : BoxA W b t k l) {i : Nat} (hi : i < l.length) : W.cell? ⟨b, i, none⟩ = some (.int k (l.getD i 0)) := by
  rw [h.cell hi, List.getD_eq_getElem?_getD, List.getElem?_eq_getElem hi]; rfl
theorem BoxA.frozen {W : World} {b : Nat} {t : TypeId} {k : IntKind} {l : List Int} (h : BoxA W b t k l) (i : Nat) : W.frozen? ⟨b, i, none⟩ = false := by unfold BoxA at h; simp [World.frozen?, h]
theorem BoxA.set {W : World} {b : Nat} {t : TypeId} {k : IntKind} {l : List Int} (h : BoxA W b t k l) (i : Nat) (x : Int) : BoxA (W.setCell ⟨b, i, none⟩ (.int k x)) b t k (l.set i x) := by
  unfold BoxA at h ⊢
  rw [← ints_set]
  simp [World.setCell, Array.getElem?_modify, h]
theorem BoxA.far {W : World} {b : Nat} {t : TypeId} {k : IntKind} {l : List Int} (h : BoxA W b t k l) {b' : Nat} (hne : b ≠ b') (off : Nat) (sp : Option Nat) (u : Value) : BoxA (W.setCell ⟨b', off, sp⟩ u) b t k l := by
  unfold BoxA at h ⊢
  rw [← h]
  simp only [World.setCell, Array.getElem?_modify]
  rw [if_neg (by omega)]
theorem BoxA.new (w : World) (t : TypeId) (k : IntKind) (l : List Int) (cs : Array Value) (h : cs = ints k l) : BoxA (w.alloc (.cells cs t)) w.heap.size t k l := h ▸ heap_alloc_new w _
theorem BoxA.setRow {W : World} {b : Nat} {t : TypeId} {k : IntKind} {l l' : List Int} (h : BoxA W b t k l) : BoxA (W.setRow b (ints k l')) b t k l' := setRow_heap W b _ _ _ _ h
theorem BoxA.farRow {W : World} {b : Nat} {t : TypeId} {k : IntKind} {l : List Int} (h : BoxA W b t k l) {b' : Nat} (hne : b ≠ b') (cs : Array Value) : BoxA (W.setRow b' cs) b t k l := (setRow_other W b' b cs hne).trans h
theorem ints_one (k : IntKind) (l : List Int) : (ints k l).all (·.oneCell') = true := by
  rw [Array.all_eq_true_iff_forall_mem]
  intro x hx
  obtain ⟨y, _, rfl⟩ := List.mem_map.1 (by simpa [ints] using hx)
  rfl
theorem BoxA.load {P : Program} {W : World} {b : Nat} {t : TypeId} {k : IntKind} {l : List Int} (h : BoxA W b t k l) (n : Nat) (hn : l.length = n) :
    (loadCellsFrom ⟨b, 0, none⟩ 0 n #[]).run P W = .ok (ints k l) W := by
  subst hn
  have := run_loadCells_list (P := P) W ⟨b, 0, none⟩ (ints k l).toList (fun j v hv => by
    have hadd : (⟨b, 0, none⟩ : Addr).add j = ⟨b, j, none⟩ := by unfold Addr.add; split <;> simp_all
    rw [hadd, cell_of_row _ _ j _ t (0, 0) h]
    simpa using hv)
  simpa [loadCells, ints_size] using this
theorem BoxA.store {P : Program} {W : World} {b : Nat} {t : TypeId} {k : IntKind} {l : List Int} (h : BoxA W b t k l) (l' : List Int) (hl : l.length = l'.length) :
    (storeCells ⟨b, 0, none⟩ (ints k l').toList 0).run P W = .ok () (W.setRow b (ints k l')) := by
  have := run_storeCells_from (P := P) b t (ints k l').toList 0 (ints k l) W h (by simp [ints_size, hl]) (fun v hv => by
    have := Array.all_eq_true_iff_forall_mem.1 (ints_one k l') v (by simpa using hv)
    exact this)
  simpa using this
/-- A string of bytes as a value. -/
theorem bs_size (s : Bs) : (ByteArray.mk s.toArray).size = s.length := by show s.toArray.size = _; simp
theorem bs_index {P : Program} (s : Bs) (W : World) (t : TypeId) (h : P.underlying t = some .string) (k : IntKind) (i : Int) (n : Nat) (e : i = n) (hn : n < s.length) : (Instr.index t (.string ⟨s.toArray⟩) (.int k i)).run P W = .ok (.int .u8 (byt s n)) W := by
  subst e
  rw [run_index_string W t _ k _ h, dif_pos ⟨Int.natCast_nonneg n, by rw [bs_size]; omega⟩]
  have : (ByteArray.mk s.toArray)[(n : Int).toNat]'(by rw [bs_size]; omega) = s.getD n 0 := by
    show s.toArray[(n : Int).toNat]'_ = _
    simp [List.getElem?_eq_getElem hn]
  rw [this]; rfl
/-- Block g begins with a row of numbers. -/
def RowA (W : World) (g : Nat) (t : TypeId) (k : IntKind) (l : List Int) : Prop := ∃ cur, W.heap[g]? = some (.cells cur t (0, 0)) ∧ ∀ i (h : i < l.length), cur[i]? = some (.int k l[i])
theorem RowA.lt {W : World} {b : Nat} {t : TypeId} {k : IntKind} {l : List Int} (h : RowA W b t k l) : b < W.heap.size := by obtain ⟨_, h, _⟩ := h; exact (Array.getElem?_eq_some_iff.1 h).1
theorem RowA.next {W W' : World} {b : Nat} {t : TypeId} {k : IntKind} {l : List Int} (h : RowA W b t k l) (hB : Below W.heap.size W W') : RowA W' b t k l := by
  obtain ⟨cur, h1, h2⟩ := h
  exact ⟨cur, (hB.block b (Array.getElem?_eq_some_iff.1 h1).1).trans h1, h2⟩
theorem RowA.cell {W : World} {b : Nat} {t : TypeId} {k : IntKind} {l : List Int} (h : RowA W b t k l) {i : Nat} (hi : i < l.length) : W.cell? ⟨b, i, none⟩ = some (.int k l[i]) := by
  obtain ⟨cur, h1, h2⟩ := h
  exact (cell_of_row W b i _ _ _ h1).trans (h2 i hi)
theorem RowA.cellD {W : World} {b : Nat} {t : TypeId} {k : IntKind} {l : List Int} (h : RowA W b t k l) {i : Nat} (hi : i < l.length) : W.cell? ⟨b, i, none⟩ = some (.int k (l.getD i 0)) := by
  rw [h.cell hi, List.getD_eq_getElem?_getD, List.getElem?_eq_getElem hi]; rfl
theorem RowA.frozen {W : World} {b : Nat} {t : TypeId} {k : IntKind} {l : List Int} (h : RowA W b t k l) (i : Nat) : W.frozen? ⟨b, i, none⟩ = false := by
  obtain ⟨cur, h1, h2⟩ := h; simp [World.frozen?, h1]
theorem RowA.set {W : World} {b : Nat} {t : TypeId} {k : IntKind} {l : List Int} (h : RowA W b t k l) (i : Nat) (x : Int) : RowA (W.setCell ⟨b, i, none⟩ (.int k x)) b t k (l.set i x) := by
  obtain ⟨cur, h1, h2⟩ := h
  refine ⟨cur.setIfInBounds i (.int k x), by simp [World.setCell, Array.getElem?_modify, h1], fun j hj => ?_⟩
  have hj' : j < l.length := by simpa using hj
  have hc := h2 j hj'
  have hs := (Array.getElem?_eq_some_iff.1 hc).1
  rw [Array.getElem?_setIfInBounds, List.getElem_set]
  by_cases e : i = j
  · rw [if_pos e, if_pos (by omega), if_pos e]
  · rw [if_neg e, if_neg e]; exact hc
theorem RowA.far {W : World} {b : Nat} {t : TypeId} {k : IntKind} {l : List Int} (h : RowA W b t k l) {b' : Nat} (hne : b ≠ b') (off : Nat) (sp : Option Nat) (u : Value) : RowA (W.setCell ⟨b', off, sp⟩ u) b t k l := by
  obtain ⟨cur, h1, h2⟩ := h
  refine ⟨cur, ?_, h2⟩
  rw [← h1]
  simp only [World.setCell, Array.getElem?_modify]
  rw [if_neg (by omega)]
/-- A slice of a call's own that holds numbers is such a row. -/
theorem RowA.of_own {W : World} {base g n c : Nat} {t : TypeId} {k : IntKind} {l : List Int} (h : W.ownsRow base t 1 (.slice (some ⟨g, 0, none⟩) n c) n (l.map (Value.int k))) : RowA W g t k l ∧ base ≤ g ∧ l.length = n := by
  obtain ⟨h1, h2⟩ := h
  have hl : l.length = n := by simpa using h1
  rcases h2 with ⟨h2, _⟩ | ⟨g', cap, cur, e, hg, hh, hc, _, hs, ht⟩
  · cases h2
  · cases e
    refine ⟨⟨cur, hh, fun i hi => ?_⟩, hg, hl⟩
    have : (l.map (Value.int k))[i]? = some (.int k l[i]) := by simp [List.getElem?_eq_getElem hi]
    rw [← ht, List.getElem?_take, if_pos (by omega)] at this
    rw [← Array.getElem?_toList]; exact this
def numP (n : Int) : Nat → List Int
  | 0 => List.replicate 8 0
  | k + 1 => (numP n k).set k (n / 2 ^ (56 - 8 * k) % 256)
theorem numP_length (n : Int) (k : Nat) : (numP n k).length = 8 := by
  induction k with
  | zero => rfl
  | succ k ih => rw [numP, List.length_set, ih]
theorem byte_of (x : Int) : (((x % 256).toNat.toUInt8.toNat : Nat) : Int) = x % 256 := by
  rw [Nat.toUInt8_eq, UInt8.toNat_ofNat_of_lt' (by show _ < 256; omega)]; omega
theorem numP_8 (n : Int) : numP n 8 = (eightM n).map fun b => (b.toNat : Int) := by
  simp only [eightM, List.map_cons, List.map_nil, byte_of]; simp [numP, List.replicate]
theorem bytes_back (l : Bs) (W : World) (g c : Nat) (src dst e : TypeId) (hs : Try.prog.underlying src = some (.slice e)) (he : Try.prog.underlying e = some (.int .u8)) (hd : Try.prog.underlying dst = some .string)
    (hc : ∀ j (hj : j < l.length), W.cell? ⟨g, j, none⟩ = some (.int .u8 (l[j].toNat : Int))) (n : Nat) (hn : n = l.length) : (convert src dst (.slice (some ⟨g, 0, none⟩) n c)).run Try.prog W = .ok (.string ⟨l.toArray⟩) W := by
  subst hn
  refine run_convert_bytes_back W src dst e ⟨g, 0, none⟩ c l hs he hd fun j hj => ?_
  rw [Addr.add_mid, Nat.zero_add]; exact hc j hj
theorem infoU8 : (Try.prog.info? 5).map (fun i => (i.zero, i.size, i.bytes)) = some (some (.int .u8 0), 1, 1) := by kernel_rfl
def cellsB (h : Bs) : List Value := h.map fun b => Value.int .u8 (b.toNat : Int)
def cellsH (l : List Bs) : List Value := l.flatMap cellsB
abbrev hashV (h : Bs) : Value := .agg (cellsB h).toArray
/-- Hashes have 32 bytes. -/
def B64 (l : List Bs) : Prop := ∀ h ∈ l, h.length = 64
theorem B64.nil : B64 [] := fun _ h => by cases h
theorem B64.one {h : Bs} (hh : h.length = 64) : B64 [h] := fun x hx => by rw [List.mem_singleton.1 hx]; exact hh
theorem B64.app {l l' : List Bs} (h : B64 l) (h' : B64 l') : B64 (l ++ l') := fun x hx => (List.mem_append.1 hx).elim (h x) (h' x)
theorem B64.take {l : List Bs} (h : B64 l) (k : Nat) : B64 (l.take k) := fun x hx => h x (List.mem_of_mem_take hx)
theorem B64.drop {l : List Bs} (h : B64 l) (k : Nat) : B64 (l.drop k) := fun x hx => h x (List.mem_of_mem_drop hx)
theorem cellsB_length (h : Bs) : (cellsB h).length = h.length := by simp [cellsB]
theorem cellsB_inj {a b : Bs} (h : cellsB a = cellsB b) : a = b := by
  have : a.map UInt8.toNat = b.map UInt8.toNat := by
    have := congrArg (List.map fun v => match v with | Value.int _ n => n.toNat | _ => 0) h
    simpa [cellsB, Function.comp_def] using this
  exact (List.map_inj_right fun x y e => UInt8.toNat_inj.1 e).1 this
theorem cellsB_one (h : Bs) : ∀ v ∈ cellsB h, v.oneCell' = true := fun v hv => by
  obtain ⟨b, _, rfl⟩ := List.mem_map.1 hv; rfl
theorem cellsB_get {h : Bs} {i : Nat} (hi : i < h.length) : (cellsB h)[i]? = some (.int .u8 ((h[i]).toNat : Int)) := by simp [cellsB, List.getElem?_eq_getElem hi]
theorem cellsH_nil : cellsH [] = [] := rfl
theorem cellsH_cons (x : Bs) (l : List Bs) : cellsH (x :: l) = cellsB x ++ cellsH l := by simp [cellsH]
theorem cellsH_append (a b : List Bs) : cellsH (a ++ b) = cellsH a ++ cellsH b := by simp [cellsH]
theorem cellsH_one (l : List Bs) : ∀ v ∈ cellsH l, v.oneCell' = true := fun v hv => by
  obtain ⟨h, _, hv⟩ := List.mem_flatMap.1 hv; exact cellsB_one h v hv
theorem cellsH_length {l : List Bs} (h : B64 l) : (cellsH l).length = l.length * 64 := by
  induction l with
  | nil => rfl
  | cons x l ih =>
    rw [cellsH_cons, List.length_append, cellsB_length, h x (by simp), ih fun y hy => h y (by simp [hy]), List.length_cons]; omega
theorem cellsH_drop {l : List Bs} (h : B64 l) (k : Nat) : (cellsH l).drop (k * 64) = cellsH (l.drop k) := by
  induction l generalizing k with
  | nil => simp [cellsH_nil]
  | cons x l ih =>
    cases k with
    | zero => simp
    | succ k =>
      rw [cellsH_cons, List.drop_append, List.drop_eq_nil_of_le (by rw [cellsB_length, h x (by simp)]; omega), List.nil_append, cellsB_length, h x (by simp), show (k + 1) * 64 - 64 = k * 64 from by omega, ih (fun y hy => h y (by simp [hy])), List.drop_succ_cons]
theorem cellsH_take {l : List Bs} (h : B64 l) (k : Nat) : (cellsH l).take (k * 64) = cellsH (l.take k) := by
  induction l generalizing k with
  | nil => simp [cellsH_nil]
  | cons x l ih =>
    cases k with
    | zero => simp [cellsH_nil]
    | succ k =>
      rw [cellsH_cons, List.take_append, List.take_of_length_le (by rw [cellsB_length, h x (by simp)]; omega), cellsB_length, h x (by simp), show (k + 1) * 64 - 64 = k * 64 from by omega, ih (fun y hy => h y (by simp [hy])), List.take_succ_cons, cellsH_cons]
theorem cellsH_at {l : List Bs} (h : B64 l) {i : Nat} (hi : i < l.length) {j : Nat} {u : Value} (hu : (cellsB l[i])[j]? = some u) : (cellsH l)[i * 64 + j]? = some u := by
  rw [← List.getElem?_drop, cellsH_drop h, List.drop_eq_getElem_cons hi, cellsH_cons, List.getElem?_append_left (List.getElem?_eq_some_iff.1 hu).1]; exact hu
/-- The hashes l lie at A. -/
def Hs (w : World) (A : Option Addr) (l : List Bs) : Prop := B64 l ∧ (l = [] ∨ ∃ a, A = some a ∧ ∀ j u, (cellsH l)[j]? = some u → w.cell? (a.add j) = some u)
theorem Hs.next {w w' : World} {A : Option Addr} {l : List Bs} (h : Hs w A l) (hB : Below w.heap.size w w') : Hs w' A l := by
  obtain ⟨h0, h | ⟨a, e, h⟩⟩ := h
  · exact ⟨h0, .inl h⟩
  · exact ⟨h0, .inr ⟨a, e, fun j u hu => cell_kept hB (h j u hu)⟩⟩
theorem Hs.nil (w : World) (A : Option Addr) : Hs w A [] := ⟨B64.nil, .inl rfl⟩
theorem Hs.block {w : World} {a : Addr} {l : List Bs} (h : Hs w (some a) l) (hl : l ≠ []) : a.block < w.heap.size := by
  obtain ⟨h0, h | ⟨a', e, h⟩⟩ := h
  · exact absurd h hl
  · cases e
    have hp : 0 < l.length := List.length_pos_iff.2 hl
    have := h 0 _ (List.getElem?_eq_getElem (by rw [cellsH_length h0]; omega))
    exact block_lt_of_cell (show w.cell? a = _ from this)
theorem add_add (a : Addr) (i j : Nat) : (a.add i).add j = a.add (i + j) := by
  unfold Addr.add
  by_cases hi : i = 0
  · subst hi; simp
  · by_cases hj : j = 0
    · subst hj; simp [hi]
    · simp [hi, hj]; omega
/-- The hashes at the positions from i to j - 1. -/
theorem Hs.cut {w : World} {A : Option Addr} {l : List Bs} (h : Hs w A l) {c : Nat} (hlc : l.length ≤ c) (i j : Nat) (hij : i ≤ j) (hj : j ≤ l.length) : Hs w (if c = i then A else A.map (·.add (i * 64))) ((l.drop i).take (j - i)) := by
  obtain ⟨h0, h | ⟨a, rfl, h⟩⟩ := h
  · subst h
    exact ⟨by simpa using B64.nil, .inl (by simp)⟩
  · refine ⟨(h0.drop i).take _, ?_⟩
    by_cases hc : c = i
    · exact .inl (List.eq_nil_of_length_eq_zero (by rw [List.length_take, List.length_drop]; omega))
    · rw [if_neg hc]
      refine .inr ⟨a.add (i * 64), rfl, fun k u hu => ?_⟩
      rw [add_add]
      refine h _ _ ?_
      rw [← cellsH_take (h0.drop i), List.getElem?_take] at hu
      split at hu
      · rw [← cellsH_drop h0, List.getElem?_drop] at hu; exact hu
      · cases hu
/-- A whole array is loaded from wherever its cells lie. -/
theorem run_loadAt_list {P : Program} (w : World) (a : Addr) (ty : TypeId) (cs : List Value) (n : Nat) (e : TypeId) (hc : ∀ j v, cs[j]? = some v → w.cell? (a.add j) = some v)
    (hu : P.underlying ty = some (.array n e)) (hi : (P.info? ty).map (·.size) = some cs.length) :
    (Instr.loadAt ty (.pointer (some a))).run P w = .ok (.agg cs.toArray) w := by
  have hl : (loadCells a cs.length).run P w = .ok cs.toArray w := run_loadCells_list (P := P) w a cs hc
  cases hq : P.info? ty with
  | none => simp [hq] at hi
  | some i =>
    have hs : i.size = cs.length := by simpa [hq] using hi
    have hagg : (isAgg ty).run P w = .ok true w := by
      unfold isAgg
      rw [Sem.run_bind, run_underlying hu w]
      simp
    simp only [Instr.loadAt, Instr.sureAddr, Sem.run_bind, Sem.run_pure, Result.andThen_ok]
    simp [loadVar, Sem.run_bind, hagg, sizeOf, typeInfo, hq, hs, hl]
theorem Hs.load {P : Program} {w : World} {a : Addr} {l : List Bs} (h : Hs w (some a) l) {i : Nat} (hi : i < l.length) (ty : TypeId) (n : Nat) (e : TypeId)
    (hu : P.underlying ty = some (.array n e)) (hz : (P.info? ty).map (·.size) = some 64) : (Instr.loadAt ty (.pointer (some (a.add (i * 64))))).run P w = .ok (hashV l[i]) w := by
  obtain ⟨h0, h | ⟨a', e', h⟩⟩ := h
  · rw [h] at hi; simp at hi
  · cases e'
    refine run_loadAt_list w _ ty (cellsB l[i]) n e (fun j v hv => ?_) hu (by rw [cellsB_length, h0 _ (List.getElem_mem hi)]; exact hz)
    rw [add_add]
    exact h _ _ (cellsH_at h0 hi hv)
/-- A slice of hashes that lies in a block from base on. -/
def OwnHs (w : World) (base : Nat) (v : Value) (l : List Bs) : Prop := B64 l ∧ w.ownsRow base 95 64 v l.length (cellsH l)
theorem OwnHs.toHs {w : World} {base : Nat} {v : Value} {l : List Bs} (h : OwnHs w base v l) : ∃ A c, v = .slice A l.length c ∧ l.length ≤ c ∧ Hs w A l := by
  obtain ⟨h0, h1, h2⟩ := h
  rcases h2 with ⟨h2, h3⟩ | ⟨g, cap, cur, e, hg, hh, hc, _, hs, ht⟩
  · have : l = [] := List.eq_nil_of_length_eq_zero h3
    subst this
    exact ⟨none, 0, h2, Nat.le_refl _, Hs.nil _ _⟩
  · refine ⟨some ⟨g, 0, none⟩, cap, e, hc, h0, .inr ⟨_, rfl, fun j u hu => ?_⟩⟩
    rw [← ht, List.getElem?_take] at hu
    split at hu
    · rw [Addr.add_mid, Nat.zero_add, cell_of_row w g j cur _ _ hh, ← Array.getElem?_toList]; exact hu
    · cases hu
theorem OwnHs.next {w w' : World} {base : Nat} {v : Value} {l : List Bs} (h : OwnHs w base v l) (hB : Below w.heap.size w w') : OwnHs w' base v l := by
  obtain ⟨h0, h1, h2⟩ := h
  refine ⟨h0, h1, ?_⟩
  rcases h2 with h2 | ⟨g, cap, cur, e, hg, hh, r⟩
  · exact .inl h2
  · exact .inr ⟨g, cap, cur, e, hg, (hB.block g (Array.getElem?_eq_some_iff.1 hh).1).trans hh, r⟩
theorem BoxA.loadAt {P : Program} {W : World} {b : Nat} {t : TypeId} {k : IntKind} {l : List Int} (h : BoxA W b t k l) (ty : TypeId) (n : Nat) (e : TypeId) (hu : P.underlying ty = some (.array n e)) (hi : (P.info? ty).map (·.size) = some l.length) :
    (Instr.loadAt ty (.pointer (some ⟨b, 0, none⟩))).run P W = .ok (.agg (ints k l)) W := by
  refine run_loadAt_list W ⟨b, 0, none⟩ ty (l.map (Value.int k)) n e (fun j v hj => ?_) hu (by simpa using hi)
  rw [Addr.add_mid, Nat.zero_add]
  have hj' : j < l.length := by have := (List.getElem?_eq_some_iff.1 hj).1; simpa using this
  rw [h.cell hj']
  rw [List.getElem?_map, List.getElem?_eq_getElem hj'] at hj
  exact hj
theorem s_add {P : Program} (a b : Bs) (W : World) (h : a.length + b.length ≤ 1000000) : (Op.stringOp .add ⟨a.toArray⟩ ⟨b.toArray⟩).run P W = .ok (.string ⟨(a ++ b).toArray⟩) W := by
  rw [run_string_add_sum _ _ _ (by rw [bs_size, bs_size]; omega)]
  congr 2
theorem s_cut {P : Program} (t : TypeId) (ht : P.underlying t = some .string) (s : Bs) (W : World) (k k' : IntKind) (i j : Int) (i' j' : Nat) (hi : i = i') (hj : j = j') (h : i' ≤ j') (h2 : j' ≤ s.length) :
    (Instr.slice t (.string ⟨s.toArray⟩) (some (.int k i)) (some (.int k' j)) none).run P W = .ok (.string ⟨((s.drop i').take (j' - i')).toArray⟩) W := by
  subst hi hj
  rw [run_slice_string_if W t _ k k' _ _ ht, if_pos ⟨by omega, by rw [bs_size]; omega⟩, if_pos ⟨by omega, by omega⟩, ByteArray.extract_mk]
  simp
theorem s_from {P : Program} (t : TypeId) (ht : P.underlying t = some .string) (s : Bs) (W : World) (k : IntKind) (i : Int) (i' : Nat) (hi : i = i') (h : i' ≤ s.length) :
    (Instr.slice t (.string ⟨s.toArray⟩) (some (.int k i)) none none).run P W = .ok (.string ⟨(s.drop i').toArray⟩) W := by
  subst hi
  rw [run_slice_string_from_if W t _ k _ ht, if_pos ⟨by omega, by rw [bs_size]; omega⟩, ByteArray.extract_mk, bs_size]
  rw [List.take_of_length_le (by rw [List.length_drop]; omega)]; simp
def nums (h : Bs) : List Int := h.map fun b => (b.toNat : Int)
theorem nums_length (h : Bs) : (nums h).length = h.length := by simp [nums]
theorem ints_nums (h : Bs) : ints .u8 (nums h) = (cellsB h).toArray := by simp [ints, nums, cellsB, Function.comp_def]
theorem hashV_eq (h : Bs) : hashV h = .agg (ints .u8 (nums h)) := by rw [ints_nums]
/-- Block b is a variable that holds a hash. -/
abbrev BoxH (W : World) (b : Nat) (h : Bs) : Prop := BoxA W b 95 .u8 (nums h)
theorem BoxH.cellB {W : World} {b : Nat} {h : Bs} (H : BoxH W b h) (j : Nat) (hj : j < h.length) : W.cell? ⟨b, j, none⟩ = some (.int .u8 (h[j].toNat : Int)) := by
  have := H.cell (i := j) (by rw [nums_length]; exact hj)
  rw [this]; simp [nums]
theorem BoxH.text {W : World} {b : Nat} {h : Bs} (H : BoxH W b h) (hl : h.length = 64) (c : Nat) : (convert 119 9 (.slice (some ⟨b, 0, none⟩) 64 c)).run Try.prog W = .ok (.string ⟨h.toArray⟩) W :=
  bytes_back h W b c _ _ 5 (by kernel_rfl) (by kernel_rfl) (by kernel_rfl) (fun j hj => H.cellB j hj) 64 hl.symm
section
variable {ops : Array Oper} {rest : List Oper} {o : Oper} {a : Act} {w : World} {Q : Exit → Act → World → Prop}
theorem szHash : (Try.prog.info? 95).map (·.size) = some 64 := by kernel_rfl
theorem wpList_storeH (hgd : o.guard = none) (x y : Operand) (ho : o.op = .store 95 x y) (g : Nat) (h : Bs) (hx : a.eval x = .pointer (some ⟨g, 0, none⟩)) (hy : a.eval y = hashV h)
    {l : List Int} (hg : BoxA w g 95 .u8 l) (hl : l.length = 64) (hh : h.length = 64) (K : wpList Try.prog ops Q rest (a.put o.dst undef) (w.setRow g (ints .u8 (nums h)))) : wpList Try.prog ops Q (o :: rest) a w :=
  wpList_store_row hgd 95 x y ho g (ints .u8 (nums h)) hx (by rw [hy, hashV_eq]) 95 _ hg (by rw [ints_size, nums_length, hh]; exact szHash) (by rw [ints_size, ints_size, nums_length, hl, hh]) (ints_one _ _) K
theorem wpList_loadH (hgd : o.guard = none) (x : Operand) (ho : o.op = .load 95 x) (g : Nat) (h : Bs) (hx : a.eval x = .pointer (some ⟨g, 0, none⟩)) (hg : BoxH w g h) (hh : h.length = 64)
    (K : wpList Try.prog ops Q rest (a.put o.dst (hashV h)) w) : wpList Try.prog ops Q (o :: rest) a w :=
  wpList_load_row hgd 95 x ho g hx 95 (ints .u8 (nums h)) (0, 0) (.array 64 5) hg (by kernel_rfl) rfl (by rw [ints_size, nums_length, hh]; exact szHash) (by rw [← hashV_eq]; exact K)
theorem wpList_load_at {P : Program} (hgd : o.guard = none) (ty : TypeId) (x : Operand) (ho : o.op = .load ty x) (v : Value) (hr : (Instr.loadAt ty (a.eval x)).run P w = .ok v w)
    (K : wpList P ops Q rest (a.put o.dst v) w) : wpList P ops Q (o :: rest) a w := by
  refine wpList_plain hgd fun _ hK => ?_
  unfold Oper.wp
  simp [execOp, ho, hr, Result.andThen]
  exact hK _ _ K
theorem results_hash {fn : Func} {p : Tmp} (hf : fn.results = #[.cell p 95]) (tmps : Array Value) (g : Nat) (h : Bs) (hp : tmps.getD p undef = .pointer (some ⟨g, 0, none⟩)) (hg : BoxH w g h) (hh : h.length = 64) :
    (results fn tmps).run Try.prog w = .ok (hashV h) w := by
  rw [hashV_eq]
  exact results_cell_row hf tmps w g 95 (ints .u8 (nums h)) (0, 0) (.array 64 5) hp hg (by kernel_rfl) rfl (by rw [ints_size, nums_length, hh]; exact szHash)
end
theorem BoxH.new (w : World) (h : Bs) : BoxH (w.alloc (.cells (cellsB h).toArray 95)) w.heap.size h := BoxA.new w _ _ _ _ (ints_nums h).symm
abbrev zero64 : Value := .agg (ints .u8 (List.replicate 64 0))
def Strs (w : World) (A : Option Addr) (l : List Bs) : Prop := l = [] ∨ ∃ a, A = some a ∧ ∀ i u, (l.map (fun s : Bs => Value.string ⟨s.toArray⟩))[i]? = some u → w.cell? (a.add i) = some u
theorem Strs.next {w w' : World} {A : Option Addr} {l : List Bs} (h : Strs w A l) (hB : Below w.heap.size w w') : Strs w' A l := by
  rcases h with h | ⟨a, e, h⟩
  · exact .inl h
  · exact .inr ⟨a, e, fun i u hu => cell_kept hB (h i u hu)⟩
theorem Strs.cell {w : World} {a : Addr} {l : List Bs} (h : Strs w (some a) l) {i : Nat} (hi : i < l.length) : w.cell? (a.add i) = some (.string ⟨l[i].toArray⟩) := by
  rcases h with h | ⟨a', e, h⟩
  · rw [h] at hi; simp at hi
  · cases e
    exact h i _ (by rw [List.getElem?_map, List.getElem?_eq_getElem hi]; rfl)
theorem elemS : Try.prog.underlying 22 = some (.slice (Try.prog.elem 22)) := by kernel_rfl
theorem sizeS (W : World) : (sizeOf (Try.prog.elem 22)).run Try.prog W = .ok 1 W := by kernel_rfl
theorem exec_indexS {ev : Operand → Value} {o : Oper} {W : World} {x y : Operand} {a : Addr} {n c i : Nat} (ho : o.op = .indexAddr 22 x y) (hx : ev x = .slice (some a) n c) (hy : ev y = .int .i64 (i : Int)) (hi : i < n) :
    (execOp ev o).run Try.prog W = .ok (.value (.pointer (some (a.add i)))) W := by
  have h := run_indexAt_slice (P := Try.prog) W 22 a n c .i64 (i : Int) elemS
  rw [if_pos (by omega), sizeS, Int.toNat_natCast] at h
  simp [execOp, ho, hx, hy, h]
theorem below_own {base : Nat} {W W' : World} {v : Value} {t : TypeId} {s n : Nat} {xs : List Value} (ho : W.ownsRow base t s v n xs) (hg : W.grownBy W' v.ownBlock) (hs : base ≤ W.heap.size) : Below base W W' := by
  refine ⟨hg.os, hg.tape, hg.output, hg.size, fun i hi => hg.block i (Nat.lt_of_lt_of_le hi hs) ?_⟩
  rcases ho.2 with ⟨e, _⟩ | ⟨g, cap, cur, e, hb, _⟩
  · rw [e]; simp [Value.ownBlock]
  · rw [e]; simp only [Value.ownBlock]; intro c; simp only [Option.some.injEq] at c; omega
def cellsT (l : List Bs) : List Value := l.map fun s => Value.string ⟨s.toArray⟩
theorem cellsT_length (l : List Bs) : (cellsT l).length = l.length := List.length_map _
theorem cellsT_one (l : List Bs) : ∀ u ∈ cellsT l, u.oneCell' = true := fun u hu => by
  obtain ⟨x, _, rfl⟩ := List.mem_map.1 hu; rfl
def OwnStrs (w : World) (base : Nat) (v : Value) (l : List Bs) : Prop := w.ownsRow base 9 1 v l.length (cellsT l)
theorem OwnStrs.toStrs {w : World} {base : Nat} {v : Value} {l : List Bs} (h : OwnStrs w base v l) : ∃ A c, v = .slice A l.length c ∧ l.length ≤ c ∧ Strs w A l := by
  obtain ⟨h1, h2⟩ := h
  rcases h2 with ⟨h2, h3⟩ | ⟨g, cap, cur, e, hg, hh, hc, _, hs, ht⟩
  · have : l = [] := List.eq_nil_of_length_eq_zero h3
    subst this
    exact ⟨none, 0, h2, Nat.le_refl _, .inl rfl⟩
  · refine ⟨some ⟨g, 0, none⟩, cap, e, hc, .inr ⟨_, rfl, fun j u hu => ?_⟩⟩
    change (cellsT l)[j]? = some u at hu
    rw [← ht, List.getElem?_take] at hu
    split at hu
    · rw [Addr.add_mid, Nat.zero_add, cell_of_row w g j cur _ _ hh, ← Array.getElem?_toList]; exact hu
    · cases hu
theorem OwnStrs.next {w w' : World} {base : Nat} {v : Value} {l : List Bs} (h : OwnStrs w base v l) (hB : Below w.heap.size w w') : OwnStrs w' base v l := by
  obtain ⟨h1, h2⟩ := h
  refine ⟨h1, ?_⟩
  rcases h2 with h2 | ⟨g, cap, cur, e, hg, hh, r⟩
  · exact .inl h2
  · exact .inr ⟨g, cap, cur, e, hg, (hB.block g (Array.getElem?_eq_some_iff.1 hh).1).trans hh, r⟩
theorem OwnStrs.empty (w : World) : OwnStrs (w.alloc (.cells #[] 9)) w.heap.size (.slice (some ⟨w.heap.size, 0, none⟩) 0 0) [] :=
  ⟨rfl, .inr ⟨w.heap.size, 0, #[], rfl, Nat.le_refl _, heap_alloc_new w _, Nat.le_refl _, Nat.zero_le _, rfl, rfl⟩⟩
theorem OwnStrs.none (w : World) (base : Nat) : OwnStrs w base (.slice none 0 0) [] := World.ownsRow_nil _ _ _ _
theorem infoStr : (Try.prog.info? 9).map (fun i => (i.zero, i.size, i.bytes)) = some (some (.string ⟨#[]⟩), 1, 16) := by kernel_rfl
theorem run_append_strs (base : Nat) (w : World) (v : Value) (H l : List Bs) (ty : TypeId) (A : Option Addr) (c : Nat) (hO : OwnStrs w base v H) (hS : Strs w A l) (hA : (∃ a, A = some a) ∨ (A = none ∧ c = 0)) (h1 : H.length ≤ 100000) (h2 : l.length ≤ 100000) (hb : base ≤ w.heap.size) :
    ∃ v' w', (Builtin.append_ #[22, 22] ty #[v, .slice A l.length c]).run Try.prog w = .ok v' w' ∧ OwnStrs w' base v' (H ++ l) ∧ Below base w w' := by
  obtain ⟨i0, hi0, hz0, hz1, hz2⟩ := info_parts infoStr
  by_cases hA0 : A = none
  · subst hA0
    obtain rfl : c = 0 := by
      rcases hA with ⟨a, e⟩ | ⟨_, e⟩
      · cases e
      · exact e
    obtain rfl : l = [] := by
      rcases hS with h | ⟨a, e, _⟩
      · exact h
      · cases e
    exact ⟨v, w, run_append_owned_none (P := Try.prog) (w := w) base 22 ty 9 i0 1 (by kernel_rfl) hi0 v H.length (cellsT H) hO, by rw [List.append_nil]; exact hO, Below.refl _ _⟩
  obtain ⟨a, rfl⟩ : ∃ a, A = some a := by
    rcases hA with h | ⟨e, _⟩
    · exact h
    · exact absurd e hA0
  have hcell : ∀ j u, (cellsT l)[j]? = some u → w.cell? (a.add j) = some u := by
    rcases hS with h | ⟨a', ea, h⟩
    · intro j u hu; rw [h] at hu; simp [cellsT] at hu
    · cases ea; exact h
  obtain ⟨v', w', hr, r1, r2, _⟩ := run_append_own (P := Try.prog) (w := w) base 22 ty 9 i0 (.string ⟨#[]⟩) 1 16 (by kernel_rfl) hi0 hz0 hz1 hz2 rfl (by decide) v H.length (cellsT H) hO a l.length c (cellsT l) (by rw [cellsT_length, Nat.mul_one]) hcell (cellsT_one l) (by unfold maxLen; omega) (by omega) hb
  refine ⟨v', w', hr, ?_, below_own hO r2 hb⟩
  unfold OwnStrs
  rw [List.length_append, show cellsT (H ++ l) = cellsT H ++ cellsT l from List.map_append]
  exact r1
theorem exec_append_strs {ev : Operand → Value} {o : Oper} (s x : Operand) (ho : o.op = .call { callee := .builtin .append, args := #[s, x], argTypes := #[22, 22] }) (base : Nat) (w : World) (v : Value) (H l : List Bs) (A : Option Addr) (n c : Nat)
    (hs : ev s = v) (hx : ev x = .slice A n c) (hn : l.length = n) (hO : OwnStrs w base v H) (hS : Strs w A l) (hA : (∃ a, A = some a) ∨ (A = none ∧ c = 0)) (h1 : H.length ≤ 100000) (h2 : l.length ≤ 100000) (hb : base ≤ w.heap.size) :
    ∃ v' w', (execOp ev o).run Try.prog w = .ok (.value v') w' ∧ OwnStrs w' base v' (H ++ l) ∧ Below base w w' := by
  subst hn
  obtain ⟨v', w', hr, h3, h4⟩ := run_append_strs base w v H l o.type A c hO hS hA h1 h2 hb
  refine ⟨v', w', ?_, h3, h4⟩
  unfold execOp
  simp only [ho, resolve, invoke, builtin, Sem.run_bind, Sem.run_pure, Result.andThen_ok, List.map_toArray, List.map_cons, List.map_nil, hs, hx, hr]
theorem wpList_append_strs {ops : Array Oper} {rest : List Oper} {o : Oper} {a : Act} {w : World} {Q : Exit → Act → World → Prop} (hgd : o.guard = none) (s x : Operand) (ho : o.op = .call { callee := .builtin .append, args := #[s, x], argTypes := #[22, 22] }) (base : Nat) (v : Value) (H l : List Bs) (A : Option Addr) (n c : Nat)
    (hs : a.eval s = v) (hx : a.eval x = .slice A n c) (hn : l.length = n) (hO : OwnStrs w base v H) (hS : Strs w A l) (hA : (∃ a, A = some a) ∨ (A = none ∧ c = 0)) (h1 : H.length ≤ 100000) (h2 : l.length ≤ 100000) (hb : base ≤ w.heap.size)
    (K : ∀ v' w', OwnStrs w' base v' (H ++ l) → Below base w w' → wpList Try.prog ops Q rest (a.put o.dst v') w') : wpList Try.prog ops Q (o :: rest) a w := by
  obtain ⟨v', w', hr, h3, h4⟩ := exec_append_strs (ev := a.eval) s x ho base w v H l A n c hs hx hn hO hS hA h1 h2 hb
  refine wpList_plain hgd fun _ hK => ?_
  unfold Oper.wp
  rw [hr]
  exact hK _ _ (K v' w' h3 h4)
theorem Strs.take {w : World} {A : Option Addr} {l : List Bs} (h : Strs w A l) (k : Nat) : Strs w A (l.take k) := by
  rcases h with h | ⟨a, e, h⟩
  · left; rw [h, List.take_nil]
  · refine .inr ⟨a, e, fun i u hu => h i u ?_⟩
    rw [List.map_take, List.getElem?_take] at hu
    split at hu
    · exact hu
    · cases hu
theorem Strs.drop {w : World} {a : Addr} {l : List Bs} (h : Strs w (some a) l) (k : Nat) : Strs w (some (a.add k)) (l.drop k) := by
  rcases h with h | ⟨a', e, h⟩
  · left; rw [h, List.drop_nil]
  · cases e
    refine .inr ⟨_, rfl, fun i u hu => ?_⟩
    rw [List.map_drop, List.getElem?_drop] at hu
    rw [add_add]
    exact h _ u hu
def cutS (A : Option Addr) (c i : Nat) : Option Addr := if c = i then A else A.map (·.add (i * 1))
theorem Strs.from_ {w : World} {A : Option Addr} {l : List Bs} (h : Strs w A l) (k c : Nat) (hc : l.length ≤ c) : Strs w (cutS A c k) (l.drop k) := by
  unfold cutS
  split
  · rename_i e
    left
    exact List.drop_of_length_le (by omega)
  · rw [Nat.mul_one]
    cases A with
    | none =>
      rcases h with h | ⟨a, e, _⟩
      · left; rw [h, List.drop_nil]
      · cases e
    | some a => exact h.drop k
theorem exec_sliceS_to {ev : Operand → Value} {o : Oper} {W : World} {x y : Operand} {A : Option Addr} {n c k : Nat} (ho : o.op = .slice 22 x none (some y) none) (hx : ev x = .slice A n c) (hy : ev y = .int .i64 (k : Int)) (hk : k ≤ c) :
    (execOp ev o).run Try.prog W = .ok (.value (.slice A k c)) W := by
  have e : (Instr.slice 22 (.slice A n c) none (some (.int .i64 k)) none).run Try.prog W = .ok (.slice A k c) W := by
    rw [run_slice_h W _ A n c elemS .i64 k (by omega) (by omega), sizeS]
    simp only [Result.andThen, sliced, Int.toNat_natCast, Nat.zero_mul, Nat.sub_zero]
    have : A.map (·.add 0) = A := by cases A <;> simp [Addr.add]
    rw [this]; split <;> rfl
  rw [← run_sliceAt_slice W _ _ _ _ _ elemS] at e
  simp [execOp, ho, hx, hy, e]
theorem exec_sliceS_from {ev : Operand → Value} {o : Oper} {W : World} {x y : Operand} {A : Option Addr} {n c k : Nat} (ho : o.op = .slice 22 x (some y) none none) (hx : ev x = .slice A n c) (hy : ev y = .int .i64 (k : Int)) (hk : k ≤ n) :
    (execOp ev o).run Try.prog W = .ok (.value (.slice (cutS A c k) (n - k) (c - k))) W := by
  have e : (Instr.slice 22 (.slice A n c) (some (.int .i64 k)) none none).run Try.prog W = .ok (.slice (cutS A c k) (n - k) (c - k)) W := by
    rw [run_slice_l W _ A n c elemS .i64 k (by omega) (by omega), sizeS]; rfl
  rw [← run_sliceAt_slice W _ _ _ _ _ elemS] at e
  simp [execOp, ho, hx, hy, e]
theorem OwnStrs.mono {w : World} {base base' : Nat} {v : Value} {l : List Bs} (h : OwnStrs w base v l) (hb : base' ≤ base) : OwnStrs w base' v l := by
  obtain ⟨h1, h2⟩ := h
  refine ⟨h1, ?_⟩
  rcases h2 with h2 | ⟨g, cap, cur, e, hg, r⟩
  · exact .inl h2
  · exact .inr ⟨g, cap, cur, e, by omega, r⟩
theorem OwnStrs.one (w : World) (base : Nat) (x : Bs) (hb : base ≤ w.heap.size) : OwnStrs (w.alloc (.cells #[.string ⟨x.toArray⟩] 9)) base (.slice (some ⟨w.heap.size, 0, Option.none⟩) 1 1) [x] :=
  ⟨rfl, .inr ⟨w.heap.size, 1, #[.string ⟨x.toArray⟩], rfl, hb, heap_alloc_new w _, Nat.le_refl _, by unfold maxLen; decide, rfl, rfl⟩⟩
theorem OwnStrs.slice {w : World} {base : Nat} {v : Value} {l : List Bs} (h : OwnStrs w base v l) : ∃ A c, v = .slice A l.length c ∧ Strs w A l ∧ ((∃ a, A = some a) ∨ (A = Option.none ∧ c = 0)) := by
  obtain ⟨A, c, e, hc, hS⟩ := h.toStrs
  refine ⟨A, c, e, hS, ?_⟩
  rcases h.2 with ⟨h2, h3⟩ | ⟨g, cap, cur, e', _⟩
  · rw [h2] at e
    simp only [Value.slice.injEq] at e
    exact .inr ⟨e.1.symm, e.2.2.symm⟩
  · rw [e'] at e
    simp only [Value.slice.injEq] at e
    exact .inl ⟨_, e.1.symm⟩
theorem wp_append_strs {o : Oper} {a : Act} {w : World} {K : Act → World → Prop} {Q : Exit → Act → World → Prop} (s x : Operand) (ho : o.op = .call { callee := .builtin .append, args := #[s, x], argTypes := #[22, 22] }) (base base2 : Nat) (v v2 : Value) (H l : List Bs)
    (hs : a.eval s = v) (hx : a.eval x = v2) (hO : OwnStrs w base v H) (hO2 : OwnStrs w base2 v2 l) (h1 : H.length ≤ 100000) (h2 : l.length ≤ 100000) (hb : base ≤ w.heap.size)
    (hK : ∀ v' w', OwnStrs w' base v' (H ++ l) → Below base w w' → K (a.put o.dst v') w') : o.wp Try.prog a w K Q := by
  obtain ⟨A, c, rfl, hS, hA⟩ := hO2.slice
  obtain ⟨v', w', hr, h3, h4⟩ := exec_append_strs (ev := a.eval) s x ho base w v H l A l.length c hs hx rfl hO hS hA h1 h2 hb
  exact wp_yields hr (hK v' w' h3 h4)
theorem infoHash : (Try.prog.info? 95).map (fun i => (i.zero, i.size, i.bytes)) = some (some zero64  , 64, 64) := by kernel_rfl
theorem zero64_size : zero64.cells.size = 64 := by decide +kernel
theorem fold_put : ∀ (l : List Value) (k : Nat) (cs : Array Value), k + l.length ≤ cs.size → (l.zipIdx k).foldl (fun cs x => cs.setIfInBounds (0 + x.2) x.1) cs = (cs.toList.take k ++ l ++ cs.toList.drop (k + l.length)).toArray := by
  intro l
  induction l with
  | nil => intro k cs _; simp
  | cons v l ih =>
    intro k cs h
    have e := list_seg_step cs.toList k v l (by simp at h ⊢; omega)
    rw [List.zipIdx_cons, List.foldl_cons, Nat.zero_add, ih (k + 1) _ (by simp at h ⊢; omega)]
    congr 1
    simpa [Array.toList_setIfInBounds, Nat.add_assoc] using e
theorem fillH (x : Bs) (hx : x.length = 64) (ie : TypeInfo) (hi : Try.prog.info? 95 = some ie) (z : Value) (hz : ie.zero = some z) :
    Instr.fill (fun i => some (i * ie.size, ie.size)) ((Array.range (1 * ie.size)).map (z.cells[· % z.cells.size]!)) [(0, hashV x)] = some (cellsB x).toArray := by
  obtain ⟨i0, hi0, hz0, hz1, hz2⟩ := info_parts infoHash
  rw [hi0] at hi
  obtain rfl := Option.some.inj hi
  rw [hz1]
  have hl : (cellsB x).length = 64 := by rw [cellsB_length, hx]
  have hz : ((Array.range (1 * 64)).map (z.cells[· % z.cells.size]!)).size = 64 := by simp
  generalize (Array.range (1 * 64)).map (z.cells[· % z.cells.size]!) = cs at *
  have hc : (hashV x).cells = (cellsB x).toArray := rfl
  simp only [Instr.fill, hc, List.size_toArray, hl, hz]
  simp only [ne_eq, not_true_eq_false, decide_false, Bool.false_or, Nat.zero_mul, Nat.zero_add, gt_iff_lt, Nat.lt_irrefl, if_false, Bool.false_eq_true]
  have := fold_put (cellsB x) 0 cs (by omega)
  simp only [Nat.zero_add, List.take_zero, List.nil_append] at this
  rw [List.drop_of_length_le (by simp; omega), List.append_nil] at this
  refine Eq.trans ?_ (congrArg some this)
  simp [-Array.foldl_toList]

theorem run_buildHash (x : Bs) (hx : x.length = 64) (w : World) : (Instr.buildSlice 96 1 #[(0, hashV x)]).run Try.prog w = .ok (.slice (some ⟨w.heap.size, 0, none⟩) 1 1) (w.alloc (.cells (cellsB x).toArray 95)) := by
  obtain ⟨i0, hi0, hz0, hz1, hz2⟩ := info_parts infoHash
  exact run_buildSlice w 96 95 1 #[(0, hashV x)] (cellsB x).toArray i0 zero64 (by kernel_rfl) hi0 hz0 (by rw [hz1]; decide) (by rw [hz1]; decide) (fillH x hx i0 hi0 _ hz0)
theorem exec_buildH {ev : Operand → Value} {o : Oper} {w : World} (xo : Operand) (ho : o.op = .buildSlice 96 1 #[(0, xo)]) (x : Bs) (hx : ev xo = hashV x) (hx32 : x.length = 64) :
    (execOp ev o).run Try.prog w = .ok (.value (.slice (some ⟨w.heap.size, 0, none⟩) 1 1)) (w.alloc (.cells (cellsB x).toArray 95)) := by
  unfold execOp
  simp only [ho, List.map_toArray, List.map_cons, List.map_nil, hx, Sem.run_bind, run_buildHash x hx32 w, Result.andThen_ok, Sem.run_pure]
theorem elemH : Try.prog.underlying 96 = some (.slice (Try.prog.elem 96)) := by kernel_rfl
theorem sizeH (W : World) : (sizeOf (Try.prog.elem 96)).run Try.prog W = .ok 64 W := by kernel_rfl
theorem OwnHs.one (w : World) (base : Nat) {x : Bs} (hx : x.length = 64) (hb : base ≤ w.heap.size) : OwnHs (w.alloc (.cells (cellsB x).toArray 95)) base (.slice (some ⟨w.heap.size, 0, none⟩) 1 1) [x] := by
  have hl : (cellsB x).length = 64 := by rw [cellsB_length, hx]
  refine ⟨B64.one hx, by rw [cellsH_length (B64.one hx)], .inr ⟨w.heap.size, 1, (cellsB x).toArray, rfl, hb, heap_alloc_new w _, Nat.le_refl _, by unfold maxLen; decide, by simp [hl], ?_⟩⟩
  simp only [cellsH, List.flatMap_cons, List.flatMap_nil, List.append_nil]
  exact List.take_of_length_le (Nat.le_of_eq hl)
theorem cellsB_size {x : Bs} (hx : x.length = 64) : (Try.prog.info? 95).map (·.size) = some (cellsB x).length := by rw [cellsB_length, hx]; exact szHash
theorem exec_buildHs {ev : Operand → Value} {o : Oper} {W : World} (base : Nat) (xo : Operand) (ho : o.op = .buildSlice 96 1 #[(0, xo)]) (x : Bs) (hx : ev xo = hashV x) (hx32 : x.length = 64) (hb : base ≤ W.heap.size) :
    ∃ v W', (execOp ev o).run Try.prog W = .ok (.value v) W' ∧ OwnHs W' base v [x] ∧ Below W.heap.size W W' :=
  ⟨_, _, exec_buildH xo ho x hx hx32, OwnHs.one W base hx32 hb, Below.new1 _ _⟩
end
section
open Go Go.RowKit
section
variable {P : Program} {Q : Exit → Act → World → Prop}
theorem AllSteps.take {ops : Array Oper} {I : (Nat → Prop) → Act → World → Prop} : ∀ {l : List Oper} {n k : Nat}, AllSteps P Q ops I k (l.take n) → ∀ {i : Nat} {o : Oper}, i < n → l[i]? = some o → StepOk P Q ops I (k + i) o := by
  intro l n k h i o hi ho
  exact h.get (by rw [List.getElem?_take, if_pos hi]; exact ho)
/-- A region that draws its order, the last operation apart. -/
theorem wp_region_lastly {id : Nat} {ops : List Oper} {a : Act} {w : World} (n : Nat) (ol : Oper) (I : (Nat → Prop) → Act → World → Prop) (hm : P.follows .mixedOrders = true) (hd : onward ops.toArray = true)
    (hn : ops.length = n + 1) (hol : ops[n]? = some ol) (hall : (List.range n).all (fun j => waits ol j) = true) (hog : ol.guard = none)
    (h0 : I (fun _ => False) a w.drew) (hs : AllSteps P Q ops.toArray I 0 (ops.take n)) (hl : ∀ (d : Nat → Prop) (a : Act) (w : World), I d a w → (∀ j, j < n → d j) → ol.wp P a w (fun a' w' => Q .normal a' w') Q) :
    (Code.region id ops.toArray true).wp P Q a w := by
  refine wp_region_inv (I := fun d a w => (d n → Q .normal a w) ∧ (¬ d n → I d a w)) hm hd ⟨fun h => h.elim, fun _ => h0⟩ (fun d d' a w i o ho ⟨hI1, hI2⟩ hni hcl ha hk hu hself => ?_) (fun d a w ⟨h1, _⟩ h => h1 (h n (by simp [hn])))
  have ho' : ops[i]? = some o := by simpa using ho
  have hin : i < n + 1 := by rw [← hn]; exact (List.getElem?_eq_some_iff.1 ho').1
  by_cases e : i = n
  · subst e
    rw [hol] at ho'
    obtain rfl := Option.some.inj ho'
    have hdn := hI2 hni
    unfold wpOp
    rw [ho]
    have hwt : Region.wanted ol (yielded ops.toArray a.tmps) = true := by unfold Region.wanted; rw [hog]
    simp only [hwt, if_true]
    refine .inl (Oper.wp_mono (fun a' w' h => ⟨fun _ => h, fun h' => (h' hself).elim⟩) (hl d a w hdn fun j hj => ha j ?_))
    rw [List.all_eq_true] at hall
    exact hall j (List.mem_range.2 hj)
  · have hnn : ¬ d n := fun h => hni (hcl n ol i (by simpa using hol) (by rw [List.all_eq_true] at hall; exact hall i (List.mem_range.2 (by omega))) h)
    obtain ⟨hg, st⟩ := hs.take (i := i) (by omega) ho'
    rw [Nat.zero_add] at st
    unfold wpOp
    rw [ho]
    have hwt : Region.wanted o (yielded ops.toArray a.tmps) = true := by unfold Region.wanted; rw [hg]
    simp only [hwt, if_true]
    refine .inl (Oper.wp_mono (fun a' w' h => ⟨fun h' => (hnn (hk n (fun q => e q.symm) h')).elim, fun _ => h⟩) (st d d' a w (hI2 hnn) hni hcl ha hk hu hself))
end
section
variable {P : Program} {ev : Operand → Value} {o : Oper} {W : World}
theorem exec_load {ty : TypeId} {x : Operand} {v : Value} (ho : o.op = .load ty x) (h : (Instr.loadAt ty (ev x)).run P W = .ok v W) : (execOp ev o).run P W = .ok (.value v) W := by
  simp [execOp, ho, h, Result.andThen]
end
section
variable {P : Program} {Q : Exit → Act → World → Prop}
/-- A step of a guarded operation. -/
def StepG (P : Program) (Q : Exit → Act → World → Prop) (ops : Array Oper) (I : (Nat → Prop) → Act → World → Prop) (k : Nat) (o : Oper) : Prop :=
  ∀ (d d' : Nat → Prop) (a : Act) (w : World), I d a w → ¬ d k → Closed ops d → (∀ j, waits o j = true → d j) → (∀ j, j ≠ k → d' j → d j) → (∀ j, d j → d' j) → d' k →
    if Region.wanted o (yielded ops a.tmps) = true then o.wp P a w (fun a' w' => I d' a' w') Q else I d' (a.put o.dst undef) w
def AllG (P : Program) (Q : Exit → Act → World → Prop) (ops : Array Oper) (I : (Nat → Prop) → Act → World → Prop) : Nat → List Oper → Prop
  | _, [] => True
  | k, o :: l => StepG P Q ops I k o ∧ AllG P Q ops I (k + 1) l
theorem AllG.get {ops : Array Oper} {I : (Nat → Prop) → Act → World → Prop} : ∀ {l : List Oper} {k : Nat}, AllG P Q ops I k l → ∀ {i : Nat} {o : Oper}, l[i]? = some o → StepG P Q ops I (k + i) o := by
  intro l
  induction l with
  | nil => intro k _ i o h; simp at h
  | cons x l ih =>
    intro k h i o ho
    cases i with
    | zero => simp at ho; subst ho; exact h.1
    | succ i =>
      have := ih h.2 (i := i) (o := o) (by simpa using ho)
      rwa [show k + 1 + i = k + (i + 1) from by omega] at this
variable {ops : Array Oper} {I : (Nat → Prop) → Act → World → Prop} {k : Nat} {o : Oper}
theorem StepG.of (h : StepOk P Q ops I k o) : StepG P Q ops I k o := fun d d' a w h1 h2 h3 h4 h5 h6 h7 => by
  have hwt : Region.wanted o (yielded ops a.tmps) = true := by unfold Region.wanted; rw [h.1]
  rw [if_pos hwt]
  exact h.2 d d' a w h1 h2 h3 h4 h5 h6 h7
theorem StepG.on {j : Nat} {b : Bool} (hg : o.guard = some (j, b)) (hy : ∀ d a w, I d a w → (∀ j, waits o j = true → d j) → yielded ops a.tmps j = some b) (h : StepOk P Q ops I k { o with guard := none }) : StepG P Q ops I k o := fun d d' a w h1 h2 h3 h4 h5 h6 h7 => by
  have hwt : Region.wanted o (yielded ops a.tmps) = true := by unfold Region.wanted; rw [hg]; simp [hy d a w h1 h4]
  rw [if_pos hwt]
  exact h.2 d d' a w h1 h2 h3 h4 h5 h6 h7
theorem StepG.off {j : Nat} {b : Bool} (hg : o.guard = some (j, b)) (hy : ∀ d a w, I d a w → (∀ j, waits o j = true → d j) → yielded ops a.tmps j = some (!b))
    (h : ∀ (d d' : Nat → Prop) (a : Act) (w : World), I d a w → ¬ d k → Closed ops d → (∀ j, waits o j = true → d j) → (∀ j, j ≠ k → d' j → d j) → (∀ j, d j → d' j) → d' k → I d' (a.put o.dst undef) w) : StepG P Q ops I k o := fun d d' a w h1 h2 h3 h4 h5 h6 h7 => by
  have hwt : ¬ Region.wanted o (yielded ops a.tmps) = true := by unfold Region.wanted; rw [hg]; simp [hy d a w h1 h4]
  rw [if_neg hwt]
  exact h d d' a w h1 h2 h3 h4 h5 h6 h7
theorem wp_region_guards {id : Nat} {ops : List Oper} {a : Act} {w : World} (I : (Nat → Prop) → Act → World → Prop) (hm : P.follows .mixedOrders = true) (hd : onward ops.toArray = true)
    (h0 : I (fun _ => False) a w.drew) (hs : AllG P Q ops.toArray I 0 ops) (fin : ∀ (d : Nat → Prop) (a : Act) (w : World), I d a w → (∀ i, i < ops.length → d i) → Q .normal a w) :
    (Code.region id ops.toArray true).wp P Q a w := by
  refine wp_region_inv hm hd h0 (fun d d' a w i o ho hI hn hcl ha hk hu hself => ?_) (fun d a w hI h => fin d a w hI (by simpa using h))
  have st := hs.get (i := i) (o := o) (by simpa using ho)
  rw [Nat.zero_add] at st
  have := st d d' a w hI hn hcl ha hk hu hself
  unfold wpOp
  rw [ho]
  simp only
  by_cases hw : Region.wanted o (yielded ops.toArray a.tmps) = true
  · rw [if_pos hw] at this ⊢; exact .inl this
  · rw [if_neg hw] at this ⊢; exact this
theorem yielded_of {ops : Array Oper} {a : Act} {j t : Nat} {b : Bool} (hj : (ops[j]?).bind (·.dst) = some t) (h : a.eval (.tmp t) = .bool b) : yielded ops a.tmps j = some b := by
  unfold yielded
  rw [hj]
  simp only [Option.bind_some]
  have : a.tmps.getD t undef = .bool b := h
  cases e : a.tmps[t]? with
  | none => simp [Array.getD_eq_getD_getElem?, e, undef] at this
  | some v => simp [Array.getD_eq_getD_getElem?, e] at this; subst this; rfl
variable {T : List Tmp} {a0 : Act} {G : (Nat → Prop) → World → Prop} {l : List Cl}
/-- An operation that is left out. -/
theorem step_off {ops : Array Oper} {k : Nat} {o : Oper} {t : Tmp} {c : Cl} {j : Nat} {b : Bool} (hg : o.guard = some (j, b)) (hd : o.dst = some t) (hT : t ∈ T) (hz : t < a0.tmps.size) (hc : l.filter (fun c => c.op == some k) = [c]) (hct : c.slot = t)
    (hso : slotsOk ops l k t = true) (hp : ∀ W, c.p undef W) (SG : ∀ d d' W W', G d W → (∀ j, d j → d' j) → Below W.heap.size W W' → G d' W')
    (hy : ∀ d a w, Inv T a0 G l d a w → (∀ j, waits o j = true → d j) → yielded ops a.tmps j = some (!b)) : StepG P Q ops (Inv T a0 G l) k o :=
  StepG.off hg hy fun d d' a W ⟨hF, hG, hH⟩ hn hcl hw hk hu hself => by
    rw [hd]
    exact ⟨hF.put hT undef, SG _ _ _ _ hG hu (Below.refl _ _), hH.put hc hct hso hcl hn hk hu hself (by rw [hF.size]; exact hz) (fun x hx _ _ _ u q => q) (hp W)⟩
end
theorem wp_storeH {o : Oper} {a : Act} {w : World} {K : Act → World → Prop} {Q : Exit → Act → World → Prop} (x y : Operand) (ho : o.op = .store 95 x y) (g : Nat) (h : Bs) (hx : a.eval x = .pointer (some ⟨g, 0, none⟩)) (hy : a.eval y = hashV h)
    {l : List Int} (hg : BoxA w g 95 .u8 l) (hl : l.length = 64) (hh : h.length = 64) (H : K (a.put o.dst undef) (w.setRow g (ints .u8 (nums h)))) : o.wp Try.prog a w K Q :=
  wp_store_row 95 x y ho g (ints .u8 (nums h)) hx (by rw [hy, hashV_eq]) 95 _ hg (by rw [ints_size, nums_length, hh]; exact szHash) (by rw [ints_size, ints_size, nums_length, hl, hh]) (ints_one _ _) H
theorem lastsV0 (op used : Option Nat) (t : Tmp) (x : Value) : Lasts ⟨op, t, used, fun v _ => v = x⟩ := fun _ _ _ h _ => h
/-- A slice of one cell of a block of its own. -/
def One (x : Value) (v : Value) (W : World) : Prop := ∃ g c, v = .slice (some ⟨g, 0, none⟩) 1 c ∧ W.cell? ⟨g, 0, none⟩ = some x
theorem lastsOne (op used : Option Nat) (t : Tmp) (x : Value) : Lasts ⟨op, t, used, One x⟩ := fun _ _ _ ⟨g, c, h1, h2⟩ hB => ⟨g, c, h1, cell_kept hB h2⟩
theorem One.text {n : Int} {v : Value} {W : World} (h : One (.int .u8 n) v W) (h0 : 0 ≤ n) (h1 : n < 256) : (convert 119 9 v).run Try.prog W = .ok (.string ⟨[n.toNat.toUInt8].toArray⟩) W := by
  obtain ⟨g, c, rfl, h⟩ := h
  refine bytes_back [n.toNat.toUInt8] W g c _ _ 5 (by kernel_rfl) (by kernel_rfl) (by kernel_rfl) (fun j hj => ?_) 1 rfl
  obtain rfl : j = 0 := by simpa using hj
  rw [h]
  have := byte_of n
  rw [show n % 256 = n from by omega] at this
  simp; omega
end
section
open Go.RowKit
variable {P : Program} {Q : Exit → Act → World → Prop}
theorem AllSteps.of {ops : Array Oper} {I : (Nat → Prop) → Act → World → Prop} : ∀ {l : List Oper} {k : Nat}, (∀ i o, l[i]? = some o → StepOk P Q ops I (k + i) o) → AllSteps P Q ops I k l := by
  intro l
  induction l with
  | nil => intro k _; trivial
  | cons x l ih =>
    intro k h
    exact ⟨h 0 x rfl, ih fun i o ho => by have := h (i + 1) o ho; rwa [show k + (i + 1) = k + 1 + i from by omega] at this⟩
theorem wp_region_lastly2 {id : Nat} {ops : List Oper} {a : Act} {w : World} (n : Nat) (o1 o2 : Oper) (I : (Nat → Prop) → Act → World → Prop) (hm : P.follows .mixedOrders = true) (hd : onward ops.toArray = true)
    (hn : ops.length = n + 1 + 1) (ho1 : ops[n]? = some o1) (ho2 : ops[n + 1]? = some o2) (hall1 : ∀ d, Closed ops.toArray d → (∀ j, waits o1 j = true → d j) → ∀ j, j < n → d j) (hall2 : (List.range (n + 1)).all (fun j => waits o2 j) = true) (hg1 : o1.guard = none) (hg2 : o2.guard = none)
    (h0 : I (fun _ => False) a w.drew) (hs : AllSteps P Q ops.toArray I 0 (ops.take n)) (hl : ∀ (d : Nat → Prop) (a : Act) (w : World), I d a w → (∀ j, j < n → d j) → o1.wp P a w (fun a' w' => o2.wp P a' w' (fun a'' w'' => Q .normal a'' w'') Q) Q) :
    (Code.region id ops.toArray true).wp P Q a w := by
  refine wp_region_lastly (n + 1) o2 (fun d a w => (d n → o2.wp P a w (fun a' w' => Q .normal a' w') Q) ∧ (¬ d n → I d a w)) hm hd hn ho2 hall2 hg2 ⟨fun h => h.elim, fun _ => h0⟩ (AllSteps.of fun i o ho => ?_) (fun d a w h hall => h.1 (hall n (Nat.lt_succ_self n)))
  rw [List.getElem?_take] at ho
  split at ho
  case isFalse => cases ho
  rename_i hi
  rw [Nat.zero_add]
  by_cases e : i = n
  · subst e
    rw [ho1] at ho
    obtain rfl := Option.some.inj ho
    refine ⟨hg1, fun d d' a w ⟨_, hI⟩ hni hcl hw hk hu hself => ?_⟩
    exact Oper.wp_mono (fun a' w' h => ⟨fun _ => h, fun h' => (h' hself).elim⟩) (hl d a w (hI hni) fun j hj => hall1 d hcl hw j hj)
  · have st := hs.take (i := i) (o := o) (by omega) ho
    rw [Nat.zero_add] at st
    refine ⟨st.1, fun d d' a w ⟨_, hI⟩ hni hcl hw hk hu hself => ?_⟩
    have hnn : ¬ d n := fun h => hni (hall1 d hcl (fun j hj => hcl n o1 j (by simpa using ho1) hj h) i (by omega))
    exact Oper.wp_mono (fun a' w' h => ⟨fun h' => (hnn (hk n (fun q => e q.symm) h')).elim, fun _ => h⟩) (st.2 d d' a w (hI hnn) hni hcl hw hk hu hself)
theorem wp_region_lastlyR {id : Nat} {ops : List Oper} {a : Act} {w : World} (n : Nat) (ol : Oper) (I : (Nat → Prop) → Act → World → Prop) (hm : P.follows .mixedOrders = true) (hd : onward ops.toArray = true)
    (hn : ops.length = n + 1) (hol : ops[n]? = some ol) (hall : ∀ d, Closed ops.toArray d → (∀ j, waits ol j = true → d j) → ∀ j, j < n → d j) (hog : ol.guard = none)
    (h0 : I (fun _ => False) a w.drew) (hs : AllSteps P Q ops.toArray I 0 (ops.take n)) (hl : ∀ (d : Nat → Prop) (a : Act) (w : World), I d a w → (∀ j, j < n → d j) → ol.wp P a w (fun a' w' => Q .normal a' w') Q) :
    (Code.region id ops.toArray true).wp P Q a w := by
  refine wp_region_inv (I := fun d a w => (d n → Q .normal a w) ∧ (¬ d n → I d a w)) hm hd ⟨fun h => h.elim, fun _ => h0⟩ (fun d d' a w i o ho ⟨hI1, hI2⟩ hni hcl ha hk hu hself => ?_) (fun d a w ⟨h1, _⟩ h => h1 (h n (by simp [hn])))
  have ho' : ops[i]? = some o := by simpa using ho
  have hin : i < n + 1 := by rw [← hn]; exact (List.getElem?_eq_some_iff.1 ho').1
  by_cases e : i = n
  · subst e
    rw [hol] at ho'
    obtain rfl := Option.some.inj ho'
    have hdn := hI2 hni
    unfold wpOp
    rw [ho]
    have hwt : Region.wanted ol (yielded ops.toArray a.tmps) = true := by unfold Region.wanted; rw [hog]
    simp only [hwt, if_true]
    exact .inl (Oper.wp_mono (fun a' w' h => ⟨fun _ => h, fun h' => (h' hself).elim⟩) (hl d a w hdn fun j hj => hall d hcl ha j hj))
  · have hnn : ¬ d n := fun h => hni (hall d hcl (fun j hj => hcl n ol j (by simpa using hol) hj h) i (by omega))
    obtain ⟨hg, st⟩ := hs.take (i := i) (by omega) ho'
    rw [Nat.zero_add] at st
    unfold wpOp
    rw [ho]
    have hwt : Region.wanted o (yielded ops.toArray a.tmps) = true := by unfold Region.wanted; rw [hg]
    simp only [hwt, if_true]
    exact .inl (Oper.wp_mono (fun a' w' h => ⟨fun h' => (hnn (hk n (fun q => e q.symm) h')).elim, fun _ => h⟩) (st d d' a w (hI2 hnn) hni hcl ha hk hu hself))
end
section
open Go.RowKit
variable {P : Program} {Q : Exit → Act → World → Prop} {T : List Tmp} {a0 : Act} {G : (Nat → Prop) → World → Prop} {l : List Cl}
theorem stepA {ops : Array Oper} {k : Nat} {o : Oper} {t : Tmp} {c : Cl} (hg : o.guard = none) (hd : o.dst = some t) (hT : t ∈ T) (hz : t < a0.tmps.size) (hc : l.filter (fun c => c.op == some k) = [c]) (hct : c.slot = t)
    (hso : slotsOk ops l k t = true) (base : Nat) (St : ∀ c' ∈ l, c'.op = some k ∨ c'.used = some k ∨ ∀ u W W', c'.p u W → Below base W W' → c'.p u W') (SG : ∀ d d' W W', G d W → (∀ j, d j → d' j) → Below base W W' → G d' W')
    (run : ∀ d a W, Fr T a0 a → G d W → Held d a W l → ¬ d k → Closed ops d → (∀ j, waits o j = true → d j) → ∃ v W', (execOp a.eval o).run P W = .ok (.value v) W' ∧ Below base W W' ∧ c.p v W') :
    StepOk P Q ops (Inv T a0 G l) k o := by
  refine ⟨hg, fun d d' a W ⟨hF, hG, hH⟩ hn hcl hw hk hu hself => ?_⟩
  obtain ⟨v, W', hr, hb, hv⟩ := run d a W hF hG hH hn hcl hw
  refine wp_yields hr ?_
  rw [hd]
  refine ⟨hF.put hT v, SG _ _ _ _ hG hu hb, hH.put hc hct hso hcl hn hk hu hself (by rw [hF.size]; exact hz) (fun x hx h1 _ h3 u q => ?_) hv⟩
  rcases St x hx with e | e | e
  · exact (h1 e).elim
  · exact (h3 (by rw [e]; exact hself)).elim
  · exact e u W W' q hb
theorem stepA2 {ops : Array Oper} {k : Nat} {o : Oper} {t : Tmp} {c : Cl} (hg : o.guard = none) (hd : o.dst = some t) (hT : t ∈ T) (hz : t < a0.tmps.size) (hc : l.filter (fun c => c.op == some k) = [c]) (hct : c.slot = t)
    (hso : slotsOk ops l k t = true) (base : Nat) (St : ∀ c' ∈ l, c'.op = some k ∨ c'.used = some k ∨ (∀ u W W', c'.p u W → Below base W W' → c'.p u W') ∨ (∀ d, Closed ops d → (∀ j, waits o j = true → d j) → gone d c'.used)) (SG : ∀ d d' W W', G d W → (∀ j, d j → d' j) → Below base W W' → G d' W')
    (run : ∀ d a W, Fr T a0 a → G d W → Held d a W l → ¬ d k → Closed ops d → (∀ j, waits o j = true → d j) → ∃ v W', (execOp a.eval o).run P W = .ok (.value v) W' ∧ Below base W W' ∧ c.p v W') :
    StepOk P Q ops (Inv T a0 G l) k o := by
  refine ⟨hg, fun d d' a W ⟨hF, hG, hH⟩ hn hcl hw hk hu hself => ?_⟩
  obtain ⟨v, W', hr, hb, hv⟩ := run d a W hF hG hH hn hcl hw
  refine wp_yields hr ?_
  rw [hd]
  refine ⟨hF.put hT v, SG _ _ _ _ hG hu hb, hH.put hc hct hso hcl hn hk hu hself (by rw [hF.size]; exact hz) (fun x hx h1 _ h3 u q => ?_) hv⟩
  rcases St x hx with e | e | e | e
  · exact (h1 e).elim
  · exact (h3 (by rw [e]; exact hself)).elim
  · exact e u W W' q hb
  · exact (h3 (gone_mono hu (e d hcl hw))).elim
theorem stepA3 {ops : Array Oper} {k : Nat} {o : Oper} {t : Tmp} {c : Cl} (hg : o.guard = none) (hd : o.dst = some t) (hT : t ∈ T) (hz : t < a0.tmps.size) (hc : l.filter (fun c => c.op == some k) = [c]) (hct : c.slot = t)
    (hso : slotsOk ops l k t = true) (base : Nat) (St : ∀ c' ∈ l, c'.op = some k ∨ c'.used = some k ∨ (∀ u W W', c'.p u W → Below base W W' → c'.p u W') ∨ (∀ d, Closed ops d → (∀ j, waits o j = true → d j) → gone d c'.used)) (SG : ∀ d d' W W', G d W → (∀ j, d j → d' j) → d' k → Below base W W' → G d' W')
    (run : ∀ d a W, Fr T a0 a → G d W → Held d a W l → ¬ d k → Closed ops d → (∀ j, waits o j = true → d j) → ∃ v W', (execOp a.eval o).run P W = .ok (.value v) W' ∧ Below base W W' ∧ c.p v W') :
    StepOk P Q ops (Inv T a0 G l) k o := by
  refine ⟨hg, fun d d' a W ⟨hF, hG, hH⟩ hn hcl hw hk hu hself => ?_⟩
  obtain ⟨v, W', hr, hb, hv⟩ := run d a W hF hG hH hn hcl hw
  refine wp_yields hr ?_
  rw [hd]
  refine ⟨hF.put hT v, SG _ _ _ _ hG hu hself hb, hH.put hc hct hso hcl hn hk hu hself (by rw [hF.size]; exact hz) (fun x hx h1 _ h3 u q => ?_) hv⟩
  rcases St x hx with e | e | e | e
  · exact (h1 e).elim
  · exact (h3 (by rw [e]; exact hself)).elim
  · exact e u W W' q hb
  · exact (h3 (gone_mono hu (e d hcl hw))).elim
end
section
variable {ops : Array Oper} {rest : List Oper} {o : Oper} {a : Act} {w w' : World} {P : Program} {Q : Exit → Act → World → Prop}
theorem wpList_exec (hg : o.guard = none) (v : Value) (hr : (execOp a.eval o).run P w = .ok (.value v) w') (K : wpList P ops Q rest (a.put o.dst v) w') : wpList P ops Q (o :: rest) a w :=
  wpList_plain hg fun _ hK => wp_yields hr (hK _ _ K)
end
section
variable {ops : Array Oper} {rest : List Oper} {o : Oper} {a : Act} {w : World} {Q : Exit → Act → World → Prop}
theorem wpList_load_if {P : Program} (hw : Region.wanted o (yielded ops a.tmps) = true) (ty : TypeId) (x : Operand) (ho : o.op = .load ty x) (v : Value) (hr : (Instr.loadAt ty (a.eval x)).run P w = .ok v w)
    (K : wpList P ops Q rest (a.put o.dst v) w) : wpList P ops Q (o :: rest) a w := by
  unfold wpList
  rw [if_pos hw]
  left
  unfold Oper.wp
  simp [execOp, ho, hr, Result.andThen]
  exact K
end
theorem BoxH.load_ {W : World} {b : Nat} {x : Bs} (H : BoxH W b x) (hx : x.length = 64) : (Instr.loadAt 95 (.pointer (some ⟨b, 0, none⟩))).run Try.prog W = .ok (hashV x) W := by
  rw [hashV_eq]
  exact BoxA.loadAt H 95 64 5 (by kernel_rfl) (by rw [nums_length, hx]; exact szHash)
/-- The clauses of a region. -/
abbrev lst {l : List Cl} (_ : ∀ xc ∈ l, Lasts xc) : List Cl := l
end Go.Proofs.Ytkljfampkkfgdaa
