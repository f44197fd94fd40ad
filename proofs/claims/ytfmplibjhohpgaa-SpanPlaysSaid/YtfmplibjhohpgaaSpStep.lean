/- A region that draws its order, operation by operation, by a list of clauses: what a slot holds once its operation has come up, until another one has used it. -/
import Derived.Test.YtfmplibjhohpgaaSpReg
namespace Go.Proofs.Ytfmplibjhohpgaa
open Go Go.RowKit

/-- Once the operation op has come up (or from the start), and until the operation used has, the slot holds a value with p. -/
structure Cl where
  op : Option Nat
  slot : Tmp
  used : Option Nat
  p : Value → World → Prop
/-- It has come up; nothing has to come up. -/
def came (d : Nat → Prop) : Option Nat → Prop
  | none => True
  | some k => d k
/-- It has come up; nothing can. -/
def gone (d : Nat → Prop) : Option Nat → Prop
  | none => False
  | some k => d k
theorem gone_mono {d d' : Nat → Prop} (hu : ∀ j, d j → d' j) {u : Option Nat} (h : gone d u) : gone d' u := by
  cases u with
  | none => exact h
  | some k => exact hu k h
/-- What the clauses say. -/
def Held (d : Nat → Prop) (a : Act) (W : World) (l : List Cl) : Prop := ∀ c ∈ l, came d c.op → ¬ gone d c.used → c.p (a.eval (.tmp c.slot)) W
/-- The frame, the rest, and the clauses. -/
def Inv (T : List Tmp) (a0 : Act) (G : (Nat → Prop) → World → Prop) (l : List Cl) (d : Nat → Prop) (a : Act) (W : World) : Prop := Fr T a0 a ∧ G d W ∧ Held d a W l
/-- All of a list. -/
@[reducible] def AllC (f : Cl → Prop) : List Cl → Prop
  | [] => True
  | c :: l => f c ∧ AllC f l
theorem AllC.mem {f : Cl → Prop} : ∀ {l : List Cl}, AllC f l → ∀ c ∈ l, f c := by
  intro l
  induction l with
  | nil => intro _ c hc; cases hc
  | cons x l ih =>
    intro h c hc
    rcases List.mem_cons.1 hc with rfl | hc
    · exact h.1
    · exact ih h.2 c hc
/-- Calls and allocations keep what the clause says. -/
def Lasts (c : Cl) : Prop := ∀ u W W', c.p u W → Below W.heap.size W W' → c.p u W'
/-- No other clause that may hold speaks of the slot that the operation writes. -/
def slotsOk (ops : Array Oper) (l : List Cl) (k : Nat) (t : Tmp) : Bool := l.all fun c => c.op == some k || c.slot != t || c.used == some k || (match c.op with
  | none => false
  | some j => ((ops[j]?).map fun o => waits o k).getD false)
section
variable {P : Program} {Q : Exit → Act → World → Prop} {T : List Tmp} {a0 : Act} {G : (Nat → Prop) → World → Prop} {l : List Cl} {d d' : Nat → Prop} {a : Act} {W W' : World}
theorem Held.at_ (h : Held d a W l) {i : Nat} {c : Cl} (hc : l[i]? = some c) (h1 : came d c.op) (h2 : ¬ gone d c.used) : c.p (a.eval (.tmp c.slot)) W := h c (List.mem_of_getElem? hc) h1 h2
theorem slotsOk_spec {ops : Array Oper} {k : Nat} {t : Tmp} (h : slotsOk ops l k t = true) (hcl : Closed ops d) (hn : ¬ d k) : ∀ c ∈ l, c.op ≠ some k → c.used ≠ some k → came d c.op → c.slot ≠ t := by
  unfold slotsOk at h
  rw [List.all_eq_true] at h
  intro c hc hk hu hd e
  have := h c hc
  simp only [Bool.or_eq_true, beq_iff_eq, bne_iff_ne] at this
  rcases this with ((this | this) | this) | this
  · exact hk this
  · exact this e
  · exact hu this
  · cases hop : c.op with
    | none => rw [hop] at this; cases this
    | some j =>
      rw [hop] at this hd
      dsimp only at this
      cases ho : ops[j]? with
      | none => rw [ho] at this; simp at this
      | some o =>
        rw [ho] at this
        exact hn (hcl j o k ho (by simpa using this) hd)
/-- The operation k writes v into the slot t. -/
theorem Held.put {ops : Array Oper} {k : Nat} {t : Tmp} {v : Value} {c : Cl} (h : Held d a W l) (hc : l.filter (fun c => c.op == some k) = [c]) (hct : c.slot = t) (hso : slotsOk ops l k t = true) (hcl : Closed ops d) (hn : ¬ d k)
    (hk : ∀ j, j ≠ k → d' j → d j) (hu : ∀ j, d j → d' j) (hself : d' k) (ht : t < a.tmps.size) (hold : ∀ x ∈ l, x.op ≠ some k → came d x.op → ¬ gone d' x.used → ∀ u, x.p u W → x.p u W') (hnew : c.p v W') : Held d' (a.put (some t) v) W' l := by
  intro x hx h1 h2
  by_cases e : x.op = some k
  · have hx' : x ∈ l.filter (fun c => c.op == some k) := List.mem_filter.2 ⟨hx, by simpa using e⟩
    rw [hc] at hx'
    obtain rfl := List.mem_singleton.1 hx'
    rw [hct, put_same _ _ _ ht]
    exact hnew
  · have h3 : came d x.op := by
      cases ho : x.op with
      | none => trivial
      | some j => rw [ho] at h1 e; exact hk j (fun q => e (by rw [q])) h1
    rw [put_other _ _ (slotsOk_spec hso hcl hn x hx e (fun q => h2 (by rw [q]; exact hself)) h3)]
    exact hold x hx e h3 h2 _ (h x hx h3 (fun q => h2 (gone_mono hu q)))
/-- The operation k changes the world alone; its clause speaks of an older slot. -/
theorem Held.store {k : Nat} {c : Cl} (h : Held d a W l) (hc : l.filter (fun c => c.op == some k) = [c])
    (hk : ∀ j, j ≠ k → d' j → d j) (hu : ∀ j, d j → d' j) (hold : ∀ x ∈ l, x.op ≠ some k → came d x.op → ¬ gone d' x.used → ∀ u, x.p u W → x.p u W') (hnew : c.p (a.eval (.tmp c.slot)) W') : Held d' a W' l := by
  intro x hx h1 h2
  by_cases e : x.op = some k
  · have hx' : x ∈ l.filter (fun c => c.op == some k) := List.mem_filter.2 ⟨hx, by simpa using e⟩
    rw [hc] at hx'
    obtain rfl := List.mem_singleton.1 hx'
    exact hnew
  · have h3 : came d x.op := by
      cases ho : x.op with
      | none => trivial
      | some j => rw [ho] at h1 e; exact hk j (fun q => e (by rw [q])) h1
    exact hold x hx e h3 h2 _ (h x hx h3 (fun q => h2 (gone_mono hu q)))
theorem Inv.start (h : G (fun _ => False) W) (hs : AllC (fun c => c.op = none → c.p (a0.eval (.tmp c.slot)) W) l) : Inv T a0 G l (fun _ => False) a0 W :=
  ⟨Fr.refl _ _, h, fun c hc h1 _ => hs.mem c hc (by cases ho : c.op with | none => rfl | some k => rw [ho] at h1; exact h1.elim)⟩
/-- An operation that yields a value and at most makes memory. -/
theorem stepB {ops : Array Oper} {k : Nat} {o : Oper} {t : Tmp} {c : Cl} (hg : o.guard = none) (hd : o.dst = some t) (hT : t ∈ T) (hz : t < a0.tmps.size) (hc : l.filter (fun c => c.op == some k) = [c]) (hct : c.slot = t)
    (hso : slotsOk ops l k t = true) (St : ∀ c ∈ l, Lasts c) (SG : ∀ d d' W W', G d W → (∀ j, d j → d' j) → Below W.heap.size W W' → G d' W')
    (run : ∀ d a W, Fr T a0 a → G d W → Held d a W l → ¬ d k → Closed ops d → (∀ j, waits o j = true → d j) → ∃ v W', (execOp a.eval o).run P W = .ok (.value v) W' ∧ Below W.heap.size W W' ∧ c.p v W') :
    StepOk P Q ops (Inv T a0 G l) k o := by
  refine ⟨hg, fun d d' a W ⟨hF, hG, hH⟩ hn hcl hw hk hu hself => ?_⟩
  obtain ⟨v, W', hr, hb, hv⟩ := run d a W hF hG hH hn hcl hw
  refine wp_yields hr ?_
  rw [hd]
  exact ⟨hF.put hT v, SG _ _ _ _ hG hu hb, hH.put hc hct hso hcl hn hk hu hself (by rw [hF.size]; exact hz) (fun x hx _ _ _ u q => St x hx u W W' q hb) hv⟩
/-- An operation that calls a function. -/
theorem stepC {ops : Array Oper} {k : Nat} {o : Oper} {t : Tmp} {c : Cl} (hg : o.guard = none) (hd : o.dst = some t) (hT : t ∈ T) (hz : t < a0.tmps.size) (hc : l.filter (fun c => c.op == some k) = [c]) (hct : c.slot = t)
    (hso : slotsOk ops l k t = true) (St : ∀ c ∈ l, Lasts c) (SG : ∀ d d' W W', G d W → (∀ j, d j → d' j) → Below W.heap.size W W' → G d' W')
    (run : ∀ d a W, Fr T a0 a → G d W → Held d a W l → ¬ d k → Closed ops d → (∀ j, waits o j = true → d j) → ∃ f args, (execOp a.eval o).run P W = .ok (.enter f args) W ∧ Calls P f args W fun e W' => ∃ v, e = .returned v ∧ Below W.heap.size W W' ∧ c.p v W') :
    StepOk P Q ops (Inv T a0 G l) k o := by
  refine ⟨hg, fun d d' a W ⟨hF, hG, hH⟩ hn hcl hw hk hu hself => ?_⟩
  obtain ⟨f, args, hr, hcall⟩ := run d a W hF hG hH hn hcl hw
  refine wp_enters hr hcall fun e W' ⟨v, he, hb, hv⟩ => ⟨v, he, ?_⟩
  rw [hd]
  exact ⟨hF.put hT v, SG _ _ _ _ hG hu hb, hH.put hc hct hso hcl hn hk hu hself (by rw [hF.size]; exact hz) (fun x hx _ _ _ u q => St x hx u W W' q hb) hv⟩
end
end Go.Proofs.Ytfmplibjhohpgaa
