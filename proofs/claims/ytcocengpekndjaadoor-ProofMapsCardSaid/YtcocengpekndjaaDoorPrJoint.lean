/- Drawn regions that fill two boxes: the two slots hold different pointers. -/
import Derived.Test.YtcocengpekndjaaDoorPrRows
namespace Go.Proofs.YtcocengpekndjaaDoor
open Go.RowKit
section
variable {P : Program} {Q : Exit → Act → World → Prop}
/-- What goes on behind an operation goes on with its slot written. -/
theorem wp_put {o : Oper} {a : Act} {w : World} {K : Act → World → Prop} (hh : o.wp P a w K Q) : o.wp P a w (fun a' w' => K a' w' ∧ ∃ v ds, a' = ({ a with defers := ds } : Act).put o.dst v) Q := by
  unfold Oper.wp at *
  generalize (execOp a.eval o).run P w = r at *
  cases r with
  | ok n w' =>
    cases n <;> simp only [Oper.upon] at hh ⊢ <;>
      first
        | exact ⟨hh, _, _, rfl⟩
        | exact Calls.mono hh (fun e w'' he => by cases e <;> first | exact ⟨he, _, a.defers, rfl⟩ | exact he)
        | exact Rows.mono hh (fun _ _ he => ⟨he, _, a.defers, rfl⟩)
  | halt x w' => cases x <;> simp only [Oper.upon] at hh ⊢ <;> exact hh
variable {T : List Tmp} {a0 : Act} {G : (Nat → Prop) → World → Prop} {l : List Cl}
/-- Two slots hold different values once both operations have come up. -/
def Apart (s t : Tmp) (i j : Nat) (d : Nat → Prop) (a : Act) : Prop := d i → d j → a.eval (.tmp s) ≠ a.eval (.tmp t)
def InvJ (T : List Tmp) (a0 : Act) (G : (Nat → Prop) → World → Prop) (l : List Cl) (s t : Tmp) (i j : Nat) (d : Nat → Prop) (a : Act) (W : World) : Prop := Inv T a0 G l d a W ∧ Apart s t i j d a
theorem Apart.flip {s t : Tmp} {i j : Nat} {d : Nat → Prop} {a : Act} (h : Apart s t i j d a) : Apart t s j i d a := fun h1 h2 e => h h2 h1 e.symm
theorem stepJ {ops : Array Oper} {k : Nat} {o : Oper} {s t : Tmp} {i j : Nat} (hs : o.dst ≠ some s) (ht : o.dst ≠ some t) (hi : i ≠ k) (hj : j ≠ k) (h : StepOk P Q ops (Inv T a0 G l) k o) : StepOk P Q ops (InvJ T a0 G l s t i j) k o := by
  refine ⟨h.1, fun d d' a w ⟨hI, hJ⟩ hn hcl hw hk hu hself => ?_⟩
  refine Oper.wp_mono ?_ (wp_put (h.2 d d' a w hI hn hcl hw hk hu hself))
  rintro a' w' ⟨hI', v, ds, rfl⟩
  refine ⟨hI', fun h1 h2 => ?_⟩
  have e : ∀ x : Tmp, o.dst ≠ some x → (({ a with defers := ds } : Act).put o.dst v).eval (.tmp x) = a.eval (.tmp x) := fun x hx => by
    cases hd : o.dst with
    | none => rfl
    | some y => exact (put_other _ _ (fun q => hx (by rw [hd, q])))
  rw [e s hs, e t ht]
  exact hJ (hk i hi h1) (hk j hj h2)
/-- The operation that fills one of the two slots; u is the other one, m its operation. -/
theorem stepBJ {ops : Array Oper} {k : Nat} {o : Oper} {t u : Tmp} {m : Nat} {c : Cl} (hg : o.guard = none) (hd : o.dst = some t) (hT : t ∈ T) (hz : t < a0.tmps.size) (hc : l.filter (fun c => c.op == some k) = [c]) (hct : c.slot = t)
    (hso : slotsOk ops l k t = true) (St : ∀ c ∈ l, Lasts c) (SG : ∀ d d' W W', G d W → (∀ j, d j → d' j) → Below W.heap.size W W' → G d' W') (hut : u ≠ t) (hm : m ≠ k)
    (run : ∀ d a W, Fr T a0 a → G d W → Held d a W l → ¬ d k → Closed ops d → (∀ j, waits o j = true → d j) → ∃ v W', (execOp a.eval o).run P W = .ok (.value v) W' ∧ Below W.heap.size W W' ∧ c.p v W' ∧ (d m → v ≠ a.eval (.tmp u))) :
    StepOk P Q ops (InvJ T a0 G l t u k m) k o := by
  refine ⟨hg, fun d d' a W ⟨⟨hF, hG, hH⟩, _⟩ hn hcl hw hk hu hself => ?_⟩
  obtain ⟨v, W', hr, hb, hv, hne⟩ := run d a W hF hG hH hn hcl hw
  refine wp_yields hr ?_
  rw [hd]
  refine ⟨⟨hF.put hT v, SG _ _ _ _ hG hu hb, hH.put hc hct hso hcl hn hk hu hself (by rw [hF.size]; exact hz) (fun x hx _ _ _ u q => St x hx u W W' q hb) hv⟩, fun _ h2 => ?_⟩
  rw [put_same _ _ _ (by rw [hF.size]; exact hz), put_other _ _ hut]
  exact hne (hk m hm h2)
theorem InvJ.flip {s t : Tmp} {i j : Nat} {d : Nat → Prop} {a : Act} {W : World} (h : InvJ T a0 G l s t i j d a W) : InvJ T a0 G l t s j i d a W := ⟨h.1, h.2.flip⟩
theorem stepFlip {ops : Array Oper} {k : Nat} {o : Oper} {s t : Tmp} {i j : Nat} (h : StepOk P Q ops (InvJ T a0 G l t s j i) k o) : StepOk P Q ops (InvJ T a0 G l s t i j) k o :=
  ⟨h.1, fun d d' a w hI hn hcl hw hk hu hself => Oper.wp_mono (fun _ _ h => h.flip) (h.2 d d' a w hI.flip hn hcl hw hk hu hself)⟩
theorem Held.store' {d d' : Nat → Prop} {a : Act} {W W' : World} {k : Nat} {c : Cl} (h : Held d a W l) (hc : l.filter (fun c => c.op == some k) = [c])
    (hk : ∀ j, j ≠ k → d' j → d j) (hu : ∀ j, d j → d' j) (hold : ∀ x ∈ l, x.op ≠ some k → came d x.op → ¬ gone d' x.used → x.p (a.eval (.tmp x.slot)) W → x.p (a.eval (.tmp x.slot)) W') (hnew : c.p (a.eval (.tmp c.slot)) W') : Held d' a W' l := by
  intro x hx h1 h2
  by_cases e : x.op = some k
  · have hx' : x ∈ l.filter (fun c => c.op == some k) := List.mem_filter.2 ⟨hx, by simpa using e⟩
    rw [hc] at hx'
    obtain rfl := List.mem_singleton.1 hx'
    exact hnew
  · have h3 : came d x.op := by
      cases ho : x.op with
      | none => trivial
      | some j => rw [ho] at h1 e; exact hk j (fun q => e (by rw [q])) h1
    exact hold x hx e h3 h2 (h x hx h3 (fun q => h2 (gone_mono hu q)))
end
section
variable {Q : Exit → Act → World → Prop} {T : List Tmp} {a0 : Act} {G : (Nat → Prop) → World → Prop} {l : List Cl}
/-- A store into the box in slot t; u is the other slot, i and m their operations. -/
theorem stepNJ {ops : Array Oper} {k i m : Nat} {o : Oper} {c : Cl} (t u : Tmp) (y : Operand) (ho : o.op = .store 30 (.tmp t) y) (hg : o.guard = none) (hd : o.dst = none) (hc : l.filter (fun c => c.op == some k) = [c]) (hct : c.slot = t) (h : Bs) (hh : h.length = 32) (n0 : Nat) (hik : i ≠ k) (hmk : m ≠ k)
    (hwi : waits o i = true) (hp : ∀ g W, n0 ≤ g → BoxH W g h → c.p (.pointer (some ⟨g, 0, none⟩)) W)
    (St : ∀ c' ∈ l, c'.op = some k ∨ c'.used = some k ∨ (∀ x W g cs, c'.p x W → c'.p x (W.setRow g cs)) ∨ (c'.slot = u ∧ (∀ d, Closed ops d → came d c'.op → d m) ∧ ∀ x W g cs, x ≠ .pointer (some ⟨g, 0, none⟩) → c'.p x W → c'.p x (W.setRow g cs)))
    (SG : ∀ d d' W g, n0 ≤ g → G d W → (∀ j, d j → d' j) → G d' (W.setRow g (ints .u8 (nums h))))
    (run : ∀ d a W, Fr T a0 a → G d W → Held d a W l → ¬ d k → Closed ops d → (∀ j, waits o j = true → d j) → a.eval y = hashV h ∧ ∃ g, a.eval (.tmp t) = .pointer (some ⟨g, 0, none⟩) ∧ n0 ≤ g ∧ ∃ m, BoxA W g 30 .u8 m ∧ m.length = 32) :
    StepOk Tryd.prog Q ops (InvJ T a0 G l t u i m) k o := by
  refine ⟨hg, fun d d' a W ⟨⟨hF, hG, hH⟩, hJ⟩ hn hcl hw hk hu hself => ?_⟩
  obtain ⟨hy, g, hx, hn0, mm, hm, hml⟩ := run d a W hF hG hH hn hcl hw
  refine wp_storeH (.tmp t) y ho g h hx hy hm hml hh ?_
  rw [hd]
  show InvJ T a0 G l t u i m d' a _
  refine ⟨⟨hF, SG _ _ _ g hn0 hG hu, hH.store' hc hk hu (fun c' hc' hne h1 h2 q => ?_) (by rw [hct, hx]; exact hp g _ hn0 (BoxA.setRow hm))⟩, fun h1 h2 => hJ (hk i hik h1) (hk m hmk h2)⟩
  rcases St c' hc' with e | e | e | ⟨e1, e2, e3⟩
  · exact (hne e).elim
  · exact (h2 (by rw [e]; exact hself)).elim
  · exact e _ W g _ q
  · refine e3 _ W g _ (fun e => ?_) q
    rw [e1] at e
    exact hJ (hw i hwi) (e2 d hcl h1) (by rw [hx, e])
end
section
variable {P : Program} {Q : Exit → Act → World → Prop}
theorem AllSteps.of {ops : Array Oper} {I : (Nat → Prop) → Act → World → Prop} : ∀ {l : List Oper} {k : Nat}, (∀ i o, l[i]? = some o → StepOk P Q ops I (k + i) o) → AllSteps P Q ops I k l := by
  intro l
  induction l with
  | nil => intro k _; trivial
  | cons x l ih =>
    intro k h
    exact ⟨h 0 x rfl, ih fun i o ho => by have := h (i + 1) o ho; rwa [show k + (i + 1) = k + 1 + i from by omega] at this⟩
/-- A region that draws its order, the last two operations apart. -/
theorem wp_region_lastly2 {id : Nat} {ops : List Oper} {a : Act} {w : World} (n : Nat) (o1 o2 : Oper) (I : (Nat → Prop) → Act → World → Prop) (hm : P.follows .mixedOrders = true) (hd : onward ops.toArray = true)
    (hn : ops.length = n + 1 + 1) (ho1 : ops[n]? = some o1) (ho2 : ops[n + 1]? = some o2) (hall1 : ∀ d, Closed ops.toArray d → (∀ j, waits o1 j = true → d j) → ∀ j, j < n → d j) (hall2 : (List.range (n + 1)).all (fun j => waits o2 j) = true) (hg1 : o1.guard = none) (hg2 : o2.guard = none)
    (h0 : I (fun _ => False) a w.drew) (hs : AllSteps P Q ops.toArray I 0 (ops.take n)) (hl : ∀ (d : Nat → Prop) (a : Act) (w : World), I d a w → (∀ j, j < n → d j) → o1.wp P a w (fun a' w' => o2.wp P a' w' (fun a'' w'' => Q .normal a'' w'') Q) Q) :
    (Code.region id ops.toArray true).wp P Q a w := by
  refine wp_region_lastly (n + 1) o2 (fun d a w => (d n → o2.wp P a w (fun a' w' => Q .normal a' w') Q) ∧ (¬ d n → I d a w)) hm hd hn ho2 hall2 hg2 ⟨fun h => h.elim, fun _ => h0⟩ (AllSteps.of fun i o ho => ?_) (fun d a w h hall => h.1 (hall n (Nat.lt_succ_self n)))
  rw [List.getElem?_take] at ho
  split at ho
  case isFalse => cases ho
  rename_i hi
  rw [Nat.zero_add]
  by_cases e : i = n
  · subst e
    rw [ho1] at ho
    obtain rfl := Option.some.inj ho
    refine ⟨hg1, fun d d' a w ⟨_, hI⟩ hni hcl hw hk hu hself => ?_⟩
    exact Oper.wp_mono (fun a' w' h => ⟨fun _ => h, fun h' => (h' hself).elim⟩) (hl d a w (hI hni) fun j hj => hall1 d hcl hw j hj)
  · have st := hs.take (i := i) (o := o) (by omega) ho
    rw [Nat.zero_add] at st
    refine ⟨st.1, fun d d' a w ⟨_, hI⟩ hni hcl hw hk hu hself => ?_⟩
    have hnn : ¬ d n := fun h => hni (hall1 d hcl (fun j hj => hcl n o1 j (by simpa using ho1) hj h) i (by omega))
    exact Oper.wp_mono (fun a' w' h => ⟨fun h' => (hnn (hk n (fun q => e q.symm) h')).elim, fun _ => h⟩) (st.2 d d' a w (hI hnn) hni hcl hw hk hu hself)
end
theorem OwnStrs.mono {w : World} {base base' : Nat} {v : Value} {l : List Bs} (h : OwnStrs w base v l) (hb : base' ≤ base) : OwnStrs w base' v l := by
  obtain ⟨h1, h2⟩ := h
  refine ⟨h1, ?_⟩
  rcases h2 with h2 | ⟨g, cap, cur, e, hg, r⟩
  · exact .inl h2
  · exact .inr ⟨g, cap, cur, e, by omega, r⟩
theorem OwnStrs.one (w : World) (base : Nat) (x : Bs) (hb : base ≤ w.heap.size) : OwnStrs (w.alloc (.cells #[.string ⟨x.toArray⟩] 9)) base (.slice (some ⟨w.heap.size, 0, Option.none⟩) 1 1) [x] :=
  ⟨rfl, .inr ⟨w.heap.size, 1, #[.string ⟨x.toArray⟩], rfl, hb, heap_alloc_new w _, Nat.le_refl _, by unfold maxLen; decide, rfl, rfl⟩⟩
/-- A row that a call owns, as a slice. -/
theorem OwnStrs.slice {w : World} {base : Nat} {v : Value} {l : List Bs} (h : OwnStrs w base v l) : ∃ A c, v = .slice A l.length c ∧ Strs w A l ∧ ((∃ a, A = some a) ∨ (A = Option.none ∧ c = 0)) := by
  obtain ⟨A, c, e, hc, hS⟩ := h.toStrs
  refine ⟨A, c, e, hS, ?_⟩
  rcases h.2 with ⟨h2, h3⟩ | ⟨g, cap, cur, e', _⟩
  · rw [h2] at e
    simp only [Value.slice.injEq] at e
    exact .inr ⟨e.1.symm, e.2.2.symm⟩
  · rw [e'] at e
    simp only [Value.slice.injEq] at e
    exact .inl ⟨_, e.1.symm⟩
theorem wp_append_strs {o : Oper} {a : Act} {w : World} {K : Act → World → Prop} {Q : Exit → Act → World → Prop} (s x : Operand) (ho : o.op = .call { callee := .builtin .append, args := #[s, x], argTypes := #[57, 57] }) (base base2 : Nat) (v v2 : Value) (H l : List Bs)
    (hs : a.eval s = v) (hx : a.eval x = v2) (hO : OwnStrs w base v H) (hO2 : OwnStrs w base2 v2 l) (h1 : H.length ≤ 100000) (h2 : l.length ≤ 100000) (hb : base ≤ w.heap.size)
    (hK : ∀ v' w', OwnStrs w' base v' (H ++ l) → Below base w w' → K (a.put o.dst v') w') : o.wp Tryd.prog a w K Q := by
  obtain ⟨A, c, rfl, hS, hA⟩ := hO2.slice
  obtain ⟨v', w', hr, h3, h4⟩ := exec_append_strs (ev := a.eval) s x ho base w v H l A l.length c hs hx rfl hO hS hA h1 h2 hb
  exact wp_yields hr (hK v' w' h3 h4)
theorem wp_append_hs {o : Oper} {a : Act} {w : World} {K : Act → World → Prop} {Q : Exit → Act → World → Prop} (s x : Operand) (ho : o.op = .call { callee := .builtin .append, args := #[s, x], argTypes := #[35, 35] }) (base base2 : Nat) (v v2 : Value) (H l : List Bs)
    (hs : a.eval s = v) (hx : a.eval x = v2) (hO : OwnHs w base v H) (hO2 : OwnHs w base2 v2 l) (h1 : H.length ≤ 100000) (h2 : l.length ≤ 100000) (hb : base ≤ w.heap.size)
    (hK : ∀ v' w', OwnHs w' base v' (H ++ l) → Below base w w' → K (a.put o.dst v') w') : o.wp Tryd.prog a w K Q := by
  obtain ⟨v', w', hr, h3, h4⟩ := exec_append_hs (ev := a.eval) s x ho base base2 w v v2 H l hs hx hO hO2 h1 h2 hb
  exact wp_yields hr (hK v' w' h3 h4)
end Go.Proofs.YtcocengpekndjaaDoor
