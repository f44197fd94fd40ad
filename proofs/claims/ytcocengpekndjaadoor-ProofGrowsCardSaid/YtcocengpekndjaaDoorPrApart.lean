/- Drawn regions with two rows that are apart: an append onto one of them leaves the other one. -/
import Derived.Test.YtcocengpekndjaaDoorPrJoint
import Derived.Test.YtcocengpekndjaaDoorPrFresh
namespace Go.Proofs.YtcocengpekndjaaDoor
open Go.RowKit
/-- Two rows lie in different blocks. -/
def Off (u v : Value) : Prop := ∀ g, u.ownBlock = some g → v.ownBlock ≠ some g
theorem Off.symm {u v : Value} (h : Off u v) : Off v u := fun g h1 h2 => h g h2 h1
section
variable {P : Program} {Q : Exit → Act → World → Prop} {T : List Tmp} {a0 : Act} {G : (Nat → Prop) → World → Prop} {l : List Cl}
def ApartR (s t : Tmp) (i j x : Nat) (d : Nat → Prop) (a : Act) : Prop := d i → d j → ¬ d x → Off (a.eval (.tmp s)) (a.eval (.tmp t))
def InvR (T : List Tmp) (a0 : Act) (G : (Nat → Prop) → World → Prop) (l : List Cl) (s t : Tmp) (i j x : Nat) (d : Nat → Prop) (a : Act) (W : World) : Prop := Inv T a0 G l d a W ∧ ApartR s t i j x d a
theorem stepR' {ops : Array Oper} {k : Nat} {o : Oper} {s t : Tmp} {i j x : Nat} (hs : o.dst ≠ some s) (ht : o.dst ≠ some t) (hi : i ≠ k) (hj : j ≠ k) (h : StepOk P Q ops (Inv T a0 G l) k o) : StepOk P Q ops (InvR T a0 G l s t i j x) k o := by
  refine ⟨h.1, fun d d' a w ⟨hI, hJ⟩ hn hcl hw hk hu hself => ?_⟩
  refine Oper.wp_mono ?_ (wp_put (h.2 d d' a w hI hn hcl hw hk hu hself))
  rintro a' w' ⟨hI', v, ds, rfl⟩
  refine ⟨hI', fun h1 h2 h3 => ?_⟩
  have e : ∀ x : Tmp, o.dst ≠ some x → (({ a with defers := ds } : Act).put o.dst v).eval (.tmp x) = a.eval (.tmp x) := fun x hx => by
    cases hd : o.dst with
    | none => rfl
    | some y => exact (put_other _ _ (fun q => hx (by rw [hd, q])))
  rw [e s hs, e t ht]
  exact hJ (hk i hi h1) (hk j hj h2) (fun h => h3 (hu x h))
theorem InvR.flip {s t : Tmp} {i j x : Nat} {d : Nat → Prop} {a : Act} {W : World} (h : InvR T a0 G l s t i j x d a W) : InvR T a0 G l t s j i x d a W := ⟨h.1, fun h1 h2 h3 => (h.2 h2 h1 h3).symm⟩
theorem stepFlipR {ops : Array Oper} {k : Nat} {o : Oper} {s t : Tmp} {i j x : Nat} (h : StepOk P Q ops (InvR T a0 G l t s j i x) k o) : StepOk P Q ops (InvR T a0 G l s t i j x) k o :=
  ⟨h.1, fun d d' a w hI hn hcl hw hk hu hself => Oper.wp_mono (fun _ _ h => h.flip) (h.2 d d' a w hI.flip hn hcl hw hk hu hself)⟩
/-- A call that fills one of the two slots; u is the other one, m its operation. -/
theorem stepCR {ops : Array Oper} {k : Nat} {o : Oper} {t u : Tmp} {m x : Nat} {c : Cl} (hg : o.guard = none) (hd : o.dst = some t) (hT : t ∈ T) (hz : t < a0.tmps.size) (hc : l.filter (fun c => c.op == some k) = [c]) (hct : c.slot = t)
    (hso : slotsOk ops l k t = true) (St : ∀ c ∈ l, Lasts c) (SG : ∀ d d' W W', G d W → (∀ j, d j → d' j) → Below W.heap.size W W' → G d' W') (hut : u ≠ t) (hm : m ≠ k)
    (run : ∀ d a W, Fr T a0 a → G d W → Held d a W l → ¬ d k → Closed ops d → (∀ j, waits o j = true → d j) → ∃ f args, (execOp a.eval o).run P W = .ok (.enter f args) W ∧ Calls P f args W fun e W' => ∃ v, e = .returned v ∧ Below W.heap.size W W' ∧ c.p v W' ∧ (d m → ¬ d x → Off v (a.eval (.tmp u)))) :
    StepOk P Q ops (InvR T a0 G l t u k m x) k o := by
  refine ⟨hg, fun d d' a W ⟨⟨hF, hG, hH⟩, _⟩ hn hcl hw hk hu hself => ?_⟩
  obtain ⟨f, args, hr, hcall⟩ := run d a W hF hG hH hn hcl hw
  refine wp_enters hr hcall fun e W' ⟨v, he, hb, hv, hne⟩ => ⟨v, he, ?_⟩
  rw [hd]
  refine ⟨⟨hF.put hT v, SG _ _ _ _ hG hu hb, hH.put hc hct hso hcl hn hk hu hself (by rw [hF.size]; exact hz) (fun x hx _ _ _ u q => St x hx u W W' q hb) hv⟩, fun _ h2 h3 => ?_⟩
  rw [put_same _ _ _ (by rw [hF.size]; exact hz), put_other _ _ hut]
  exact hne (hk m hm h2) (fun h => h3 (hu x h))
theorem Held.put' {d d' : Nat → Prop} {a : Act} {W W' : World} {ops : Array Oper} {k : Nat} {t : Tmp} {v : Value} {c : Cl} (h : Held d a W l) (hc : l.filter (fun c => c.op == some k) = [c]) (hct : c.slot = t) (hso : slotsOk ops l k t = true) (hcl : Closed ops d) (hn : ¬ d k)
    (hk : ∀ j, j ≠ k → d' j → d j) (hu : ∀ j, d j → d' j) (hself : d' k) (ht : t < a.tmps.size) (hold : ∀ x ∈ l, x.op ≠ some k → came d x.op → ¬ gone d' x.used → x.p (a.eval (.tmp x.slot)) W → x.p (a.eval (.tmp x.slot)) W') (hnew : c.p v W') : Held d' (a.put (some t) v) W' l := by
  intro x hx h1 h2
  by_cases e : x.op = some k
  · have hx' : x ∈ l.filter (fun c => c.op == some k) := List.mem_filter.2 ⟨hx, by simpa using e⟩
    rw [hc] at hx'
    obtain rfl := List.mem_singleton.1 hx'
    rw [hct, put_same _ _ _ ht]
    exact hnew
  · have h3 : came d x.op := by
      cases ho : x.op with
      | none => trivial
      | some j => rw [ho] at h1 e; exact hk j (fun q => e (by rw [q])) h1
    rw [put_other _ _ (slotsOk_spec hso hcl hn x hx e (fun q => h2 (by rw [q]; exact hself)) h3)]
    exact hold x hx e h3 h2 (h x hx h3 (fun q => h2 (gone_mono hu q)))
/-- An append onto the row in slot s; u is the slot of the other row. -/
theorem stepAR {ops : Array Oper} {k i m : Nat} {o : Oper} {t s u : Tmp} {c : Cl} (hg : o.guard = none) (hd : o.dst = some t) (hT : t ∈ T) (hz : t < a0.tmps.size) (hc : l.filter (fun c => c.op == some k) = [c]) (hct : c.slot = t)
    (hso : slotsOk ops l k t = true) (base : Nat) (hwi : waits o i = true)
    (St : ∀ c' ∈ l, c'.op = some k ∨ c'.used = some k ∨ (∀ u W W', c'.p u W → Below base W W' → c'.p u W') ∨ (∀ d, Closed ops d → (∀ j, waits o j = true → d j) → gone d c'.used) ∨ (c'.slot = u ∧ (∀ d, Closed ops d → came d c'.op → d m) ∧ ∀ x y W W', Off x y → c'.p y W → W.grownBy W' x.ownBlock → c'.p y W') ∨ (∀ d, Closed ops d → came d c'.op → d k))
    (SG : ∀ d d' W W', G d W → (∀ j, d j → d' j) → Below base W W' → G d' W')
    (run : ∀ d a W, Fr T a0 a → G d W → Held d a W l → ¬ d k → Closed ops d → (∀ j, waits o j = true → d j) → ∃ v W', (execOp a.eval o).run P W = .ok (.value v) W' ∧ Below base W W' ∧ W.grownBy W' (a.eval (.tmp s)).ownBlock ∧ c.p v W') :
    StepOk P Q ops (InvR T a0 G l s u i m k) k o := by
  refine ⟨hg, fun d d' a W ⟨⟨hF, hG, hH⟩, hJ⟩ hn hcl hw hk hu hself => ?_⟩
  obtain ⟨v, W', hr, hb, hgr, hv⟩ := run d a W hF hG hH hn hcl hw
  refine wp_yields hr ?_
  rw [hd]
  refine ⟨⟨hF.put hT v, SG _ _ _ _ hG hu hb, hH.put' hc hct hso hcl hn hk hu hself (by rw [hF.size]; exact hz) (fun x hx h1 h2 h3 q => ?_) hv⟩, fun _ _ h3 => (h3 hself).elim⟩
  rcases St x hx with e | e | e | e | ⟨e1, e2, e3⟩ | e
  · exact (h1 e).elim
  · exact (h3 (by rw [e]; exact hself)).elim
  · exact e _ W W' q hb
  · exact (h3 (gone_mono hu (e d hcl hw))).elim
  · refine e3 _ _ W W' ?_ q hgr
    rw [e1]
    exact hJ (hw i hwi) (e2 d hcl h2) hn
  · exact (hn (e d hcl h2)).elim
end
theorem OwnStrs.off {w w' : World} {base : Nat} {x v : Value} {l : List Bs} (hx : Off x v) (h : OwnStrs w base v l) (hg : w.grownBy w' x.ownBlock) : OwnStrs w' base v l := by
  refine h.kept hg ?_
  cases e : v.ownBlock with
  | none => exact .inl rfl
  | some g => exact .inr fun q => hx g q.symm e
/-- A new row, and an old one: they are apart. -/
theorem OwnStrs.off_new {w w' : World} {base' : Nat} {v u : Value} {l m : List Bs} (h : OwnStrs w' w.heap.size v l) (hu : OwnStrs w base' u m) : Off v u := fun g h1 h2 => by
  have a := (h.lt g h1).1
  have b := (hu.lt g h2).2
  omega
theorem exec_append_strsG {ev : Operand → Value} {o : Oper} (s x : Operand) (ho : o.op = .call { callee := .builtin .append, args := #[s, x], argTypes := #[57, 57] }) (base base2 : Nat) (w : World) (v v2 : Value) (H l : List Bs)
    (hs : ev s = v) (hx : ev x = v2) (hO : OwnStrs w base v H) (hO2 : OwnStrs w base2 v2 l) (h1 : H.length ≤ 100000) (h2 : l.length ≤ 100000) (hb : base ≤ w.heap.size) :
    ∃ v' w', (execOp ev o).run Tryd.prog w = .ok (.value v') w' ∧ Below base w w' ∧ w.grownBy w' v.ownBlock ∧ OwnStrs w' base v' (H ++ l) := by
  obtain ⟨i0, hi0, hz0, hz1, hz2⟩ := info_parts infoStr
  have fin : ∀ v' w', (Builtin.append_ #[57, 57] o.type #[v, v2]).run Tryd.prog w = .ok v' w' → (execOp ev o).run Tryd.prog w = .ok (.value v') w' := fun v' w' hr => by
    unfold execOp
    simp only [ho, resolve, invoke, builtin, Sem.run_bind, Sem.run_pure, Result.andThen_ok, List.map_toArray, List.map_cons, List.map_nil, hs, hx, hr]
  rcases hO2.2 with ⟨rfl, hl⟩ | ⟨g, cap, cur, e, _⟩
  · have : l = [] := List.eq_nil_of_length_eq_zero hl
    subst this
    exact ⟨v, w, fin _ _ (run_append_owned_none (P := Tryd.prog) (w := w) base 57 o.type 9 i0 1 (by kernel_rfl) hi0 v H.length (cellsT H) hO), Below.refl _ _, World.grownBy.refl _ _, by rw [List.append_nil]; exact hO⟩
  · obtain ⟨A, c, e2, hc, hS⟩ := hO2.toStrs
    rw [e] at e2
    simp only [Value.slice.injEq] at e2
    obtain ⟨rfl, _, rfl⟩ := e2
    have hcell : ∀ j u, (cellsT l)[j]? = some u → w.cell? ((⟨g, 0, none⟩ : Addr).add j) = some u := by
      rcases hS with h | ⟨a', ea, h⟩
      · intro j u hu; rw [h] at hu; simp [cellsT] at hu
      · cases ea; exact h
    obtain ⟨v', w', hr, r1, r2, _⟩ := run_append_own (P := Tryd.prog) (w := w) base 57 o.type 9 i0 (.string ⟨#[]⟩) 1 16 (by kernel_rfl) hi0 hz0 hz1 hz2 rfl (by decide) v H.length (cellsT H) hO ⟨g, 0, none⟩ l.length cap (cellsT l) (by rw [cellsT_length, Nat.mul_one]) hcell (cellsT_one l) (by unfold maxLen; omega) (by omega) hb
    refine ⟨v', w', fin _ _ (by rw [e]; exact hr), below_own hO r2 hb, r2, ?_⟩
    unfold OwnStrs
    rw [List.length_append, show cellsT (H ++ l) = cellsT H ++ cellsT l from List.map_append]
    exact r1
end Go.Proofs.YtcocengpekndjaaDoor
