/- Rows of hashes joined; rows of strings that a call owns. -/
import Derived.Test.YtcocengpekndjaaDoorPrStrs
import Derived.Test.YtcocengpekndjaaDoorPrRange
namespace Go.Proofs.YtcocengpekndjaaDoor
open Go.RowKit
theorem cellsH_one' (l : List Bs) : ∀ u ∈ cellsH l, u.oneCell' = true := fun u hu => by
  simp only [cellsH, List.mem_flatMap] at hu
  obtain ⟨x, _, h⟩ := hu
  exact cellsB_one x u h
theorem run_append_hs (base base2 : Nat) (w : World) (v v2 : Value) (H l : List Bs) (ty : TypeId) (hO : OwnHs w base v H) (hO2 : OwnHs w base2 v2 l) (h1 : H.length ≤ 100000) (h2 : l.length ≤ 100000) (hb : base ≤ w.heap.size) :
    ∃ v' w', (Builtin.append_ #[35, 35] ty #[v, v2]).run Tryd.prog w = .ok v' w' ∧ OwnHs w' base v' (H ++ l) ∧ Below base w w' := by
  obtain ⟨i0, hi0, hz0, hz1, hz2⟩ := info_parts infoHash
  rcases hO2.2.2 with ⟨rfl, hl⟩ | ⟨g, cap, cur, e, _⟩
  · have : l = [] := List.eq_nil_of_length_eq_zero hl
    subst this
    exact ⟨v, w, run_append_owned_none (P := Tryd.prog) (w := w) base 35 ty 30 i0 32 (by kernel_rfl) hi0 v H.length (cellsH H) hO.2, by rw [List.append_nil]; exact hO, Below.refl _ _⟩
  · obtain ⟨A, c, e2, hc, hs⟩ := hO2.toHs
    rw [e] at e2
    simp only [Value.slice.injEq] at e2
    obtain ⟨rfl, _, rfl⟩ := e2
    have hcell : ∀ j u, (cellsH l)[j]? = some u → w.cell? ((⟨g, 0, none⟩ : Addr).add j) = some u := by
      rcases hs.2 with h | ⟨a, ea, h⟩
      · intro j u hu; rw [h] at hu; simp [cellsH] at hu
      · cases ea; exact h
    obtain ⟨v', w', hr, r1, r2, _⟩ := run_append_own (P := Tryd.prog) (w := w) base 35 ty 30 i0 zero32 32 32 (by kernel_rfl) hi0 hz0 hz1 hz2 zero32_size (by decide) v H.length (cellsH H) hO.2 ⟨g, 0, none⟩ l.length cap (cellsH l) (cellsH_length hO2.1) hcell (cellsH_one' l) (by unfold maxLen; omega) (by omega) hb
    refine ⟨v', w', by rw [e]; exact hr, ⟨fun x hx => (List.mem_append.1 hx).elim (hO.1 x) (hO2.1 x), ?_⟩, below_own hO.2 r2 hb⟩
    rw [List.length_append, cellsH_append]
    exact r1
theorem exec_append_hs {ev : Operand → Value} {o : Oper} (s x : Operand) (ho : o.op = .call { callee := .builtin .append, args := #[s, x], argTypes := #[35, 35] }) (base base2 : Nat) (w : World) (v v2 : Value) (H l : List Bs)
    (hs : ev s = v) (hx : ev x = v2) (hO : OwnHs w base v H) (hO2 : OwnHs w base2 v2 l) (h1 : H.length ≤ 100000) (h2 : l.length ≤ 100000) (hb : base ≤ w.heap.size) :
    ∃ v' w', (execOp ev o).run Tryd.prog w = .ok (.value v') w' ∧ OwnHs w' base v' (H ++ l) ∧ Below base w w' := by
  obtain ⟨v', w', hr, h3, h4⟩ := run_append_hs base base2 w v v2 H l o.type hO hO2 h1 h2 hb
  refine ⟨v', w', ?_, h3, h4⟩
  unfold execOp
  simp only [ho, resolve, invoke, builtin, Sem.run_bind, Sem.run_pure, Result.andThen_ok, List.map_toArray, List.map_cons, List.map_nil, hs, hx, hr]
theorem exec_append_hs2 {ev : Operand → Value} {o : Oper} (s x : Operand) (ho : o.op = .call { callee := .builtin .append, args := #[s, x], argTypes := #[35, 35] }) (base base2 : Nat) (w : World) (v v2 : Value) (H l : List Bs)
    (hs : ev s = v) (hx : ev x = v2) (hO : OwnHs w base v H) (hO2 : OwnHs w base2 v2 l) (h1 : H.length ≤ 100000) (h2 : l.length ≤ 100000) (hb : base ≤ w.heap.size) :
    ∃ v' w', (execOp ev o).run Tryd.prog w = .ok (.value v') w' ∧ Below base w w' ∧ OwnHs w' base v' (H ++ l) := by
  obtain ⟨v', w', hr, h3, h4⟩ := exec_append_hs (ev := ev) s x ho base base2 w v v2 H l hs hx hO hO2 h1 h2 hb
  exact ⟨v', w', hr, h4, h3⟩
theorem wpList_append_hs {ops : Array Oper} {rest : List Oper} {o : Oper} {a : Act} {w : World} {Q : Exit → Act → World → Prop} (hgd : o.guard = none) (s x : Operand) (ho : o.op = .call { callee := .builtin .append, args := #[s, x], argTypes := #[35, 35] }) (base base2 : Nat) (v v2 : Value) (H l : List Bs)
    (hs : a.eval s = v) (hx : a.eval x = v2) (hO : OwnHs w base v H) (hO2 : OwnHs w base2 v2 l) (h1 : H.length ≤ 100000) (h2 : l.length ≤ 100000) (hb : base ≤ w.heap.size)
    (K : ∀ v' w', OwnHs w' base v' (H ++ l) → Below base w w' → wpList Tryd.prog ops Q rest (a.put o.dst v') w') : wpList Tryd.prog ops Q (o :: rest) a w := by
  obtain ⟨v', w', hr, h3, h4⟩ := exec_append_hs (ev := a.eval) s x ho base base2 w v v2 H l hs hx hO hO2 h1 h2 hb
  refine wpList_plain hgd fun _ hK => ?_
  unfold Oper.wp
  rw [hr]
  exact hK _ _ (K v' w' h3 h4)
/-- The cells of a row of strings. -/
def cellsT (l : List Bs) : List Value := l.map fun s => Value.string ⟨s.toArray⟩
theorem cellsT_length (l : List Bs) : (cellsT l).length = l.length := List.length_map _
theorem cellsT_one (l : List Bs) : ∀ u ∈ cellsT l, u.oneCell' = true := fun u hu => by
  obtain ⟨x, _, rfl⟩ := List.mem_map.1 hu; rfl
/-- A row of strings that lies in a block from base on. -/
def OwnStrs (w : World) (base : Nat) (v : Value) (l : List Bs) : Prop := w.ownsRow base 9 1 v l.length (cellsT l)
theorem OwnStrs.toStrs {w : World} {base : Nat} {v : Value} {l : List Bs} (h : OwnStrs w base v l) : ∃ A c, v = .slice A l.length c ∧ l.length ≤ c ∧ Strs w A l := by
  obtain ⟨h1, h2⟩ := h
  rcases h2 with ⟨h2, h3⟩ | ⟨g, cap, cur, e, hg, hh, hc, _, hs, ht⟩
  · have : l = [] := List.eq_nil_of_length_eq_zero h3
    subst this
    exact ⟨none, 0, h2, Nat.le_refl _, .inl rfl⟩
  · refine ⟨some ⟨g, 0, none⟩, cap, e, hc, .inr ⟨_, rfl, fun j u hu => ?_⟩⟩
    change (cellsT l)[j]? = some u at hu
    rw [← ht, List.getElem?_take] at hu
    split at hu
    · rw [Addr.add_mid, Nat.zero_add, cell_of_row w g j cur _ _ hh, ← Array.getElem?_toList]; exact hu
    · cases hu
theorem OwnStrs.next {w w' : World} {base : Nat} {v : Value} {l : List Bs} (h : OwnStrs w base v l) (hB : Below w.heap.size w w') : OwnStrs w' base v l := by
  obtain ⟨h1, h2⟩ := h
  refine ⟨h1, ?_⟩
  rcases h2 with h2 | ⟨g, cap, cur, e, hg, hh, r⟩
  · exact .inl h2
  · exact .inr ⟨g, cap, cur, e, hg, (hB.block g (Array.getElem?_eq_some_iff.1 hh).1).trans hh, r⟩
theorem OwnStrs.empty (w : World) : OwnStrs (w.alloc (.cells #[] 9)) w.heap.size (.slice (some ⟨w.heap.size, 0, none⟩) 0 0) [] :=
  ⟨rfl, .inr ⟨w.heap.size, 0, #[], rfl, Nat.le_refl _, heap_alloc_new w _, Nat.le_refl _, Nat.zero_le _, rfl, rfl⟩⟩
theorem OwnStrs.none (w : World) (base : Nat) : OwnStrs w base (.slice none 0 0) [] := World.ownsRow_nil _ _ _ _
theorem infoStr : (Tryd.prog.info? 9).map (fun i => (i.zero, i.size, i.bytes)) = some (some (.string ⟨#[]⟩), 1, 16) := by kernel_rfl
theorem run_append_strs (base : Nat) (w : World) (v : Value) (H l : List Bs) (ty : TypeId) (A : Option Addr) (c : Nat) (hO : OwnStrs w base v H) (hS : Strs w A l) (hA : (∃ a, A = some a) ∨ (A = none ∧ c = 0)) (h1 : H.length ≤ 100000) (h2 : l.length ≤ 100000) (hb : base ≤ w.heap.size) :
    ∃ v' w', (Builtin.append_ #[57, 57] ty #[v, .slice A l.length c]).run Tryd.prog w = .ok v' w' ∧ OwnStrs w' base v' (H ++ l) ∧ Below base w w' := by
  obtain ⟨i0, hi0, hz0, hz1, hz2⟩ := info_parts infoStr
  by_cases hA0 : A = none
  · subst hA0
    obtain rfl : c = 0 := by
      rcases hA with ⟨a, e⟩ | ⟨_, e⟩
      · cases e
      · exact e
    obtain rfl : l = [] := by
      rcases hS with h | ⟨a, e, _⟩
      · exact h
      · cases e
    exact ⟨v, w, run_append_owned_none (P := Tryd.prog) (w := w) base 57 ty 9 i0 1 (by kernel_rfl) hi0 v H.length (cellsT H) hO, by rw [List.append_nil]; exact hO, Below.refl _ _⟩
  obtain ⟨a, rfl⟩ : ∃ a, A = some a := by
    rcases hA with h | ⟨e, _⟩
    · exact h
    · exact absurd e hA0
  have hcell : ∀ j u, (cellsT l)[j]? = some u → w.cell? (a.add j) = some u := by
    rcases hS with h | ⟨a', ea, h⟩
    · intro j u hu; rw [h] at hu; simp [cellsT] at hu
    · cases ea; exact h
  obtain ⟨v', w', hr, r1, r2, _⟩ := run_append_own (P := Tryd.prog) (w := w) base 57 ty 9 i0 (.string ⟨#[]⟩) 1 16 (by kernel_rfl) hi0 hz0 hz1 hz2 rfl (by decide) v H.length (cellsT H) hO a l.length c (cellsT l) (by rw [cellsT_length, Nat.mul_one]) hcell (cellsT_one l) (by unfold maxLen; omega) (by omega) hb
  refine ⟨v', w', hr, ?_, below_own hO r2 hb⟩
  unfold OwnStrs
  rw [List.length_append, show cellsT (H ++ l) = cellsT H ++ cellsT l from List.map_append]
  exact r1
theorem exec_append_strs {ev : Operand → Value} {o : Oper} (s x : Operand) (ho : o.op = .call { callee := .builtin .append, args := #[s, x], argTypes := #[57, 57] }) (base : Nat) (w : World) (v : Value) (H l : List Bs) (A : Option Addr) (n c : Nat)
    (hs : ev s = v) (hx : ev x = .slice A n c) (hn : l.length = n) (hO : OwnStrs w base v H) (hS : Strs w A l) (hA : (∃ a, A = some a) ∨ (A = none ∧ c = 0)) (h1 : H.length ≤ 100000) (h2 : l.length ≤ 100000) (hb : base ≤ w.heap.size) :
    ∃ v' w', (execOp ev o).run Tryd.prog w = .ok (.value v') w' ∧ OwnStrs w' base v' (H ++ l) ∧ Below base w w' := by
  subst hn
  obtain ⟨v', w', hr, h3, h4⟩ := run_append_strs base w v H l o.type A c hO hS hA h1 h2 hb
  refine ⟨v', w', ?_, h3, h4⟩
  unfold execOp
  simp only [ho, resolve, invoke, builtin, Sem.run_bind, Sem.run_pure, Result.andThen_ok, List.map_toArray, List.map_cons, List.map_nil, hs, hx, hr]
theorem wpList_append_strs {ops : Array Oper} {rest : List Oper} {o : Oper} {a : Act} {w : World} {Q : Exit → Act → World → Prop} (hgd : o.guard = none) (s x : Operand) (ho : o.op = .call { callee := .builtin .append, args := #[s, x], argTypes := #[57, 57] }) (base : Nat) (v : Value) (H l : List Bs) (A : Option Addr) (n c : Nat)
    (hs : a.eval s = v) (hx : a.eval x = .slice A n c) (hn : l.length = n) (hO : OwnStrs w base v H) (hS : Strs w A l) (hA : (∃ a, A = some a) ∨ (A = none ∧ c = 0)) (h1 : H.length ≤ 100000) (h2 : l.length ≤ 100000) (hb : base ≤ w.heap.size)
    (K : ∀ v' w', OwnStrs w' base v' (H ++ l) → Below base w w' → wpList Tryd.prog ops Q rest (a.put o.dst v') w') : wpList Tryd.prog ops Q (o :: rest) a w := by
  obtain ⟨v', w', hr, h3, h4⟩ := exec_append_strs (ev := a.eval) s x ho base w v H l A n c hs hx hn hO hS hA h1 h2 hb
  refine wpList_plain hgd fun _ hK => ?_
  unfold Oper.wp
  rw [hr]
  exact hK _ _ (K v' w' h3 h4)
/-- A row of strings, cut behind: what lies ahead. -/
theorem Strs.take {w : World} {A : Option Addr} {l : List Bs} (h : Strs w A l) (k : Nat) : Strs w A (l.take k) := by
  rcases h with h | ⟨a, e, h⟩
  · left; rw [h, List.take_nil]
  · refine .inr ⟨a, e, fun i u hu => h i u ?_⟩
    rw [List.map_take, List.getElem?_take] at hu
    split at hu
    · exact hu
    · cases hu
theorem Strs.drop {w : World} {a : Addr} {l : List Bs} (h : Strs w (some a) l) (k : Nat) : Strs w (some (a.add k)) (l.drop k) := by
  rcases h with h | ⟨a', e, h⟩
  · left; rw [h, List.drop_nil]
  · cases e
    refine .inr ⟨_, rfl, fun i u hu => ?_⟩
    rw [List.map_drop, List.getElem?_drop] at hu
    rw [add_add]
    exact h _ u hu
/-- Where the strings from number i on lie. -/
def cutS (A : Option Addr) (c i : Nat) : Option Addr := if c = i then A else A.map (·.add (i * 1))
theorem Strs.from_ {w : World} {A : Option Addr} {l : List Bs} (h : Strs w A l) (k c : Nat) (hc : l.length ≤ c) : Strs w (cutS A c k) (l.drop k) := by
  unfold cutS
  split
  · rename_i e
    left
    exact List.drop_of_length_le (by omega)
  · rw [Nat.mul_one]
    cases A with
    | none =>
      rcases h with h | ⟨a, e, _⟩
      · left; rw [h, List.drop_nil]
      · cases e
    | some a => exact h.drop k
theorem exec_sliceS_to {ev : Operand → Value} {o : Oper} {W : World} {x y : Operand} {A : Option Addr} {n c k : Nat} (ho : o.op = .slice 57 x none (some y) none) (hx : ev x = .slice A n c) (hy : ev y = .int .i64 (k : Int)) (hk : k ≤ c) :
    (execOp ev o).run Tryd.prog W = .ok (.value (.slice A k c)) W := by
  have e : (Instr.slice 57 (.slice A n c) none (some (.int .i64 k)) none).run Tryd.prog W = .ok (.slice A k c) W := by
    rw [run_slice_h W _ A n c elemS .i64 k (by omega) (by omega), sizeS]
    simp only [Result.andThen, sliced, Int.toNat_natCast, Nat.zero_mul, Nat.sub_zero]
    have : A.map (·.add 0) = A := by cases A <;> simp [Addr.add]
    rw [this]; split <;> rfl
  rw [← run_sliceAt_slice W _ _ _ _ _ elemS] at e
  simp [execOp, ho, hx, hy, e]
theorem exec_sliceS_from {ev : Operand → Value} {o : Oper} {W : World} {x y : Operand} {A : Option Addr} {n c k : Nat} (ho : o.op = .slice 57 x (some y) none none) (hx : ev x = .slice A n c) (hy : ev y = .int .i64 (k : Int)) (hk : k ≤ n) :
    (execOp ev o).run Tryd.prog W = .ok (.value (.slice (cutS A c k) (n - k) (c - k))) W := by
  have e : (Instr.slice 57 (.slice A n c) (some (.int .i64 k)) none none).run Tryd.prog W = .ok (.slice (cutS A c k) (n - k) (c - k)) W := by
    rw [run_slice_l W _ A n c elemS .i64 k (by omega) (by omega), sizeS]; rfl
  rw [← run_sliceAt_slice W _ _ _ _ _ elemS] at e
  simp [execOp, ho, hx, hy, e]
section
variable {P : Program} {Q : Exit → Act → World → Prop} {T : List Tmp} {a0 : Act} {G : (Nat → Prop) → World → Prop} {l : List Cl}
/-- An operation that yields a value and changes nothing below base. -/
theorem stepA {ops : Array Oper} {k : Nat} {o : Oper} {t : Tmp} {c : Cl} (hg : o.guard = none) (hd : o.dst = some t) (hT : t ∈ T) (hz : t < a0.tmps.size) (hc : l.filter (fun c => c.op == some k) = [c]) (hct : c.slot = t)
    (hso : slotsOk ops l k t = true) (base : Nat) (St : ∀ c' ∈ l, c'.op = some k ∨ c'.used = some k ∨ ∀ u W W', c'.p u W → Below base W W' → c'.p u W') (SG : ∀ d d' W W', G d W → (∀ j, d j → d' j) → Below base W W' → G d' W')
    (run : ∀ d a W, Fr T a0 a → G d W → Held d a W l → ¬ d k → Closed ops d → (∀ j, waits o j = true → d j) → ∃ v W', (execOp a.eval o).run P W = .ok (.value v) W' ∧ Below base W W' ∧ c.p v W') :
    StepOk P Q ops (Inv T a0 G l) k o := by
  refine ⟨hg, fun d d' a W ⟨hF, hG, hH⟩ hn hcl hw hk hu hself => ?_⟩
  obtain ⟨v, W', hr, hb, hv⟩ := run d a W hF hG hH hn hcl hw
  refine wp_yields hr ?_
  rw [hd]
  refine ⟨hF.put hT v, SG _ _ _ _ hG hu hb, hH.put hc hct hso hcl hn hk hu hself (by rw [hF.size]; exact hz) (fun x hx h1 _ h3 u q => ?_) hv⟩
  rcases St x hx with e | e | e
  · exact (h1 e).elim
  · exact (h3 (by rw [e]; exact hself)).elim
  · exact e u W W' q hb
end
theorem OwnHs.one (w : World) (base : Nat) {x : Bs} (hx : x.length = 32) (hb : base ≤ w.heap.size) : OwnHs (w.alloc (.cells (cellsB x).toArray 30)) base (.slice (some ⟨w.heap.size, 0, none⟩) 1 1) [x] := by
  have hl : (cellsB x).length = 32 := by rw [cellsB_length, hx]
  refine ⟨H32.one hx, by rw [cellsH_length (H32.one hx)], .inr ⟨w.heap.size, 1, (cellsB x).toArray, rfl, hb, heap_alloc_new w _, Nat.le_refl _, by unfold maxLen; decide, by simp [hl], ?_⟩⟩
  simp only [cellsH, List.flatMap_cons, List.flatMap_nil, List.append_nil]
  exact List.take_of_length_le (Nat.le_of_eq hl)
theorem exec_buildHs {ev : Operand → Value} {o : Oper} {W : World} (base : Nat) (xo : Operand) (ho : o.op = .buildSlice 35 1 #[(0, xo)]) (x : Bs) (hx : ev xo = hashV x) (hx32 : x.length = 32) (hb : base ≤ W.heap.size) :
    ∃ v W', (execOp ev o).run Tryd.prog W = .ok (.value v) W' ∧ OwnHs W' base v [x] ∧ Below W.heap.size W W' :=
  ⟨_, _, exec_buildH xo ho x hx hx32, OwnHs.one W base hx32 hb, Below.new1 _ _⟩
theorem OwnHs.nil (w : World) (base : Nat) : OwnHs w base (.slice none 0 0) [] := ⟨H32.nil, World.ownsRow_nil _ _ _ _⟩
theorem exec_sliceH_to {ev : Operand → Value} {o : Oper} {W : World} {x y : Operand} {A : Option Addr} {n c k : Nat} (ho : o.op = .slice 35 x none (some y) none) (hx : ev x = .slice A n c) (hy : ev y = .int .i64 (k : Int)) (hk : k ≤ c) :
    (execOp ev o).run Tryd.prog W = .ok (.value (.slice A k c)) W := by
  have e := hs_to A n c k hk W
  rw [← run_sliceAt_slice W _ _ _ _ _ elemH] at e
  simp [execOp, ho, hx, hy, e]
end Go.Proofs.YtcocengpekndjaaDoor
