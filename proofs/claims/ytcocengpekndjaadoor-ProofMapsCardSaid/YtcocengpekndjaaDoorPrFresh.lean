/- An append onto an empty row; a byte of a row of hashes that is turned. -/
import Derived.Test.YtcocengpekndjaaDoorPrJoint
namespace Go.Proofs.YtcocengpekndjaaDoor
open Go.RowKit
theorem bits_xor_u8 (x y : UInt8) : bits .xor .u8 (x.toNat : Int) (y.toNat : Int) = ((x ^^^ y).toNat : Int) := by
  have hx : x.toNat ^^^ y.toNat < 2 ^ 8 := Nat.xor_lt_two_pow x.toNat_lt y.toNat_lt
  have h1 : (BitVec.ofInt 8 (x.toNat : Int)).toNat = x.toNat := by
    rw [BitVec.ofInt_natCast, BitVec.toNat_ofNat]; exact Nat.mod_eq_of_lt x.toNat_lt
  have h2 : (BitVec.ofInt 8 (y.toNat : Int)).toNat = y.toNat := by
    rw [BitVec.ofInt_natCast, BitVec.toNat_ofNat]; exact Nat.mod_eq_of_lt y.toNat_lt
  show IntKind.u8.wrap ((BitVec.ofInt 8 (x.toNat : Int) ^^^ BitVec.ofInt 8 (y.toNat : Int)).toNat : Int) = _
  rw [BitVec.toNat_xor, h1, h2, UInt8.toNat_xor]
  have : IntKind.u8.wrap ((x.toNat ^^^ y.toNat : Nat) : Int) = ((x.toNat ^^^ y.toNat : Nat) : Int) := by
    rw [IntKind.wrap_u8]; omega
  exact this
theorem xor_ne {x y : UInt8} (h : y ≠ 0) : x ^^^ y ≠ x := by
  intro e
  apply h
  have : x ^^^ (x ^^^ y) = x ^^^ x := by rw [e]
  simpa [← UInt8.xor_assoc] using this
theorem exec_append_fresh {ev : Operand → Value} {o : Oper} (s x : Operand) (ho : o.op = .call { callee := .builtin .append, args := #[s, x], argTypes := #[35, 35] }) (base b2 g : Nat) (W : World) (v2 : Value) (V : List Bs)
    (hs : ev s = .slice (some ⟨g, 0, none⟩) 0 0) (hx : ev x = v2) (hO : OwnHs W base (.slice (some ⟨g, 0, none⟩) 0 0) []) (hO2 : OwnHs W b2 v2 V) (hV : V.length ≤ 100000) (hb : base ≤ W.heap.size) :
    ∃ v' W', (execOp ev o).run Tryd.prog W = .ok (.value v') W' ∧ Below W.heap.size W W' ∧ OwnHs W' base v' V := by
  obtain ⟨i0, hi0, hz0, hz1, hz2⟩ := info_parts infoHash
  have fin : ∀ v' W', (Builtin.append_ #[35, 35] o.type #[.slice (some ⟨g, 0, none⟩) 0 0, v2]).run Tryd.prog W = .ok v' W' → (execOp ev o).run Tryd.prog W = .ok (.value v') W' := fun v' W' hr => by
    unfold execOp
    simp only [ho, resolve, invoke, builtin, Sem.run_bind, Sem.run_pure, Result.andThen_ok, List.map_toArray, List.map_cons, List.map_nil, hs, hx, hr]
  rcases hO2.2.2 with ⟨rfl, hl⟩ | ⟨g2, cap, cur, e, _⟩
  · have : V = [] := List.eq_nil_of_length_eq_zero hl
    subst this
    exact ⟨_, W, fin _ _ (run_append_owned_none (P := Tryd.prog) (w := W) base 35 o.type 30 i0 32 (by kernel_rfl) hi0 _ 0 [] hO.2), Below.refl _ _, hO⟩
  · obtain ⟨A, c, e2, hc, hs2⟩ := hO2.toHs
    rw [e] at e2
    simp only [Value.slice.injEq] at e2
    obtain ⟨rfl, _, rfl⟩ := e2
    subst e
    have hcell : ∀ j u, (cellsH V)[j]? = some u → W.cell? ((⟨g2, 0, none⟩ : Addr).add j) = some u := by
      rcases hs2.2 with h | ⟨a, ea, h⟩
      · intro j u hu; rw [h] at hu; simp [cellsH] at hu
      · cases ea; exact h
    by_cases h0 : V = []
    · subst h0
      have hr := run_append_room_cells (P := Tryd.prog) W 35 o.type 30 i0 (by kernel_rfl) hi0 g 0 0 0 ⟨g2, 0, none⟩ 0 cap [] (by simp) (by simp) (by simp) (Nat.le_refl _) (by simp) (by simp)
      exact ⟨_, _, fin _ _ hr, Below.refl _ _, hO⟩
    · have hl : 0 < V.length := List.length_pos_iff.2 h0
      obtain ⟨v', w', hr, r1, r2⟩ := run_append_arg_grows (P := Tryd.prog) W 35 o.type 30 i0 zero32 32 32 (by kernel_rfl) hi0 hz0 hz1 hz2 zero32_size (by decide) ⟨g, 0, none⟩ 0 0 [] (by simp) (by simp) ⟨g2, 0, none⟩ V.length cap (cellsH V) (cellsH_length hO2.1) hcell (by omega) (by unfold maxLen; omega) (by omega)
      rw [Nat.zero_add, List.nil_append] at r1
      have hO' : OwnHs w' W.heap.size v' V := ⟨hO2.1, r1⟩
      exact ⟨v', w', fin _ _ hr, ⟨r2.os, r2.tape, r2.output, r2.size, fun i hi => r2.block i hi (by simp)⟩, hO'.mono hb⟩
section
variable {P : Program} {Q : Exit → Act → World → Prop} {T : List Tmp} {a0 : Act} {G : (Nat → Prop) → World → Prop} {l : List Cl}
/-- An operation that yields a value and changes nothing below base: what it ends, or what has ended. -/
theorem stepA2 {ops : Array Oper} {k : Nat} {o : Oper} {t : Tmp} {c : Cl} (hg : o.guard = none) (hd : o.dst = some t) (hT : t ∈ T) (hz : t < a0.tmps.size) (hc : l.filter (fun c => c.op == some k) = [c]) (hct : c.slot = t)
    (hso : slotsOk ops l k t = true) (base : Nat) (St : ∀ c' ∈ l, c'.op = some k ∨ c'.used = some k ∨ (∀ u W W', c'.p u W → Below base W W' → c'.p u W') ∨ (∀ d, Closed ops d → (∀ j, waits o j = true → d j) → gone d c'.used)) (SG : ∀ d d' W W', G d W → (∀ j, d j → d' j) → Below base W W' → G d' W')
    (run : ∀ d a W, Fr T a0 a → G d W → Held d a W l → ¬ d k → Closed ops d → (∀ j, waits o j = true → d j) → ∃ v W', (execOp a.eval o).run P W = .ok (.value v) W' ∧ Below base W W' ∧ c.p v W') :
    StepOk P Q ops (Inv T a0 G l) k o := by
  refine ⟨hg, fun d d' a W ⟨hF, hG, hH⟩ hn hcl hw hk hu hself => ?_⟩
  obtain ⟨v, W', hr, hb, hv⟩ := run d a W hF hG hH hn hcl hw
  refine wp_yields hr ?_
  rw [hd]
  refine ⟨hF.put hT v, SG _ _ _ _ hG hu hb, hH.put hc hct hso hcl hn hk hu hself (by rw [hF.size]; exact hz) (fun x hx h1 _ h3 u q => ?_) hv⟩
  rcases St x hx with e | e | e | e
  · exact (h1 e).elim
  · exact (h3 (by rw [e]; exact hself)).elim
  · exact e u W W' q hb
  · exact (h3 (gone_mono hu (e d hcl hw))).elim
end
section
variable {P : Program} {Q : Exit → Act → World → Prop}
/-- A region that draws its order, the last operation apart, which waits for the others, some of them through others. -/
theorem wp_region_lastlyR {id : Nat} {ops : List Oper} {a : Act} {w : World} (n : Nat) (ol : Oper) (I : (Nat → Prop) → Act → World → Prop) (hm : P.follows .mixedOrders = true) (hd : onward ops.toArray = true)
    (hn : ops.length = n + 1) (hol : ops[n]? = some ol) (hall : ∀ d, Closed ops.toArray d → (∀ j, waits ol j = true → d j) → ∀ j, j < n → d j) (hog : ol.guard = none)
    (h0 : I (fun _ => False) a w.drew) (hs : AllSteps P Q ops.toArray I 0 (ops.take n)) (hl : ∀ (d : Nat → Prop) (a : Act) (w : World), I d a w → (∀ j, j < n → d j) → ol.wp P a w (fun a' w' => Q .normal a' w') Q) :
    (Code.region id ops.toArray true).wp P Q a w := by
  refine wp_region_inv (I := fun d a w => (d n → Q .normal a w) ∧ (¬ d n → I d a w)) hm hd ⟨fun h => h.elim, fun _ => h0⟩ (fun d d' a w i o ho ⟨hI1, hI2⟩ hni hcl ha hk hu hself => ?_) (fun d a w ⟨h1, _⟩ h => h1 (h n (by simp [hn])))
  have ho' : ops[i]? = some o := by simpa using ho
  have hin : i < n + 1 := by rw [← hn]; exact (List.getElem?_eq_some_iff.1 ho').1
  by_cases e : i = n
  · subst e
    rw [hol] at ho'
    obtain rfl := Option.some.inj ho'
    have hdn := hI2 hni
    unfold wpOp
    rw [ho]
    have hwt : Region.wanted ol (yielded ops.toArray a.tmps) = true := by unfold Region.wanted; rw [hog]
    simp only [hwt, if_true]
    exact .inl (Oper.wp_mono (fun a' w' h => ⟨fun _ => h, fun h' => (h' hself).elim⟩) (hl d a w hdn fun j hj => hall d hcl ha j hj))
  · have hnn : ¬ d n := fun h => hni (hall d hcl (fun j hj => hcl n ol j (by simpa using hol) hj h) i (by omega))
    obtain ⟨hg, st⟩ := hs.take (i := i) (by omega) ho'
    rw [Nat.zero_add] at st
    unfold wpOp
    rw [ho]
    have hwt : Region.wanted o (yielded ops.toArray a.tmps) = true := by unfold Region.wanted; rw [hg]
    simp only [hwt, if_true]
    exact .inl (Oper.wp_mono (fun a' w' h => ⟨fun h' => (hnn (hk n (fun q => e q.symm) h')).elim, fun _ => h⟩) (st d d' a w (hI2 hnn) hni hcl ha hk hu hself))
end
theorem exec_append_strs2 {ev : Operand → Value} {o : Oper} (s x : Operand) (ho : o.op = .call { callee := .builtin .append, args := #[s, x], argTypes := #[57, 57] }) (base base2 : Nat) (w : World) (v v2 : Value) (H l : List Bs)
    (hs : ev s = v) (hx : ev x = v2) (hO : OwnStrs w base v H) (hO2 : OwnStrs w base2 v2 l) (h1 : H.length ≤ 100000) (h2 : l.length ≤ 100000) (hb : base ≤ w.heap.size) :
    ∃ v' w', (execOp ev o).run Tryd.prog w = .ok (.value v') w' ∧ Below base w w' ∧ OwnStrs w' base v' (H ++ l) := by
  obtain ⟨A, c, rfl, hS, hA⟩ := hO2.slice
  obtain ⟨v', w', hr, h3, h4⟩ := exec_append_strs (ev := ev) s x ho base w v H l A l.length c hs hx rfl hO hS hA h1 h2 hb
  exact ⟨v', w', hr, h4, h3⟩
/-- A byte is turned. -/
def turnB (V : List Bs) (j p : Nat) (b : UInt8) : List Bs := V.modify j fun x => x.set p b
theorem turnB_length (V : List Bs) (j p : Nat) (b : UInt8) : (turnB V j p b).length = V.length := List.length_modify ..
theorem turnB_h32 {V : List Bs} (h : H32 V) (j p : Nat) (b : UInt8) : H32 (turnB V j p b) := fun x hx => by
  unfold turnB at hx
  obtain ⟨k, hk, rfl⟩ := List.getElem_of_mem hx
  have hk' : k < V.length := by rw [List.length_modify] at hk; exact hk
  rw [List.getElem_modify]
  split
  · rw [List.length_set]; exact h _ (List.getElem_mem hk')
  · exact h _ (List.getElem_mem hk')
theorem cellsB_set (x : Bs) (p : Nat) (b : UInt8) : cellsB (x.set p b) = (cellsB x).set p (.int .u8 (b.toNat : Int)) := by
  unfold cellsB
  rw [List.map_set]
theorem cellsH_turn {V : List Bs} (h : H32 V) {j p : Nat} (hj : j < V.length) (hp : p < 32) (b : UInt8) : cellsH (turnB V j p b) = (cellsH V).set (j * 32 + p) (.int .u8 (b.toNat : Int)) := by
  have e : V = V.take j ++ V[j] :: V.drop (j + 1) := by rw [← List.drop_eq_getElem_cons hj, List.take_append_drop]
  have hl : (cellsH (V.take j)).length = j * 32 := by rw [cellsH_length (h.take j), List.length_take, Nat.min_eq_left (by omega)]
  have e2 : turnB V j p b = V.take j ++ V[j].set p b :: V.drop (j + 1) := by
    unfold turnB
    rw [List.modify_eq_take_cons_drop hj]
  have hx : (cellsB V[j]).length = 32 := by rw [cellsB_length, h _ (List.getElem_mem hj)]
  rw [e2]
  conv => rhs; rw [e]
  rw [cellsH_append, cellsH_append, cellsH_cons, cellsH_cons, cellsB_set, List.set_append_right _ _ (by omega), hl, show j * 32 + p - j * 32 = p from by omega, List.set_append_left _ _ (by omega)]
theorem turnB_ne {V : List Bs} (h : H32 V) {j p : Nat} (hj : j < V.length) (hp : p < 32) {b : UInt8} (hb : b ≠ V[j][p]'(by rw [h _ (List.getElem_mem hj)]; exact hp)) : turnB V j p b ≠ V := by
  intro e
  apply hb
  have hx : V[j].length = 32 := h _ (List.getElem_mem hj)
  have : (turnB V j p b)[j]'(by rw [turnB_length]; exact hj) = V[j] := by simp only [e]
  unfold turnB at this
  rw [List.getElem_modify, if_pos rfl] at this
  have h2 : (V[j].set p b)[p]'(by rw [List.length_set]; omega) = V[j][p]'(by omega) := by simp only [this]
  rw [List.getElem_set_self] at h2
  exact h2
theorem OwnHs.turn {w : World} {base g n cap : Nat} {V : List Bs} (h : OwnHs w base (.slice (some ⟨g, 0, none⟩) n cap) V) {j p : Nat} (hj : j < V.length) (hp : p < 32) (b : UInt8) :
    OwnHs (w.setCell ⟨g, j * 32 + p, none⟩ (.int .u8 (b.toNat : Int))) base (.slice (some ⟨g, 0, none⟩) n cap) (turnB V j p b) := by
  have hn : n = V.length := by
    rcases h.2.2 with ⟨e, _⟩ | ⟨_, _, _, e, _⟩
    · simp at e
    · simp only [Value.slice.injEq] at e; exact e.2.1
  subst hn
  refine ⟨turnB_h32 h.1 j p b, ?_⟩
  rw [turnB_length, cellsH_turn h.1 hj hp]
  exact (h.2.stored (j * 32 + p) _).1
end Go.Proofs.YtcocengpekndjaaDoor
