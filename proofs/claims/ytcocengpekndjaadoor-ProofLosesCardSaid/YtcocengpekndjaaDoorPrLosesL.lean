/- A claim of a range with a hash more, a hash less, a byte turned: the plain law. -/
import Derived.Test.YtcocengpekndjaaDoorPrExactL
namespace Go.Proofs.YtcocengpekndjaaDoor
open Go.RowKit
/-- The path with a byte turned. -/
def turnO (V : List Bs) (at_ : Nat) (b : UInt8) : List Bs := turnB V (at_ % V.length) (at_ % 32) ((((V[at_ % V.length]?).getD [])[at_ % 32]?).getD 0 ^^^ b)
theorem turnO_eq {V : List Bs} (h : H32 V) {at_ : Nat} (hj : at_ % V.length < V.length) (b : UInt8) :
    turnO V at_ b = turnB V (at_ % V.length) (at_ % 32) ((V[at_ % V.length][at_ % 32]'(by rw [h _ (List.getElem_mem hj)]; exact Nat.mod_lt _ (by decide))) ^^^ b) := by
  unfold turnO
  have hp : at_ % 32 < V[at_ % V.length].length := by rw [h _ (List.getElem_mem hj)]; exact Nat.mod_lt _ (by decide)
  rw [List.getElem?_eq_getElem hj, Option.getD_some, List.getElem?_eq_getElem hp, Option.getD_some]
theorem turnO_at {V : List Bs} (h : H32 V) {at_ j p : Nat} (hj : at_ % V.length = j) (hp : at_ % 32 = p) (hV : j < V.length) (b : UInt8) :
    turnO V at_ b = turnB V j p ((V[j][p]'(by rw [h _ (List.getElem_mem hV), ← hp]; exact Nat.mod_lt _ (by decide))) ^^^ b) := by
  subst hj hp
  exact turnO_eq h hV b
theorem turnO_ne {V : List Bs} (h : H32 V) (h0 : 0 < V.length) (at_ : Nat) {b : UInt8} (hb : b ≠ 0) : turnO V at_ b ≠ V := by
  have hj : at_ % V.length < V.length := Nat.mod_lt _ h0
  rw [turnO_eq h hj]
  exact turnB_ne h hj (Nat.mod_lt _ (by decide)) (xor_ne hb)
theorem turnO_length (V : List Bs) (at_ : Nat) (b : UInt8) : (turnO V at_ b).length = V.length := turnB_length ..
theorem turnO_h32 {V : List Bs} (h : H32 V) (at_ : Nat) (b : UInt8) : H32 (turnO V at_ b) := turnB_h32 h _ _ _
theorem visitM_h32 (q : Nat) : ∀ (l : List Bs) (i j : Int), l.length ≤ q → H32 l → H32 (visitM sha l i j) := by
  induction q with
  | zero =>
    intro l i j h hl
    by_cases co : j ≤ 0 ∨ (l.length : Int) ≤ i
    · rw [visitM_out sha co]; intro x hx; rw [List.mem_singleton.1 hx]; exact topM_length sha sha_length hl
    · by_cases ci : i ≤ 0 ∧ (l.length : Int) ≤ j
      · rw [visitM_in sha co ci]; exact H32.nil
      · omega
  | succ q ih =>
    intro l i j h hl
    by_cases co : j ≤ 0 ∨ (l.length : Int) ≤ i
    · rw [visitM_out sha co]; intro x hx; rw [List.mem_singleton.1 hx]; exact topM_length sha sha_length hl
    · by_cases ci : i ≤ 0 ∧ (l.length : Int) ≤ j
      · rw [visitM_in sha co ci]; exact H32.nil
      · have hh := half_range (n := l.length) (by omega)
        rw [visitM_two sha co ci]
        intro x hx
        rcases List.mem_append.1 hx with hx | hx
        · exact ih _ i j (by rw [List.length_take]; omega) (hl.take _) x hx
        · exact ih _ _ _ (by rw [List.length_drop]; omega) (hl.drop _) x hx
theorem outO_h32 (ts : List UInt8) (lo hi : Int) : H32 (outO ts lo hi) := visitM_h32 _ _ _ _ (Nat.le_refl _) (fun x hx => h32_map (ofR ts) x hx)
theorem lose_more {ts : List UInt8} (h1 : 1 ≤ ts.length) (h2 : ts.length ≤ 60) {lo hi : Int} (l0 : 0 ≤ lo) (l1 : lo < hi) (l2 : hi ≤ ts.length) (x : Bs) : acceptM (rootO ts) lo hi (cutO ts lo hi) (fromM lo (ofR ts) : Nat) (ofR ts).length ts.length (outO ts lo hi ++ [x]) = false := loses_more h1 h2 l0 l1 l2 x
theorem lose_less {ts : List UInt8} (h1 : 1 ≤ ts.length) (h2 : ts.length ≤ 60) {lo hi : Int} (l0 : 0 ≤ lo) (l1 : lo < hi) (l2 : hi ≤ ts.length) (h0 : 0 < (outO ts lo hi).length) : acceptM (rootO ts) lo hi (cutO ts lo hi) (fromM lo (ofR ts) : Nat) (ofR ts).length ts.length ((outO ts lo hi).take ((outO ts lo hi).length - 1)) = false := loses_less h1 h2 l0 l1 l2 rfl h0
section
variable {ops : Array Oper} {rest : List Oper} {o : Oper} {a : Act} {w w' : World} {P : Program} {Q : Exit → Act → World → Prop}
theorem wpList_exec (hg : o.guard = none) (v : Value) (hr : (execOp a.eval o).run P w = .ok (.value v) w') (K : wpList P ops Q rest (a.put o.dst v) w') : wpList P ops Q (o :: rest) a w :=
  wpList_plain hg fun _ hK => wp_yields hr (hK _ _ K)
end
theorem exec_sliceH_pred {ev : Operand → Value} {o : Oper} {W : World} {x y : Operand} {A : Option Addr} {pn pc : Nat} (ho : o.op = .slice 35 x none (some y) none) (hx : ev x = .slice A pn pc) (hy : ev y = .int .i64 ((pn : Int) - 1)) (h1 : 1 ≤ pn) (h2 : pn ≤ pc) :
    (execOp ev o).run Tryd.prog W = .ok (.value (.slice A (pn - 1) pc)) W := by
  rw [show (pn : Int) - 1 = ((pn - 1 : Nat) : Int) from by omega] at hy
  exact exec_sliceH_to ho hx hy (by omega)
theorem Hs.takeK {w : World} {A : Option Addr} {l : List Bs} (h : Hs w A l) (k : Nat) : Hs w A (l.take k) := by
  refine ⟨h.1.take k, ?_⟩
  rcases h.2 with h2 | ⟨a, e, h2⟩
  · left; rw [h2, List.take_nil]
  · refine .inr ⟨a, e, fun j u hu => h2 j u ?_⟩
    have : cellsH l = cellsH (l.take k) ++ cellsH (l.drop k) := by rw [← cellsH_append, List.take_append_drop]
    rw [this, List.getElem?_append_left (List.getElem?_eq_some_iff.1 hu).1]
    exact hu
theorem OwnHs.emptyW (w : World) : OwnHs (w.alloc (.cells #[] 30)) w.heap.size (.slice (some ⟨w.heap.size, 0, none⟩) 0 0) [] :=
  ⟨H32.nil, rfl, .inr ⟨w.heap.size, 0, #[], rfl, Nat.le_refl _, heap_alloc_new w _, Nat.le_refl _, Nat.zero_le _, rfl, rfl⟩⟩
end Go.Proofs.YtcocengpekndjaaDoor
