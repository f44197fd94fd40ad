/- Stores of hashes in drawn regions; worlds that differ in two boxes. -/
import Derived.Test.YtcocengpekndjaaDoorPrRSum
import Derived.Test.YtcocengpekndjaaDoorPrEight
import Derived.Test.YtcocengpekndjaaDoorPrAcc
import Derived.Test.YtcocengpekndjaaDoorPrColl
namespace Go.Proofs.YtcocengpekndjaaDoor
open Go.RowKit
section
variable {Q : Exit → Act → World → Prop} {T : List Tmp} {a0 : Act} {G : (Nat → Prop) → World → Prop} {l : List Cl}
/-- A store of a hash into a box. -/
theorem stepH {ops : Array Oper} {k : Nat} {o : Oper} {c : Cl} (x y : Operand) (ho : o.op = .store 30 x y) (hg : o.guard = none) (hd : o.dst = none) (hc : l.filter (fun c => c.op == some k) = [c]) (g : Nat) (h : Bs) (hh : h.length = 32) (hp : ∀ u W, BoxH W g h → c.p u W)
    (St : ∀ c' ∈ l, c'.op = some k ∨ ∀ u W cs, c'.p u W → c'.p u (W.setRow g cs)) (SG : ∀ d d' W, G d W → (∀ j, d j → d' j) → G d' (W.setRow g (ints .u8 (nums h)))) (GB : ∀ d W, G d W → ∃ m, BoxA W g 30 .u8 m ∧ m.length = 32)
    (run : ∀ d a W, Fr T a0 a → G d W → Held d a W l → ¬ d k → Closed ops d → (∀ j, waits o j = true → d j) → a.eval x = .pointer (some ⟨g, 0, none⟩) ∧ a.eval y = hashV h) :
    StepOk Tryd.prog Q ops (Inv T a0 G l) k o := by
  refine ⟨hg, fun d d' a W ⟨hF, hG, hH⟩ hn hcl hw hk hu hself => ?_⟩
  obtain ⟨hx, hy⟩ := run d a W hF hG hH hn hcl hw
  obtain ⟨m, hm, hml⟩ := GB d W hG
  refine wp_storeH x y ho g h hx hy hm hml hh ?_
  rw [hd]
  show Inv T a0 G l d' a _
  refine ⟨hF, SG _ _ _ hG hu, hH.store hc hk hu (fun c' hc' hne h1 h2 u q => ?_) (hp _ _ (BoxA.setRow hm))⟩
  rcases St c' hc' with e | e
  · exact (hne e).elim
  · exact e u W _ q
end
theorem exec_indexH {ev : Operand → Value} {o : Oper} {W : World} {x y : Operand} {a : Addr} {n c i : Nat} (ho : o.op = .indexAddr 35 x y) (hx : ev x = .slice (some a) n c) (hy : ev y = .int .i64 (i : Int)) (hi : i < n) :
    (execOp ev o).run Tryd.prog W = .ok (.value (.pointer (some (a.add (i * 32))))) W := by
  have h := run_indexAt_slice (P := Tryd.prog) W 35 a n c .i64 (i : Int) elemH
  rw [if_pos (by omega), sizeH, Int.toNat_natCast] at h
  simp [execOp, ho, hx, hy, h]
/-- The worlds differ in two blocks at most, and in what is new. -/
def But2 (p q : Nat) (w w' : World) : Prop := w'.os = w.os ∧ w'.tape = w.tape ∧ w'.output = w.output ∧ w.heap.size ≤ w'.heap.size ∧ ∀ i, i < w.heap.size → i ≠ p → i ≠ q → w'.heap[i]? = w.heap[i]?
theorem But2.refl (p q : Nat) (w : World) : But2 p q w w := ⟨rfl, rfl, rfl, Nat.le_refl _, fun _ _ _ _ => rfl⟩
theorem But2.next {p q : Nat} {w w1 w2 : World} (h : But2 p q w w1) (b : Below w1.heap.size w1 w2) : But2 p q w w2 :=
  ⟨b.os.trans h.1, b.tape.trans h.2.1, b.output.trans h.2.2.1, Nat.le_trans h.2.2.2.1 b.size, fun i hi h1 h2 => (b.block i (Nat.lt_of_lt_of_le hi h.2.2.2.1)).trans (h.2.2.2.2 i hi h1 h2)⟩
theorem But2.rowp {p q : Nat} {w w1 : World} (h : But2 p q w w1) (cs : Array Value) : But2 p q w (w1.setRow p cs) := by
  have k := But.row w1 p cs
  exact ⟨k.1.trans h.1, k.2.1.trans h.2.1, k.2.2.1.trans h.2.2.1, Nat.le_trans h.2.2.2.1 k.2.2.2.1, fun i hi h1 h2 => (k.2.2.2.2 i (Nat.lt_of_lt_of_le hi h.2.2.2.1) h1).trans (h.2.2.2.2 i hi h1 h2)⟩
theorem But2.rowq {p q : Nat} {w w1 : World} (h : But2 p q w w1) (cs : Array Value) : But2 p q w (w1.setRow q cs) := by
  have k := But.row w1 q cs
  exact ⟨k.1.trans h.1, k.2.1.trans h.2.1, k.2.2.1.trans h.2.2.1, Nat.le_trans h.2.2.2.1 k.2.2.2.1, fun i hi h1 h2 => (k.2.2.2.2 i (Nat.lt_of_lt_of_le hi h.2.2.2.1) h2).trans (h.2.2.2.2 i hi h1 h2)⟩
theorem But2.box {p q : Nat} {w w1 : World} (h : But2 p q w w1) {b : Nat} {t : TypeId} {k : IntKind} {l : List Int} (x : BoxA w b t k l) (hp : b ≠ p) (hq : b ≠ q) : BoxA w1 b t k l := (h.2.2.2.2 b x.lt hp hq).trans x
theorem But2.below {p q n : Nat} {w0 w w1 : World} (h : But2 p q w w1) (B : Below n w0 w) (hn : n ≤ w.heap.size) (hp : n ≤ p) (hq : n ≤ q) : Below n w0 w1 :=
  B.trans ⟨h.1, h.2.1, h.2.2.1, h.2.2.2.1, fun i hi => h.2.2.2.2 i (by omega) (by omega) (by omega)⟩
theorem But2.hs {p q : Nat} {w w1 : World} (h : But2 p q w w1) {n : Nat} {A : Option Addr} {l : List Bs} (x : Hs w A l) (i : InB n A l) (hn : n ≤ w.heap.size) (hp : n ≤ p) (hq : n ≤ q) : Hs w1 A l :=
  x.low i ⟨h.1, h.2.1, h.2.2.1, h.2.2.2.1, fun i hi => h.2.2.2.2 i (by omega) (by omega) (by omega)⟩
theorem But2.kon {p q : Nat} {w w1 : World} (h : But2 p q w w1) (k : Kon w) (hp : p ≠ 0) (hq : q ≠ 0) : Kon w1 :=
  k.low (n₀ := 1) (by omega) ⟨h.1, h.2.1, h.2.2.1, h.2.2.2.1, fun i hi => h.2.2.2.2 i (by have := k.1; omega) (by omega) (by omega)⟩
/-- Two boxes for results, and nothing else changed. -/
def GB (w0 : World) (p q : Nat) (_ : Nat → Prop) (W : World) : Prop := But2 p q w0 W ∧ (∃ m, BoxA W p 30 .u8 m ∧ m.length = 32) ∧ ∃ m, BoxA W q 30 .u8 m ∧ m.length = 32
theorem GB.next {w0 : World} {p q : Nat} {d d' : Nat → Prop} {W W' : World} (h : GB w0 p q d W) (b : Below W.heap.size W W') : GB w0 p q d' W' := by
  obtain ⟨h, ⟨m, hm, e⟩, ⟨m', hm', e'⟩⟩ := h
  exact ⟨h.next b, ⟨m, hm.next b, e⟩, ⟨m', hm'.next b, e'⟩⟩
theorem GB.rowp {w0 : World} {p q : Nat} {d d' : Nat → Prop} {W : World} (h : GB w0 p q d W) (hpq : p ≠ q) (x : Bs) (hx : x.length = 32) : GB w0 p q d' (W.setRow p (ints .u8 (nums x))) := by
  obtain ⟨h, ⟨m, hm, e⟩, ⟨m', hm', e'⟩⟩ := h
  exact ⟨h.rowp _, ⟨nums x, hm.setRow, by rw [nums_length, hx]⟩, ⟨m', hm'.farRow (Ne.symm hpq) _, e'⟩⟩
theorem GB.rowq {w0 : World} {p q : Nat} {d d' : Nat → Prop} {W : World} (h : GB w0 p q d W) (hpq : p ≠ q) (x : Bs) (hx : x.length = 32) : GB w0 p q d' (W.setRow q (ints .u8 (nums x))) := by
  obtain ⟨h, ⟨m, hm, e⟩, ⟨m', hm', e'⟩⟩ := h
  exact ⟨h.rowq _, ⟨m, hm.farRow hpq _, e⟩, ⟨nums x, hm'.setRow, by rw [nums_length, hx]⟩⟩
theorem lastsH (op used : Option Nat) (t : Tmp) (g : Nat) (x : Bs) : Lasts ⟨op, t, used, fun _ W => BoxH W g x⟩ := fun _ _ _ h b => BoxA.next h b
theorem results_two {fn : Func} {p q r s : Tmp} (hf : fn.results = #[.cell p 30, .cell q 30, .tmp r, .tmp s]) (tmps : Array Value) (w : World) (g g' : Nat) (h h' : Bs) (v v' : Value) (hp : tmps.getD p undef = .pointer (some ⟨g, 0, none⟩)) (hq : tmps.getD q undef = .pointer (some ⟨g', 0, none⟩)) (hr : tmps.getD r undef = v) (hs : tmps.getD s undef = v')
    (hg : BoxH w g h) (hh : h.length = 32) (hg' : BoxH w g' h') (hh' : h'.length = 32) : (results fn tmps).run Tryd.prog w = .ok (.tuple #[hashV h, hashV h', v, v']) w := by
  rw [hashV_eq, hashV_eq]
  have hp' : tmps[p]?.getD undef = .pointer (some ⟨g, 0, none⟩) := by simpa using hp
  have hq' : tmps[q]?.getD undef = .pointer (some ⟨g', 0, none⟩) := by simpa using hq
  have hr' : tmps[r]?.getD undef = v := by simpa using hr
  have hs' : tmps[s]?.getD undef = v' := by simpa using hs
  have l1 := run_loadVar_row w g 30 30 (ints .u8 (nums h)) (0, 0) (.array 32 5) hg (by kernel_rfl) rfl (by rw [ints_size, nums_length, hh]; exact szHash)
  have l2 := run_loadVar_row w g' 30 30 (ints .u8 (nums h')) (0, 0) (.array 32 5) hg' (by kernel_rfl) rfl (by rw [ints_size, nums_length, hh']; exact szHash)
  simp [results, hf, hp', hq', hr', hs', asAddr, l1, l2]
theorem results_pair {fn : Func} {p q : Tmp} (hf : fn.results = #[.cell p 30, .cell q 30]) (tmps : Array Value) (w : World) (g g' : Nat) (h h' : Bs) (hp : tmps.getD p undef = .pointer (some ⟨g, 0, none⟩)) (hq : tmps.getD q undef = .pointer (some ⟨g', 0, none⟩))
    (hg : BoxH w g h) (hh : h.length = 32) (hg' : BoxH w g' h') (hh' : h'.length = 32) : (results fn tmps).run Tryd.prog w = .ok (.tuple #[hashV h, hashV h']) w := by
  rw [hashV_eq, hashV_eq]
  have hp' : tmps[p]?.getD undef = .pointer (some ⟨g, 0, none⟩) := by simpa using hp
  have hq' : tmps[q]?.getD undef = .pointer (some ⟨g', 0, none⟩) := by simpa using hq
  have l1 := run_loadVar_row w g 30 30 (ints .u8 (nums h)) (0, 0) (.array 32 5) hg (by kernel_rfl) rfl (by rw [ints_size, nums_length, hh]; exact szHash)
  have l2 := run_loadVar_row w g' 30 30 (ints .u8 (nums h')) (0, 0) (.array 32 5) hg' (by kernel_rfl) rfl (by rw [ints_size, nums_length, hh']; exact szHash)
  simp [results, hf, hp', hq', asAddr, l1, l2]
end Go.Proofs.YtcocengpekndjaaDoor
