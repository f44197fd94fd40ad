/- Drawn regions that append to a row that was there. -/
import Derived.Test.YtcocengpekndjaaDoorPrTrueL
import Derived.Test.YtcocengpekndjaaDoorPrMapT
import Derived.Test.YtcocengpekndjaaDoorPrMade
import Derived.Test.YtcocengpekndjaaDoorPrFresh
import Derived.Test.YtcocengpekndjaaDoorPrAwake
import Derived.Test.YtcocengpekndjaaDoorPrSums
namespace Go.Proofs.YtcocengpekndjaaDoor
open Go.RowKit
section
variable {P : Program} {Q : Exit → Act → World → Prop} {T : List Tmp} {a0 : Act} {G : (Nat → Prop) → World → Prop} {l : List Cl}
/-- An operation that yields a value and changes nothing below base; it knows that it has come up. -/
theorem stepA3 {ops : Array Oper} {k : Nat} {o : Oper} {t : Tmp} {c : Cl} (hg : o.guard = none) (hd : o.dst = some t) (hT : t ∈ T) (hz : t < a0.tmps.size) (hc : l.filter (fun c => c.op == some k) = [c]) (hct : c.slot = t)
    (hso : slotsOk ops l k t = true) (base : Nat) (St : ∀ c' ∈ l, c'.op = some k ∨ c'.used = some k ∨ (∀ u W W', c'.p u W → Below base W W' → c'.p u W') ∨ (∀ d, Closed ops d → (∀ j, waits o j = true → d j) → gone d c'.used)) (SG : ∀ d d' W W', G d W → (∀ j, d j → d' j) → d' k → Below base W W' → G d' W')
    (run : ∀ d a W, Fr T a0 a → G d W → Held d a W l → ¬ d k → Closed ops d → (∀ j, waits o j = true → d j) → ∃ v W', (execOp a.eval o).run P W = .ok (.value v) W' ∧ Below base W W' ∧ c.p v W') :
    StepOk P Q ops (Inv T a0 G l) k o := by
  refine ⟨hg, fun d d' a W ⟨hF, hG, hH⟩ hn hcl hw hk hu hself => ?_⟩
  obtain ⟨v, W', hr, hb, hv⟩ := run d a W hF hG hH hn hcl hw
  refine wp_yields hr ?_
  rw [hd]
  refine ⟨hF.put hT v, SG _ _ _ _ hG hu hself hb, hH.put hc hct hso hcl hn hk hu hself (by rw [hF.size]; exact hz) (fun x hx h1 _ h3 u q => ?_) hv⟩
  rcases St x hx with e | e | e | e
  · exact (h1 e).elim
  · exact (h3 (by rw [e]; exact hself)).elim
  · exact e u W W' q hb
  · exact (h3 (gone_mono hu (e d hcl hw))).elim
end
/-- The clauses of a region. -/
abbrev lst {l : List Cl} (_ : ∀ xc ∈ l, Lasts xc) : List Cl := l
theorem BoxA.low {n : Nat} {W W' : World} {b : Nat} {t : TypeId} {k : IntKind} {l : List Int} (h : BoxA W b t k l) (hb : b < n) (hB : Below n W W') : BoxA W' b t k l := (hB.block b hb).trans h
theorem BoxS.low {n : Nat} {W W' : World} {b : Nat} {X : Rn} {index count size : Int} {PA : Option Addr} {pn pc : Nat} (h : BoxS W b X index count size PA pn pc) (hb : b < n) (hB : Below n W W') : BoxS W' b X index count size PA pn pc := (hB.block b hb).trans h
theorem BoxC.low {n : Nat} {W W' : World} {b : Nat} {A : Option Addr} {m c : Nat} {first count size : Int} {PA : Option Addr} {pn pc : Nat} (h : BoxC W b A m c first count size PA pn pc) (hb : b < n) (hB : Below n W W') : BoxC W' b A m c first count size PA pn pc := ⟨(hB.block b hb).trans h.row⟩
theorem cell_low {n : Nat} {W W' : World} {p : Addr} {v : Value} (h : W.cell? p = some v) (hb : p.block < n) (hB : Below n W W') : W'.cell? p = some v := (hB.cell hb).trans h
/-- A row of strings beside: what is below, and the row while it lasts. -/
def GRow (b k : Nat) (w : World) (v : Value) (l : List Bs) (d : Nat → Prop) (W : World) : Prop := (Below b w W ∧ w.heap.size ≤ W.heap.size) ∧ (¬ d k → OwnStrs W b v l)
theorem GRow.next {b k : Nat} {w : World} {v : Value} {l : List Bs} {d d' : Nat → Prop} {W W' : World} (hb : b ≤ w.heap.size) (h : GRow b k w v l d W) (hm : ∀ j, d j → d' j) (hB : Below W.heap.size W W') : GRow b k w v l d' W' :=
  ⟨⟨h.1.1.trans (hB.mono (Nat.le_trans hb h.1.2)), Nat.le_trans h.1.2 hB.size⟩, fun hn => (h.2 fun hd => hn (hm _ hd)).next hB⟩
theorem GRow.done {b k : Nat} {w : World} {v : Value} {l : List Bs} {d d' : Nat → Prop} {W W' : World} (h : GRow b k w v l d W) (_hm : ∀ j, d j → d' j) (hk : d' k) (hB : Below b W W') : GRow b k w v l d' W' :=
  ⟨⟨h.1.1.trans hB, Nat.le_trans h.1.2 hB.size⟩, fun hn => (hn hk).elim⟩
theorem foldV3 (h : Bs) (pn : Nat) : foldV (h, pn, true) = .tuple #[hashV h, .int .i64 (pn : Int), .bool true] := rfl
end Go.Proofs.YtcocengpekndjaaDoor
