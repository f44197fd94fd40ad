/- What State and Range return, the program's and the reference's. -/
import Derived.Test.YtcocengpekndjaaDoorPrCutL
import Derived.Test.YtcocengpekndjaaDoorPrBoxL
import Derived.Test.YtcocengpekndjaaDoorPrAwake
import Derived.Test.YtcocengpekndjaaDoorPrSums
import Derived.Test.YtcocengpekndjaaDoorPrRRange
import Derived.Test.YtcocengpekndjaaDoorPrMapR
import Derived.Test.YtcocengpekndjaaDoorPrSame
import Derived.Test.YtcocengpekndjaaDoorPrAlike
namespace Go.Proofs.YtcocengpekndjaaDoor
open Go.RowKit
theorem rrange_of {ts : List UInt8} (h1 : 1 ≤ ts.length) (h2 : ts.length ≤ 60) {lo hi : Int} (l0 : 0 ≤ lo) (l1 : lo < hi) (l2 : hi ≤ ts.length) (w : World) (ad : Addr) (m c : Nat) (hm : (ofR ts).length = m) (hc : m ≤ c) (hR : Runs w (some ad) (ofR ts)) :
    Calls Tryd.prog 40 #[wordsV, .agg #[.int .i64 (ts.length : Int), .slice (some ad) m c], .int .i64 lo, .int .i64 hi] w fun e w' => ∃ A k c PA pn pc, e = .returned (claimV A k c (fromM lo (ofR ts) : Nat) m ts.length PA pn pc) ∧ OwnRuns w' w.heap.size (.slice A k c) (cutO ts lo hi) ∧ OwnHs w' w.heap.size (.slice PA pn pc) (outO ts lo hi) ∧ Below w.heap.size w w' := by
  have e := cov_any (ofL_good h1 h2) l0 l1 (by rw [ofL_total]; exact l2) (ofL_lay ts)
  have l := cutO_length h1 h2 l0 l1 l2
  have hl := (ofR_spec ts).2.2.2.2.1
  have := rrange_any ts.length (ofR ts) ad m c lo hi w (fromM lo (ofR ts)) (toM lo hi (ofR ts) - fromM lo (ofR ts)) hm hc (by omega) hR (ofR_fit h1 h2) e.1 e.2 (by omega)
  have b := toM_lt lo hi (ofR ts)
  unfold RRangePost at this
  rw [show fromM lo (ofR ts) + (toM lo hi (ofR ts) - fromM lo (ofR ts)) = toM lo hi (ofR ts) from by omega, hm] at this
  exact this
theorem state_of {ts : List UInt8} (h1 : 1 ≤ ts.length) (h2 : ts.length ≤ 60) {q : Nat} (hq : q < ts.length) {X : Rn} (hX : (ofR ts)[fromM q (ofR ts)]? = some X) (w : World) (p : Option Addr) (h : Rep w p (ofL ts)) (hk : Kon w) :
    Calls Tryd.prog 26 #[.agg #[.pointer p], .int .i64 (q : Int)] w fun e w' => ∃ PA pn pc, e = .returned (.tuple #[claim1V X (fromM q (ofR ts) : Nat) (ofR ts).length ts.length PA pn pc, .int .i64 0]) ∧ OwnHs w' w.heap.size (.slice PA pn pc) (outO ts q (q + 1)) ∧ Below w.heap.size w w' := by
  have := state_yes w p (ofL ts) q h (ofL_good h1 h2) (by omega) (by rw [ofL_total]; omega) hk X (by rw [ofL_lay]; exact hX)
  unfold StatePost at this
  rw [ofL_lay, ofL_total] at this
  exact this
theorem range_no {ts : List UInt8} (h1 : 1 ≤ ts.length) (h2 : ts.length ≤ 60) {lo hi : Int} (hx : lo < 0 ∨ hi ≤ lo ∨ (ts.length : Int) < hi) (w : World) (p : Option Addr) (h : Rep w p (ofL ts)) :
    Calls Tryd.prog 27 #[.agg #[.pointer p], .int .i64 lo, .int .i64 hi] w fun e w' => e = .returned (.tuple #[claimV none 0 0 0 0 0 none 0 0, .int .i64 3]) ∧ Below w.heap.size w w' :=
  range_bad w p (ofL ts) lo hi 3 h (.inr ⟨(ofL_good h1 h2).1, by rw [ofL_total]; exact hx, rfl⟩)
theorem state_no {ts : List UInt8} (h1 : 1 ≤ ts.length) (h2 : ts.length ≤ 60) {at_ : Int} (hx : at_ < 0 ∨ (ts.length : Int) ≤ at_) (ha : -9223372036854775808 ≤ at_ ∧ at_ ≤ 9223372036854775807) (w : World) (p : Option Addr) (h : Rep w p (ofL ts)) :
    Calls Tryd.prog 26 #[.agg #[.pointer p], .int .i64 at_] w fun e w' => e = .returned (.tuple #[claim1V ⟨0, 0, 0⟩ 0 0 0 none 0 0, .int .i64 3]) ∧ Below w.heap.size w w' :=
  state_bad w p (ofL ts) at_ 3 h (.inr ⟨(ofL_good h1 h2).1, by rw [ofL_total]; exact hx, rfl⟩) ha
theorem root_of {ts : List UInt8} (h1 : 1 ≤ ts.length) (h2 : ts.length ≤ 60) (w : World) (A : Option Addr) (m c : Nat) (hm : (ofR ts).length = m) (hR : Runs w A (ofR ts)) :
    Calls Tryd.prog 39 #[wordsV, .agg #[.int .i64 (ts.length : Int), .slice A m c]] w fun e w' => e = .returned (hashV (rootO ts)) ∧ Below w.heap.size w w' := by
  have hl := (ofR_spec ts).2.2.2.2.1
  have := rmaproot_any ts.length (ofR ts) A m c w hm (by omega) (by omega) (by omega) hR (ofR_fit h1 h2)
  unfold rootO
  rw [hm]
  exact this
end Go.Proofs.YtcocengpekndjaaDoor
