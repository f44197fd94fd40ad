/- The runs of a range, and their outer hashes. -/
import Derived.Test.YtcocengpekndjaaDoorPrMapsL
import Derived.Test.YtcocengpekndjaaDoorPrMade
namespace Go.Proofs.YtcocengpekndjaaDoor
open Go.RowKit
/-- The runs of a range. -/
def cutO (ts : List UInt8) (lo hi : Int) : List Rn := ((ofR ts).drop (fromM lo (ofR ts))).take (toM lo hi (ofR ts) - fromM lo (ofR ts))
noncomputable def outO (ts : List UInt8) (lo hi : Int) : List Bs := visitM sha ((ofR ts).map lvM) (fromM lo (ofR ts)) (toM lo hi (ofR ts))
theorem cutO_length {ts : List UInt8} (h1 : 1 ≤ ts.length) (h2 : ts.length ≤ 60) {lo hi : Int} (_l0 : 0 ≤ lo) (l1 : lo < hi) (l2 : hi ≤ ts.length) : (cutO ts lo hi).length = toM lo hi (ofR ts) - fromM lo (ofR ts) ∧ 1 ≤ (cutO ts lo hi).length ∧ (cutO ts lo hi).length ≤ 60 ∧ toM lo hi (ofR ts) ≤ (ofR ts).length := by
  have g := ofL_good h1 h2
  have hfl := from_lay g (lo := lo) (by rw [ofL_total]; omega)
  rw [ofL_lay] at hfl
  have a := toM_le (hi := hi) hfl
  have b := toM_lt lo hi (ofR ts)
  have c := (ofR_spec ts).2.2.2.2.1
  unfold cutO
  rw [List.length_take, List.length_drop]
  omega
theorem outO_length {ts : List UInt8} (h2 : ts.length ≤ 60) (lo hi : Int) : (outO ts lo hi).length ≤ 1000 := by
  have := visitM_length (ofR ts).length ((ofR ts).map lvM) (fromM lo (ofR ts)) (toM lo hi (ofR ts)) (by rw [List.length_map]; exact Nat.le_refl _)
  have := (ofR_spec ts).2.2.2.2.1
  unfold outO
  rw [List.length_map] at *
  omega
theorem range_of {ts : List UInt8} (h1 : 1 ≤ ts.length) (h2 : ts.length ≤ 60) {lo hi : Int} (l0 : 0 ≤ lo) (l1 : lo < hi) (l2 : hi ≤ ts.length) (w : World) (p : Option Addr) (h : Rep w p (ofL ts)) (hk : Kon w) :
    Calls Tryd.prog 27 #[.agg #[.pointer p], .int .i64 lo, .int .i64 hi] w fun e w' => ∃ A m c PA pn pc, e = .returned (.tuple #[claimV A m c (fromM lo (ofR ts) : Nat) (ofR ts).length ts.length PA pn pc, .int .i64 0]) ∧ OwnRuns w' w.heap.size (.slice A m c) (cutO ts lo hi) ∧ OwnHs w' w.heap.size (.slice PA pn pc) (outO ts lo hi) ∧ Below w.heap.size w w' := by
  have := range_yes w p (ofL ts) lo hi h (ofL_good h1 h2) l0 l1 (by rw [ofL_total]; exact l2) hk
  unfold RangePost at this
  rw [ofL_lay, ofL_total] at this
  exact this
theorem own_acc {ts : List UInt8} (h1 : 1 ≤ ts.length) (h2 : ts.length ≤ 60) {lo hi : Int} (l0 : 0 ≤ lo) (l1 : lo < hi) (l2 : hi ≤ ts.length) : acceptM (rootO ts) lo hi (cutO ts lo hi) (fromM lo (ofR ts) : Nat) (ofR ts).length ts.length (outO ts lo hi) = true := own_true h1 h2 l0 l1 l2
theorem cover_of {ts : List UInt8} (h1 : 1 ≤ ts.length) (h2 : ts.length ≤ 60) {lo hi : Int} (l0 : 0 ≤ lo) (l1 : lo < hi) (l2 : hi ≤ ts.length) : covF lo (ofR ts) = fromM lo (ofR ts) ∧ covN lo hi (ofR ts) = (cutO ts lo hi).length ∧ cutO ts lo hi = ((ofR ts).drop (fromM lo (ofR ts))).take (cutO ts lo hi).length := by
  have e := cov_any (ofL_good h1 h2) l0 l1 (by rw [ofL_total]; exact l2) (ofL_lay ts)
  have l := (cutO_length h1 h2 l0 l1 l2).1
  refine ⟨e.1, by rw [e.2, l], ?_⟩
  rw [l]
  rfl
theorem BoxM.load_ {W : World} {b : Nat} {x : Int} {A : Option Addr} {n c : Nat} (h : BoxM W b x (.slice A n c)) : (Instr.loadAt 69 (.pointer (some ⟨b, 0, none⟩))).run Tryd.prog W = .ok (.agg #[.int .i64 x, .slice A n c]) W := by
  have := run_loadVar_row W b 69 69 _ (0, 0) (.struct (Tryd.prog.fieldsOf 69)) h (by kernel_rfl) rfl szMap3
  simp only [Instr.loadAt, Instr.sureAddr, Sem.run_bind, Sem.run_pure, Result.andThen_ok, this]
end Go.Proofs.YtcocengpekndjaaDoor
