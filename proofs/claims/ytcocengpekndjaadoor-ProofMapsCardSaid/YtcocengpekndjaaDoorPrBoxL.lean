/- Boxes of claims, the run of a piece, the map hash. -/
import Derived.Test.YtcocengpekndjaaDoorPrMapsL
import Derived.Test.YtcocengpekndjaaDoorPrAcc
namespace Go.Proofs.YtcocengpekndjaaDoor
open Go.RowKit
/-- The clauses of a region. -/
abbrev lst {l : List Cl} (_ : ∀ xc ∈ l, Lasts xc) : List Cl := l
/-- The run of a piece. -/
theorem of_run {ts : List UInt8} (h1 : 1 ≤ ts.length) (h2 : ts.length ≤ 60) {q : Nat} (hq : q < ts.length) :
    ∃ X, (ofR ts)[fromM q (ofR ts)]? = some X ∧ X.tag = tagO ts[q] ∧ fromM q (ofR ts) + 1 ≤ (ofR ts).length ∧ toM q ((q : Int) + 1) (ofR ts) = fromM q (ofR ts) + 1 ∧ ((ofR ts).drop (fromM q (ofR ts))).take (toM q ((q : Int) + 1) (ofR ts) - fromM q (ofR ts)) = [X] := by
  have g := ofL_good h1 h2
  have el := ofL_lay ts
  have et := ofL_total ts
  have hfl := from_lay g (lo := (q : Int)) (by rw [et]; omega)
  rw [el] at hfl
  have hto := toM_one g (at_ := (q : Int)) (by omega) (by rw [et]; omega) el
  have hs := own_sound g (lo := (q : Int)) (hi := (q : Int) + 1) (by omega) (by omega) (by rw [et]; omega) el
  have cut : ((ofR ts).drop (fromM q (ofR ts))).take (toM q ((q : Int) + 1) (ofR ts) - fromM q (ofR ts)) = [(ofR ts)[fromM q (ofR ts)]] := by
    rw [hto, show fromM (q : Int) (ofR ts) + 1 - fromM (q : Int) (ofR ts) = 1 from by omega, List.drop_eq_getElem_cons hfl]
    rfl
  refine ⟨_, List.getElem?_eq_getElem hfl, ?_, hfl, hto, cut⟩
  have hne : ((ofR ts).drop (fromM q (ofR ts))).take (toM q ((q : Int) + 1) (ofR ts) - fromM q (ofR ts)) ≠ [] := by rw [cut]; simp
  have hh := (hs.2.2 hne).1
  simp only [cut, List.head_cons] at hh
  exact of_tag hfl hq hh.2.1 hh.2.2.1
/-- A claim of a piece in its box. -/
def BoxS (W : World) (b : Nat) (X : Rn) (index count size : Int) (PA : Option Addr) (pn pc : Nat) : Prop := W.heap[b]? = some (.cells (cellsS X index count size PA pn pc) 37 (0, 0))
section
variable {W W' : World} {b : Nat} {X : Rn} {index count size : Int} {PA : Option Addr} {pn pc : Nat}
theorem BoxS.new (w : World) (X : Rn) (index count size : Int) (PA : Option Addr) (pn pc : Nat) : BoxS (w.alloc (.cells (cellsS X index count size PA pn pc) 37)) w.heap.size X index count size PA pn pc := heap_alloc_new w _
theorem BoxS.next (h : BoxS W b X index count size PA pn pc) (hB : Below W.heap.size W W') : BoxS W' b X index count size PA pn pc := (hB.block b (Array.getElem?_eq_some_iff.1 h).1).trans h
theorem BoxS.lt (h : BoxS W b X index count size PA pn pc) : b < W.heap.size := (Array.getElem?_eq_some_iff.1 h).1
theorem BoxS.c0 (h : BoxS W b X index count size PA pn pc) : W.cell? ⟨b, 0, none⟩ = some (.int .i64 X.lo) := (cell_of_row W b 0 _ _ _ h).trans rfl
theorem BoxS.c1 (h : BoxS W b X index count size PA pn pc) : W.cell? ⟨b, 1, none⟩ = some (.int .i64 X.hi) := (cell_of_row W b 1 _ _ _ h).trans rfl
theorem BoxS.c2 (h : BoxS W b X index count size PA pn pc) : W.cell? ⟨b, 2, none⟩ = some (.int .i64 X.tag) := (cell_of_row W b 2 _ _ _ h).trans rfl
theorem BoxS.c3 (h : BoxS W b X index count size PA pn pc) : W.cell? ⟨b, 3, none⟩ = some (.int .i64 index) := (cell_of_row W b 3 _ _ _ h).trans rfl
theorem BoxS.c4 (h : BoxS W b X index count size PA pn pc) : W.cell? ⟨b, 4, none⟩ = some (.int .i64 count) := (cell_of_row W b 4 _ _ _ h).trans rfl
theorem BoxS.c5 (h : BoxS W b X index count size PA pn pc) : W.cell? ⟨b, 5, none⟩ = some (.int .i64 size) := (cell_of_row W b 5 _ _ _ h).trans rfl
theorem BoxS.c6 (h : BoxS W b X index count size PA pn pc) : W.cell? ⟨b, 6, none⟩ = some (.slice PA pn pc) := (cell_of_row W b 6 _ _ _ h).trans rfl
theorem BoxS.load_ (h : BoxS W b X index count size PA pn pc) : (Instr.loadAt 37 (.pointer (some ⟨b, 0, none⟩))).run Tryd.prog W = .ok (claim1V X index count size PA pn pc) W := by
  have := run_loadVar_row W b 37 37 _ (0, 0) (.struct (Tryd.prog.fieldsOf 37)) h (by kernel_rfl) rfl szState
  simp only [Instr.loadAt, Instr.sureAddr, Sem.run_bind, Sem.run_pure, Result.andThen_ok, this]
theorem BoxC.load_ {A : Option Addr} {n c : Nat} {first : Int} (h : BoxC W b A n c first count size PA pn pc) : (Instr.loadAt 43 (.pointer (some ⟨b, 0, none⟩))).run Tryd.prog W = .ok (claimV A n c first count size PA pn pc) W := by
  have := run_loadVar_row W b 43 43 _ (0, 0) (.struct (Tryd.prog.fieldsOf 43)) h.row (by kernel_rfl) rfl szClaim
  simp only [Instr.loadAt, Instr.sureAddr, Sem.run_bind, Sem.run_pure, Result.andThen_ok, this]
end
theorem mapRoot_of {ts : List UInt8} (h1 : 1 ≤ ts.length) (h2 : ts.length ≤ 60) : mapRootM (ofL ts) = (rootO ts, 0) := by
  have g := ofL_good h1 h2
  unfold mapRootM rootO
  rw [if_neg g.1, ofL_total, ofL_lay]
  have : (ofL ts).length = (ofR ts).length := segs_length _
  rw [this]
end Go.Proofs.YtcocengpekndjaaDoor
