/- The walk over the reference's Pair. -/
import Derived.Test.YtcocengpekndjaaDoorPrStep
namespace Go.Proofs.YtcocengpekndjaaDoor
open Go.RowKit
set_option maxRecDepth 100000 in
set_option maxHeartbeats 2000000 in
theorem rpair_any (a b : Bs) (w : World) (ha : a.length = 32) (hb : b.length = 32) : Calls Tryd.prog 79 #[wordsV, hashV a, hashV b] w fun e w' => e = .returned (hashV (joinM sha a b)) ∧ Below w.heap.size w w' := by
  have hl : (joinM sha a b).length = 32 := sha_length _
  have hsum := fun (W : World) => rsum_any (1 :: (a ++ b)) W (by simp; omega)
  have szH : (Tryd.prog.info? 30).map (·.size) = some 32 := by kernel_rfl
  have a0 := fun W => s_add (P := Tryd.prog) [1] a W (by simp; omega)
  have a1 := fun W => s_add (P := Tryd.prog) (1 :: a) b W (by simp; omega)
  have HS := Lib.hid hsum
  have HL := Lib.hid hl
  have SZ := Lib.hid szH
  have HA := Lib.hid ha
  have HB := Lib.hid hb
  clear hsum hl szH ha hb
  go_enter Tryd.func79, Tryd.ntmps79
  go_upto_region 1 with (fail)
  obtain ⟨w0, hW0⟩ : ∃ w0, World.alloc (World.alloc (World.alloc (w.alloc (.cells (ints .u32 wordsL) 27)) (.cells (cellsB a).toArray 30)) (.cells (cellsB b).toArray 30)) (.cells (ints .u8 (List.replicate 32 0)) 30) = w0 := ⟨_, rfl⟩
  have B0 : Below w.heap.size w w0 := hW0 ▸ Below.on (Below.on (Below.on (Below.new1 _ _) (Below.new1 _ _)) (Below.new1 _ _)) (Below.new1 _ _)
  have y0 : BoxW w0 w.heap.size := hW0 ▸ (((BoxW.new w).next (Below.new1 _ _)).next (Below.new1 _ _)).next (Below.new1 _ _)
  have x2 : BoxH w0 (w.heap.size + 1) a := by
    have := ((BoxH.new (w.alloc (.cells (ints .u32 wordsL) 27)) a).next (Below.new1 _ (.cells (cellsB b).toArray 30))).next (Below.new1 _ (.cells (ints .u8 (List.replicate 32 0)) 30))
    rw [World.size_alloc] at this; exact hW0 ▸ this
  have x3 : BoxH w0 (w.heap.size + 1 + 1) b := by
    have := (BoxH.new ((w.alloc (.cells (ints .u32 wordsL) 27)).alloc (.cells (cellsB a).toArray 30)) b).next (Below.new1 _ (.cells (ints .u8 (List.replicate 32 0)) 30))
    rw [World.size_alloc, World.size_alloc] at this; exact hW0 ▸ this
  have x4 : BoxA w0 (w.heap.size + 1 + 1 + 1) 30 .u8 (List.replicate 32 0) := by
    have := BoxA.new (((w.alloc (.cells (ints .u32 wordsL) 27)).alloc (.cells (cellsB a).toArray 30)).alloc (.cells (cellsB b).toArray 30)) 30 .u8 (List.replicate 32 0) _ rfl
    rw [World.size_alloc, World.size_alloc, World.size_alloc] at this; exact hW0 ▸ this
  change Code.wp _ _ _ _ (World.alloc (World.alloc (World.alloc (w.alloc (.cells (ints .u32 wordsL) 27)) (.cells (cellsB a).toArray 30)) (.cells (cellsB b).toArray 30)) (.cells (ints .u8 (List.replicate 32 0)) 30))
  rw [hW0]
  clear hW0
  have D0 : Below w0.heap.size w0 w0.drew := Below.drawn w0 1 _
  have cva := BoxH.text (h := a) (x2.next D0) HA.out 32
  have cvb := BoxH.text (h := b) (x3.next D0) HB.out 32
  go_upto_region 1 with (fail)
  refine wp_region_still_tail 7 (by kernel_rfl) (by kernel_rfl) ?_
  simp only [List.take_succ_cons, List.take_zero, List.drop_succ_cons, List.drop_zero]
  refine wpStill_load rfl 27 (.tmp 3) rfl wordsV (BoxW.load (BoxA.next y0 D0)) ?_
  repeat still_step
  refine wpStill_nil ?_
  clear cva cvb a0 a1 x2 x3
  replace x4 := x4.next D0
  replace B0 := Below.on B0 D0
  clear y0 D0
  change wpList _ _ _ _ _ w0.drew
  generalize w0.drew = wd at *
  go_wp2_with (first
    | (go_at_call 20; refine (HS.out _).mono ?_; rintro e w1 ⟨rfl, b1⟩)
    | (refine wpList_storeH rfl (.tmp 6) (.tmp 14) rfl (w.heap.size + 1 + 1 + 1) (joinM sha a b) rfl rfl (x4.next b1) rfl HL.out ?_))
  exact bodyPost_ret (v := hashV (joinM sha a b)) (results_hash rfl _ (w.heap.size + 1 + 1 + 1) _ rfl ((x4.next b1).setRow) HL.out) rfl ⟨rfl, below_setRow (Below.on B0 b1) (by omega) _⟩
section
variable {ops : Array Oper} {rest : List Oper} {o : Oper} {a : Act} {w : World} {Q : Exit → Act → World → Prop}
theorem wpList_load_if {P : Program} (hw : Region.wanted o (yielded ops a.tmps) = true) (ty : TypeId) (x : Operand) (ho : o.op = .load ty x) (v : Value) (hr : (Instr.loadAt ty (a.eval x)).run P w = .ok v w)
    (K : wpList P ops Q rest (a.put o.dst v) w) : wpList P ops Q (o :: rest) a w := by
  unfold wpList
  rw [if_pos hw]
  left
  unfold Oper.wp
  simp [execOp, ho, hr, Result.andThen]
  exact K
end
end Go.Proofs.YtcocengpekndjaaDoor
