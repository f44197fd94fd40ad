/- What is accepted for a range: the plain law. -/
import Derived.Test.YtcocengpekndjaaDoorPrRegT
namespace Go.Proofs.YtcocengpekndjaaDoor
open Go.RowKit
/-- The runs of a range. -/
def cutO (ts : List UInt8) (lo hi : Int) : List Rn := ((ofR ts).drop (fromM lo (ofR ts))).take (toM lo hi (ofR ts) - fromM lo (ofR ts))
noncomputable def outO (ts : List UInt8) (lo hi : Int) : List Bs := visitM sha ((ofR ts).map lvM) (fromM lo (ofR ts)) (toM lo hi (ofR ts))
/-- What is accepted and states other runs, or other hashes, shows two strings with one hash. -/
theorem exact_other {ts : List UInt8} (h1 : 1 ≤ ts.length) (h2 : ts.length ≤ 60) {lo hi : Int} {X : List Rn} {first count size : Int} {path : List Bs} (hp : H32 path)
    (ha : acceptM (rootO ts) lo hi X first count size path = true) (hn : (0 ≤ lo ∧ lo < hi ∧ hi ≤ ts.length ∧ X = cutO ts lo hi ∧ path = outO ts lo hi) → False) :
    (0 ≤ first ∧ first < count ∧ count ≤ 4096) ∧ (0 ≤ size ∧ size ≤ 1099511627776) ∧ (∀ x ∈ X, Fit x) ∧ 1 ≤ X.length ∧ ∃ h, h.length = 32 ∧ foldR count.toNat first (X.map textM) path = (h, path.length, true) ∧
      ClashL sha (mapT ts.length (ofR ts) ++ foldT sha count.toNat first (X.map textM) path ++ [sealT size count h]) := by
  obtain ⟨h, hS, hf, key⟩ := exact_claim h1 h2 hp ha
  have fit := sound_fit hS
  have hd := hS.1
  unfold Head at hd
  have h32 : h.length = 32 := foldM_length sha sha_length _ _ _ _ _ (Nat.le_refl _) (fun x hx => h32_map X x hx) hp _ _ hf
  refine ⟨by omega, by omega, fit, by omega, h, h32, ?_, ?_⟩
  · have := foldR_fold count.toNat count.toNat first (X.map textM) path (Nat.le_refl _)
    rw [map_text, hf] at this
    exact this
  · refine Classical.byContradiction fun hc => ?_
    obtain ⟨k1, k2, k3, k4, k5, k6⟩ := key hc
    exact hn ⟨hd.1, hd.2.1, k1, k5, k6⟩
theorem cutO_length {ts : List UInt8} (h1 : 1 ≤ ts.length) (h2 : ts.length ≤ 60) {lo hi : Int} (_l0 : 0 ≤ lo) (l1 : lo < hi) (l2 : hi ≤ ts.length) : (cutO ts lo hi).length = toM lo hi (ofR ts) - fromM lo (ofR ts) ∧ 1 ≤ (cutO ts lo hi).length ∧ (cutO ts lo hi).length ≤ 60 ∧ toM lo hi (ofR ts) ≤ (ofR ts).length := by
  have g := ofL_good h1 h2
  have hfl := from_lay g (lo := lo) (by rw [ofL_total]; omega)
  rw [ofL_lay] at hfl
  have a := toM_le (hi := hi) hfl
  have b := toM_lt lo hi (ofR ts)
  have c := (ofR_spec ts).2.2.2.2.1
  unfold cutO
  rw [List.length_take, List.length_drop]
  omega
theorem outO_length {ts : List UInt8} (h2 : ts.length ≤ 60) (lo hi : Int) : (outO ts lo hi).length ≤ 1000 := by
  have := visitM_length (ofR ts).length ((ofR ts).map lvM) (fromM lo (ofR ts)) (toM lo hi (ofR ts)) (by rw [List.length_map]; exact Nat.le_refl _)
  have := (ofR_spec ts).2.2.2.2.1
  unfold outO
  rw [List.length_map] at *
  omega
theorem foldT_more (n : Nat) (i : Int) (inside path : List Bs) : (foldT sha n i inside path).length ≤ max 1 (2 * n - 1) := foldT_len n n i inside path (Nat.le_refl _)
theorem range_of {ts : List UInt8} (h1 : 1 ≤ ts.length) (h2 : ts.length ≤ 60) {lo hi : Int} (l0 : 0 ≤ lo) (l1 : lo < hi) (l2 : hi ≤ ts.length) (w : World) (p : Option Addr) (h : Rep w p (ofL ts)) (hk : Kon w) :
    Calls Tryd.prog 27 #[.agg #[.pointer p], .int .i64 lo, .int .i64 hi] w fun e w' => ∃ A m c PA pn pc, e = .returned (.tuple #[claimV A m c (fromM lo (ofR ts) : Nat) (ofR ts).length ts.length PA pn pc, .int .i64 0]) ∧ OwnRuns w' w.heap.size (.slice A m c) (cutO ts lo hi) ∧ OwnHs w' w.heap.size (.slice PA pn pc) (outO ts lo hi) ∧ Below w.heap.size w w' := by
  have := range_yes w p (ofL ts) lo hi h (ofL_good h1 h2) l0 l1 (by rw [ofL_total]; exact l2) hk
  unfold RangePost at this
  rw [ofL_lay, ofL_total] at this
  exact this
theorem own_acc {ts : List UInt8} (h1 : 1 ≤ ts.length) (h2 : ts.length ≤ 60) {lo hi : Int} (l0 : 0 ≤ lo) (l1 : lo < hi) (l2 : hi ≤ ts.length) : acceptM (rootO ts) lo hi (cutO ts lo hi) (fromM lo (ofR ts) : Nat) (ofR ts).length ts.length (outO ts lo hi) = true := own_true h1 h2 l0 l1 l2
theorem cover_of {ts : List UInt8} (h1 : 1 ≤ ts.length) (h2 : ts.length ≤ 60) {lo hi : Int} (l0 : 0 ≤ lo) (l1 : lo < hi) (l2 : hi ≤ ts.length) : covF lo (ofR ts) = fromM lo (ofR ts) ∧ covN lo hi (ofR ts) = (cutO ts lo hi).length ∧ cutO ts lo hi = ((ofR ts).drop (fromM lo (ofR ts))).take (cutO ts lo hi).length := by
  have e := cov_any (ofL_good h1 h2) l0 l1 (by rw [ofL_total]; exact l2) (ofL_lay ts)
  have l := (cutO_length h1 h2 l0 l1 l2).1
  refine ⟨e.1, by rw [e.2, l], ?_⟩
  rw [l]
  rfl
theorem BoxM.load_ {W : World} {b : Nat} {x : Int} {A : Option Addr} {n c : Nat} (h : BoxM W b x (.slice A n c)) : (Instr.loadAt 69 (.pointer (some ⟨b, 0, none⟩))).run Tryd.prog W = .ok (.agg #[.int .i64 x, .slice A n c]) W := by
  have := run_loadVar_row W b 69 69 _ (0, 0) (.struct (Tryd.prog.fieldsOf 69)) h (by kernel_rfl) rfl szMap3
  simp only [Instr.loadAt, Instr.sureAddr, Sem.run_bind, Sem.run_pure, Result.andThen_ok, this]
theorem exec_sliceR_mid2 {ev : Operand → Value} {o : Oper} {W : World} {x y z : Operand} {A : Option Addr} {n c i j : Nat} (ho : o.op = .slice 41 x (some y) (some z) none) (hx : ev x = .slice A n c) (hy : ev y = .int .i64 (i : Int)) (hz : ev z = .int .i64 (j : Int)) (h1 : i ≤ j) (h2 : j ≤ c) :
    (execOp ev o).run Tryd.prog W = .ok (.value (.slice (cutR A c i) (j - i) (c - i))) W := by
  have e := rs_mid A n c i j h1 h2 W
  rw [← run_sliceAt_slice W _ _ _ _ _ elemR] at e
  simp [execOp, ho, hx, hy, hz, e]
end Go.Proofs.YtcocengpekndjaaDoor
