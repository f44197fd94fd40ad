/- What State returns, and what is accepted for a piece: the plain laws; boxes of claims. -/
import Derived.Test.YtcocengpekndjaaDoorPrMapsL
import Derived.Test.YtcocengpekndjaaDoorPrAcc
import Derived.Test.YtcocengpekndjaaDoorPrTexts
import Derived.Test.YtcocengpekndjaaDoorPrFTexts
import Derived.Test.YtcocengpekndjaaDoorPrClash
namespace Go.Proofs.YtcocengpekndjaaDoor
open Go.RowKit
/-- What the document asks of a claim of a piece. -/
def AccP (at_ : Int) (X : Rn) (index count size : Int) : Prop := 0 ≤ X.lo ∧ X.lo ≤ at_ ∧ at_ < X.hi ∧ X.hi ≤ size ∧ size ≤ 1099511627776 ∧ 0 ≤ X.tag ∧ X.tag < 16 ∧ 0 ≤ index ∧ index < count ∧ count ≤ 4096 ∧ (X.lo = 0 ↔ index = 0) ∧ (X.hi = size ↔ index = count - 1)
theorem soundP {at_ : Int} {X : Rn} {index count size : Int} : Sound at_ (at_ + 1) [X] index count size ↔ AccP at_ X index count size := by
  unfold Sound Head Ends AccP
  constructor
  · rintro ⟨h, hC, hE⟩
    obtain ⟨⟨a1, a2, a3, a4, a5, a6⟩, e1, e2⟩ := hE (by simp)
    obtain ⟨b1, b2, b3, _⟩ := hC 0 (by simp) (by simp)
    simp only [List.head_cons, List.getLast_singleton, List.getElem_cons_zero, List.length_cons, List.length_nil] at *
    refine ⟨by omega, by omega, by omega, by omega, by omega, by omega, by omega, by omega, by omega, by omega, e1, by omega⟩
  · rintro ⟨a1, a2, a3, a4, a5, a6, a7, a8, a9, a10, a11, a12⟩
    refine ⟨by simp only [List.length_cons, List.length_nil]; omega, fun i h _ => ?_, fun _ => ?_⟩
    · obtain rfl : i = 0 := by simpa using h
      exact ⟨by simp only [List.getElem_cons_zero]; omega, a6, a7, fun y hy => by simp [prevR] at hy⟩
    · simp only [List.head_cons, List.getLast_singleton, List.length_cons, List.length_nil]
      exact ⟨by omega, a11, by omega⟩
/-- The run of a piece. -/
theorem of_run {ts : List UInt8} (h1 : 1 ≤ ts.length) (h2 : ts.length ≤ 60) {q : Nat} (hq : q < ts.length) :
    ∃ X, (ofR ts)[fromM q (ofR ts)]? = some X ∧ X.tag = tagO ts[q] ∧ fromM q (ofR ts) + 1 ≤ (ofR ts).length ∧ toM q ((q : Int) + 1) (ofR ts) = fromM q (ofR ts) + 1 ∧ ((ofR ts).drop (fromM q (ofR ts))).take (toM q ((q : Int) + 1) (ofR ts) - fromM q (ofR ts)) = [X] := by
  have g := ofL_good h1 h2
  have el := ofL_lay ts
  have et := ofL_total ts
  have hfl := from_lay g (lo := (q : Int)) (by rw [et]; omega)
  rw [el] at hfl
  have hto := toM_one g (at_ := (q : Int)) (by omega) (by rw [et]; omega) el
  have hs := own_sound g (lo := (q : Int)) (hi := (q : Int) + 1) (by omega) (by omega) (by rw [et]; omega) el
  have cut : ((ofR ts).drop (fromM q (ofR ts))).take (toM q ((q : Int) + 1) (ofR ts) - fromM q (ofR ts)) = [(ofR ts)[fromM q (ofR ts)]] := by
    rw [hto, show fromM (q : Int) (ofR ts) + 1 - fromM (q : Int) (ofR ts) = 1 from by omega, List.drop_eq_getElem_cons hfl]
    rfl
  refine ⟨_, List.getElem?_eq_getElem hfl, ?_, hfl, hto, cut⟩
  have hne : ((ofR ts).drop (fromM q (ofR ts))).take (toM q ((q : Int) + 1) (ofR ts) - fromM q (ofR ts)) ≠ [] := by rw [cut]; simp
  have hh := (hs.2.2 hne).1
  simp only [cut, List.head_cons] at hh
  exact of_tag hfl hq hh.2.1 hh.2.2.1
theorem true_own {ts : List UInt8} (h1 : 1 ≤ ts.length) (h2 : ts.length ≤ 60) {q : Nat} (hq : q < ts.length) {X : Rn} (hX : (ofR ts)[fromM q (ofR ts)]? = some X) :
    accept1M (rootO ts) q X (fromM q (ofR ts)) (ofR ts).length ts.length (visitM sha ((ofR ts).map lvM) (fromM q (ofR ts)) (toM q ((q : Int) + 1) (ofR ts))) = (tagO ts[q], true) := by
  obtain ⟨X', e, ht, _, _, hc⟩ := of_run h1 h2 hq
  rw [hX] at e
  obtain rfl := Option.some.inj e
  have := own_true h1 h2 (lo := (q : Int)) (hi := (q : Int) + 1) (by omega) (by omega) (by omega)
  rw [hc] at this
  unfold accept1M
  rw [if_pos ⟨by omega, by omega⟩, if_pos this, ht]
theorem accept1_tag {root : Bs} {at_ : Int} {X : Rn} {index count size : Int} {path : List Bs} {t : Int} {b : Bool} (h : accept1M root at_ X index count size path = (t, b)) :
    (b = false ∧ t = 0) ∨ (b = true ∧ t = X.tag ∧ acceptM root at_ (at_ + 1) [X] index count size path = true) := by
  unfold accept1M at h
  split at h
  · split at h
    · rename_i ha; cases h; exact .inr ⟨rfl, rfl, ha⟩
    · cases h; exact .inl ⟨rfl, rfl⟩
  · cases h; exact .inl ⟨rfl, rfl⟩
/-- What is accepted with another tag, or for no piece, shows two strings with one hash. -/
theorem true_other {ts : List UInt8} (h1 : 1 ≤ ts.length) (h2 : ts.length ≤ 60) {at_ : Int} {X : Rn} {index count size : Int} {path : List Bs} {t : Int} (hp : H32 path)
    (ha : accept1M (rootO ts) at_ X index count size path = (t, true)) (hn : ∀ (q : Nat) (h : q < ts.length), at_ = q → t ≠ tagO ts[q]) :
    (0 ≤ index ∧ index < count ∧ count ≤ 4096) ∧ (0 ≤ size ∧ size ≤ 1099511627776) ∧ Fit X ∧ ∃ h, h.length = 32 ∧ foldR count.toNat index [textM X] path = (h, path.length, true) ∧
      ClashL sha (mapT ts.length (ofR ts) ++ foldT sha count.toNat index [textM X] path ++ [sealT size count h]) := by
  obtain ⟨hb, _⟩ | ⟨_, ht, ha⟩ := accept1_tag ha
  · cases hb
  obtain ⟨h, hS, hf, key⟩ := exact_claim h1 h2 hp ha
  have fit := sound_fit hS
  have hA := soundP.1 hS
  unfold AccP at hA
  have h32 : h.length = 32 := foldM_length sha sha_length _ _ _ _ _ (Nat.le_refl _) (fun x hx => h32_map [X] x hx) hp _ _ hf
  refine ⟨by omega, by omega, fit X (by simp), h, h32, ?_, ?_⟩
  · have := foldR_fold count.toNat count.toNat index [textM X] path (Nat.le_refl _)
    rw [show List.map (leafM sha) [textM X] = [X].map lvM from rfl, hf] at this
    exact this
  · refine Classical.byContradiction fun hc => ?_
    obtain ⟨k1, k2, k3, k4, k5, k6⟩ := key hc
    have hq : at_.toNat < ts.length := by omega
    have eq : at_ = (at_.toNat : Int) := by omega
    obtain ⟨X', e, ht', _, _, hcut⟩ := of_run h1 h2 hq
    rw [← eq] at e hcut
    rw [hcut] at k5
    obtain rfl : X = X' := by simpa using k5
    exact hn at_.toNat hq eq (by rw [ht, ht'])
theorem mapT_len {ts : List UInt8} (h2 : ts.length ≤ 60) : (mapT ts.length (ofR ts)).length ≤ 200 := by
  unfold mapT
  have a := (ofR_spec ts).2.2.2.2.1
  have b := treeT_len 60 ((ofR ts).map textM) (by rw [List.length_map]; omega)
  rw [List.length_append, List.length_singleton]
  rw [List.length_map] at b
  omega
theorem mapT_short {ts : List UInt8} (h2 : ts.length ≤ 60) : ∀ s ∈ mapT ts.length (ofR ts), s.length ≤ 99999 := by
  unfold mapT
  have a := (ofR_spec ts).2.2.2.2.1
  intro s hs
  rcases List.mem_append.1 hs with hs | hs
  · exact treeT_short 60 ((ofR ts).map textM) (by rw [List.length_map]; omega) (fun s hs => by obtain ⟨x, _, rfl⟩ := List.mem_map.1 hs; rw [textM_length]; omega) s hs
  · obtain rfl := List.mem_singleton.1 hs
    simp [sealT, eightM_length, treeM_length sha sha_length]
theorem sealT_short (size count : Int) {h : Bs} (hh : h.length = 32) : (sealT size count h).length ≤ 99999 := by simp [sealT, eightM_length, hh]
/-- A claim of a piece in its box. -/
def BoxS (W : World) (b : Nat) (X : Rn) (index count size : Int) (PA : Option Addr) (pn pc : Nat) : Prop := W.heap[b]? = some (.cells (cellsS X index count size PA pn pc) 37 (0, 0))
section
variable {W W' : World} {b : Nat} {X : Rn} {index count size : Int} {PA : Option Addr} {pn pc : Nat}
theorem BoxS.new (w : World) (X : Rn) (index count size : Int) (PA : Option Addr) (pn pc : Nat) : BoxS (w.alloc (.cells (cellsS X index count size PA pn pc) 37)) w.heap.size X index count size PA pn pc := heap_alloc_new w _
theorem BoxS.next (h : BoxS W b X index count size PA pn pc) (hB : Below W.heap.size W W') : BoxS W' b X index count size PA pn pc := (hB.block b (Array.getElem?_eq_some_iff.1 h).1).trans h
theorem BoxS.lt (h : BoxS W b X index count size PA pn pc) : b < W.heap.size := (Array.getElem?_eq_some_iff.1 h).1
theorem BoxS.c0 (h : BoxS W b X index count size PA pn pc) : W.cell? ⟨b, 0, none⟩ = some (.int .i64 X.lo) := (cell_of_row W b 0 _ _ _ h).trans rfl
theorem BoxS.c1 (h : BoxS W b X index count size PA pn pc) : W.cell? ⟨b, 1, none⟩ = some (.int .i64 X.hi) := (cell_of_row W b 1 _ _ _ h).trans rfl
theorem BoxS.c2 (h : BoxS W b X index count size PA pn pc) : W.cell? ⟨b, 2, none⟩ = some (.int .i64 X.tag) := (cell_of_row W b 2 _ _ _ h).trans rfl
theorem BoxS.c3 (h : BoxS W b X index count size PA pn pc) : W.cell? ⟨b, 3, none⟩ = some (.int .i64 index) := (cell_of_row W b 3 _ _ _ h).trans rfl
theorem BoxS.c4 (h : BoxS W b X index count size PA pn pc) : W.cell? ⟨b, 4, none⟩ = some (.int .i64 count) := (cell_of_row W b 4 _ _ _ h).trans rfl
theorem BoxS.c5 (h : BoxS W b X index count size PA pn pc) : W.cell? ⟨b, 5, none⟩ = some (.int .i64 size) := (cell_of_row W b 5 _ _ _ h).trans rfl
theorem BoxS.c6 (h : BoxS W b X index count size PA pn pc) : W.cell? ⟨b, 6, none⟩ = some (.slice PA pn pc) := (cell_of_row W b 6 _ _ _ h).trans rfl
theorem BoxS.load_ (h : BoxS W b X index count size PA pn pc) : (Instr.loadAt 37 (.pointer (some ⟨b, 0, none⟩))).run Tryd.prog W = .ok (claim1V X index count size PA pn pc) W := by
  have := run_loadVar_row W b 37 37 _ (0, 0) (.struct (Tryd.prog.fieldsOf 37)) h (by kernel_rfl) rfl szState
  simp only [Instr.loadAt, Instr.sureAddr, Sem.run_bind, Sem.run_pure, Result.andThen_ok, this]
theorem BoxC.load_ {A : Option Addr} {n c : Nat} {first : Int} (h : BoxC W b A n c first count size PA pn pc) : (Instr.loadAt 43 (.pointer (some ⟨b, 0, none⟩))).run Tryd.prog W = .ok (claimV A n c first count size PA pn pc) W := by
  have := run_loadVar_row W b 43 43 _ (0, 0) (.struct (Tryd.prog.fieldsOf 43)) h.row (by kernel_rfl) rfl szClaim
  simp only [Instr.loadAt, Instr.sureAddr, Sem.run_bind, Sem.run_pure, Result.andThen_ok, this]
end
theorem mapRoot_of {ts : List UInt8} (h1 : 1 ≤ ts.length) (h2 : ts.length ≤ 60) : mapRootM (ofL ts) = (rootO ts, 0) := by
  have g := ofL_good h1 h2
  unfold mapRootM rootO
  rw [if_neg g.1, ofL_total, ofL_lay]
  have : (ofL ts).length = (ofR ts).length := segs_length _
  rw [this]
end Go.Proofs.YtcocengpekndjaaDoor
