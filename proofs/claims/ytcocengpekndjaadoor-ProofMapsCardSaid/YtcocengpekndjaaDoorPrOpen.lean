/- Hashes and rows of hashes as arguments. -/
import Derived.Test.YtcocengpekndjaaDoorPrTop
import Derived.Deep.Slices
import Derived.OpenShut
namespace Go.Proofs.YtcocengpekndjaaDoor
section
open Go.ChangeShapes Go.WideShapes Go.RowKit Go.Deep
section
variable {H : Type} {enc : TypeId × Value → H} {P : Program} {w : World} {base : Nat} {spare : Nat → Bool} {held : Bool}
theorem trodAll_five {t t1 t2 t3 t4 : TypeId} {args : Array Value} {ds : List (DataW H)} {ps : List MemPlace} (h : DataW.TrodAll enc P w base spare held [t, t1, t2, t3, t4] args.toList ds ps) :
    ∃ v v1 v2 v3 v4 d d1 d2 d3 d4 p p1 p2 p3 p4, args = #[v, v1, v2, v3, v4] ∧ ds = [d, d1, d2, d3, d4] ∧ ps = p ++ (p1 ++ (p2 ++ (p3 ++ p4))) ∧ DataW.Trod enc P w base spare held t v d p ∧ DataW.Trod enc P w base spare held t1 v1 d1 p1 ∧ DataW.Trod enc P w base spare held t2 v2 d2 p2 ∧ DataW.Trod enc P w base spare held t3 v3 d3 p3 ∧ DataW.Trod enc P w base spare held t4 v4 d4 p4 := by
  obtain ⟨v, vs, d, ds', p, ps', hv, rfl, rfl, h0, h⟩ := trodAll_cons h
  obtain ⟨v1, vs1, d1, ds1, p1, ps1, rfl, rfl, rfl, h1, h⟩ := trodAll_cons h
  obtain ⟨v2, vs2, d2, ds2, p2, ps2, rfl, rfl, rfl, h2, h⟩ := trodAll_cons h
  obtain ⟨v3, vs3, d3, ds3, p3, ps3, rfl, rfl, rfl, h3, h⟩ := trodAll_cons h
  obtain ⟨v4, vs4, d4, ds4, p4, ps4, rfl, rfl, rfl, h4, h⟩ := trodAll_cons h
  obtain ⟨rfl, rfl, rfl⟩ := trodAll_nil h
  exact ⟨v, v1, v2, v3, v4, d, d1, d2, d3, d4, p, p1, p2, p3, p4, Array.ext' hv, rfl, by simp, h0, h1, h2, h3, h4⟩
theorem trodAll_mk5 {t t1 t2 t3 t4 : TypeId} {v v1 v2 v3 v4 : Value} {d d1 d2 d3 d4 : DataW H} {p p1 p2 p3 p4 : List MemPlace} (h : DataW.Trod enc P w base spare held t v d p) (h1 : DataW.Trod enc P w base spare held t1 v1 d1 p1) (h2 : DataW.Trod enc P w base spare held t2 v2 d2 p2)
    (h3 : DataW.Trod enc P w base spare held t3 v3 d3 p3) (h4 : DataW.Trod enc P w base spare held t4 v4 d4 p4) : DataW.TrodAll enc P w base spare held [t, t1, t2, t3, t4] [v, v1, v2, v3, v4] [d, d1, d2, d3, d4] (p ++ (p1 ++ (p2 ++ (p3 ++ p4)))) :=
  trodAll_cons_mk h (trodAll_cons_mk h1 (trodAll_cons_mk h2 (trodAll_cons_mk h3 (trodAll_mk1 h4))))
end
theorem okWide_array {P : Program} {w : World} {r : Reach} {base : Nat} {t : TypeId} {v : Value} {n : Nat} {e : TypeId} (ht : P.underlying t = some (.array n e)) (h : Value.okWide P w r base t v) : ∃ cs, v = .agg cs ∧ cs.size = P.cellsOf t := by
  simp only [Value.okWide, ht] at h
  obtain ⟨cs, h1, h2, _⟩ := h
  exact ⟨cs, h1, h2⟩
theorem Tryd.cellsHash : Tryd.prog.cellsOf 30 = 32 := by kernel_rfl
theorem Tryd.cellsByte : Tryd.prog.cellsOf 5 = 1 := by kernel_rfl
theorem und_hash : Tryd.prog.underlying 30 = some (.array 32 5) := by kernel_rfl
theorem und_byte : Tryd.prog.underlying 5 = some (.int .u8) := by kernel_rfl
variable {H : Type} {enc : TypeId × Value → H} {w : World}
/-- The byte of a cell. -/
def byteV : Value → UInt8
  | .int _ z => z.toNat.toUInt8
  | _ => 0
theorem toUInt8_int {z : Int} (h0 : 0 ≤ z) (h1 : z ≤ 255) : ((z.toNat.toUInt8).toNat : Int) = z := by
  have : (z.toNat.toUInt8).toNat = z.toNat % 256 := rfl
  rw [this]; omega
/-- The cells of a hash, read. -/
theorem trod_hash {base : Nat} {spare : Nat → Bool} {held : Bool} {n : Nat} {cs : List Value} {x : DataW H × List MemPlace} (h : DataW.trod enc Tryd.prog w base spare held n 30 cs = some x) : ∃ b : Bs, b.length = 32 ∧ cs = cellsB b := by
  obtain ⟨xs, m, _, _, hl, hxl, hel⟩ := DataW.trod_array und_hash h
  rw [Tryd.cellsHash] at hl
  have each : ∀ i, i < 32 → ∃ z : Int, cs[i]? = some (.int .u8 z) ∧ 0 ≤ z ∧ z ≤ 255 := fun i hi => by
    have hE := hel i hi
    rw [Tryd.cellsByte, Nat.mul_one, List.getElem?_eq_getElem (by omega)] at hE
    obtain ⟨z, e1, _, wf⟩ := DataW.trod_int und_byte hE
    refine ⟨z, ?_, ?_⟩
    · have h0 : ((cs.drop i).take 1)[0]? = some (.int .u8 z) := by rw [e1]; rfl
      simpa using h0
    · simpa [Lit.wf, IntKind.min, IntKind.max, IntKind.signed, IntKind.bits] using wf
  refine ⟨cs.map byteV, by rw [List.length_map, hl], List.ext_getElem (by simp [cellsB]) fun i h1 h2 => ?_⟩
  obtain ⟨z, e, z0, z1⟩ := each i (by omega)
  rw [List.getElem?_eq_getElem h1] at e
  have e' := Option.some.inj e
  simp only [cellsB, List.getElem_map, e', byteV, toUInt8_int z0 z1]

set_option maxRecDepth 20000 in
theorem open_hash {r : Reach} {b0 base : Nat} {spare : Nat → Bool} {held : Bool} {v : Value} {d : DataW H} {p : List MemPlace} (hval : Value.okWide Tryd.prog w r b0 30 v) (h : DataW.Trod enc Tryd.prog w base spare held 30 v d p) :
    ∃ b : Bs, v = hashV b ∧ b.length = 32 := by
  obtain ⟨cs, rfl, _⟩ := okWide_array und_hash hval
  obtain ⟨fuel, hf⟩ := h
  obtain ⟨b, hb, e⟩ := trod_hash hf
  refine ⟨b, ?_, hb⟩
  have e' : cs.toList = cellsB b := e
  show Value.agg cs = .agg (cellsB b).toArray
  rw [← e']
theorem cellsH_split {l : List Bs} (h : H32 l) {j : Nat} {u : Value} (hu : (cellsH l)[j]? = some u) : ∃ i r, ∃ hi : i < l.length, j = i * 32 + r ∧ r < 32 ∧ (cellsB l[i])[r]? = some u := by
  have hj : j < l.length * 32 := by rw [← cellsH_length h]; exact (List.getElem?_eq_some_iff.1 hu).1
  have hi : j / 32 < l.length := by omega
  refine ⟨j / 32, j % 32, hi, by omega, by omega, ?_⟩
  have hl : (cellsB l[j / 32]).length = 32 := by rw [cellsB_length, h _ (List.getElem_mem hi)]
  have e := List.getElem?_eq_getElem (show j % 32 < (cellsB l[j / 32]).length by omega)
  have := cellsH_at h hi e
  rw [show j / 32 * 32 + j % 32 = j from by omega, hu] at this
  rw [e, this]
instance : Inhabited Bs := ⟨[]⟩
/-- A row of hashes, read. -/
theorem read_hashes {held : Bool} {A : Option Addr} {len c : Nat} {d : DataW H} {p : List MemPlace} (h : DataW.Trod enc Tryd.prog w 0 (fun _ => true) held 35 (.slice A len c) d p) : ∃ l : List Bs, l.length = len ∧ Hs w A l ∧ len ≤ c := by
  obtain ⟨fuel, hf⟩ := h
  rcases open_slice (show Tryd.prog.underlying 35 = some (.slice 30) by kernel_rfl) hf with ⟨hcs, _⟩ | ⟨a, len', cap', m, n, D, Pl, hcs, hb, hl, hm, hmm, hx, hi⟩
  · simp [Value.cells] at hcs
    obtain ⟨rfl, rfl, rfl⟩ := hcs
    exact ⟨[], rfl, ⟨H32.nil, .inl rfl⟩, Nat.le_refl _⟩
  · simp [Value.cells] at hcs
    obtain ⟨rfl, rfl, rfl⟩ := hcs
    simp only [if_true] at hmm
    subst hmm
    have each : ∀ i, i < len → ∃ b : Bs, b.length = 32 ∧ ∀ (r : Nat) u, (cellsB b)[r]? = some u → w.cell? (a.add (i * 32 + r)) = some u := fun i h' => by
      obtain ⟨cs', h1, h2⟩ := hi i (by omega)
      rw [Tryd.cellsHash] at h1
      obtain ⟨b, hb, rfl⟩ := trod_hash h2
      obtain ⟨_, hln, hat⟩ := World.cells?_some h1
      refine ⟨b, hb, fun r u hu => ?_⟩
      have hr : r < 32 := by rw [← hln]; exact (List.getElem?_eq_some_iff.1 hu).1
      rw [← add_add, hat r hr, hu]
    obtain ⟨q, hq⟩ := choose_lt each
    have h32 : H32 ((List.range len).map q) := fun x hx => by
      obtain ⟨i, hi, rfl⟩ := List.mem_map.1 hx
      exact (hq i (List.mem_range.1 hi)).1
    refine ⟨(List.range len).map q, by simp, ⟨h32, .inr ⟨a, rfl, fun j u hu => ?_⟩⟩, hl⟩
    obtain ⟨i, r, hi', rfl, hr, hu'⟩ := cellsH_split h32 hu
    rw [List.getElem_map, List.getElem_range] at hu'
    exact (hq i (by simpa using hi')).2 r u hu'
set_option maxRecDepth 20000 in
theorem open_hashes {r : Reach} {b0 : Nat} {held : Bool} {v : Value} {d : DataW H} {p : List MemPlace} (hval : Value.okWide Tryd.prog w r b0 35 v) (h : DataW.Trod enc Tryd.prog w 0 (fun _ => true) held 35 v d p) :
    ∃ A l c, v = .slice A (List.length l) c ∧ Hs w A l ∧ l.length ≤ c := by
  obtain ⟨A, len, c, rfl⟩ := okWide_slice (show Tryd.prog.underlying 35 = some (.slice 30) by kernel_rfl) hval
  obtain ⟨l, rfl, hs, hc⟩ := read_hashes h
  exact ⟨A, l, c, rfl, hs, hc⟩
end
end Go.Proofs.YtcocengpekndjaaDoor
