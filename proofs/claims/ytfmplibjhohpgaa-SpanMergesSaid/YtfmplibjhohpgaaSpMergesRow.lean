/- SpanMerges answers true, whatever its arguments, which read as they did. No condition. -/
import Derived.Test.YtfmplibjhohpgaaRows
import Derived.Test.YtfmplibjhohpgaaSpOpenA
import Derived.Test.YtfmplibjhohpgaaSpMerges
import Derived.Carry
import Derived.Laws.IdiomArrays
namespace Go.Proofs.Ytfmplibjhohpgaa
open Go.ChangeShapes Go.WideShapes Go.ChangeAt Go.RowKit Go.Deep
set_option maxRecDepth 100000 in
theorem okWide_agg {w : World} {r : Reach} {b0 : Nat} {t e : TypeId} {n : Nat} {v : Value} (ht : Try.prog.underlying t = some (.array n e)) (h : Value.okWide Try.prog w r b0 t v) : ∃ cs, v = .agg cs ∧ cs.size = Try.prog.cellsOf t := by
  simp only [Value.okWide, ht] at h
  obtain ⟨cs, h1, h2, _⟩ := h
  exact ⟨cs, h1, h2⟩
set_option maxRecDepth 100000 in
/-- Three numbers by value, read. -/
theorem open_three {H : Type} {enc : TypeId × Value → H} {w : World} {base b0 : Nat} {spare : Nat → Bool} {held : Bool} {r : Reach} {v : Value} {d : DataW H} {p : List MemPlace}
    (hv : Value.okWide Try.prog w r b0 91 v) (h : DataW.Trod enc Try.prog w base spare held 91 v d p) : ∃ x y z : Int, v = .agg #[.int .i64 x, .int .i64 y, .int .i64 z] := by
  have hu : Try.prog.underlying 91 = some (.array 3 3) := Try.underlying91
  obtain ⟨cs, rfl, hsz⟩ := okWide_agg hu hv
  obtain ⟨fuel, hf⟩ := h
  obtain ⟨l⟩ := cs
  have hc : Try.prog.cellsOf 91 = 3 := by kernel_rfl
  rw [hc] at hsz
  have hl : l.length = 3 := hsz
  match l, hl with
  | [c0, c1, c2], _ =>
    obtain ⟨y0, y1, y2, n, _, g0, g1, g2⟩ := trod_array3 hu Try.cellsInt (by simpa [Value.cells] using hf)
    obtain ⟨z0, e0, _⟩ := DataW.trod_int Try.underlying3 g0
    obtain ⟨z1, e1, _⟩ := DataW.trod_int Try.underlying3 g1
    obtain ⟨z2, e2, _⟩ := DataW.trod_int Try.underlying3 g2
    simp only [List.cons.injEq, and_true] at e0 e1 e2
    subst e0 e1 e2
    exact ⟨z0, z1, z2, rfl⟩


set_option maxRecDepth 100000 in
theorem spanMerges_lifted (os : Os) (started : os.Started) (H : Type) (enc : TypeId × Value → H) :
    ReturnsInHanded {} Try.checked os 13 .any (Rows.spanMergesSpec.pre6 enc Try.prog Try.f13 Rows.spanMergesRow.domain false) (Rows.spanMergesSpec.post enc Try.prog Try.f13 false true false false) := by
  refine returnsInHanded_of_change (C := Try.checked) Try.own started (by kernel_rfl) Try.func13
    (ChangeSpec.witness6 (enc := enc) (C := Try.checked) false ⟨#[], #[.agg #[.int .i64 0, .int .i64 0, .int .i64 0], .slice none 0 0, .slice none 0 0, .slice none 0 0], []⟩ 8 (by kernel_rfl) (by kernel_rfl) (by kernel_rfl) (by kernel_rfl)) ?_
  intro W base args ds gs before hval0 hW _ _
  have hval : ∀ (j : Nat) t v, Try.f13.params[j]? = some t → args[j]? = some v → Value.okWide Try.prog W .any base t v := hval0
  have hW' := hW
  obtain ⟨p, q, hA0, hV, rfl, _, _⟩ := hW
  have hA : DataW.TrodAll enc Try.prog W 0 (fun _ => true) true Try.f13.params.toList args.toList ds p := hA0
  rw [Try.params13] at hA hval
  obtain ⟨v0, v1, v2, v3, d0, d1, d2, d3, p0, p1, p2, p3, rfl, rfl, rfl, h0, h1, h2, h3⟩ := trodAll_four hA
  obtain ⟨rfl, rfl⟩ := trodVars_none hV
  obtain ⟨s0a, s0b, s0c, rfl⟩ := open_three (hval 0 91 v0 rfl rfl) h0
  obtain ⟨A1, len1, c1, rfl⟩ := okWide_slice Try.underlying38 (hval 1 38 v1 rfl rfl)
  obtain ⟨A2, len2, c2, rfl⟩ := okWide_slice Try.underlying38 (hval 2 38 v2 rfl rfl)
  obtain ⟨A3, len3, c3, rfl⟩ := okWide_slice Try.underlying38 (hval 3 38 v3 rfl rfl)
  clear hA0 hval0
  have hlt0 : ∀ x ∈ p0, x.block < W.heap.size := fun x hx => hW'.lt x (by simp [hx])
  have hlt1 : ∀ x ∈ p1, x.block < W.heap.size := fun x hx => hW'.lt x (by simp [hx])
  have hlt2 : ∀ x ∈ p2, x.block < W.heap.size := fun x hx => hW'.lt x (by simp [hx])
  have hlt3 : ∀ x ∈ p3, x.block < W.heap.size := fun x hx => hW'.lt x (by simp [hx])
  obtain ⟨L1, rfl, hR1, hlc1, hn1⟩ := open_acts h1
  obtain ⟨L2, rfl, hR2, hlc2, hn2⟩ := open_acts h2
  obtain ⟨L3, rfl, hR3, hlc3, hn3⟩ := open_acts h3
  try simp only [List.append_nil] at hW'
  try simp only [List.nil_append] at hW'
  try simp only [List.append_assoc] at hW'
  refine (spanMerges_any W s0a s0b s0c  A1 A2 A3 L1 L2 L3 c1 c2 c3  hR1 hR2 hR3 (fun e => (hn1 e).1) (fun e => (hn2 e).1) (fun e => (hn3 e).1) hlc1 hlc2 hlc3).mono fun e W' ⟨he, hb⟩ => ?_
  subst he
  have hT := trodAll_mk4 (enc := enc) (base := 0) (spare := fun b => decide (b < W.heap.size)) (held := true) (Below.trod Try.laidOut (by kernel_rfl) (of_decide_eq_true (by kernel_rfl)) h0 hb hlt0) (Below.trod Try.laidOut (by kernel_rfl) (of_decide_eq_true (by kernel_rfl)) h1 hb hlt1) (Below.trod Try.laidOut (by kernel_rfl) (of_decide_eq_true (by kernel_rfl)) h2 hb hlt2) (Below.trod Try.laidOut (by kernel_rfl) (of_decide_eq_true (by kernel_rfl)) h3 hb hlt3)
  try simp only [List.append_nil] at hT
  try simp only [List.nil_append] at hT
  try simp only [List.append_assoc] at hT
  exact ⟨_, rfl, _, _, _, [], _, [], hW', trodAll_mk1 (shut_bool Try.underlying4 true), hT, rfl, hb.frame _, fun h => by cases h⟩

theorem spanMerges_holds : Rows.SpanMergesSaid :=
  OpenClaim.holds_of_wide 13 Try.f13 rfl rfl rfl rfl rfl rfl rfl ⟨rfl, rfl, rfl, rfl, rfl⟩ rfl rfl rfl rfl rfl (by kernel_rfl) Try.func13 (by kernel_rfl)
    (of_decide_eq_true (by kernel_rfl)) (by unfold Func.isWrapper; rw [if_neg (by decide +kernel)]; exact ⟨rfl, rfl⟩)
    (fun os started H enc _ => spanMerges_lifted os started H enc)
#print axioms spanMerges_holds
end Go.Proofs.Ytfmplibjhohpgaa
