/- SpanLooks answers true, whatever the size, the updates and the questions; the arguments read as they did. No condition. -/
import Derived.Test.YtfmplibjhohpgaaRows
import Derived.Test.YtfmplibjhohpgaaSpLooks
import Derived.Carry
namespace Go.Proofs.Ytfmplibjhohpgaa
open Go.ChangeShapes Go.WideShapes Go.ChangeAt Go.RowKit

theorem Try.cellsQuery_ : Try.prog.cellsOf 51 = 6 := by kernel_rfl
set_option maxRecDepth 20000 in
/-- A question by value, read. -/
theorem open_query_k {H : Type} {enc : TypeId × Value → H} {w : World} {base b0 : Nat} {spare : Nat → Bool} {held : Bool} {r : Reach} {v : Value} {d : DataW H} {p : List MemPlace}
    (hv : Value.okWide Try.prog w r b0 51 v) (h : DataW.Trod enc Try.prog w base spare held 51 v d p) : ∃ x : Qy, v = queryV x ∧ x.k ≤ 9223372036854775807 := by
  obtain ⟨cs, rfl, hsz⟩ := okWide_struct Try.underlying51 hv
  obtain ⟨fuel, hf⟩ := h
  obtain ⟨l⟩ := cs
  rw [Try.cellsQuery_] at hsz
  have hl : l.length = 6 := hsz
  have hf : DataW.trod enc Try.prog w base spare held fuel 51 l = some (d, p) := by simpa [Value.cells] using hf
  obtain ⟨xs, k, hx, _, _, hxl, hf⟩ := DataW.trod_struct Try.underlying51 hf
  replace hxl : xs.length = 6 := hxl
  match xs, hxl, l, hl with
  | [y0, y1, y2, y3, y4, y5], _, [v0, v1, v2, v3, v4, v5], _ =>
    have g0 : DataW.trod enc Try.prog w base spare held k 3 [v0] = some y0 := by have g := hf 0 _ rfl; simpa [Try.cellsInt] using g
    have g1 : DataW.trod enc Try.prog w base spare held k 3 [v1] = some y1 := by have g := hf 1 _ rfl; simpa [Try.cellsInt] using g
    have g2 : DataW.trod enc Try.prog w base spare held k 3 [v2] = some y2 := by have g := hf 2 _ rfl; simpa [Try.cellsInt] using g
    have g3 : DataW.trod enc Try.prog w base spare held k 3 [v3] = some y3 := by have g := hf 3 _ rfl; simpa [Try.cellsInt] using g
    have g4 : DataW.trod enc Try.prog w base spare held k 3 [v4] = some y4 := by have g := hf 4 _ rfl; simpa [Try.cellsInt] using g
    have g5 : DataW.trod enc Try.prog w base spare held k 3 [v5] = some y5 := by have g := hf 5 _ rfl; simpa [Try.cellsInt] using g
    obtain ⟨z0, e0, _⟩ := DataW.trod_int Try.underlying3 g0
    obtain ⟨z1, e1, _⟩ := DataW.trod_int Try.underlying3 g1
    obtain ⟨z2, e2, _⟩ := DataW.trod_int Try.underlying3 g2
    obtain ⟨z3, e3, _⟩ := DataW.trod_int Try.underlying3 g3
    obtain ⟨z4, e4, _⟩ := DataW.trod_int Try.underlying3 g4
    obtain ⟨z5, e5, _, wk⟩ := DataW.trod_int Try.underlying3 g5
    simp only [List.cons.injEq, and_true] at e0 e1 e2 e3 e4 e5
    subst e0 e1 e2 e3 e4 e5
    have wk2 : IntKind.i64.min ≤ z5 ∧ z5 ≤ IntKind.i64.max := by simpa [Lit.wf] using wk
    exact ⟨⟨z0, z1, z2, z3, z4, z5⟩, rfl, wk2.2⟩
set_option maxRecDepth 100000 in
theorem spanLooks_lifted (os : Os) (started : os.Started) (H : Type) (enc : TypeId × Value → H) :
    ReturnsInHanded {} Try.checked os 9 .any (Rows.spanLooksSpec.pre6 enc Try.prog Try.f9 Rows.spanLooksRow.domain false) (Rows.spanLooksSpec.post enc Try.prog Try.f9 false true false false) := by
  refine returnsInHanded_of_change (C := Try.checked) Try.own started (by kernel_rfl) Try.func9
    (ChangeSpec.witness6 (enc := enc) (C := Try.checked) false ⟨#[], #[.int .i64 0, .slice none 0 0, .agg #[.int .i64 0, .int .i64 0, .int .i64 0, .int .i64 0, .int .i64 0, .int .i64 0]], []⟩ 8 (by kernel_rfl) (by kernel_rfl) (by kernel_rfl) (by kernel_rfl)) ?_
  intro W base args ds gs before hval0 hW _ _
  have hval : ∀ (j : Nat) t v, Try.f9.params[j]? = some t → args[j]? = some v → Value.okWide Try.prog W .any base t v := hval0
  have hW' := hW
  obtain ⟨p, q, hA0, hV, rfl, _, _⟩ := hW
  have hA : DataW.TrodAll enc Try.prog W 0 (fun _ => true) true Try.f9.params.toList args.toList ds p := hA0
  rw [Try.params9] at hA hval
  obtain ⟨v0, v1, v2, d0, d1, d2, p0, p1, p2, rfl, rfl, rfl, h0, h1, h2⟩ := trodAll_three hA
  obtain ⟨rfl, rfl⟩ := trodVars_none hV
  obtain ⟨size, rfl, rfl, rfl, wa⟩ := open_int Try.underlying3 (hval 0 3 v0 rfl rfl) h0
  obtain ⟨A, len, c, rfl⟩ := okWide_slice Try.underlying38 (hval 1 38 v1 rfl rfl)
  obtain ⟨x, rfl, hxk⟩ := open_query_k (hval 2 51 v2 rfl rfl) h2
  clear hA0 hval0
  have hlt1 : ∀ x ∈ p1, x.block < W.heap.size := fun x hx => hW'.lt x (by simp [hx])
  have hlt2 : ∀ x ∈ p2, x.block < W.heap.size := fun x hx => hW'.lt x (by simp [hx])
  obtain ⟨L, rfl, hR, hlc, hn⟩ := open_acts h1
  simp only [List.append_nil, List.nil_append, List.append_assoc] at hW'
  refine (spanLooks_any W size A L c x hR hlc hxk).mono fun e W' ⟨he, hb⟩ => ?_
  subst he
  have hT := trodAll_mk3 (enc := enc) (base := 0) (spare := fun b => decide (b < W.heap.size)) (held := true) (shut_int Try.underlying3 wa) (Below.trod Try.laidOut (by kernel_rfl) (of_decide_eq_true (by kernel_rfl)) h1 hb hlt1) (Below.trod Try.laidOut (by kernel_rfl) (of_decide_eq_true (by kernel_rfl)) h2 hb hlt2)
  simp only [List.append_nil, List.nil_append, List.append_assoc] at hT
  exact ⟨_, rfl, _, _, _, [], _, [], hW', trodAll_mk1 (shut_bool Try.underlying4 true), hT, rfl, hb.frame _, fun h => by cases h⟩

theorem spanLooks_holds : Rows.SpanLooksSaid :=
  OpenClaim.holds_of_wide 9 Try.f9 rfl rfl rfl rfl rfl rfl rfl ⟨rfl, rfl, rfl, rfl, rfl⟩ rfl rfl rfl rfl rfl (by kernel_rfl) Try.func9 (by kernel_rfl)
    (of_decide_eq_true (by kernel_rfl)) (by unfold Func.isWrapper; rw [if_neg (by decide +kernel)]; exact ⟨rfl, rfl⟩)
    (fun os started H enc _ => spanLooks_lifted os started H enc)
#print axioms spanLooks_holds
end Go.Proofs.Ytfmplibjhohpgaa
