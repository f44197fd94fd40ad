/- SpanApplies answers true, whatever the size, the updates and the changes; the arguments read as they did. No condition. -/
import Derived.Test.YtfmplibjhohpgaaRows
import Derived.Test.YtfmplibjhohpgaaSpOpenA
import Derived.Test.YtfmplibjhohpgaaSpApplies
import Derived.Carry
namespace Go.Proofs.Ytfmplibjhohpgaa
open Go.ChangeShapes Go.WideShapes Go.ChangeAt Go.RowKit Go.Deep

theorem Try.cellsCh : Try.prog.cellsOf 74 = 4 := by kernel_rfl
instance : Inhabited Ch := ⟨⟨0, 0, 0, 0⟩⟩
set_option maxRecDepth 20000 in
/-- One change, read. -/
theorem read_ch {H : Type} {enc : TypeId × Value → H} {w : World} {base : Nat} {spare : Nat → Bool} {held : Bool} {n : Nat} {cs : List Value} {x : DataW H × List MemPlace} {a : Addr}
    (hc : w.cells? base a 4 = some cs) (h : DataW.trod enc Try.prog w base spare held n 74 cs = some x) : ∃ r : Ch, ChAt w a r ∧ a.block < w.heap.size := by
  obtain ⟨_, hl, hat⟩ := World.cells?_some hc
  obtain ⟨xs, k, rfl, hx, _, hxl, hf⟩ := DataW.trod_struct Try.underlying74 h
  replace hxl : xs.length = 4 := hxl
  match xs, hxl, cs, hl with
  | [y0, y1, y2, y3], _, [v0, v1, v2, v3], _ =>
    have g0 : DataW.trod enc Try.prog w base spare held k 3 [v0] = some y0 := by have g := hf 0 _ rfl; simpa [Try.cellsInt] using g
    have g1 : DataW.trod enc Try.prog w base spare held k 3 [v1] = some y1 := by have g := hf 1 _ rfl; simpa [Try.cellsInt] using g
    have g2 : DataW.trod enc Try.prog w base spare held k 3 [v2] = some y2 := by have g := hf 2 _ rfl; simpa [Try.cellsInt] using g
    have g3 : DataW.trod enc Try.prog w base spare held k 3 [v3] = some y3 := by have g := hf 3 _ rfl; simpa [Try.cellsInt] using g
    obtain ⟨z0, e0, _⟩ := DataW.trod_int Try.underlying3 g0
    obtain ⟨z1, e1, _⟩ := DataW.trod_int Try.underlying3 g1
    obtain ⟨z2, e2, _⟩ := DataW.trod_int Try.underlying3 g2
    obtain ⟨z3, e3, _⟩ := DataW.trod_int Try.underlying3 g3
    simp only [List.cons.injEq, and_true] at e0 e1 e2 e3
    subst e0 e1 e2 e3
    have c0 := hat 0 (by omega)
    have c1 := hat 1 (by omega)
    have c2 := hat 2 (by omega)
    have c3 := hat 3 (by omega)
    have a0 : a.add 0 = a := by unfold Addr.add; rw [if_pos rfl]
    have aj : ∀ j, j ≠ 0 → a.add j = ⟨a.block, a.off + j, none⟩ := fun j hj => by unfold Addr.add; rw [if_neg hj]
    rw [a0] at c0
    rw [aj 1 (by decide)] at c1
    rw [aj 2 (by decide)] at c2
    rw [aj 3 (by decide)] at c3
    have c0' : w.cell? a = some (.int .i64 z0) := by simpa using c0
    refine ⟨⟨z0, z1, z2, z3⟩, ⟨c0', by simpa using c1, by simpa using c2, by simpa using c3⟩, ?_⟩
    exact block_lt_of_cell c0'
/-- A slice of changes, read. -/
theorem open_chs {H : Type} {enc : TypeId × Value → H} {w : World} {held : Bool} {A : Option Addr} {len c : Nat} {d : DataW H} {p : List MemPlace}
    (h : DataW.Trod enc Try.prog w 0 (fun _ => true) held 68 (.slice A len c) d p) : ∃ L : List Ch, L.length = len ∧ Chs w A L ∧ L.length ≤ c ∧ (A = none → c = 0 ∧ L = []) := by
  obtain ⟨fuel, hf⟩ := h
  rcases open_slice Try.underlying68 hf with ⟨hcs, _⟩ | ⟨a, len', cap', m, n, D, Pl, hcs, hb, hl, hm, hmm, hx, hi⟩
  · simp [Value.cells] at hcs
    obtain ⟨rfl, rfl, rfl⟩ := hcs
    exact ⟨[], rfl, .inl rfl, Nat.le_refl _, fun _ => ⟨rfl, rfl⟩⟩
  · simp [Value.cells] at hcs
    obtain ⟨rfl, rfl, rfl⟩ := hcs
    simp only [if_true] at hmm
    subst hmm
    have each : ∀ i, i < len → ∃ r : Ch, ChAt w (a.add (i * 4)) r ∧ (a.add (i * 4)).block < w.heap.size := fun i h' => by
      obtain ⟨cs', h1, h2⟩ := hi i (by omega)
      rw [Try.cellsCh] at h1
      exact read_ch h1 h2
    obtain ⟨q, hq⟩ := choose_lt each
    refine ⟨(List.range len).map q, by simp, ?_, by simpa using hl, fun e => by cases e⟩
    by_cases h0 : len = 0
    · subst h0; exact .inl rfl
    · refine .inr ⟨a, rfl, ?_, fun i h' => ?_⟩
      · have := (hq 0 (by omega)).2
        rwa [add_block] at this
      · rw [List.length_map, List.length_range] at h'
        rw [List.getElem_map, List.getElem_range]
        exact (hq i h').1
set_option maxRecDepth 100000 in
theorem spanApplies_lifted (os : Os) (started : os.Started) (H : Type) (enc : TypeId × Value → H) :
    ReturnsInHanded {} Try.checked os 12 .any (Rows.spanAppliesSpec.pre6 enc Try.prog Try.f12 Rows.spanAppliesRow.domain false) (Rows.spanAppliesSpec.post enc Try.prog Try.f12 false true false false) := by
  refine returnsInHanded_of_change (C := Try.checked) Try.own started (by kernel_rfl) Try.func12
    (ChangeSpec.witness6 (enc := enc) (C := Try.checked) false ⟨#[], #[.int .i64 0, .slice none 0 0, .slice none 0 0], []⟩ 8 (by kernel_rfl) (by kernel_rfl) (by kernel_rfl) (by kernel_rfl)) ?_
  intro W base args ds gs before hval0 hW _ _
  have hval : ∀ (j : Nat) t v, Try.f12.params[j]? = some t → args[j]? = some v → Value.okWide Try.prog W .any base t v := hval0
  have hW' := hW
  obtain ⟨p, q, hA0, hV, rfl, _, _⟩ := hW
  have hA : DataW.TrodAll enc Try.prog W 0 (fun _ => true) true Try.f12.params.toList args.toList ds p := hA0
  rw [Try.params12] at hA hval
  obtain ⟨v0, v1, v2, d0, d1, d2, p0, p1, p2, rfl, rfl, rfl, h0, h1, h2⟩ := trodAll_three hA
  obtain ⟨rfl, rfl⟩ := trodVars_none hV
  obtain ⟨size, rfl, rfl, rfl, wa⟩ := open_int Try.underlying3 (hval 0 3 v0 rfl rfl) h0
  obtain ⟨A, len, c, rfl⟩ := okWide_slice Try.underlying38 (hval 1 38 v1 rfl rfl)
  obtain ⟨B, len2, d, rfl⟩ := okWide_slice Try.underlying68 (hval 2 68 v2 rfl rfl)
  clear hA0 hval0
  have hlt1 : ∀ x ∈ p1, x.block < W.heap.size := fun x hx => hW'.lt x (by simp [hx])
  have hlt2 : ∀ x ∈ p2, x.block < W.heap.size := fun x hx => hW'.lt x (by simp [hx])
  obtain ⟨L, rfl, hR, hlc, hn⟩ := open_acts h1
  obtain ⟨K, rfl, hK, hkd, hk0⟩ := open_chs h2
  simp only [List.append_nil, List.nil_append, List.append_assoc] at hW'
  refine (spanApplies_any W size A L c B K d hR hlc hK hkd hk0).mono fun e W' ⟨he, hb⟩ => ?_
  subst he
  have hT := trodAll_mk3 (enc := enc) (base := 0) (spare := fun b => decide (b < W.heap.size)) (held := true) (shut_int Try.underlying3 wa) (Below.trod Try.laidOut (by kernel_rfl) (of_decide_eq_true (by kernel_rfl)) h1 hb hlt1) (Below.trod Try.laidOut (by kernel_rfl) (of_decide_eq_true (by kernel_rfl)) h2 hb hlt2)
  simp only [List.append_nil, List.nil_append, List.append_assoc] at hT
  exact ⟨_, rfl, _, _, _, [], _, [], hW', trodAll_mk1 (shut_bool Try.underlying4 true), hT, rfl, hb.frame _, fun h => by cases h⟩

theorem spanApplies_holds : Rows.SpanAppliesSaid :=
  OpenClaim.holds_of_wide 12 Try.f12 rfl rfl rfl rfl rfl rfl rfl ⟨rfl, rfl, rfl, rfl, rfl⟩ rfl rfl rfl rfl rfl (by kernel_rfl) Try.func12 (by kernel_rfl)
    (of_decide_eq_true (by kernel_rfl)) (by unfold Func.isWrapper; rw [if_neg (by decide +kernel)]; exact ⟨rfl, rfl⟩)
    (fun os started H enc _ => spanApplies_lifted os started H enc)
#print axioms spanApplies_holds
end Go.Proofs.Ytfmplibjhohpgaa
