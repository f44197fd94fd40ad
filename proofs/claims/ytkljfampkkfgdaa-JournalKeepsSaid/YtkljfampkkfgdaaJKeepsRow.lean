/- JournalKeeps answers true, whatever the arguments; the arguments read as they did. No condition. -/
import Derived.Test.YtkljfampkkfgdaaRows
import Derived.Test.YtkljfampkkfgdaaJKeeps
import Derived.Test.YtkljfampkkfgdaaJOpenC
import Derived.ProofKit
import Derived.ChangeSame
namespace Go.Proofs.Ytkljfampkkfgdaa
open Go.ChangeShapes Go.WideShapes Go.ChangeAt Go.RowKit
set_option maxRecDepth 100000 in
theorem journalKeeps_lifted (os : Os) (started : os.Started) (H : Type) (enc : TypeId × Value → H) :
    ReturnsInHanded {} Try.checked os 6 .any (Rows.journalKeepsSpec.pre6 enc Try.prog Try.f6 Rows.journalKeepsRow.domain false) (Rows.journalKeepsSpec.post enc Try.prog Try.f6 false true false false) := by
  refine returnsInHanded_of_change (C := Try.checked) Try.own started (by kernel_rfl) Try.func6
    (ChangeSpec.witness6 (enc := enc) (C := Try.checked) false ⟨#[], #[.int .i64 0, .string ⟨#[]⟩, .slice none 0 0, .slice none 0 0, .int .i64 0, .slice none 0 0], []⟩ 8 (by kernel_rfl) (by kernel_rfl) (by kernel_rfl) (by kernel_rfl)) ?_
  intro W base args ds gs before hval0 hW _ _
  have hval : ∀ (j : Nat) t v, Try.f6.params[j]? = some t → args[j]? = some v → Value.okWide Try.prog W .any base t v := hval0
  have hW' := hW
  obtain ⟨p, q, hA0, hV, rfl, _, _⟩ := hW
  have hA : DataW.TrodAll enc Try.prog W 0 (fun _ => true) true Try.f6.params.toList args.toList ds p := hA0
  rw [Try.params6] at hA hval
  obtain ⟨v0, v1, v2, v3, v4, v5, d0, d1, d2, d3, d4, d5, p0, p1, p2, p3, p4, p5, rfl, rfl, rfl, h0, h1, h2, h3, h4, h5⟩ := trodAll_six hA
  obtain ⟨rfl, rfl⟩ := trodVars_none hV
  have hlt0 : ∀ x ∈ p0, x.block < W.heap.size := fun x hx => hW'.lt x (by simp [hx])
  have hlt1 : ∀ x ∈ p1, x.block < W.heap.size := fun x hx => hW'.lt x (by simp [hx])
  have hlt2 : ∀ x ∈ p2, x.block < W.heap.size := fun x hx => hW'.lt x (by simp [hx])
  have hlt3 : ∀ x ∈ p3, x.block < W.heap.size := fun x hx => hW'.lt x (by simp [hx])
  have hlt4 : ∀ x ∈ p4, x.block < W.heap.size := fun x hx => hW'.lt x (by simp [hx])
  have hlt5 : ∀ x ∈ p5, x.block < W.heap.size := fun x hx => hW'.lt x (by simp [hx])
  obtain ⟨z0, rfl, -, -, r0'⟩ := open_int Try.underlying3 (hval 0 3 v0 rfl rfl) h0
  have r0 : IntKind.i64.min ≤ z0 ∧ z0 ≤ IntKind.i64.max := by simpa [Lit.wf] using r0'
  obtain ⟨s1, rfl⟩ := open_text (hval 1 9 v1 rfl rfl) h1
  obtain ⟨A2, l2, c2, rfl, S2, q2, m2⟩ := open_strs (hval 2 22 v2 rfl rfl) h2
  obtain ⟨A3, c3, l3, rfl, S3, q3⟩ := open_bools (hval 3 58 v3 rfl rfl) h3
  obtain ⟨z4, rfl, -, -, r4'⟩ := open_int Try.underlying3 (hval 4 3 v4 rfl rfl) h4
  have r4 : IntKind.i64.min ≤ z4 ∧ z4 ≤ IntKind.i64.max := by simpa [Lit.wf] using r4'
  obtain ⟨A5, c5, l5, rfl, S5, q5, m5⟩ := open_introw (hval 5 51 v5 rfl rfl) h5
  clear hA0 hval0
  try simp only [List.append_nil] at hW'
  refine (keeps_any W z0 r0 s1 A2 l2 c2 S2 q2 m2 A3 c3 l3 S3 q3 z4 r4 A5 c5 l5 S5 q5 m5).mono fun e W' ⟨he, hb⟩ => ?_
  subst he
  have hT := trodAll_mk6 (enc := enc) (base := 0) (spare := fun b => decide (b < W.heap.size)) (held := true) (Below.trod Try.laidOut (by kernel_rfl) (of_decide_eq_true (by kernel_rfl)) h0 hb hlt0) (Below.trod Try.laidOut (by kernel_rfl) (of_decide_eq_true (by kernel_rfl)) h1 hb hlt1) (Below.trod Try.laidOut (by kernel_rfl) (of_decide_eq_true (by kernel_rfl)) h2 hb hlt2) (Below.trod Try.laidOut (by kernel_rfl) (of_decide_eq_true (by kernel_rfl)) h3 hb hlt3) (Below.trod Try.laidOut (by kernel_rfl) (of_decide_eq_true (by kernel_rfl)) h4 hb hlt4) (Below.trod Try.laidOut (by kernel_rfl) (of_decide_eq_true (by kernel_rfl)) h5 hb hlt5)
  try simp only [List.append_nil, List.nil_append, List.append_assoc] at hT
  exact ⟨_, rfl, _, _, _, [], _, [], hW', trodAll_mk1 (shut_bool Try.underlying4 true), hT, rfl, hb.frame _, fun h => by cases h⟩
theorem journalKeeps_holds : Rows.JournalKeepsSaid :=
  OpenClaim.holds_of_wide 6 Try.f6 rfl rfl rfl rfl rfl rfl rfl ⟨rfl, rfl, rfl, rfl, rfl⟩ rfl rfl rfl rfl rfl (by kernel_rfl) Try.func6 (by kernel_rfl)
    (of_decide_eq_true (by kernel_rfl)) (by unfold Func.isWrapper; rw [if_neg (by decide +kernel)]; exact ⟨rfl, rfl⟩)
    (fun os started H enc _ => journalKeeps_lifted os started H enc)
#print axioms journalKeeps_holds
end Go.Proofs.Ytkljfampkkfgdaa
