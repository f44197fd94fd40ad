/- JournalClones answers true, whatever the number of blocks and the strings; the arguments read as they did. No condition. -/
import Derived.Test.YtkljfampkkfgdaaRows
import Derived.Test.YtkljfampkkfgdaaJClones
import Derived.Test.YtkljfampkkfgdaaJOpenB
import Derived.ProofKit
import Derived.ChangeSame
namespace Go.Proofs.Ytkljfampkkfgdaa
open Go.ChangeShapes Go.WideShapes Go.ChangeAt Go.RowKit
set_option maxRecDepth 100000 in
theorem journalClones_lifted (os : Os) (started : os.Started) (H : Type) (enc : TypeId × Value → H) :
    ReturnsInHanded {} Try.checked os 4 .any (Rows.journalClonesSpec.pre6 enc Try.prog Try.f4 Rows.journalClonesRow.domain false) (Rows.journalClonesSpec.post enc Try.prog Try.f4 false true false false) := by
  refine returnsInHanded_of_change (C := Try.checked) Try.own started (by kernel_rfl) Try.func4
    (ChangeSpec.witness6 (enc := enc) (C := Try.checked) false ⟨#[], #[.int .i64 0, .slice none 0 0, .string ⟨#[]⟩], []⟩ 8 (by kernel_rfl) (by kernel_rfl) (by kernel_rfl) (by kernel_rfl)) ?_
  intro W base args ds gs before hval0 hW _ _
  have hval : ∀ (j : Nat) t v, Try.f4.params[j]? = some t → args[j]? = some v → Value.okWide Try.prog W .any base t v := hval0
  have hW' := hW
  obtain ⟨p, q, hA0, hV, rfl, _, _⟩ := hW
  have hA : DataW.TrodAll enc Try.prog W 0 (fun _ => true) true Try.f4.params.toList args.toList ds p := hA0
  rw [Try.params4] at hA hval
  obtain ⟨v0, v1, v2, d0, d1, d2, p0, p1, p2, rfl, rfl, rfl, h0, h1, h2⟩ := trodAll_three hA
  obtain ⟨rfl, rfl⟩ := trodVars_none hV
  have hlt0 : ∀ x ∈ p0, x.block < W.heap.size := fun x hx => hW'.lt x (by simp [hx])
  have hlt1 : ∀ x ∈ p1, x.block < W.heap.size := fun x hx => hW'.lt x (by simp [hx])
  have hlt2 : ∀ x ∈ p2, x.block < W.heap.size := fun x hx => hW'.lt x (by simp [hx])
  obtain ⟨z0, rfl, -, -, r0'⟩ := open_int Try.underlying3 (hval 0 3 v0 rfl rfl) h0
  have r0 : IntKind.i64.min ≤ z0 ∧ z0 ≤ IntKind.i64.max := by simpa [Lit.wf] using r0'
  obtain ⟨A1, l1, c1, rfl, S1, q1, m1⟩ := open_strs (hval 1 22 v1 rfl rfl) h1
  obtain ⟨s2, rfl⟩ := open_text (hval 2 9 v2 rfl rfl) h2
  clear hA0 hval0
  try simp only [List.append_nil, List.append_assoc] at hW'
  refine (clones_any W z0 r0 A1 l1 c1 S1 q1 m1 s2).mono fun e W' ⟨he, hb⟩ => ?_
  subst he
  have hT := trodAll_mk3 (enc := enc) (base := 0) (spare := fun b => decide (b < W.heap.size)) (held := true) (Below.trod Try.laidOut (by kernel_rfl) (of_decide_eq_true (by kernel_rfl)) h0 hb hlt0) (Below.trod Try.laidOut (by kernel_rfl) (of_decide_eq_true (by kernel_rfl)) h1 hb hlt1) (Below.trod Try.laidOut (by kernel_rfl) (of_decide_eq_true (by kernel_rfl)) h2 hb hlt2)
  try simp only [List.append_nil, List.nil_append, List.append_assoc] at hT
  exact ⟨_, rfl, _, _, _, [], _, [], hW', trodAll_mk1 (shut_bool Try.underlying4 true), hT, rfl, hb.frame _, fun h => by cases h⟩
theorem journalClones_holds : Rows.JournalClonesSaid :=
  OpenClaim.holds_of_wide 4 Try.f4 rfl rfl rfl rfl rfl rfl rfl ⟨rfl, rfl, rfl, rfl, rfl⟩ rfl rfl rfl rfl rfl (by kernel_rfl) Try.func4 (by kernel_rfl)
    (of_decide_eq_true (by kernel_rfl)) (by unfold Func.isWrapper; rw [if_neg (by decide +kernel)]; exact ⟨rfl, rfl⟩)
    (fun os started H enc _ => journalClones_lifted os started H enc)
#print axioms journalClones_holds
end Go.Proofs.Ytkljfampkkfgdaa
