/- Stores into boxes that a drawn region makes; maps beside them; runs that are appended to an empty row. -/
import Derived.Test.YtcocengpekndjaaDoorPrOf
import Derived.Test.YtcocengpekndjaaDoorPrJoint
namespace Go.Proofs.YtcocengpekndjaaDoor
open Go.RowKit
theorem IsTree.row {W : World} {g : Nat} (ho : Other W g) (cs : Array Value) {n : Nat} : ∀ {p : Option Addr} {T : Tr}, IsTree n W p T → IsTree n (W.setRow g cs) p T
  | _, .nil, ht => ht
  | _, .node _ _ _ _, ⟨b', pl, pr, hp, hb, hn, hl, hr⟩ => by
    refine ⟨b', pl, pr, hp, hb, ?_, IsTree.row ho cs hl, IsTree.row ho cs hr⟩
    have hne : b' ≠ g := by
      rintro rfl
      obtain ⟨cs, t, fr, h1, h2⟩ := ho
      unfold IsNode Made at hn
      rw [hn] at h1
      injection h1 with h1
      injection h1 with _ h3
      exact h2 h3.symm
    exact (setRow_other W g b' cs hne).trans hn
theorem Rep.row {W : World} {g : Nat} (ho : Other W g) (cs : Array Value) {p : Option Addr} {L : List (Int × Int)} (h : Rep W p L) : Rep (W.setRow g cs) p L := by
  obtain ⟨T, h1, h2⟩ := h
  refine ⟨T, IsTree.mono (by simp) (IsTree.row ho cs h1), h2⟩
theorem OwnRuns.rowOff {W : World} {base g : Nat} {v : Value} {L : List Rn} (h : OwnRuns W base v L) (hg : v.ownBlock ≠ some g) (cs : Array Value) : OwnRuns (W.setRow g cs) base v L := by
  obtain ⟨h1, h2⟩ := h
  refine ⟨h1, ?_⟩
  rcases h2 with h2 | ⟨q, cap, cur, e, hq, hh, r⟩
  · exact .inl h2
  · refine .inr ⟨q, cap, cur, e, hq, (setRow_other W g q cs (fun c => hg (by rw [e, c]; rfl))).trans hh, r⟩
theorem OwnRuns.emptyR (w : World) : OwnRuns (w.alloc (.cells #[] 34)) w.heap.size (.slice (some ⟨w.heap.size, 0, none⟩) 0 0) [] := OwnRuns.empty w
theorem exec_append_freshR {ev : Operand → Value} {o : Oper} (s x : Operand) (ho : o.op = .call { callee := .builtin .append, args := #[s, x], argTypes := #[41, 41] }) (base g : Nat) (W : World) (A : Option Addr) (n c : Nat) (R : List Rn)
    (hs : ev s = .slice (some ⟨g, 0, none⟩) 0 0) (hx : ev x = .slice A n c) (hn : R.length = n) (hO : OwnRuns W base (.slice (some ⟨g, 0, none⟩) 0 0) []) (hR : Runs W A R) (hA : A = none → c = 0) (hV : n ≤ 100000) (hb : base ≤ W.heap.size) :
    ∃ v' W', (execOp ev o).run Tryd.prog W = .ok (.value v') W' ∧ Below W.heap.size W W' ∧ OwnRuns W' base v' R := by
  obtain ⟨i0, hi0, hz0, hz1, hz2⟩ := info_parts infoRun
  have fin : ∀ v' W', (Builtin.append_ #[41, 41] o.type #[.slice (some ⟨g, 0, none⟩) 0 0, .slice A n c]).run Tryd.prog W = .ok v' W' → (execOp ev o).run Tryd.prog W = .ok (.value v') W' := fun v' W' hr => by
    unfold execOp
    simp only [ho, resolve, invoke, builtin, Sem.run_bind, Sem.run_pure, Result.andThen_ok, List.map_toArray, List.map_cons, List.map_nil, hs, hx, hr]
  cases A with
  | none =>
    obtain rfl := hA rfl
    have : R = [] := by
      rcases hR with h | ⟨_, h, _⟩
      · exact h
      · cases h
    subst this
    simp only [List.length_nil] at hn
    subst hn
    exact ⟨_, W, fin _ _ (run_append_owned_none (P := Tryd.prog) (w := W) base 41 o.type 34 i0 3 (by kernel_rfl) hi0 _ 0 [] hO), Below.refl _ _, hO⟩
  | some a =>
    have hcell := cells_of_runs hR
    have hl := cellsR_length R
    rw [hn] at hl
    by_cases h0 : n = 0
    · subst h0
      obtain rfl := List.eq_nil_of_length_eq_zero hn
      have hr := run_append_room_cells (P := Tryd.prog) W 41 o.type 34 i0 (by kernel_rfl) hi0 g 0 0 0 a 0 c [] (by simp) (by simp) (by simp) (Nat.le_refl _) (by simp) (by simp)
      exact ⟨_, _, fin _ _ hr, Below.refl _ _, hO⟩
    · obtain ⟨v', w', hr, r1, r2⟩ := run_append_arg_grows (P := Tryd.prog) W 41 o.type 34 i0 (.agg #[.int .i64 0, .int .i64 0, .int .i64 0]) 3 24 (by kernel_rfl) hi0 hz0 hz1 hz2 rfl (by decide) ⟨g, 0, none⟩ 0 0 [] (by simp) (by simp) a n c (cellsR R) hl hcell (by omega) (by unfold maxLen; omega) (by omega)
      rw [Nat.zero_add, List.nil_append] at r1
      have hO' : OwnRuns w' W.heap.size v' R := by unfold OwnRuns; rw [hn]; exact r1
      exact ⟨v', w', fin _ _ hr, ⟨r2.os, r2.tape, r2.output, r2.size, fun i hi => r2.block i hi (by simp)⟩, hO'.mono hb⟩
section
variable {Q : Exit → Act → World → Prop} {T : List Tmp} {a0 : Act} {G : (Nat → Prop) → World → Prop} {l : List Cl}
/-- A store of a row into a box that the region has made. -/
theorem stepRow {ops : Array Oper} {k : Nat} {o : Oper} {c : Cl} (t : Tmp) (y : Operand) (ty : TypeId) (ho : o.op = .store ty (.tmp t) y) (hg : o.guard = none) (hd : o.dst = none) (hc : l.filter (fun c => c.op == some k) = [c]) (hct : c.slot = t) (n0 : Nat)
    (St : ∀ c' ∈ l, c'.op = some k ∨ c'.used = some k ∨ (∀ u W g cs old, n0 ≤ g → W.heap[g]? = some (.cells old ty (0, 0)) → c'.p u W → c'.p u (W.setRow g cs)) ∨ (∀ d, Closed ops d → (∀ j, waits o j = true → d j) → gone d c'.used))
    (SG : ∀ d d' W g cs, n0 ≤ g → G d W → (∀ j, d j → d' j) → G d' (W.setRow g cs))
    (run : ∀ d a W, Fr T a0 a → G d W → Held d a W l → ¬ d k → Closed ops d → (∀ j, waits o j = true → d j) → ∃ g cs old, a.eval (.tmp t) = .pointer (some ⟨g, 0, none⟩) ∧ n0 ≤ g ∧ a.eval y = .agg cs ∧ W.heap[g]? = some (.cells old ty (0, 0)) ∧ (Tryd.prog.info? ty).map (·.size) = some cs.size ∧ old.size = cs.size ∧ cs.all (·.oneCell') = true ∧ c.p (.pointer (some ⟨g, 0, none⟩)) (W.setRow g cs)) :
    StepOk Tryd.prog Q ops (Inv T a0 G l) k o := by
  refine ⟨hg, fun d d' a W ⟨hF, hG, hH⟩ hn hcl hw hk hu hself => ?_⟩
  obtain ⟨g, cs, old, hx, hn0, hy, hold, hi, hz, h1, hp⟩ := run d a W hF hG hH hn hcl hw
  refine wp_store_row ty (.tmp t) y ho g cs hx hy ty old hold hi hz h1 ?_
  rw [hd]
  show Inv T a0 G l d' a _
  refine ⟨hF, SG _ _ _ g cs hn0 hG hu, hH.store hc hk hu (fun c' hc' hne h1 h2 u q => ?_) (by rw [hct, hx]; exact hp)⟩
  rcases St c' hc' with e | e | e | e
  · exact (hne e).elim
  · exact (h2 (by rw [e]; exact hself)).elim
  · exact e u W g cs old hn0 hold q
  · exact (h2 (gone_mono hu (e d hcl hw))).elim
end
end Go.Proofs.YtcocengpekndjaaDoor
