/- Strings in memory; one box for a result; the plain mirror of Fold. -/
import Derived.Test.YtcocengpekndjaaDoorPrStep
namespace Go.Proofs.YtcocengpekndjaaDoor
open Go.RowKit
/-- The strings l lie at A. -/
def Strs (w : World) (A : Option Addr) (l : List Bs) : Prop := l = [] ∨ ∃ a, A = some a ∧ ∀ i u, (l.map (fun s : Bs => Value.string ⟨s.toArray⟩))[i]? = some u → w.cell? (a.add i) = some u
theorem Strs.next {w w' : World} {A : Option Addr} {l : List Bs} (h : Strs w A l) (hB : Below w.heap.size w w') : Strs w' A l := by
  rcases h with h | ⟨a, e, h⟩
  · exact .inl h
  · exact .inr ⟨a, e, fun i u hu => cell_kept hB (h i u hu)⟩
theorem Strs.cell {w : World} {a : Addr} {l : List Bs} (h : Strs w (some a) l) {i : Nat} (hi : i < l.length) : w.cell? (a.add i) = some (.string ⟨l[i].toArray⟩) := by
  rcases h with h | ⟨a', e, h⟩
  · rw [h] at hi; simp at hi
  · cases e
    exact h i _ (by rw [List.getElem?_map, List.getElem?_eq_getElem hi]; rfl)
theorem elemS : Tryd.prog.underlying 57 = some (.slice (Tryd.prog.elem 57)) := by kernel_rfl
theorem sizeS (W : World) : (sizeOf (Tryd.prog.elem 57)).run Tryd.prog W = .ok 1 W := by kernel_rfl
theorem exec_indexS {ev : Operand → Value} {o : Oper} {W : World} {x y : Operand} {a : Addr} {n c i : Nat} (ho : o.op = .indexAddr 57 x y) (hx : ev x = .slice (some a) n c) (hy : ev y = .int .i64 (i : Int)) (hi : i < n) :
    (execOp ev o).run Tryd.prog W = .ok (.value (.pointer (some (a.add i)))) W := by
  have h := run_indexAt_slice (P := Tryd.prog) W 57 a n c .i64 (i : Int) elemS
  rw [if_pos (by omega), sizeS, Int.toNat_natCast] at h
  simp [execOp, ho, hx, hy, h]
theorem exec_sliceH {ev : Operand → Value} {o : Oper} {W : World} {x y : Operand} {A : Option Addr} {n c k : Nat} (ho : o.op = .slice 35 x (some y) none none) (hx : ev x = .slice A n c) (hy : ev y = .int .i64 (k : Int)) (hk : k ≤ n) :
    (execOp ev o).run Tryd.prog W = .ok (.value (.slice (cutA A c k) (n - k) (c - k))) W := by
  have h := hs_from A n c k hk W
  rw [← run_sliceAt_slice W _ _ _ _ _ elemH] at h
  simp [execOp, ho, hx, hy, h]
/-- One box for a result, and nothing else changed. -/
def G1 (w0 : World) (p : Nat) (_ : Nat → Prop) (W : World) : Prop := But p w0 W ∧ ∃ m, BoxA W p 30 .u8 m ∧ m.length = 32
theorem G1.next {w0 : World} {p : Nat} {d d' : Nat → Prop} {W W' : World} (h : G1 w0 p d W) (b : Below W.heap.size W W') : G1 w0 p d' W' := by
  obtain ⟨h, ⟨m, hm, e⟩⟩ := h
  exact ⟨h.trans (But.of b), ⟨m, hm.next b, e⟩⟩
theorem G1.row {w0 : World} {p : Nat} {d d' : Nat → Prop} {W : World} (h : G1 w0 p d W) (x : Bs) (hx : x.length = 32) : G1 w0 p d' (W.setRow p (ints .u8 (nums x))) := by
  obtain ⟨h, ⟨m, hm, e⟩⟩ := h
  exact ⟨h.trans (But.row W p _), ⟨nums x, hm.setRow, by rw [nums_length, hx]⟩⟩
theorem But.low {p n : Nat} {w w1 : World} (h : But p w w1) (hn : n ≤ w.heap.size) (hp : n ≤ p) : Below n w w1 := ⟨h.1, h.2.1, h.2.2.1, h.2.2.2.1, fun i hi => h.2.2.2.2 i (by omega) (by omega)⟩
section
variable {Q : Exit → Act → World → Prop} {T : List Tmp} {a0 : Act} {G : (Nat → Prop) → World → Prop} {l : List Cl}
/-- A store of a hash into a box that the region has made. -/
theorem stepN {ops : Array Oper} {k : Nat} {o : Oper} {c : Cl} (t : Tmp) (y : Operand) (ho : o.op = .store 30 (.tmp t) y) (hg : o.guard = none) (hd : o.dst = none) (hc : l.filter (fun c => c.op == some k) = [c]) (hct : c.slot = t) (h : Bs) (hh : h.length = 32) (n0 : Nat)
    (hp : ∀ g W, n0 ≤ g → BoxH W g h → c.p (.pointer (some ⟨g, 0, none⟩)) W) (St : ∀ c' ∈ l, c'.op = some k ∨ c'.used = some k ∨ ∀ u W g cs, c'.p u W → c'.p u (W.setRow g cs))
    (SG : ∀ d d' W g, n0 ≤ g → G d W → (∀ j, d j → d' j) → G d' (W.setRow g (ints .u8 (nums h))))
    (run : ∀ d a W, Fr T a0 a → G d W → Held d a W l → ¬ d k → Closed ops d → (∀ j, waits o j = true → d j) → a.eval y = hashV h ∧ ∃ g, a.eval (.tmp t) = .pointer (some ⟨g, 0, none⟩) ∧ n0 ≤ g ∧ ∃ m, BoxA W g 30 .u8 m ∧ m.length = 32) :
    StepOk Tryd.prog Q ops (Inv T a0 G l) k o := by
  refine ⟨hg, fun d d' a W ⟨hF, hG, hH⟩ hn hcl hw hk hu hself => ?_⟩
  obtain ⟨hy, g, hx, hn0, m, hm, hml⟩ := run d a W hF hG hH hn hcl hw
  refine wp_storeH (.tmp t) y ho g h hx hy hm hml hh ?_
  rw [hd]
  show Inv T a0 G l d' a _
  refine ⟨hF, SG _ _ _ g hn0 hG hu, hH.store hc hk hu (fun c' hc' hne h1 h2 u q => ?_) (by rw [hct, hx]; exact hp g _ hn0 (BoxA.setRow hm))⟩
  rcases St c' hc' with e | e | e
  · exact (hne e).elim
  · exact (h2 (by rw [e]; exact hself)).elim
  · exact e u W g _ q
end
theorem results_h3 {fn : Func} {p r s : Tmp} (hf : fn.results = #[.cell p 30, .tmp r, .tmp s]) (tmps : Array Value) (w : World) (g : Nat) (h : Bs) (v v' : Value) (hp : tmps.getD p undef = .pointer (some ⟨g, 0, none⟩)) (hr : tmps.getD r undef = v) (hs : tmps.getD s undef = v')
    (hg : BoxH w g h) (hh : h.length = 32) : (results fn tmps).run Tryd.prog w = .ok (.tuple #[hashV h, v, v']) w := by
  rw [hashV_eq]
  have hp' : tmps[p]?.getD undef = .pointer (some ⟨g, 0, none⟩) := by simpa using hp
  have hr' : tmps[r]?.getD undef = v := by simpa using hr
  have hs' : tmps[s]?.getD undef = v' := by simpa using hs
  have l1 := run_loadVar_row w g 30 30 (ints .u8 (nums h)) (0, 0) (.array 32 5) hg (by kernel_rfl) rfl (by rw [ints_size, nums_length, hh]; exact szHash)
  simp [results, hf, hp', hr', hs', asAddr, l1]
/-- What the reference's Fold returns. -/
def foldR (n : Nat) (i : Int) (inside : List Bs) (path : List Bs) : Bs × Nat × Bool :=
  if _h : i + inside.length ≤ 0 ∨ (n : Int) ≤ i ∨ inside = [] ∨ n = 0 then (match path with | [] => (zeroH, 0, false) | x :: _ => (x, 1, true))
  else if _h2 : n = 1 then (leafM sha ((inside[(-i).toNat]?).getD []), 0, true) else
    if (foldR (half n) i inside path).2.2 = false then (zeroH, 0, false)
    else (joinM sha (foldR (half n) i inside path).1 (foldR (n - half n) (i - (half n : Nat)) inside (path.drop (foldR (half n) i inside path).2.1)).1, (foldR (half n) i inside path).2.1 + (foldR (n - half n) (i - (half n : Nat)) inside (path.drop (foldR (half n) i inside path).2.1)).2.1, (foldR (n - half n) (i - (half n : Nat)) inside (path.drop (foldR (half n) i inside path).2.1)).2.2)
termination_by n
decreasing_by
  all_goals (have := half_range (n := n) (by omega); omega)
theorem foldR_out {n : Nat} {i : Int} {inside path : List Bs} (h : i + inside.length ≤ 0 ∨ (n : Int) ≤ i ∨ inside = [] ∨ n = 0) : foldR n i inside path = (match path with | [] => (zeroH, 0, false) | x :: _ => (x, 1, true)) := by rw [foldR.eq_def, dif_pos h]
theorem foldR_one {i : Int} {inside path : List Bs} (h : ¬ (i + inside.length ≤ 0 ∨ ((1 : Nat) : Int) ≤ i ∨ inside = [] ∨ (1 : Nat) = 0)) : foldR 1 i inside path = (leafM sha ((inside[(-i).toNat]?).getD []), 0, true) := by rw [foldR.eq_def, dif_neg h, dif_pos rfl]
theorem foldR_two {n : Nat} {i : Int} {inside path : List Bs} (h : ¬ (i + inside.length ≤ 0 ∨ (n : Int) ≤ i ∨ inside = [] ∨ n = 0)) (h2 : n ≠ 1) {R1 R2 : Bs × Nat × Bool} (e1 : foldR (half n) i inside path = R1) (e2 : foldR (n - half n) (i - (half n : Nat)) inside (path.drop R1.2.1) = R2) :
    foldR n i inside path = if R1.2.2 = false then (zeroH, 0, false) else (joinM sha R1.1 R2.1, R1.2.1 + R2.2.1, R2.2.2) := by
  subst e1; subst e2
  rw [foldR.eq_def, dif_neg h, dif_neg h2]
theorem foldR_32 (m : Nat) : ∀ (n : Nat) (i : Int) (inside path : List Bs), n ≤ m → H32 path → (foldR n i inside path).1.length = 32 ∧ (foldR n i inside path).2.1 ≤ path.length := by
  induction m with
  | zero =>
    intro n i inside path hn hp
    rw [foldR_out (by omega)]
    cases path with
    | nil => exact ⟨zeroH_length, Nat.zero_le _⟩
    | cons x p => exact ⟨hp x (by simp), by simp⟩
  | succ m ih =>
    intro n i inside path hn hp
    by_cases c : i + inside.length ≤ 0 ∨ (n : Int) ≤ i ∨ inside = [] ∨ n = 0
    · rw [foldR_out c]
      cases path with
      | nil => exact ⟨zeroH_length, Nat.zero_le _⟩
      | cons x p => exact ⟨hp x (by simp), by simp⟩
    · by_cases e1 : n = 1
      · subst e1
        rw [foldR_one c]
        exact ⟨sha_length _, Nat.zero_le _⟩
      · have hr := half_range (n := n) (by omega)
        rw [foldR_two c e1 rfl rfl]
        split
        · exact ⟨zeroH_length, Nat.zero_le _⟩
        · obtain ⟨a1, a2⟩ := ih (half n) i inside path (by omega) hp
          obtain ⟨b1, b2⟩ := ih (n - half n) (i - (half n : Nat)) inside (path.drop (foldR (half n) i inside path).2.1) (by omega) (hp.drop _)
          refine ⟨sha_length _, ?_⟩
          rw [List.length_drop] at b2
          show _ + _ ≤ _
          omega
theorem foldR_fold (m : Nat) : ∀ (n : Nat) (i : Int) (inside path : List Bs), n ≤ m →
    match foldM sha n i (inside.map (leafM sha)) path with
    | some (h, u) => foldR n i inside path = (h, u, true)
    | none => (foldR n i inside path).2.2 = false := by
  induction m with
  | zero =>
    intro n i inside path hn
    rw [foldR_out (by omega), foldM_out sha (by omega)]
    cases path <;> rfl
  | succ m ih =>
    intro n i inside path hn
    have cc : (i + (inside.map (leafM sha)).length ≤ 0 ∨ (n : Int) ≤ i ∨ inside.map (leafM sha) = [] ∨ n = 0) ↔ (i + inside.length ≤ 0 ∨ (n : Int) ≤ i ∨ inside = [] ∨ n = 0) := by rw [List.length_map, List.map_eq_nil_iff]
    by_cases c : i + inside.length ≤ 0 ∨ (n : Int) ≤ i ∨ inside = [] ∨ n = 0
    · rw [foldR_out c, foldM_out sha (cc.2 c)]
      cases path <;> rfl
    · by_cases e1 : n = 1
      · subst e1
        rw [foldR_one c, foldM_one sha (fun h => c (cc.1 h))]
        have hl : (-i).toNat < inside.length := by omega
        simp only [List.getElem?_map, List.getElem?_eq_getElem hl, Option.map_some, Option.getD_some]
      · have hr := half_range (n := n) (by omega)
        rw [foldR_two c e1 rfl rfl, foldM_two sha (fun h => c (cc.1 h)) e1]
        have i1 := ih (half n) i inside path (by omega)
        cases ea : foldM sha (half n) i (inside.map (leafM sha)) path with
        | none => rw [ea] at i1; simp only at i1; simp only [i1, if_true]
        | some x =>
          obtain ⟨a, u⟩ := x
          rw [ea] at i1
          simp only at i1
          have i2 := ih (n - half n) (i - (half n : Nat)) inside (path.drop u) (by omega)
          simp only [i1, Bool.true_eq_false, if_false]
          cases eb : foldM sha (n - half n) (i - (half n : Nat)) (inside.map (leafM sha)) (path.drop u) with
          | none => rw [eb] at i2; exact i2
          | some y =>
            obtain ⟨b, v⟩ := y
            rw [eb] at i2
            simp only at i2 ⊢
            rw [i2]
end Go.Proofs.YtcocengpekndjaaDoor
