/- The walks over the first calls of package span: New, Size, Len, Set, Count. -/
import Derived.Test.YtfmplibjhohpgaaSpVisit
import Derived.Test.YtfmplibjhohpgaaSpList
namespace Go.Proofs.Ytfmplibjhohpgaa
open Go.RowKit
attribute [local go_sem ↓] run_max run_min

/-- A pointer to the tree of a map with the runs L; without any it is nil. -/
def Rep (w : World) (p : Option Addr) (L : List (Int × Int)) : Prop := ∃ T, Tree w p T ∧ T.Bal ∧ T.list = L ∧ (L = [] ∨ Good L)
theorem Rep.below {w w' : World} (hB : Below w.heap.size w w') {p : Option Addr} {L : List (Int × Int)} (h : Rep w p L) : Rep w' p L := by
  obtain ⟨T, h1, h2⟩ := h; exact ⟨T, h1.below hB, h2⟩
theorem Rep.none (w : World) : Rep w none [] := ⟨.nil, rfl, trivial, rfl, .inl rfl⟩
theorem Rep.nil_iff {w : World} {p : Option Addr} {L : List (Int × Int)} (h : Rep w p L) : p = Option.none ↔ L = [] := by
  obtain ⟨T, h1, _, rfl, _⟩ := h
  cases T with
  | nil => exact ⟨fun _ => rfl, fun _ => h1⟩
  | node l len tag r =>
    obtain ⟨b, _, _, hp, _⟩ := h1
    constructor
    · intro h; rw [h] at hp; cases hp
    · intro h; simp [Tr.list] at h
/-- A tree of a usable map. -/
theorem Rep.good {w : World} {a : Addr} {L : List (Int × Int)} (h : Rep w (some a) L) : Good L ∧ ∃ T, Tree w (some a) T ∧ T ≠ .nil ∧ T.Bal ∧ T.Ok ∧ T.list = L ∧ T.pcs = Tr.total L ∧ 1 ≤ T.pcs ∧ T.pcs ≤ 1099511627776 ∧ T.num = L.length := by
  have hne : L ≠ [] := fun e => by have := h.nil_iff.2 e; cases this
  obtain ⟨T, h1, h2, rfl, h4⟩ := h
  have g := h4.resolve_left hne
  refine ⟨g, T, h1, ?_, h2, (Tr.ok_list T).2 g.2.1, rfl, Tr.pcs_list T, by rw [Tr.pcs_list]; exact total_pos g.2.1 g.1, by rw [Tr.pcs_list]; exact g.2.2.2.1, Tr.num_list T⟩
  rintro rfl; exact hne rfl

/-- Block b holds cells of another type than nodes. -/
def Other (W : World) (b : Nat) : Prop := ∃ (cs : Array Value) (t : TypeId) (fr : Nat × Nat), W.heap[b]? = some (.cells cs t fr) ∧ t ≠ 116
theorem Other.below {n : Nat} {W W' : World} (hB : Below n W W') {b : Nat} (hb : b < n) (h : Other W b) : Other W' b := by
  obtain ⟨cs, t, fr, h1, h2⟩ := h; exact ⟨cs, t, fr, (hB.block b hb).trans h1, h2⟩
theorem IsTree.set_ {W : World} {b : Nat} (ho : Other W b) (off : Nat) (sp : Option Nat) (v : Value) {n : Nat} : ∀ {p : Option Addr} {T : Tr}, IsTree n W p T → IsTree n (W.setCell ⟨b, off, sp⟩ v) p T
  | _, .nil, ht => ht
  | _, .node _ _ _ _, ⟨b', pl, pr, hp, hb, hn, hl, hr⟩ => by
    refine ⟨b', pl, pr, hp, hb, ?_, IsTree.set_ ho off sp v hl, IsTree.set_ ho off sp v hr⟩
    have hne : b' ≠ b := by
      rintro rfl
      obtain ⟨cs, t, fr, h1, h2⟩ := ho
      unfold IsNode Made at hn
      rw [hn] at h1
      injection h1 with h1
      injection h1 with _ h3
      exact h2 h3.symm
    exact (Below.heap_setCell W ⟨b, off, sp⟩ v b' hne).trans hn
theorem Tree.set_ {W : World} {b : Nat} (ho : Other W b) (off : Nat) (sp : Option Nat) (v : Value) {p : Option Addr} {T : Tr} (h : Tree W p T) : Tree (W.setCell ⟨b, off, sp⟩ v) p T :=
  IsTree.mono (by simp [World.setCell]) (IsTree.set_ ho off sp v h)
theorem Rep.set_ {W : World} {b : Nat} (ho : Other W b) (off : Nat) (sp : Option Nat) (v : Value) {p : Option Addr} {L : List (Int × Int)} (h : Rep W p L) : Rep (W.setCell ⟨b, off, sp⟩ v) p L := by
  obtain ⟨T, h1, h2⟩ := h; exact ⟨T, h1.set_ ho off sp v, h2⟩
theorem Other.new (w : World) (cs : Array Value) (t : TypeId) (h : t ≠ 116) : Other (w.alloc (.cells cs t)) w.heap.size := ⟨cs, t, (0, 0), heap_alloc_new w _, h⟩

set_option maxHeartbeats 400000 in
theorem isTag_yes (x : Int) (w : World) (h : 0 ≤ x ∧ x < 16) : Calls Try.prog 52 #[.int .i64 x] w fun e w' => e = .returned (.bool true) ∧ w = w' := by
  obtain ⟨h1, h2⟩ := h
  go_enter Try.func52, Try.ntmps52
  go_wp2_with (fail)
  go_ret
  exact ⟨rfl, rfl⟩
set_option maxHeartbeats 400000 in
theorem isTag_no (x : Int) (w : World) (h : x < 0 ∨ 16 ≤ x) : Calls Try.prog 52 #[.int .i64 x] w fun e w' => e = .returned (.bool false) ∧ w = w' := by
  by_cases h0 : 0 ≤ x
  · have h1 : ¬ x < 16 := by omega
    have h2 : decide (x < 16) = false := by simpa using h1
    go_enter Try.func52, Try.ntmps52
    go_wp2_with (fail)
    go_ret
    exact ⟨rfl, rfl⟩
  · have h2 : decide (0 ≤ x) = false := by simpa using h0
    go_enter Try.func52, Try.ntmps52
    go_wp2_with (fail)
    go_ret
    exact ⟨rfl, rfl⟩
set_option maxHeartbeats 400000 in
theorem sized_yes (x : Int) (w : World) (h : 1 ≤ x ∧ x ≤ 1099511627776) : Calls Try.prog 51 #[.int .i64 x] w fun e w' => e = .returned (.bool true) ∧ w = w' := by
  obtain ⟨h1, h2⟩ := h
  go_enter Try.func51, Try.ntmps51
  go_wp2_with (fail)
  go_ret
  exact ⟨rfl, rfl⟩
set_option maxHeartbeats 400000 in
theorem sized_no (x : Int) (w : World) (h : ¬ (1 ≤ x ∧ x ≤ 1099511627776)) : Calls Try.prog 51 #[.int .i64 x] w fun e w' => e = .returned (.bool false) ∧ w = w' := by
  by_cases h0 : 1 ≤ x
  · have h1 : ¬ x ≤ 1099511627776 := by omega
    have h2 : decide (x ≤ 1099511627776) = false := by simpa using h1
    go_enter Try.func51, Try.ntmps51
    go_wp2_with (fail)
    go_ret
    exact ⟨rfl, rfl⟩
  · have h2 : decide (1 ≤ x) = false := by simpa using h0
    go_enter Try.func51, Try.ntmps51
    go_wp2_with (fail)
    go_ret
    exact ⟨rfl, rfl⟩
set_option maxHeartbeats 400000 in
theorem size_any (w : World) (p : Option Addr) (L : List (Int × Int)) (h : Rep w p L) : Calls Try.prog 26 #[.agg #[.pointer p]] w fun e w' => e = .returned (.int .i64 (Tr.total L)) ∧ Below w.heap.size w w' := by
  obtain ⟨T, hT, _, hL, _⟩ := h
  have hp : T.pcs = Tr.total L := by rw [← hL]; exact Tr.pcs_list T
  have HP := Lib.hid hp
  clear hp hL
  go_enter Try.func26, Try.ntmps26
  go_wp2_with (fail)
  go_at_call 63
  refine (pieces_any _ p T (by exact hT.below ((Below.refl _ _).alloc (Nat.le_refl _) _))).mono ?_
  rintro e w' ⟨rfl, n1, rfl⟩
  go_wp2_with (fail)
  go_ret
  exact ⟨by rw [HP.out]; rfl, (((Below.refl _ _).alloc (Nat.le_refl _) _).trans (Quiet.below ⟨_, rfl⟩ _))⟩
set_option maxHeartbeats 400000 in
theorem len_any (w : World) (p : Option Addr) (L : List (Int × Int)) (h : Rep w p L) : Calls Try.prog 43 #[.agg #[.pointer p]] w fun e w' => e = .returned (.int .i64 L.length) ∧ Below w.heap.size w w' := by
  obtain ⟨T, hT, _, hL, _⟩ := h
  have hp : T.num = L.length := by rw [← hL]; exact Tr.num_list T
  have HP := Lib.hid hp
  clear hp hL
  go_enter Try.func43, Try.ntmps43
  go_wp2_with (fail)
  go_at_call 73
  refine (sums_any _ p T (by exact hT.below ((Below.refl _ _).alloc (Nat.le_refl _) _))).mono ?_
  rintro e w' ⟨rfl, n1, rfl⟩
  go_wp2_with (fail)
  go_ret
  exact ⟨by rw [HP.out]; rfl, (((Below.refl _ _).alloc (Nat.le_refl _) _).trans (Quiet.below ⟨_, rfl⟩ _))⟩
/-- What ranges returns. -/
def rangesR (L : List (Int × Int)) (lo hi : Int) : Int := if L = [] then 1 else if lo < 0 ∨ hi < lo ∨ Tr.total L < hi then 3 else 0
set_option maxHeartbeats 400000 in
theorem ranges_any (w : World) (p : Option Addr) (L : List (Int × Int)) (lo hi : Int) (h : Rep w p L) : Calls Try.prog 57 #[.agg #[.pointer p], .int .i64 lo, .int .i64 hi] w fun e w' => e = .returned (.int .i64 (rangesR L lo hi)) ∧ Below w.heap.size w w' := by
  cases p with
  | none =>
    have e : rangesR L lo hi = 1 := by unfold rangesR; rw [if_pos (h.nil_iff.1 rfl)]
    rw [e]
    go_enter Try.func57, Try.ntmps57
    go_wp2_with (fail)
    go_ret
    exact ⟨rfl, (Below.refl _ _).alloc (Nat.le_refl _) _⟩
  | some a =>
    have hne : L ≠ [] := fun e => by have := h.nil_iff.2 e; cases this
    by_cases h1 : lo < 0
    · have e : rangesR L lo hi = 3 := by unfold rangesR; rw [if_neg hne, if_pos (.inl h1)]
      rw [e]
      go_enter Try.func57, Try.ntmps57
      go_wp2_with (fail)
      go_ret
      exact ⟨rfl, (Below.refl _ _).alloc (Nat.le_refl _) _⟩
    · by_cases h2 : hi < lo
      · have e : rangesR L lo hi = 3 := by unfold rangesR; rw [if_neg hne, if_pos (.inr (.inl h2))]
        rw [e]
        go_enter Try.func57, Try.ntmps57
        go_wp2_with (fail)
        go_ret
        exact ⟨rfl, (Below.refl _ _).alloc (Nat.le_refl _) _⟩
      · by_cases h3 : Tr.total L < hi
        · have e : rangesR L lo hi = 3 := by unfold rangesR; rw [if_neg hne, if_pos (.inr (.inr h3))]
          rw [e]
          go_enter Try.func57, Try.ntmps57
          go_wp2_with (fail)
          go_at_call 26
          refine (size_any _ (some a) L (by exact h.below ((Below.refl _ _).alloc (Nat.le_refl _) _))).mono ?_
          rintro e w1 ⟨rfl, hb⟩
          go_wp2_with (fail)
          go_ret
          exact ⟨rfl, Below.next ((Below.refl _ _).alloc (Nat.le_refl _) _) hb⟩
        · have e : rangesR L lo hi = 0 := by unfold rangesR; rw [if_neg hne, if_neg (by omega)]
          rw [e]
          go_enter Try.func57, Try.ntmps57
          go_wp2_with (fail)
          go_at_call 26
          refine (size_any _ (some a) L (by exact h.below ((Below.refl _ _).alloc (Nat.le_refl _) _))).mono ?_
          rintro e w1 ⟨rfl, hb⟩
          go_wp2_with (fail)
          go_ret
          exact ⟨rfl, Below.next ((Below.refl _ _).alloc (Nat.le_refl _) _) hb⟩

set_option maxRecDepth 100000 in
set_option maxHeartbeats 400000 in
theorem few_yes (w : World) (a : Addr) (T : Tr) (hT : Tree w (some a) T) (hne : T ≠ .nil) (h : ¬ 4096 < T.num) : Calls Try.prog 60 #[.pointer (some a)] w fun e w' => e = .returned (.tuple #[.agg #[.pointer (some a)], .int .i64 0]) ∧ Below w.heap.size w w' := by
  cases T with
  | nil => exact (hne rfl).elim
  | node l len tag r =>
    obtain ⟨bt, pl, pr, hp, hbt, hn, hl, hr⟩ := hT
    cases hp
    have c5 := hn.c5
    go_enter Try.func60, Try.ntmps60
    go_wp2_with (fail)
    exact bodyPost_ret (v := .tuple #[.agg #[.pointer (some ⟨bt, 0, none⟩)], .int .i64 0]) (by simp [results, Try.results60, go_sem]) rfl ⟨rfl, (Below.refl _ _).alloc (Nat.le_refl _) _⟩
set_option maxRecDepth 100000 in
set_option maxHeartbeats 400000 in
theorem few_no (w : World) (a : Addr) (T : Tr) (hT : Tree w (some a) T) (hne : T ≠ .nil) (h : 4096 < T.num) : Calls Try.prog 60 #[.pointer (some a)] w fun e w' => e = .returned (.tuple #[.agg #[.pointer none], .int .i64 5]) ∧ Below w.heap.size w w' := by
  cases T with
  | nil => exact (hne rfl).elim
  | node l len tag r =>
    obtain ⟨bt, pl, pr, hp, hbt, hn, hl, hr⟩ := hT
    cases hp
    have c5 := hn.c5
    go_enter Try.func60, Try.ntmps60
    go_wp2_with (fail)
    exact bodyPost_ret (v := .tuple #[.agg #[.pointer none], .int .i64 5]) (by simp [results, Try.results60, go_sem]) rfl ⟨rfl, (Below.refl _ _).alloc (Nat.le_refl _) _⟩
set_option maxRecDepth 100000 in
set_option maxHeartbeats 400000 in
theorem new_any (w : World) (size : Int) : Calls Try.prog 30 #[.int .i64 size] w fun e w' => ∃ p, e = .returned (.tuple #[.agg #[.pointer p], .int .i64 (newR size).1]) ∧ Rep w' p (newR size).2 ∧ Below w.heap.size w w' := by
  have hg := newR_good size
  by_cases h : 1 ≤ size ∧ size ≤ 1099511627776
  · have e : newR size = (0, [(size, 0)]) := by unfold newR; rw [if_pos h]
    rw [e] at hg ⊢
    have hl : Tr.leaf size 0 = .node .nil size 0 .nil := by unfold Tr.leaf; rw [if_neg (by omega)]
    have HL := Lib.hid hl
    have HG := Lib.hid hg
    clear hl hg e
    dsimp only
    go_enter Try.func30, Try.ntmps30
    go_wp2_with (fail)
    go_at_call 51
    refine (sized_yes size _ h).mono ?_
    rintro e w1 ⟨rfl, rfl⟩
    go_wp2_with (fail)
    go_at_call 62
    refine (leaf_any size 0 _ (by omega) h.2 (by omega) (by omega)).mono ?_
    rintro e w1 ⟨p1, rfl, ht1, hb1⟩
    have hz : w.heap.size < w1.heap.size := by have := hb1.size; simp at this; omega
    have hB : Below w.heap.size w w1 := Below.next ((Below.refl _ _).alloc (Nat.le_refl _) _) hb1
    have hc : w1.cell? ⟨w.heap.size, 0, none⟩ = some (.pointer none) := (hb1.cell (p := ⟨w.heap.size, 0, none⟩) (by simp)).trans (by simp)
    have hf : w1.frozen? ⟨w.heap.size, 0, none⟩ = false := (hb1.frozen (p := ⟨w.heap.size, 0, none⟩) (by simp)).trans (by simp)
    go_wp2_with (fail)
    have hB2 : Below w.heap.size w (w1.setCell ⟨w.heap.size, 0, none⟩ (.pointer p1)) := hB.setCell (p := ⟨w.heap.size, 0, none⟩) (Nat.le_refl _) _
    exact bodyPost_ret (v := .tuple #[.agg #[.pointer p1], .int .i64 0]) (by simp [results, Try.results30, go_sem, hc]) rfl ⟨_, rfl,
      ⟨_, ht1.set_ ((Other.new w _ _ (by decide)).below hb1 (by simp)) _ _ _, Tr.leaf_bal _ _, by rw [HL.out]; rfl, HG.out⟩, hB2⟩
  · have e : newR size = (2, []) := by unfold newR; rw [if_neg h]
    rw [e]
    clear hg e
    dsimp only
    go_enter Try.func30, Try.ntmps30
    go_wp2_with (fail)
    go_at_call 51
    refine (sized_no size _ h).mono ?_
    rintro e w1 ⟨rfl, rfl⟩
    go_wp2_with (fail)
    exact bodyPost_ret (v := .tuple #[.agg #[.pointer none], .int .i64 2]) (by simp [results, Try.results30, go_sem]) rfl ⟨_, rfl, Rep.none _, (Below.refl _ _).alloc (Nat.le_refl _) _⟩
end Go.Proofs.Ytfmplibjhohpgaa
