/- The walks over visit and outer. The walks over AppendSeq and Collect. The walks over all, MapRoot. The walks over IndexFunc and Clone. -/
import Derived.Test.YtcocengpekndjaaDoorPrAcc
import Derived.Deep.DeepMust
import Derived.Test.YtcocengpekndjaaDoorSpBase
namespace Go.Proofs.YtcocengpekndjaaDoor
section
open Go.RowKit Go.Shelf
attribute [local go_sem] Oper.semAt_some
theorem Hs.low {n₀ : Nat} {W W' : World} {A : Option Addr} {l : List Bs} (h : Hs W A l) (hi : InB n₀ A l) (hB : Below n₀ W W') : Hs W' A l := by
  obtain ⟨h0, h | ⟨a, e, h⟩⟩ := h
  · exact ⟨h0, .inl h⟩
  · by_cases hl : l = []
    · exact ⟨h0, .inl hl⟩
    · refine ⟨h0, .inr ⟨a, e, fun j u hu => ?_⟩⟩
      have := h j u hu
      have e2 := hB.block a.block (hi hl a e)
      unfold World.cell? at this ⊢
      rw [add_block] at this ⊢
      rw [e2]; exact this
theorem Kon.low {n₀ : Nat} {W W' : World} (h : Kon W) (hn : 0 < n₀) (hB : Below n₀ W W') : Kon W' := by
  refine ⟨Nat.lt_of_lt_of_le h.1 hB.size, fun i hi => ?_⟩
  have := h.2 i hi
  have e := hB.block 0 hn
  unfold World.cell? at this ⊢
  rw [e]; exact this
theorem InB.take {n : Nat} {A : Option Addr} {l : List Bs} (h : InB n A l) (k : Nat) : InB n A (l.take k) := fun hl => h (by rintro rfl; simp at hl)
theorem InB.drop {n : Nat} {A : Option Addr} {l : List Bs} (h : InB n A l) (c k : Nat) : InB n (cutA A c k) (l.drop k) := h.cut c k _ (fun hl => by rintro rfl; simp at hl)
/-- What visit does with lists of at most q hashes, whatever a round does. -/
def VH (l n₀ N : Nat) (J Jx : List Bs → World → Prop) (q : Nat) : Prop :=
  ∀ (m : Nat) (L : List Bs) (A : Option Addr) (n c : Nat) (i j : Int) (pre : List Bs) (W : World), L.length ≤ q → n = L.length → n ≤ 10000 → n ≤ c → -30000 ≤ i - n → i ≤ 10000 → -30000 ≤ j - n → j ≤ 10000 → Hs W A L → InB n₀ A L → Kon W → 0 < n₀ → n₀ ≤ W.heap.size → J pre W → pre.length + (visitM sha L i j).length ≤ N →
    CallsIn Fence.wide m Tryd.prog 101 #[.slice A n c, .int .i64 i, .int .i64 j, .func (.yield l) #[] #[]] W fun e W' =>
      (e = .returned (.bool true) ∧ J (pre ++ visitM sha L i j) W' ∧ Below n₀ W W') ∨ (e = .returned (.bool false) ∧ ∃ p, p <+: visitM sha L i j ∧ Jx (pre ++ p) W')
section
variable (l n₀ N : Nat) (J Jx : List Bs → World → Prop)
set_option maxRecDepth 100000 in
set_option maxHeartbeats 1000000 in
theorem visit_out (hJ : ∀ pre W W', J pre W → Below W.heap.size W W' → J pre W')
    (hY : ∀ m pre x W, J pre W → pre.length < N → x.length = 32 → YieldAt Fence.wide m Tryd.prog l #[hashV x] W fun e W' =>
      (e = .returned (.bool true) ∧ J (pre ++ [x]) W' ∧ Below n₀ W W') ∨ (e = .returned (.bool false) ∧ Jx (pre ++ [x]) W'))
    (m : Nat) (L : List Bs) (A : Option Addr) (n c : Nat) (i j : Int) (pre : List Bs) (W : World) (hn : n = L.length) (h1 : n ≤ 10000) (hc : n ≤ c) (hs : Hs W A L) (hk : Kon W) (h0 : n₀ ≤ W.heap.size) (hJ0 : J pre W) (hN : pre.length < N) (co : j ≤ 0 ∨ (n : Int) ≤ i) :
    CallsIn Fence.wide m Tryd.prog 101 #[.slice A n c, .int .i64 i, .int .i64 j, .func (.yield l) #[] #[]] W fun e W' =>
      (e = .returned (.bool true) ∧ J (pre ++ [topM sha L]) W' ∧ Below n₀ W W') ∨ (e = .returned (.bool false) ∧ ∃ p, p <+: [topM sha L] ∧ Jx (pre ++ p) W') := by
  have ht := top_any L A n c W hn h1 hc hs hk
  have hl : (topM sha L).length = 32 := topM_length sha sha_length hs.1
  generalize topM sha L = x at *
  have HT := Lib.hid ht
  have HL := Lib.hid hl
  have H0 := Lib.hid h0
  clear ht hl hn hs hk h0
  by_cases c1 : j ≤ 0
  all_goals
    refine callsIn_of_wp Tryd.func101 rfl trivial ?_ rfl
    simp only [Tryd.ntmps101, List.size_toArray, List.length_cons, List.length_nil, Nat.reduceAdd, Nat.reduceSub, Array.replicate_succ, Array.replicate_zero, List.push_toArray, List.append_toArray, List.nil_append, List.cons_append]
    gi_wp2_with (fail)
    refine ⟨trivial, fun h => (by cases h), ?_⟩
    refine (callsIn_wide.2 HT.out).mono ?_
    rintro e W1 ⟨rfl, b1⟩
    have hJ1 := hJ _ _ _ hJ0 b1
    obtain ⟨fn, tmps, assign, body, hy, hR⟩ := hY (m - 1) pre x W1 hJ1 hN HL.out
    have B1 := b1.mono H0.out
    gi_wp2_with (fail)
    refine ⟨fun h => (by cases h), ?_⟩
    refine hR.mono ?_
    clear hR hy
    rintro e W3 (⟨rfl, hJ3, b3⟩ | ⟨rfl, hx3⟩)
    · gi_wp2_with (fail)
      go_ret
      exact .inl ⟨rfl, hJ3, B1.trans b3⟩
    · gi_wp2_with (fail)
      go_ret
      exact .inr ⟨rfl, [x], List.prefix_refl _, hx3⟩
set_option maxRecDepth 100000 in
set_option maxHeartbeats 1000000 in
theorem visit_in (m : Nat) (A : Option Addr) (n c : Nat) (i j : Int) (W : World) (_h1 : n ≤ 10000) (co : ¬ (j ≤ 0 ∨ (n : Int) ≤ i)) (ci : i ≤ 0 ∧ (n : Int) ≤ j) :
    CallsIn Fence.wide m Tryd.prog 101 #[.slice A n c, .int .i64 i, .int .i64 j, .func (.yield l) #[] #[]] W fun e W' => e = .returned (.bool true) ∧ W = W' := by
  obtain ⟨c3, c4⟩ := ci
  have c1 : ¬ j ≤ 0 := fun h => co (.inl h)
  have c2 : ¬ (n : Int) ≤ i := fun h => co (.inr h)
  clear co
  refine callsIn_of_wp Tryd.func101 rfl trivial ?_ rfl
  simp only [Tryd.ntmps101, List.size_toArray, List.length_cons, List.length_nil, Nat.reduceAdd, Nat.reduceSub, Array.replicate_succ, Array.replicate_zero, List.push_toArray, List.append_toArray, List.nil_append, List.cons_append]
  gi_wp2_with (fail)
  go_ret
  exact ⟨rfl, rfl⟩
set_option maxRecDepth 100000 in
set_option maxHeartbeats 2000000 in
theorem visit_two (q : Nat) (ih : VH l n₀ N J Jx q)
    (m : Nat) (L : List Bs) (A : Option Addr) (n c : Nat) (i j : Int) (pre : List Bs) (W : World) (hq : L.length ≤ q + 1) (hn : n = L.length) (h1 : n ≤ 10000) (hc : n ≤ c) (i0 : -30000 ≤ i - n) (i1 : i ≤ 10000) (j0 : -30000 ≤ j - n) (j1 : j ≤ 10000) (hs : Hs W A L) (hI : InB n₀ A L) (hk : Kon W) (hz : 0 < n₀) (h0 : n₀ ≤ W.heap.size) (hJ0 : J pre W) (hN : pre.length + (visitM sha L i j).length ≤ N)
    (co : ¬ (j ≤ 0 ∨ (n : Int) ≤ i)) (ci : ¬ (i ≤ 0 ∧ (n : Int) ≤ j)) :
    CallsIn Fence.wide m Tryd.prog 101 #[.slice A n c, .int .i64 i, .int .i64 j, .func (.yield l) #[] #[]] W fun e W' =>
      (e = .returned (.bool true) ∧ J (pre ++ visitM sha L i j) W' ∧ Below n₀ W W') ∨ (e = .returned (.bool false) ∧ ∃ p, p <+: visitM sha L i j ∧ Jx (pre ++ p) W') := by
  have n2 : 2 ≤ n := by omega
  have hh := half_range n2
  have hv := visitM_two sha (l := L) (i := i) (j := j) (by rw [← hn]; exact co) (by rw [← hn]; exact ci)
  rw [← hn] at hv
  rw [hv] at hN ⊢
  rw [List.length_append] at hN
  have hf := fun W => half_any n W n2 (by omega)
  have p1 := ih (m - 1) (L.take (half n)) A (half n) c i j pre W (by rw [List.length_take]; omega) (by rw [List.length_take]; omega) (by omega) (by omega) (by omega) (by omega) (by omega) (by omega) (hs.to_ _) (hI.take _) hk hz h0 hJ0 (by omega)
  have d1 := hs_to A n c (half n) (by omega)
  have d2 := hs_from A n c (half n) (by omega)
  have p2 := fun (W' : World) (hB : Below n₀ W W') (hJ1 : J (pre ++ visitM sha (L.take (half n)) i j) W') => ih (m - 1) (L.drop (half n)) (cutA A c (half n)) (n - half n) (c - half n) (i - (half n : Nat)) (j - (half n : Nat)) (pre ++ visitM sha (L.take (half n)) i j) W' (by rw [List.length_drop]; omega) (by rw [List.length_drop]; omega) (by omega) (by omega) (by omega) (by omega) (by omega) (by omega) ((hs.low hI hB).from_ (by omega) _ (by omega)) (hI.drop _ _) (hk.low hz hB) hz (Nat.le_trans h0 hB.size) hJ1 (by rw [List.length_append]; omega)
  generalize visitM sha (L.take (half n)) i j = v1 at *
  generalize visitM sha (L.drop (half n)) (i - (half n : Nat)) (j - (half n : Nat)) = v2 at *
  generalize cutA A c (half n) = A2 at *
  generalize half n = k at *
  have HF := Lib.hid hf
  have P1 := Lib.hid p1
  have P2 := Lib.hid p2
  have c1 : ¬ j ≤ 0 := fun h => co (.inl h)
  have c2 : ¬ (n : Int) ≤ i := fun h => co (.inr h)
  have m1 : IntKind.i64.wrap (i - (k : Int)) = i - k := IntWalk.i64_in _ (by omega)
  have m2 : IntKind.i64.wrap (j - (k : Int)) = j - k := IntWalk.i64_in _ (by omega)
  have cc : 0 < i ∨ (i ≤ 0 ∧ j < n) := by omega
  clear hf p1 p2 hs hI hk ih hv hn hq hN co ci hJ0
  have H0 := Lib.hid h0
  clear h0
  rcases cc with cc | ⟨cc, cd⟩
  all_goals
    refine callsIn_of_wp Tryd.func101 rfl trivial ?_ rfl
    simp only [Tryd.ntmps101, List.size_toArray, List.length_cons, List.length_nil, Nat.reduceAdd, Nat.reduceSub, Array.replicate_succ, Array.replicate_zero, List.push_toArray, List.append_toArray, List.nil_append, List.cons_append]
    gi_wp2_with (fail)
    refine ⟨trivial, fun h => (by cases h), ?_⟩
    refine (callsIn_wide.2 (HF.out W)).mono ?_
    rintro e W' ⟨rfl, rfl⟩
    gi_wp2_with (fail)
    refine ⟨trivial, fun h => (by cases h), ?_⟩
    refine P1.out.mono ?_
    rintro e W1 (⟨rfl, hJ1, b1⟩ | ⟨rfl, p, hp, hx⟩)
    · have h9 := P2.out W1 b1 hJ1
      have H9 := Lib.hid h9
      clear h9
      gi_wp2_with (fail)
      refine ⟨trivial, fun h => (by cases h), ?_⟩
      refine H9.out.mono ?_
      rintro e W2 (⟨rfl, hJ2, b2⟩ | ⟨rfl, p, hp, hx⟩)
      · gi_wp2_with (fail)
        go_ret
        exact .inl ⟨rfl, by rw [← List.append_assoc]; exact hJ2, b1.trans b2⟩
      · gi_wp2_with (fail)
        go_ret
        refine .inr ⟨rfl, v1 ++ p, ?_, by rw [← List.append_assoc]; exact hx⟩
        obtain ⟨t, ht⟩ := hp; exact ⟨t, by rw [← ht]; simp⟩
    · gi_wp2_with (fail)
      refine ⟨trivial, ?_⟩
      gi_wp2_with (fail)
      go_ret
      exact .inr ⟨rfl, p, hp.trans (List.prefix_append _ _), hx⟩
variable {l n₀ N J Jx}
theorem visit_le (hJ : ∀ pre W W', J pre W → Below W.heap.size W W' → J pre W')
    (hY : ∀ m pre x W, J pre W → pre.length < N → x.length = 32 → YieldAt Fence.wide m Tryd.prog l #[hashV x] W fun e W' =>
      (e = .returned (.bool true) ∧ J (pre ++ [x]) W' ∧ Below n₀ W W') ∨ (e = .returned (.bool false) ∧ Jx (pre ++ [x]) W')) (q : Nat) : VH l n₀ N J Jx q := by
  have small : ∀ (m : Nat) (L : List Bs) (A : Option Addr) (n c : Nat) (i j : Int) (pre : List Bs) (W : World), n = L.length → n ≤ 10000 → n ≤ c → Hs W A L → Kon W → n₀ ≤ W.heap.size → J pre W → pre.length + (visitM sha L i j).length ≤ N → (j ≤ 0 ∨ (n : Int) ≤ i) ∨ (i ≤ 0 ∧ (n : Int) ≤ j) →
      CallsIn Fence.wide m Tryd.prog 101 #[.slice A n c, .int .i64 i, .int .i64 j, .func (.yield l) #[] #[]] W fun e W' =>
      (e = .returned (.bool true) ∧ J (pre ++ visitM sha L i j) W' ∧ Below n₀ W W') ∨ (e = .returned (.bool false) ∧ ∃ p, p <+: visitM sha L i j ∧ Jx (pre ++ p) W') := by
    intro m L A n c i j pre W hn h1 hc hs hk h0 hJ0 hN hcase
    by_cases co : j ≤ 0 ∨ (n : Int) ≤ i
    · have e := visitM_out sha (l := L) (i := i) (j := j) (by rw [← hn]; exact co)
      rw [e] at hN ⊢
      exact visit_out l n₀ N J Jx hJ hY m L A n c i j pre W hn h1 hc hs hk h0 hJ0 (by simp at hN; omega) co
    · have ci := hcase.resolve_left co
      have e := visitM_in sha (l := L) (i := i) (j := j) (by rw [← hn]; exact co) (by rw [← hn]; exact ci)
      rw [e]
      exact (visit_in l m A n c i j W h1 co ci).mono fun e' W' ⟨h1, h2⟩ => .inl ⟨h1, by rw [← h2]; simpa using hJ0, h2 ▸ Below.refl _ _⟩
  induction q with
  | zero =>
    intro m L A n c i j pre W hq hn h1 hc _ _ _ _ hs _ hk _ h0 hJ0 hN
    exact small m L A n c i j pre W hn h1 hc hs hk h0 hJ0 hN (by omega)
  | succ q ih =>
    intro m L A n c i j pre W hq hn h1 hc i0 i1 j0 j1 hs hI hk hz h0 hJ0 hN
    by_cases hcase : (j ≤ 0 ∨ (n : Int) ≤ i) ∨ (i ≤ 0 ∧ (n : Int) ≤ j)
    · exact small m L A n c i j pre W hn h1 hc hs hk h0 hJ0 hN hcase
    · exact visit_two l n₀ N J Jx q ih m L A n c i j pre W hq hn h1 hc i0 i1 j0 j1 hs hI hk hz h0 hJ0 hN (fun h => hcase (.inl h)) (fun h => hcase (.inr h))
end
set_option maxRecDepth 100000 in
set_option maxHeartbeats 1000000 in
/-- The function that outer returns. -/
theorem outer1_any (m l n₀ : Nat) (b0 b1 b2 : Nat) (L : List Bs) (A : Option Addr) (n c : Nat) (i j : Int) (J Jx : List Bs → World → Prop) (hJ : ∀ pre W W', J pre W → Below W.heap.size W W' → J pre W')
    (hY : ∀ pre x W, J pre W → pre.length < (visitM sha L i j).length → x.length = 32 → YieldAt Fence.wide (m - 1) Tryd.prog l #[hashV x] W fun e W' =>
      (e = .returned (.bool true) ∧ J (pre ++ [x]) W' ∧ Below n₀ W W') ∨ (e = .returned (.bool false) ∧ Jx (pre ++ [x]) W'))
    (W : World) (h0 : W.cell? ⟨b0, 0, none⟩ = some (.slice A n c)) (h1 : W.cell? ⟨b1, 0, none⟩ = some (.int .i64 i)) (h2 : W.cell? ⟨b2, 0, none⟩ = some (.int .i64 j))
    (hn : n = L.length) (hn1 : n ≤ 10000) (hc : n ≤ c) (i0 : -10000 ≤ i) (i1 : i ≤ 10000) (j0 : -10000 ≤ j) (j1 : j ≤ 10000) (hs : Hs W A L) (hI : InB n₀ A L) (hk : Kon W) (hz : 0 < n₀) (hN₀ : n₀ ≤ W.heap.size) (hJ0 : J [] W) :
    CallsIn Fence.wide m Tryd.prog 100 #[.func (.yield l) #[] #[], .pointer (some ⟨b0, 0, none⟩), .pointer (some ⟨b1, 0, none⟩), .pointer (some ⟨b2, 0, none⟩)] W fun e W' => (∃ v, e = .returned v) ∧
      ((∃ ys, ys = visitM sha L i j ∧ J ys W') ∨ (∃ pre, pre <+: visitM sha L i j ∧ Jx pre W')) := by
  have hv := visit_le (N := (visitM sha L i j).length) hJ (fun m' pre x W hj hl hx => YieldAt.any_depth rfl m' (hY pre x W hj hl hx)) L.length (m - 1) L A n c i j [] W (Nat.le_refl _) hn hn1 hc (by omega) i1 (by omega) j1 hs hI hk hz hN₀ hJ0 (by simp)
  have HV := Lib.hid hv
  clear hv hs hn
  refine callsIn_of_wp Tryd.func100 rfl trivial ?_ rfl
  simp only [Tryd.ntmps100, List.size_toArray, List.length_cons, List.length_nil, Nat.reduceAdd, Nat.reduceSub, Array.replicate_succ, Array.replicate_zero, List.push_toArray, List.append_toArray, List.nil_append, List.cons_append]
  gi_wp2_with (fail)
  refine ⟨trivial, fun h => (by cases h), ?_⟩
  refine HV.out.mono ?_
  rintro e W1 (⟨rfl, hJ1, hb1⟩ | ⟨rfl, q, hq, hx⟩)
  · gi_wp2_with (fail)
    go_end0
    exact ⟨⟨_, rfl⟩, .inl ⟨_, rfl, by simpa using hJ1⟩⟩
  · gi_wp2_with (fail)
    go_end0
    exact ⟨⟨_, rfl⟩, .inr ⟨q, hq, by simpa using hx⟩⟩
/-- What lies in three new boxes. -/
theorem outer_any (A : Option Addr) (n c : Nat) (i j : Int) (w : World) : Calls Tryd.prog 75 #[.slice A n c, .int .i64 i, .int .i64 j] w fun e w' =>
    e = .returned (.func (.func 100) #[] #[.pointer (some ⟨w.heap.size, 0, none⟩), .pointer (some ⟨w.heap.size + 1, 0, none⟩), .pointer (some ⟨w.heap.size + 1 + 1, 0, none⟩)]) ∧
      w' = ((w.alloc (.cells #[.slice A n c] 35)).alloc (.cells #[.int .i64 i] 3)).alloc (.cells #[.int .i64 j] 3) := by
  go_enter Tryd.func75, Tryd.ntmps75
  go_wp2_with (fail)
  go_ret
  exact ⟨rfl, rfl⟩
theorem outer_stops (m n₀ : Nat) (b0 b1 b2 : Nat) (L : List Bs) (A : Option Addr) (n c : Nat) (i j : Int) (w : World) (h0 : w.cell? ⟨b0, 0, none⟩ = some (.slice A n c)) (h1 : w.cell? ⟨b1, 0, none⟩ = some (.int .i64 i)) (h2 : w.cell? ⟨b2, 0, none⟩ = some (.int .i64 j))
    (l0 : b0 < w.heap.size) (l1 : b1 < w.heap.size) (l2 : b2 < w.heap.size) (hn₀ : n₀ ≤ w.heap.size) (hn : n = L.length) (hn1 : n ≤ 10000) (hc : n ≤ c) (i0 : -10000 ≤ i) (i1 : i ≤ 10000) (j0 : -10000 ≤ j) (j1 : j ≤ 10000) (hs : Hs w A L) (hI : InB n₀ A L) (hk : Kon w) (hz : 0 < n₀) :
    SeqStopsK Fence.wide m Tryd.prog 100 #[.pointer (some ⟨b0, 0, none⟩), .pointer (some ⟨b1, 0, none⟩), .pointer (some ⟨b2, 0, none⟩)] (fun x : Bs => #[hashV x]) (Below n₀) (fun ys => ys = visitM sha L i j) (fun pre => pre <+: visitM sha L i j) (visitM sha L i j).length w := by
  intro l J Jx W hW hAJ _ hY hJ0
  exact outer1_any m l n₀ b0 b1 b2 L A n c i j J Jx (fun pre W1 W2 hj hB => hAJ pre W1 W2 none hj (Below.grownBy hB) (fun r e => by cases e)) (fun pre x W1 hj hl _ => hY pre x W1 hj hl) W
    ((hW.cell (p := ⟨b0, 0, none⟩) l0).trans h0) ((hW.cell (p := ⟨b1, 0, none⟩) l1).trans h1) ((hW.cell (p := ⟨b2, 0, none⟩) l2).trans h2) hn hn1 hc i0 i1 j0 j1 (hs.low hI (hW.mono hn₀)) hI (hk.low hz (hW.mono hn₀)) hz (Nat.le_trans hn₀ hW.size) hJ0
end
section
open Go.RowKit Go.Shelf
attribute [local go_sem] Oper.semAt_some
section
variable {F : Fence} {n : Nat} {ops : Array Oper} {rest : List Oper} {o : Oper} {a : Act} {w : World} {Q : Exit → Act → World → Prop}
theorem wpListIn_yields {P : Program} {v : Value} {w' : World} (hgd : o.guard = none) (hd : ∀ c, o.op ≠ .defer c) (hc : ∀ c, o.op ≠ .call c) (h : (execOp a.eval o).run P w = .ok (.value v) w') (K : wpListIn F n P ops Q rest (a.put o.dst v) w') : wpListIn F n P ops Q (o :: rest) a w := by
  refine wpListIn_plain hgd fun K' hK => ⟨fun f hf => ?_, ?_⟩
  · unfold Oper.about at hf
    split at hf
    · rename_i c e; exact absurd e (hc c)
    · cases hf
  · rw [Oper.semAt_eq _ _ _ hd, h, Oper.uponIn_value]; exact hK _ _ K
theorem wpListIn_skips {P : Program} {w' : World} (hgd : o.guard = none) (hd : ∀ c, o.op ≠ .defer c) (hc : ∀ c, o.op ≠ .call c) (h : (execOp a.eval o).run P w = .ok .skip w') (K : wpListIn F n P ops Q rest (a.put o.dst undef) w') : wpListIn F n P ops Q (o :: rest) a w := by
  refine wpListIn_plain hgd fun K' hK => ⟨fun f hf => ?_, ?_⟩
  · unfold Oper.about at hf
    split at hf
    · rename_i c e; exact absurd e (hc c)
    · cases hf
  · rw [Oper.semAt_eq _ _ _ hd, h, Oper.uponIn_skip]; exact hK _ _ K
theorem exec_storeH {ev : Operand → Value} (x y : Operand) (ho : o.op = .store 30 x y) (g : Nat) (h : Bs) (hx : ev x = .pointer (some ⟨g, 0, none⟩)) (hy : ev y = hashV h) {l : List Int} (hg : BoxA w g 30 .u8 l) (hl : l.length = 32) (hh : h.length = 32) :
    (execOp ev o).run Tryd.prog w = .ok .skip (w.setRow g (ints .u8 (nums h))) := by
  unfold execOp
  rw [hashV_eq] at hy
  simp only [ho, hx, hy, Instr.storeAt, Instr.sureAddr, Sem.run_bind, Sem.run_pure, Result.andThen_ok, run_storeVar_row w g 30 30 _ (ints .u8 (nums h)) hg (by rw [ints_size, nums_length, hh]; exact szHash) (by rw [ints_size, ints_size, nums_length, hl, hh]) (ints_one _ _)]
theorem exec_buildH {ev : Operand → Value} (xo : Operand) (ho : o.op = .buildSlice 35 1 #[(0, xo)]) (x : Bs) (hx : ev xo = hashV x) (hx32 : x.length = 32) :
    (execOp ev o).run Tryd.prog w = .ok (.value (.slice (some ⟨w.heap.size, 0, none⟩) 1 1)) (w.alloc (.cells (cellsB x).toArray 30)) := by
  unfold execOp
  simp only [ho, List.map_toArray, List.map_cons, List.map_nil, hx, Sem.run_bind, run_buildHash x hx32 w, Result.andThen_ok, Sem.run_pure]
theorem wpListIn_append_hash (hgd : o.guard = none) (s xo : Operand) (ho : o.op = .call { callee := .builtin .append, args := #[s, xo], argTypes := #[35, 35] })
    (base : Nat) (v : Value) (k : Nat) (xs : List Value) (hs : a.eval s = v) (hO : w.ownsRow base 30 32 v k xs) (g : Nat) (x : Bs) (c : Nat) (hx : a.eval xo = .slice (some ⟨g, 0, none⟩) 1 c)
    (hg : ∀ j u, (cellsB x)[j]? = some u → w.cell? ((⟨g, 0, none⟩ : Addr).add j) = some u) (hx32 : x.length = 32) (hlen : k ≤ 1000000) (hb : base ≤ w.heap.size)
    (K : ∀ v' w', w'.ownsRow base 30 32 v' (k + 1) (xs ++ cellsB x) → w.grownBy w' v.ownBlock → wpListIn F n Tryd.prog ops Q rest (a.put o.dst v') w') : wpListIn F n Tryd.prog ops Q (o :: rest) a w := by
  obtain ⟨i0, hi0, hz0, hz1, hz2⟩ := info_parts infoHash
  exact wpListIn_append_own w hgd s xo 35 ho base 30 i0 zero32 32 32 (by kernel_rfl) hi0 hz0 hz1 hz2 zero32_size (by decide) v k xs hs hO ⟨g, 0, none⟩ 1 c (cellsB x) hx (by rw [cellsB_length, hx32]) hg (cellsB_one x) (by unfold maxLen; omega) (by omega) hb fun v' w' h1 h2 _ => K v' w' h1 h2
end
theorem alloc_setRow (w : World) (old cs : Array Value) (t : TypeId) : (w.alloc (.cells old t)).setRow w.heap.size cs = w.alloc (.cells cs t) := by
  have : (w.heap.push (.cells old t)).modify w.heap.size (fun o => match o with | .cells _ t fr => .cells cs t fr | o => o) = w.heap.push (.cells cs t) := by
    apply Array.ext_getElem?
    intro i
    rw [Array.getElem?_modify]
    by_cases h : w.heap.size = i
    · subst h; simp
    · rw [if_neg h, Array.getElem?_push, Array.getElem?_push, if_neg (fun e => h e.symm), if_neg (fun e => h e.symm)]
  unfold World.setRow World.alloc
  simp only
  congr 1
/-- A string of 32 bytes. -/
abbrev HB := { x : Bs // x.length = 32 }
theorem hb_h32 (l : List HB) : H32 (l.map (·.1)) := fun h hh => by obtain ⟨x, _, rfl⟩ := List.mem_map.1 hh; exact x.2
theorem outer_stopsH (m n₀ : Nat) (b0 b1 b2 : Nat) (L : List Bs) (A : Option Addr) (n c : Nat) (i j : Int) (w : World) (h0 : w.cell? ⟨b0, 0, none⟩ = some (.slice A n c)) (h1 : w.cell? ⟨b1, 0, none⟩ = some (.int .i64 i)) (h2 : w.cell? ⟨b2, 0, none⟩ = some (.int .i64 j))
    (l0 : b0 < w.heap.size) (l1 : b1 < w.heap.size) (l2 : b2 < w.heap.size) (hn₀ : n₀ ≤ w.heap.size) (hn : n = L.length) (hn1 : n ≤ 10000) (hc : n ≤ c) (i0 : -10000 ≤ i) (i1 : i ≤ 10000) (j0 : -10000 ≤ j) (j1 : j ≤ 10000) (hs : Hs w A L) (hI : InB n₀ A L) (hk : Kon w) (hz : 0 < n₀) :
    SeqStopsK Fence.wide m Tryd.prog 100 #[.pointer (some ⟨b0, 0, none⟩), .pointer (some ⟨b1, 0, none⟩), .pointer (some ⟨b2, 0, none⟩)] (fun x : HB => #[hashV x.1]) (Below n₀) (fun ys => ys.map (·.1) = visitM sha L i j) (fun pre => pre.map (·.1) <+: visitM sha L i j) (visitM sha L i j).length w := by
  intro l J Jx W hW hAJ _ hY hJ0
  refine (outer1_any m l n₀ b0 b1 b2 L A n c i j (fun pre W => ∃ p : List HB, p.map (·.1) = pre ∧ J p W) (fun pre W => ∃ p : List HB, p.map (·.1) = pre ∧ Jx p W)
    (fun pre W1 W2 ⟨p, hp, hj⟩ hB => ⟨p, hp, hAJ p W1 W2 none hj (Below.grownBy hB) (fun r e => by cases e)⟩)
    (fun pre x W1 ⟨p, hp, hj⟩ hl hx => ?_) W
    ((hW.cell (p := ⟨b0, 0, none⟩) l0).trans h0) ((hW.cell (p := ⟨b1, 0, none⟩) l1).trans h1) ((hW.cell (p := ⟨b2, 0, none⟩) l2).trans h2) hn hn1 hc i0 i1 j0 j1 (hs.low hI (hW.mono hn₀)) hI (hk.low hz (hW.mono hn₀)) hz (Nat.le_trans hn₀ hW.size) ⟨[], rfl, hJ0⟩).mono ?_
  · obtain ⟨fn, tmps, assign, body, hy, hR⟩ := hY p ⟨x, hx⟩ W1 hj (by rw [← hp, List.length_map] at hl; exact hl)
    refine ⟨fn, tmps, assign, body, hy, hR.mono ?_⟩
    rintro e W' (⟨h1, h2, h3⟩ | ⟨h1, h2⟩)
    · exact .inl ⟨h1, ⟨p ++ [⟨x, hx⟩], by rw [List.map_append, hp]; rfl, h2⟩, h3⟩
    · exact .inr ⟨h1, ⟨p ++ [⟨x, hx⟩], by rw [List.map_append, hp]; rfl, h2⟩⟩
  · rintro e W' ⟨hv, (⟨ys, rfl, p, hp, hj⟩ | ⟨pre, hpre, p, hp, hj⟩)⟩
    · exact ⟨hv, .inl ⟨p, hp, hj⟩⟩
    · exact ⟨hv, .inr ⟨p, by show p.map (·.1) <+: _; rw [hp]; exact hpre, hj⟩⟩
set_option maxRecDepth 100000 in
set_option maxHeartbeats 2000000 in
theorem appendSeq_any (b0 b1 b2 : Nat) (L : List Bs) (A : Option Addr) (n c : Nat) (i j : Int) (w : World) (h0 : w.cell? ⟨b0, 0, none⟩ = some (.slice A n c)) (h1 : w.cell? ⟨b1, 0, none⟩ = some (.int .i64 i)) (h2 : w.cell? ⟨b2, 0, none⟩ = some (.int .i64 j))
    (l0 : b0 < w.heap.size) (l1 : b1 < w.heap.size) (l2 : b2 < w.heap.size) (hn : n = L.length) (hn1 : n ≤ 10000) (hc : n ≤ c) (i0 : -10000 ≤ i) (i1 : i ≤ 10000) (j0 : -10000 ≤ j) (j1 : j ≤ 10000) (hs : Hs w A L) (hk : Kon w) (hN : (visitM sha L i j).length ≤ 1000000) :
    Calls Tryd.prog 99 #[.slice none 0 0, .func (.func 100) #[] #[.pointer (some ⟨b0, 0, none⟩), .pointer (some ⟨b1, 0, none⟩), .pointer (some ⟨b2, 0, none⟩)]] w fun e w' => ∃ v, e = .returned v ∧ OwnHs w' w.heap.size v (visitM sha L i j) ∧ Below w.heap.size w w' := by
  obtain ⟨i0', hi0, hz0, hz1, hz2⟩ := info_parts infoHash
  refine (callsIn_wide (n := 4)).1 ?_
  refine callsIn_of_wp_marks Tryd.func99 rfl trivial ?_ rfl
  simp only [Tryd.ntmps99, List.size_toArray, List.length_cons, List.length_nil, Nat.reduceAdd, Nat.reduceSub, Array.replicate_succ, Array.replicate_zero, List.push_toArray, List.append_toArray, List.nil_append, List.cons_append]
  gi_wp2_with (fail)
  obtain ⟨W0, hW0⟩ : ∃ W0, w.alloc (.cells #[.slice none 0 0] 35) = W0 := ⟨_, rfl⟩
  rw [hW0]
  have s0 : W0.heap.size = w.heap.size + 1 := by rw [← hW0]; simp
  have hB0 : Below w.heap.size w W0 := by rw [← hW0]; exact Below.new1 _ _
  have bO : Boxed W0 w.heap.size 35 (.slice none 0 0) := by rw [← hW0]; exact Boxed.new w _ _
  clear hW0
  have hIo : OwnFrom W0.heap.size (fun (pre : List HB) W => (∃ v, Boxed W w.heap.size 35 v ∧ W.ownsRow w.heap.size 30 32 v pre.length (cellsH (pre.map (·.1))) ∧ pre.length ≤ 1000000) ∧ Below w.heap.size w W) :=
    OwnFrom.and (Own.from (holdsRow_own w.heap.size w.heap.size 35 30 32 (fun pre : List HB => pre.length) (fun pre => cellsH (pre.map (·.1))) (fun pre _ => pre.length ≤ 1000000)) _) (ownFrom_below (Nat.le_refl _) (by omega))
  refine wpIn_rangeFunc_ownH (F := Fence.wide) rfl (by omega) (gf := 100) (lb := #[.pointer (some ⟨b0, 0, none⟩), .pointer (some ⟨b1, 0, none⟩), .pointer (some ⟨b2, 0, none⟩)]) rfl trivial (enters_of Tryd.func100 (by kernel_rfl) rfl)
    (outer_stopsH (4 - 1) w.heap.size b0 b1 b2 L A n c i j W0 ((hB0.cell (p := ⟨b0, 0, none⟩) l0).trans h0) ((hB0.cell (p := ⟨b1, 0, none⟩) l1).trans h1) ((hB0.cell (p := ⟨b2, 0, none⟩) l2).trans h2) (by omega) (by omega) (by omega) (by omega) hn hn1 hc i0 i1 j0 j1 (hs.next hB0) hs.inB (hk.next hB0) hk.1) belowK_t (belowK_b (by omega)) (Below.refl _ _) (fun _ => rfl)
    (fun (pre : List HB) W => (∃ v, Boxed W w.heap.size 35 v ∧ W.ownsRow w.heap.size 30 32 v pre.length (cellsH (pre.map (·.1))) ∧ pre.length ≤ 1000000) ∧ Below w.heap.size w W)
    (fun c pre' W => False)
    hIo (fun c s A B row h hg hr => h)
    ⟨⟨_, bO, World.ownsRow_nil _ _ _ _, by simp⟩, hB0⟩
    (fun x a' W => ∃ Bx, BoxH W Bx x.1 ∧ a' = { tmps := #[Value.slice none 0 0, Value.func (Fn.func 100) #[] #[Value.pointer (some ⟨b0, 0, none⟩), Value.pointer (some ⟨b1, 0, none⟩), Value.pointer (some ⟨b2, 0, none⟩)], Value.pointer (some ⟨w.heap.size, 0, none⟩), undef, Value.slice none 0 0, Value.pointer (some ⟨Bx, 0, none⟩),
       Value.func (Fn.func 100) #[] #[Value.pointer (some ⟨b0, 0, none⟩), Value.pointer (some ⟨b1, 0, none⟩), Value.pointer (some ⟨b2, 0, none⟩)], hashV x.1, undef, undef, undef, undef, undef], defers := [] })
    (fun x a' _ A B row ⟨Bx, hb, ha⟩ hg hr => ⟨Bx, (hg.block Bx (Array.getElem?_eq_some_iff.1 hb).1 (fun e => by
      obtain ⟨_, o, ho, hc⟩ := hr Bx e.symm
      rw [show A.heap[Bx]? = _ from hb] at ho; cases ho; cases hc)).trans hb, ha⟩) ?assign ?body ?done ?stop
  case assign =>
    intro l pre x W K hI hK
    dsimp only
    gi_wp2_with (refine wpListIn_skips rfl (by intro c h; cases h) (by intro c h; cases h) (exec_storeH (.tmp 5) (.tmp 7) rfl W.heap.size x.1 rfl rfl (BoxA.new W _ _ (List.replicate 32 0) _ rfl) rfl x.2) ?_)
    have e := alloc_setRow W (ints .u8 (List.replicate 32 0)) (ints .u8 (nums x.1)) 30
    change K _ (World.setRow (W.alloc (.cells (ints .u8 (List.replicate 32 0)) 30)) W.heap.size (ints .u8 (nums x.1)))
    rw [e]
    exact hK _ _ ((KeepsOthers.alloc _ _).from _) ((Below.refl _ _).alloc hI.2.size _) (OwnFrom.alloc hIo _ hI) ⟨W.heap.size, heap_alloc_new W _, rfl⟩
  case body =>
    rintro l pre x a' W hl ⟨r, hr⟩ ⟨⟨v, hv, hrow, hml⟩, hB⟩ ⟨Bx, hBx, rfl⟩ hlt
    have hc := hv.cell
    obtain ⟨A1, cap, rfl⟩ : ∃ A cap, v = .slice A pre.length cap := by
      rcases hrow.2 with ⟨h1, h2⟩ | ⟨g, cap, _, h1, _⟩
      · exact ⟨none, 0, by rw [h1, h2]⟩
      · exact ⟨_, cap, h1⟩
    gi_wp2_with (first
      | (gi_at_builtin; refine wpListIn_append_hash rfl (.tmp 8) (.tmp 10) rfl w.heap.size (.slice A1 pre.length cap) pre.length _ rfl (hrow.alloc _) W.heap.size x.1 1 rfl (cellsB_new W x.1) x.2 hml (by have := hB.size; simp; omega) ?_; intro v' w2 hown' hgrow; obtain ⟨g', cap', rfl⟩ := ownsRow_succ hown'; obtain ⟨hv1, hv2, hr2, hk2, hb2⟩ := hv.appended (by decide) hrow hB.size (Nat.le_refl _) hown' hgrow; have hc1 := hv1.cell; have hf1 := hv1.frozen)
      | (refine wpListIn_yields rfl (by intro c h; cases h) (by intro c h; cases h) (exec_load (v := hashV x.1) rfl (BoxH.load_ hBx x.2)) ?_)
      | (refine wpListIn_yields rfl (by intro c h; cases h) (by intro c h; cases h) (exec_buildH (.tmp 9) rfl x.1 rfl x.2) ?_))
    exact ⟨hk2.from _, hb2, ⟨_, hv2, by rw [List.map_append, List.length_append, show (List.map (fun x : HB => x.1) [x]) = [x.1] from rfl, cellsH_snoc]; exact hr2, by rw [List.length_append]; simp; omega⟩, hB.trans hb2⟩
  case done =>
    rintro D ys W hD hys ⟨⟨v, hv, hrow, hml⟩, hB⟩ hK
    have hc := hv.cell
    gi_wp2
    refine ⟨by simp, .inl ⟨_, _, rfl, run_takeDeferred hK, ?_⟩⟩
    refine ⟨_, results_tmp rfl _ _ _, v, rfl, ?_, hB.trans (belowK_b (w := w) (Nat.le_refl _) W D _ _ (by omega) hK rfl rfl)⟩
    rw [← hys]
    exact ⟨hb_h32 ys, by rw [List.length_map]; exact ownsRow_putObj hrow _ hK rfl⟩
  case stop =>
    rintro D c pre' W hD hpre h hK
    exact h.elim
set_option maxRecDepth 100000 in
set_option maxHeartbeats 1000000 in
theorem collect_any (b0 b1 b2 : Nat) (L : List Bs) (A : Option Addr) (n c : Nat) (i j : Int) (w : World) (h0 : w.cell? ⟨b0, 0, none⟩ = some (.slice A n c)) (h1 : w.cell? ⟨b1, 0, none⟩ = some (.int .i64 i)) (h2 : w.cell? ⟨b2, 0, none⟩ = some (.int .i64 j))
    (l0 : b0 < w.heap.size) (l1 : b1 < w.heap.size) (l2 : b2 < w.heap.size) (hn : n = L.length) (hn1 : n ≤ 10000) (hc : n ≤ c) (i0 : -10000 ≤ i) (i1 : i ≤ 10000) (j0 : -10000 ≤ j) (j1 : j ≤ 10000) (hs : Hs w A L) (hk : Kon w) (hN : (visitM sha L i j).length ≤ 1000000) :
    Calls Tryd.prog 74 #[.func (.func 100) #[] #[.pointer (some ⟨b0, 0, none⟩), .pointer (some ⟨b1, 0, none⟩), .pointer (some ⟨b2, 0, none⟩)]] w fun e w' => ∃ v, e = .returned v ∧ OwnHs w' w.heap.size v (visitM sha L i j) ∧ Below w.heap.size w w' := by
  have HA := Lib.hid (appendSeq_any b0 b1 b2 L A n c i j w h0 h1 h2 l0 l1 l2 hn hn1 hc i0 i1 j0 j1 hs hk hN)
  clear h0 h1 h2 l0 l1 l2 hn hn1 hc i0 i1 j0 j1 hs hk hN
  go_enter Tryd.func74, Tryd.ntmps74
  go_wp2_with (go_at_call 99; refine HA.out.mono ?_; rintro e w1 ⟨v, rfl, hO, hB⟩)
  go_ret
  exact ⟨v, rfl, hO, hB⟩
end
section
open Go.RowKit
theorem visitM_length (q : Nat) : ∀ (l : List Bs) (i j : Int), l.length ≤ q → (visitM sha l i j).length ≤ max 1 l.length := by
  induction q with
  | zero =>
    intro l i j h
    by_cases co : j ≤ 0 ∨ (l.length : Int) ≤ i
    · rw [visitM_out sha co]; simp; omega
    · by_cases ci : i ≤ 0 ∧ (l.length : Int) ≤ j
      · rw [visitM_in sha co ci]; simp
      · omega
  | succ q ih =>
    intro l i j h
    by_cases co : j ≤ 0 ∨ (l.length : Int) ≤ i
    · rw [visitM_out sha co]; simp; omega
    · by_cases ci : i ≤ 0 ∧ (l.length : Int) ≤ j
      · rw [visitM_in sha co ci]; simp
      · have hh := half_range (n := l.length) (by omega)
        rw [visitM_two sha co ci, List.length_append]
        have h1 := ih (l.take (half l.length)) i j (by rw [List.length_take]; omega)
        have h2 := ih (l.drop (half l.length)) (i - (half l.length : Nat)) (j - (half l.length : Nat)) (by rw [List.length_drop]; omega)
        rw [List.length_take] at h1
        rw [List.length_drop] at h2
        omega
theorem runsR_whole {L : List (Int × Int)} (g : L = [] ∨ Good L) : (runsR L 0 (Tr.total L) 4096).1 = lay 0 L := by
  rcases g with rfl | g
  · rfl
  · have h0 : 0 ≤ Tr.total L := total_nonneg g.2.1
    have e : rangesR L 0 (Tr.total L) = 0 := by unfold rangesR; rw [if_neg g.1, if_neg (by omega)]
    unfold runsR
    rw [if_pos e]
    show List.take 4096 (clipL 0 (Tr.total L) 0 L) = _
    rw [clipL_all g.2.1 (Int.le_refl _) (by omega), List.take_of_length_le]
    rw [lay_length]; have := g.2.2.2.2; omega
set_option maxRecDepth 100000 in
set_option maxHeartbeats 1000000 in
theorem all_any (w : World) (p : Option Addr) (L : List (Int × Int)) (h : Rep w p L) : Calls Tryd.prog 70 #[.agg #[.pointer p]] w fun e w' => ∃ v, e = .returned v ∧ OwnRuns w' w.heap.size v (lay 0 L) ∧ Below w.heap.size w w' := by
  have hg : L = [] ∨ Good L := by obtain ⟨T, _, _, _, hg⟩ := h; exact hg
  have hR := runsR_whole hg
  have HR := Lib.hid hR
  have HH := Lib.hid h
  clear hR hg h
  go_enter Tryd.func70, Tryd.ntmps70
  go_upto_region 1 with (fail)
  obtain ⟨w0, hW0⟩ : ∃ w0, World.alloc w (.cells #[.pointer p] 47) = w0 := ⟨_, rfl⟩
  have B0 : Below w.heap.size w w0 := hW0 ▸ Below.new1 _ _
  have x1 : Boxed w0 w.heap.size 47 (.pointer p) := hW0 ▸ Boxed.new w _ _
  have r0 := HH.out.below (B0.trans (Below.drawn w0 1 _))
  change Code.wp _ _ _ _ (World.alloc w (.cells #[.pointer p] 47))
  rw [hW0]
  have R0 := Lib.hid r0
  have KS : Hid (∀ W, Below w0.heap.size w0 W → W.cell? ⟨w.heap.size, 0, none⟩ = some (.pointer p)) := Lib.hid fun W hW => cell_kept hW x1.cell
  clear hW0 x1 r0
  go_region_held3 (fun W => W.cell? ⟨w.heap.size, 0, none⟩ = some (.pointer p))
    ((refine KS.out _ ?_; repeat' (first | with_reducible exact Below.refl _ _ | with_reducible exact b2' | with_reducible exact b1' | with_reducible refine below_drew ?_)))
    ((first
      | (go_at_call 67; refine (size_any _ p L (by exact R0.out)).mono ?_; rintro e w1 ⟨rfl, b1⟩; have b1' : Below w0.heap.size w0 w1 := Below.on ((Below.refl _ w0).drew) b1; have R1 := Lib.hid (R0.out.below b1))
      | (go_at_call 98; refine (runs_any _ p L 0 (Tr.total L) 4096 (by exact R1.out)).mono ?_; rw [HR.out]; rintro e w2 ⟨v, rfl, hO, b2⟩; have b2' : Below w0.heap.size w0 w2 := Below.on b1' b2)))
  go_wp2_with (fail)
  go_ret
  exact ⟨v, rfl, hO.mono (by have := b1'.size; have := B0.size; omega), Below.on B0 b2'⟩
theorem okL_lay {L : List (Int × Int)} (h : Tr.OkL L) : ∀ k, 0 ≤ k → ∀ x ∈ lay k L, k ≤ x.lo ∧ x.lo < x.hi ∧ x.hi ≤ k + Tr.total L ∧ 0 ≤ x.tag ∧ x.tag < 16 := by
  induction L with
  | nil => intro k _ x hx; cases hx
  | cons y L ih =>
    intro k hk x hx
    have h' := Tr.OkL.cons.1 h
    have ht := total_nonneg h'.2
    rw [Tr.total_cons]
    rcases List.mem_cons.1 hx with rfl | hx
    · have := h'.1; simp only; omega
    · have := ih h'.2 (k + y.1) (by have := h'.1; omega) x hx
      have := h'.1
      omega
theorem fit_lay {L : List (Int × Int)} (g : L = [] ∨ Good L) : ∀ x ∈ lay 0 L, Fit x := by
  rcases g with rfl | g
  · intro x hx; cases hx
  · intro x hx
    have := okL_lay g.2.1 0 (Int.le_refl _) x hx
    have := g.2.2.2.1
    unfold Fit; omega
theorem below_cellsW {w W : World} (h : Below w.heap.size w W) {b : Nat} (hb : w.heap.size ≤ b) (vs : List Value) (o : Nat) : Below w.heap.size w (W.setCells b o vs) := below_cells hb vs o h
/-- What MapRoot returns. -/
def mapRootM (L : List (Int × Int)) : Bs × Int := if L = [] then (zeroH, 1) else (sealM (Tr.total L) L.length (topM sha ((lay 0 L).map lvM)), 0)
theorem results_row2 {P : Program} {fn : Func} {p q : Tmp} {ty : TypeId} (hf : fn.results = #[.cell p ty, .tmp q]) (tmps : Array Value) (w : World) (g : Nat) (t : TypeId) (cs : Array Value) (fr : Nat × Nat) (d : TypeDesc) (v : Value)
    (hp : tmps.getD p undef = .pointer (some ⟨g, 0, none⟩)) (hq : tmps.getD q undef = v) (hg : w.heap[g]? = some (.cells cs t fr))
    (hu : P.underlying ty = some d) (hd : (match d with | .struct _ | .array _ _ => true | _ => false) = true) (hi : (P.info? ty).map (·.size) = some cs.size) :
    (results fn tmps).run P w = .ok (.tuple #[.agg cs, v]) w := by
  have hp' : tmps[p]?.getD undef = .pointer (some ⟨g, 0, none⟩) := by simpa using hp
  have hq' : tmps[q]?.getD undef = v := by simpa using hq
  simp [results, hf, hp', hq', asAddr, run_loadVar_row w g t ty cs fr d hg hu hd hi]
theorem results_hash2 {fn : Func} {p q : Tmp} (hf : fn.results = #[.cell p 30, .tmp q]) (tmps : Array Value) (w : World) (g : Nat) (h : Bs) (v : Value) (hp : tmps.getD p undef = .pointer (some ⟨g, 0, none⟩)) (hq : tmps.getD q undef = v) (hg : BoxH w g h) (hh : h.length = 32) :
    (results fn tmps).run Tryd.prog w = .ok (.tuple #[hashV h, v]) w := by
  rw [hashV_eq]
  exact results_row2 hf tmps w g 30 (ints .u8 (nums h)) (0, 0) (.array 32 5) v hp hq hg (by kernel_rfl) rfl (by rw [ints_size, nums_length, hh]; exact szHash)
set_option maxRecDepth 100000 in
set_option maxHeartbeats 2000000 in
theorem mapRoot_any (w : World) (p : Option Addr) (L : List (Int × Int)) (h : Rep w p L) (hk : Kon w) : Calls Tryd.prog 25 #[.agg #[.pointer p]] w fun e w' => e = .returned (.tuple #[hashV (mapRootM L).1, .int .i64 (mapRootM L).2]) ∧ Below w.heap.size w w' := by
  obtain ⟨w0, hW0⟩ : ∃ w0, World.alloc (World.alloc w (.cells #[.pointer p] 47)) (.cells (ints .u8 (List.replicate 32 0)) 30) = w0 := ⟨_, rfl⟩
  have B0 : Below w.heap.size w w0 := hW0 ▸ Below.on (Below.new1 _ _) (Below.new1 _ _)
  have x1 : Boxed w0 w.heap.size 47 (.pointer p) := hW0 ▸ (Boxed.new w _ _).alloc _
  have x2 : BoxA w0 (w.heap.size + 1) 30 .u8 (List.replicate 32 0) := by
    have := BoxA.new (w.alloc (.cells #[.pointer p] 47)) 30 .u8 (List.replicate 32 0) _ rfl
    rw [World.size_alloc] at this; exact hW0 ▸ this
  have HW0 := Lib.hid hW0
  have r0 := h.below B0
  have k0 := hk.next B0
  have HS := Lib.hid (size_any w0 p L r0)
  clear hW0
  by_cases hL : L = []
  · subst hL
    show Calls _ _ _ _ fun e w' => e = .returned (.tuple #[hashV zeroH, .int .i64 1]) ∧ Below w.heap.size w w'
    have sz : (Tryd.prog.info? 30).map (·.size) = some (ints .u8 (List.replicate 32 0)).size := by rw [ints_size]; exact szHash
    have KS := Lib.hid x1.cell
    clear h hk r0 k0
    go_enter Tryd.func25, Tryd.ntmps25
    go_upto_region 1 with (fail)
    change Code.wp _ _ _ _ (World.alloc (World.alloc w (.cells #[.pointer p] 47)) (.cells (ints .u8 (List.replicate 32 0)) 30))
    rw [HW0.out]
    have c1 := KS.out
    have tt : Tr.total [] = 0 := rfl
    go_wp2_with (first
      | (go_at_call 67; refine HS.out.mono ?_; rw [tt]; rintro e w1 ⟨rfl, b1⟩)
      | (refine wpList_store_row rfl 30 (.tmp 2) (.tmp 7) rfl (w.heap.size + 1) (ints .u8 (List.replicate 32 0)) rfl rfl 30 (ints .u8 (List.replicate 32 0)) (x2.next b1) sz rfl (ints_one _ _) ?_))
    exact bodyPost_ret (v := .tuple #[hashV zeroH, .int .i64 1]) (results_hash2 rfl _ _ (w.heap.size + 1) zeroH _ rfl rfl ((x2.next b1).setRow) rfl) rfl ⟨rfl, below_setRow (Below.on B0 b1) (by omega) _⟩
  · have hg : Good L := by obtain ⟨T, _, _, _, hg⟩ := h; exact hg.resolve_left hL
    have e : mapRootM L = (sealM (Tr.total L) L.length (topM sha ((lay 0 L).map lvM)), 0) := by unfold mapRootM; rw [if_neg hL]
    rw [e]
    have hgg : L = [] ∨ Good L := .inr hg
    have hfit := fit_lay hgg
    have hlen : (lay 0 L).length ≤ 4096 := by rw [lay_length]; have := hg.2.2.2.2; omega
    have htot : 0 ≤ Tr.total L ∧ Tr.total L ≤ 1099511627776 := ⟨total_nonneg hg.2.1, hg.2.2.2.1⟩
    have hll : (lay 0 L).length = L.length := lay_length 0 L
    have ht0 : 1 ≤ Tr.total L := total_pos hg.2.1 hg.1
    have hN : (L.length : Int) ≤ 4096 := hg.2.2.2.2
    obtain ⟨R, hR⟩ : ∃ R, lay 0 L = R := ⟨_, rfl⟩
    have hall := fun (W : World) (hW : Rep W p L) => all_any W p L hW
    rw [hR] at hfit hlen hll hall ⊢
    have ho : (topM sha (R.map lvM)).length = 32 := topM_length sha sha_length (h32_map R)
    have htop := fun (W : World) (A : Option Addr) (c : Nat) (hc : R.length ≤ c) (hs : Hs W A (R.map lvM)) (hk : Kon W) => top_any (R.map lvM) A R.length c W (by rw [List.length_map]) (by omega) hc hs hk
    generalize topM sha (R.map lvM) = x at *
    have hseal := fun (W : World) (hk : Kon W) => seal_any (Tr.total L) L.length x W htot.1 (by omega) (by omega) (by omega) ho hk
    have hl : (sealM (Tr.total L) L.length x).length = 32 := sha_length _
    generalize sealM (Tr.total L) L.length x = y at *
    have ne : (Tr.total L == 0) = false := by simp; omega
    have KS : Hid (∀ W, But (w.heap.size + 1) w0 W → W.cell? ⟨w.heap.size, 0, none⟩ = some (.pointer p)) := Lib.hid fun W hW => cell_but hW x1.cell (by show w.heap.size ≠ w.heap.size + 1; omega)
    have RS : Hid (∀ W, Below w0.heap.size w0 W → Rep W p L) := Lib.hid fun W hW => r0.below hW
    have OS : Hid (∀ W, Below w0.heap.size w0 W → Kon W) := Lib.hid fun W hW => k0.next hW
    have HALL := Lib.hid hall
    have HTOP := Lib.hid htop
    have HSEAL := Lib.hid hseal
    have HFIT := Lib.hid hfit
    have HL := Lib.hid hl
    have HLL := Lib.hid hll
    have szt := cellsB_size hl
    have ont := cellsB_one y
    have XL := Lib.hid (show (cellsB y).length = (List.replicate 32 (0 : Int)).length by rw [cellsB_length, hl]; rfl)
    have sz2 := x2.lt
    clear h hk r0 k0 hall htop hseal hfit hl hg hgg hll e ho hR
    simp only
    go_enter Tryd.func25, Tryd.ntmps25
    go_upto_region 1 with (fail)
    change Code.wp _ _ _ _ (World.alloc (World.alloc w (.cells #[.pointer p] 47)) (.cells (ints .u8 (List.replicate 32 0)) 30))
    rw [HW0.out]
    have c1 := x1.cell
    go_upto_region 3 with (go_at_call 67; refine HS.out.mono ?_; rintro e w1 ⟨rfl, b1⟩)
    have x2' := x2.next b1
    clear c1
    go_region_held3 (fun W => W.cell? ⟨w.heap.size, 0, none⟩ = some (.pointer p))
      ((refine KS.out _ ?_; repeat' (first | with_reducible exact But.of b1 | with_reducible exact But.of f2 | with_reducible exact But.of f3 | with_reducible exact But.of f4 | with_reducible exact But.of f5 | with_reducible exact But.of f6 | with_reducible exact But.of f7 | with_reducible refine but_drew ?_ | (with_reducible refine But.trans ?_ (But.cells _ _ _ _)))))
      ((first
        | (go_at_call 67; refine (size_any _ p L (RS.out _ (by first | exact b1.drew | exact b1))).mono ?_; rintro e w2 ⟨rfl, b2⟩; have f2 : Below w0.heap.size w0 w2 := Below.on (show Below w0.heap.size w0 w1.drew from b1.drew) b2; have g2 : Below w1.heap.size w1 w2 := Below.on (Below.refl _ w1).drew b2)
        | (go_at_call 68; refine (len_any _ p L (RS.out _ f2)).mono ?_; rintro e w3 ⟨rfl, b3⟩; have f3 := Below.on f2 b3; have g3 := Below.on g2 b3)
        | (go_at_call 70; refine (HALL.out _ (RS.out _ f3)).mono ?_; rintro e w4 ⟨v, rfl, hO, b4⟩; obtain ⟨A, c, rfl, hc, hR4⟩ := hO.runs; have f4 := Below.on f3 b4; have g4 := Below.on g3 b4)
        | (go_at_call 64; refine (hashes_any R A R.length c _ rfl hR4 HFIT.out (by omega) hc (OS.out _ f4)).mono ?_; rintro e w5 ⟨v, rfl, hO5, b5⟩; obtain ⟨A5, c5, rfl, hc5, hH5⟩ := hO5.toHs; rw [List.length_map] at hc5 ⊢; have f5 := Below.on f4 b5; have g5 := Below.on g4 b5)
        | (go_at_call 69; refine (HTOP.out _ A5 c5 hc5 hH5 (OS.out _ f5)).mono ?_; rintro e w6 ⟨rfl, b6⟩; have f6 := Below.on f5 b6; have g6 := Below.on g5 b6)
        | (go_at_call 65; refine (HSEAL.out _ (OS.out _ f6)).mono ?_; rintro e w7 ⟨rfl, b7⟩; have f7 := Below.on f6 b7; have g7 := Below.on g6 b7; have th7 := (x2'.next g7).there XL.out)))
    have y5 := BoxH.stored (x2'.next g7) rfl y HL.out
    have B7 : Below w.heap.size w (w7.setCells (w.heap.size + 1) 0 (cellsB y)) := below_cells (by omega) _ 0 (Below.on B0 f7)
    generalize World.setCells w7 (w.heap.size + 1) 0 (cellsB y) = w8 at *
    go_wp2_with (fail)
    exact bodyPost_ret (v := .tuple #[hashV y, .int .i64 0]) (results_hash2 rfl _ _ (w.heap.size + 1) y _ rfl rfl y5 HL.out) rfl ⟨rfl, B7⟩
end
section
open Go.RowKit
/-- The first run that ends behind a place. -/
def fromM (lo : Int) : List Rn → Nat
  | [] => 0
  | x :: l => if lo < x.hi then 0 else fromM lo l + 1
/-- How many runs begin ahead of a place. -/
def cntM (hi : Int) : List Rn → Nat
  | [] => 0
  | x :: l => if x.lo < hi then cntM hi l + 1 else 0
theorem fromM_le (lo : Int) (R : List Rn) : fromM lo R ≤ R.length := by
  induction R with
  | nil => exact Nat.le_refl _
  | cons x l ih => simp only [fromM]; split <;> simp <;> omega
theorem cntM_le (hi : Int) (R : List Rn) : cntM hi R ≤ R.length := by
  induction R with
  | nil => exact Nat.le_refl _
  | cons x l ih => simp only [cntM]; split <;> simp <;> omega
set_option maxRecDepth 100000 in
set_option maxHeartbeats 1000000 in
theorem range1_any (X : Rn) (b : Nat) (lo : Int) (w : World) (h : w.cell? ⟨b, 0, none⟩ = some (.int .i64 lo)) (hb : b < w.heap.size) :
    Calls Tryd.prog 72 #[encR X, .pointer (some ⟨b, 0, none⟩)] w fun e w' => e = .returned (.bool (decide (lo < X.hi))) ∧ Below w.heap.size w w' := by
  unfold encR
  go_enter Tryd.func72, Tryd.ntmps72
  go_wp2_with (fail)
  go_ret
  exact ⟨rfl, Below.new1 _ _⟩
set_option maxRecDepth 100000 in
set_option maxHeartbeats 1000000 in
theorem indexFunc_any (R : List Rn) (A : Option Addr) (n c : Nat) (b : Nat) (lo : Int) (w : World) (hn : R.length = n) (_hc : n ≤ c) (h1 : n ≤ 100000) (hR : Runs w A R) (h : w.cell? ⟨b, 0, none⟩ = some (.int .i64 lo)) (hb : b < w.heap.size) (hf : fromM lo R < n) :
    Calls Tryd.prog 71 #[.slice A n c, .func (.func 72) #[] #[.pointer (some ⟨b, 0, none⟩)]] w fun e w' => e = .returned (.int .i64 (fromM lo R : Nat)) ∧ Below w.heap.size w w' := by
  obtain ⟨F, hF⟩ : ∃ F, fromM lo R = F := ⟨_, rfl⟩
  rw [hF] at hf ⊢
  obtain ⟨a, rfl⟩ : ∃ a, A = some a := by
    rcases hR with e | ⟨a, e, _⟩
    · subst e; simp at hn; omega
    · exact ⟨a, e⟩
  have HN := Lib.hid hn
  have HF := Lib.hid hF
  have HC := Lib.hid h
  clear hn hF h
  go_enter Tryd.func71, Tryd.ntmps71
  go_wp2_with (fail)
  go_loopw [5, 8] (fun _ i W => ∃ k : Nat, k ≤ F ∧ i = .int .i64 k ∧ k + fromM lo (R.drop k) = F ∧ Below w.heap.size w W) (fun _ i _ => F - (intOf i).toNat)
  case atStart => exact ⟨0, Nat.zero_le _, rfl, by rw [List.drop_zero, Nat.zero_add]; exact HF.out, Below.refl _ _⟩
  case round =>
    obtain ⟨k, hk, rfl, hs, hB⟩ := hrel
    have hkL : k < R.length := by have := HN.out; omega
    obtain ⟨hab, g0, g1, g2⟩ := (hR.below hB).at_ hkL
    have hd : R.drop k = R[k] :: R.drop (k + 1) := List.drop_eq_getElem_cons hkL
    rw [hd] at hs
    simp only [fromM] at hs
    generalize R[k] = X at *
    have HS := Lib.hid hs
    have k0 : (0 : Int) ≤ (k : Int) := by omega
    have k1 : (k : Int) < (n : Int) := by omega
    have hr1 := fun W (hW : Below w.heap.size w W) => range1_any X b lo W (cell_kept hW HC.out) (Nat.lt_of_lt_of_le hb hW.size)
    have HR1 := Lib.hid hr1
    clear hs hd hr1
    by_cases hlt : lo < X.hi
    · have tt : decide (lo < X.hi) = true := by simpa using hlt
      have e := HS.out
      rw [if_pos hlt] at e
      obtain rfl : k = F := by omega
      go_wp2_with (go_at_call 72; refine (HR1.out _ hB).mono ?_; rw [tt]; rintro e w1 ⟨rfl, b1⟩)
      go_ret
      exact ⟨rfl, Below.on hB b1⟩
    · have tt : decide (lo < X.hi) = false := by simpa using hlt
      have e := HS.out
      rw [if_neg hlt] at e
      have E := Lib.hid e
      clear e
      go_wp2_with (go_at_call 72; refine (HR1.out _ hB).mono ?_; rw [tt]; rintro e w1 ⟨rfl, b1⟩)
      have e := E.out
      exact ⟨⟨k + 1, by omega, by go_num, by omega, Below.on hB b1⟩, by simp [intOf]; omega⟩
set_option maxRecDepth 100000 in
set_option maxHeartbeats 1000000 in
theorem clone_any (L : List Rn) (A : Option Addr) (n c : Nat) (w : World) (hn : L.length = n) (h0 : 0 < n) (_hc : n ≤ c) (h1 : n ≤ 100000) (hL : Runs w A L) :
    Calls Tryd.prog 73 #[.slice A n c] w fun e w' => ∃ v, e = .returned v ∧ OwnRuns w' w.heap.size v L ∧ Below w.heap.size w w' := by
  obtain ⟨a, rfl⟩ : ∃ a, A = some a := by
    rcases hL with e | ⟨a, e, _⟩
    · subst e; simp at hn; omega
    · exact ⟨a, e⟩
  obtain ⟨i0, hi0, hz0, hz1, hz2⟩ := info_parts infoRun
  have hN := Lib.hid (OwnRuns.empty w)
  have hLr : Hid (∀ j u, (cellsR L)[j]? = some u → (w.alloc (.cells #[] 34)).cell? (a.add j) = some u) := cells_of_runs (hL.below (Below.alloc1 w _))
  have hLn : Hid ((cellsR L).length = n * 3) := by show _ = _; rw [cellsR_length, hn]
  have HN := Lib.hid hn
  have qn : ∀ W, (binOp .eql 41 (.slice (some a) n c) (.slice none 0 0)).run Tryd.prog W = .ok (.bool false) W := fun W => Lib.run_eql_slice_nil (P := Tryd.prog) W _ _ (some a) n c 0 0 Tryd.underlying41
  clear hn hL
  go_enter Tryd.func73, Tryd.ntmps73
  go_wp2_with (at_builtin; (refine wpList_append_own _ rfl _ _ 41 rfl w.heap.size 34 i0 (.agg #[.int .i64 0, .int .i64 0, .int .i64 0]) 3 24 Tryd.underlying41 hi0 hz0 hz1 hz2 rfl (by decide) _ _ _ rfl hN.out a n c (cellsR L) rfl hLn.out hLr.out (cellsR_one L) (by unfold maxLen; omega) (by omega) (by rw [World.size_alloc]; omega) ?_); intro v' w1 hown hgrow _; have hBx : Below w.heap.size w w1 := Below.grown_ hgrow; have hO := OwnRuns.of_empty HN.out hown)
  go_ret
  exact ⟨_, rfl, hO, hBx⟩
end
end Go.Proofs.YtcocengpekndjaaDoor
