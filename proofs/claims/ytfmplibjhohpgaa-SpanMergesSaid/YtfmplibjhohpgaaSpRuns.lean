/- Lists of runs in memory: slices of api.Run. -/
import Derived.Test.YtfmplibjhohpgaaSpCat
namespace Go.Proofs.Ytfmplibjhohpgaa
open Go.RowKit

/-- A run: the pieces from lo to hi - 1 with a tag. -/
structure Rn where
  lo : Int
  hi : Int
  tag : Int
theorem Rn.ext_ {x y : Rn} (h1 : x.lo = y.lo) (h2 : x.hi = y.hi) (h3 : x.tag = y.tag) : x = y := by cases x; cases y; simp_all
/-- The three cells of a run. -/
def RunAt (w : World) (e : Addr) (x : Rn) : Prop :=
  w.cell? e = some (.int .i64 x.lo) ∧ w.cell? ⟨e.block, e.off + 1, none⟩ = some (.int .i64 x.hi) ∧ w.cell? ⟨e.block, e.off + 2, none⟩ = some (.int .i64 x.tag)
/-- A slice with the address A holds the runs L, in blocks below n₀. -/
def RunsIn (n₀ : Nat) (w : World) (A : Option Addr) (L : List Rn) : Prop :=
  L = [] ∨ ∃ a : Addr, A = some a ∧ a.block < n₀ ∧ ∀ i (h : i < L.length), RunAt w (a.add (i * 3)) L[i]
theorem add_block (a : Addr) (n : Nat) : (a.add n).block = a.block := by unfold Addr.add; split <;> rfl
theorem add_add' (a : Addr) (i j : Nat) : (a.add i).add j = a.add (i + j) := by
  unfold Addr.add
  by_cases hi : i = 0 <;> by_cases hj : j = 0 <;> simp [hi, hj, Nat.add_assoc]
theorem RunAt.below {n₀ : Nat} {w w' : World} (hB : Below n₀ w w') {e : Addr} {x : Rn} (he : e.block < n₀) (h : RunAt w e x) : RunAt w' e x :=
  ⟨(hB.cell he).trans h.1, (hB.cell (p := ⟨e.block, e.off + 1, none⟩) he).trans h.2.1, (hB.cell (p := ⟨e.block, e.off + 2, none⟩) he).trans h.2.2⟩
theorem RunsIn.below {n₀ : Nat} {w w' : World} (hB : Below n₀ w w') {A : Option Addr} {L : List Rn} (h : RunsIn n₀ w A L) : RunsIn n₀ w' A L := by
  rcases h with h | ⟨a, rfl, hb, h⟩
  · exact .inl h
  · exact .inr ⟨a, rfl, hb, fun i hi => (h i hi).below hB (by rw [add_block]; exact hb)⟩
theorem RunsIn.mono {n n' : Nat} {w : World} (hn : n ≤ n') {A : Option Addr} {L : List Rn} (h : RunsIn n w A L) : RunsIn n' w A L := by
  rcases h with h | ⟨a, rfl, hb, h⟩
  · exact .inl h
  · exact .inr ⟨a, rfl, by omega, h⟩
/-- A slice with the address A holds the runs L. -/
def Runs (w : World) (A : Option Addr) (L : List Rn) : Prop := RunsIn w.heap.size w A L
theorem Runs.below {w w' : World} (hB : Below w.heap.size w w') {A : Option Addr} {L : List Rn} (h : Runs w A L) : Runs w' A L := (RunsIn.below hB h).mono hB.size
theorem Runs.drewN {w : World} {A : Option Addr} {L : List Rn} (h : Runs w A L) (n : Nat) : Runs (w.drewN n) A L := h.below (Quiet.below ⟨n, rfl⟩ _)
theorem Runs.take {w : World} {A : Option Addr} {L : List Rn} (h : Runs w A L) (k : Nat) : Runs w A (L.take k) := by
  rcases h with h | ⟨a, rfl, hb, h⟩
  · exact .inl (by rw [h]; simp)
  · exact .inr ⟨a, rfl, hb, fun i hi => by rw [List.getElem_take]; exact h i (by rw [List.length_take] at hi; omega)⟩
theorem Runs.cut {w : World} {a : Addr} {L : List Rn} (h : Runs w (some a) L) (k c : Nat) (hc : L.length ≤ c) : Runs w (if c = k then some a else some (a.add (k * 3))) (L.drop k) := by
  rcases h with h | ⟨a', ha, hb, h⟩
  · exact .inl (by rw [h]; simp)
  · cases ha
    by_cases hk : c = k
    · exact .inl (List.drop_eq_nil_of_le (by omega))
    · rw [if_neg hk]
      refine .inr ⟨_, rfl, by rw [add_block]; exact hb, fun i hi => ?_⟩
      rw [List.getElem_drop, add_add']
      have := h (k + i) (by rw [List.length_drop] at hi; omega)
      rw [Nat.add_mul] at this; exact this
theorem Runs.at_ {w : World} {a : Addr} {L : List Rn} (h : Runs w (some a) L) {i : Nat} (hi : i < L.length) : a.block < w.heap.size ∧ RunAt w (a.add (i * 3)) L[i] := by
  rcases h with h | ⟨a', ha, hb, h⟩
  · rw [h] at hi; simp at hi
  · cases ha; exact ⟨hb, h i hi⟩
/-- The length and the tag of each run. -/
def segs (L : List Rn) : List (Int × Int) := L.map fun x => (x.hi - x.lo, x.tag)
theorem segs_length (L : List Rn) : (segs L).length = L.length := by simp [segs]
/-- The runs have bounds, and tags. -/
def Fine (L : List Rn) : Prop := ∀ x ∈ L, 0 ≤ x.lo ∧ x.lo < x.hi ∧ x.hi ≤ 1099511627776 ∧ 0 ≤ x.tag ∧ x.tag < 16
theorem Fine.ok {L : List Rn} (h : Fine L) : Tr.OkL (segs L) := by
  intro s hs
  obtain ⟨x, hx, rfl⟩ := List.mem_map.1 hs
  have := h x hx
  exact ⟨by simp; omega, this.2.2.2.1, this.2.2.2.2⟩
theorem Fine.take {L : List Rn} (h : Fine L) (k : Nat) : Fine (L.take k) := fun x hx => h x (List.mem_of_mem_take hx)
theorem Fine.drop {L : List Rn} (h : Fine L) (k : Nat) : Fine (L.drop k) := fun x hx => h x (List.mem_of_mem_drop hx)

/-- What build does with lists of at most n runs. -/
def BD (n : Nat) : Prop := ∀ (L : List Rn) (w : World) (A : Option Addr) (c : Nat), L.length ≤ n → L.length ≤ 1000000 → L.length ≤ c → Runs w A L → Fine L → Tr.total (segs L) ≤ 1099511627776 →
    Calls Try.prog 53 #[.slice A L.length c] w fun e w' => ∃ p, e = .returned (.pointer p) ∧ Tree w' p (Tr.bld n (segs L)) ∧ Below w.heap.size w w'
set_option maxRecDepth 100000 in
set_option maxHeartbeats 1000000 in
theorem build_nil (w : World) (A : Option Addr) (c : Nat) :
    Calls Try.prog 53 #[.slice A 0 c] w fun e w' => ∃ p, e = .returned (.pointer p) ∧ Tree w' p .nil ∧ Below w.heap.size w w' := by
  go_enter Try.func53, Try.ntmps53
  go_wp2_with (fail)
  go_ret
  exact ⟨_, rfl, rfl, Below.refl _ _⟩
set_option maxRecDepth 100000 in
set_option maxHeartbeats 2000000 in
theorem build_stepN (k : Nat) (ih : BD k) (M R : List Rn) (x : Rn) (w : World) (a : Addr) (n c m : Nat) (hn : 0 < n) (hc : n ≤ c) (hm : n ≤ 1000000) (hmm : n / 2 = m) (hcm : ¬ c = m + 1)
    (eM : M.length = m) (eR : R.length = n - (m + 1)) (kM : M.length ≤ k) (kR : R.length ≤ k) (hb : a.block < w.heap.size) (hx : RunAt w (a.add (m * 3)) x)
    (hM : Runs w (some a) M) (hR : Runs w (some (a.add ((m + 1) * 3))) R) (fM : Fine M) (fR : Fine R) (fx : 0 ≤ x.lo ∧ x.lo < x.hi ∧ x.hi ≤ 1099511627776 ∧ 0 ≤ x.tag ∧ x.tag < 16)
    (ht : Tr.total (segs M) + Tr.total (segs R) + (x.hi - x.lo) ≤ 1099511627776) :
    Calls Try.prog 53 #[.slice (some a) n c] w fun e w' => ∃ q, e = .returned (.pointer q) ∧ Tree w' q (.node (Tr.bld k (segs M)) (x.hi - x.lo) x.tag (Tr.bld k (segs R))) ∧ Below w.heap.size w w' := by
  have hl : ((n : Int) == 0) = false := by simp; omega
  have e1 : ((n : Int) / 2) = (m : Int) := by omega
  have l1 : (0 : Int) ≤ (m : Int) := by omega
  have l2 : (m : Int) < (n : Int) := by omega
  have l3 : (m : Int) ≤ (c : Int) := by omega
  have l4 : (m : Int) + 1 ≤ (n : Int) := by omega
  have l5 : (n : Int) ≤ (c : Int) := by omega
  have l6 : 0 ≤ (m : Int) + 1 := by omega
  have l7 : (n : Int) ≤ 1000000 := by omega
  have i1 : IntKind.i64.wrap ((m : Int) + 1) = (m : Int) + 1 := IntWalk.i64_in _ (by omega)
  have i2 : ((m : Int) + 1).toNat = m + 1 := by omega
  obtain ⟨f0, f1, f2⟩ := hx
  obtain ⟨x1, x2, x3, x4, x5⟩ := fx
  have i3 : IntKind.i64.wrap (x.hi - x.lo) = x.hi - x.lo := IntWalk.i64_in _ (by omega)
  obtain ⟨g1, g2, _⟩ := Tr.bld_facts k (segs M) (by rw [segs_length]; exact kM)
  obtain ⟨g3, g4, _⟩ := Tr.bld_facts k (segs R) (by rw [segs_length]; exact kR)
  have p1 : (Tr.bld k (segs M)).pcs = Tr.total (segs M) := by rw [Tr.pcs_list, g1]
  have p2 : (Tr.bld k (segs R)).pcs = Tr.total (segs R) := by rw [Tr.pcs_list, g3]
  have oM : (Tr.bld k (segs M)).Ok := by rw [Tr.ok_list, g1]; exact fM.ok
  have oR : (Tr.bld k (segs R)).Ok := by rw [Tr.ok_list, g3]; exact fR.ok
  have t1 := total_nonneg fM.ok
  have t2 := total_nonneg fR.ok
  have EM := Lib.hid eM
  have ER := Lib.hid eR
  have P1 := Lib.hid p1
  have P2 := Lib.hid p2
  have hb0 : (a.add (m * 3)).block < w.heap.size := by rw [add_block]; exact hb
  clear hmm eM eR g1 g3 p1 p2
  go_enter Try.func53, Try.ntmps53
  go_wp2_with (fail)
  have tok1 : True := trivial
  go_region_held3 (fun W => W.cell? (a.add (m * 3)) = some (.int .i64 x.lo) ∧ W.cell? ⟨(a.add (m * 3)).block, (a.add (m * 3)).off + 1, none⟩ = some (.int .i64 x.hi) ∧ W.cell? ⟨(a.add (m * 3)).block, (a.add (m * 3)).off + 2, none⟩ = some (.int .i64 x.tag))
    (first | (exact ⟨f0, f1, f2⟩) | (exact (RunAt.below hB1 hb0 ⟨f0, f1, f2⟩)) | (exact (RunAt.below hB2 hb0 ⟨f0, f1, f2⟩)) | (exact (RunAt.below hB3 hb0 ⟨f0, f1, f2⟩)))
    ((first
      | (go_at_call 53; have _t := tok1; clear tok1; have hi := ih M w.drew (some a) c kM (by have := EM.out; omega) (by have := EM.out; omega) (by exact Runs.drewN hM 1) fM (by omega); rw [EM.out] at hi; refine hi.mono ?_; clear hi; rintro e w1 ⟨pM, rfl, htM, hb1⟩; have hB1 : Below w.heap.size w w1 := Below.of_drew hb1)
      | (go_at_call 53; have hi := ih R w1 (some (a.add ((m + 1) * 3))) (c - (m + 1)) kR (by have := ER.out; omega) (by have := ER.out; omega) (by exact Runs.below hB1 hR) fR (by omega); rw [ER.out] at hi; refine hi.mono ?_; clear hi; rintro e w2 ⟨pR, rfl, htR, hb2⟩; have hB2 : Below w.heap.size w w2 := Below.next hB1 hb2)
      | (go_at_call 78; refine (link_any w2 pM pR (x.hi - x.lo) x.tag (Tr.bld k (segs M)) (Tr.bld k (segs R)) (by exact htM.below hb2) (by exact htR) (by omega) x4 x5 oM oR (by rw [P1.out, P2.out]; omega)).mono ?_; rintro e w3 ⟨pN, rfl, htN, hb3⟩; have hB3 : Below w.heap.size w w3 := Below.next hB2 hb3)))
  go_wp2_with (fail)
  go_ret
  exact ⟨_, rfl, htN, hB3⟩
set_option maxRecDepth 100000 in
set_option maxHeartbeats 2000000 in
theorem build_stepP (k : Nat) (ih : BD k) (M : List Rn) (x : Rn) (w : World) (a : Addr) (n c m : Nat) (hn : 0 < n) (hc : n ≤ c) (hm : n ≤ 1000000) (hmm : n / 2 = m) (hmc : m + 1 = c)
    (eM : M.length = m) (kM : M.length ≤ k) (hb : a.block < w.heap.size) (hx : RunAt w (a.add (m * 3)) x)
    (hM : Runs w (some a) M) (fM : Fine M) (fx : 0 ≤ x.lo ∧ x.lo < x.hi ∧ x.hi ≤ 1099511627776 ∧ 0 ≤ x.tag ∧ x.tag < 16)
    (ht : Tr.total (segs M) + (x.hi - x.lo) ≤ 1099511627776) :
    Calls Try.prog 53 #[.slice (some a) n c] w fun e w' => ∃ q, e = .returned (.pointer q) ∧ Tree w' q (.node (Tr.bld k (segs M)) (x.hi - x.lo) x.tag .nil) ∧ Below w.heap.size w w' := by
  have hl : ((n : Int) == 0) = false := by simp; omega
  have e1 : ((n : Int) / 2) = (m : Int) := by omega
  have l1 : (0 : Int) ≤ (m : Int) := by omega
  have l2 : (m : Int) < (n : Int) := by omega
  have l3 : (m : Int) ≤ (c : Int) := by omega
  have l4 : (m : Int) + 1 ≤ (n : Int) := by omega
  have l5 : (n : Int) ≤ (c : Int) := by omega
  have l6 : 0 ≤ (m : Int) + 1 := by omega
  have l7 : (n : Int) ≤ 1000000 := by omega
  have i1 : IntKind.i64.wrap ((m : Int) + 1) = (m : Int) + 1 := IntWalk.i64_in _ (by omega)
  have i2 : ((m : Int) + 1).toNat = m + 1 := by omega
  obtain ⟨f0, f1, f2⟩ := hx
  obtain ⟨x1, x2, x3, x4, x5⟩ := fx
  have i3 : IntKind.i64.wrap (x.hi - x.lo) = x.hi - x.lo := IntWalk.i64_in _ (by omega)
  obtain ⟨g1, g2, _⟩ := Tr.bld_facts k (segs M) (by rw [segs_length]; exact kM)
  have p1 : (Tr.bld k (segs M)).pcs = Tr.total (segs M) := by rw [Tr.pcs_list, g1]
  have oM : (Tr.bld k (segs M)).Ok := by rw [Tr.ok_list, g1]; exact fM.ok
  have t1 := total_nonneg fM.ok
  have EM := Lib.hid eM
  have P1 := Lib.hid p1
  have hb0 : (a.add (m * 3)).block < w.heap.size := by rw [add_block]; exact hb
  clear hmm eM g1 p1
  go_enter Try.func53, Try.ntmps53
  go_wp2_with (fail)
  have tok1 : True := trivial
  go_region_held3 (fun W => W.cell? (a.add (m * 3)) = some (.int .i64 x.lo) ∧ W.cell? ⟨(a.add (m * 3)).block, (a.add (m * 3)).off + 1, none⟩ = some (.int .i64 x.hi) ∧ W.cell? ⟨(a.add (m * 3)).block, (a.add (m * 3)).off + 2, none⟩ = some (.int .i64 x.tag))
    (first | (exact ⟨f0, f1, f2⟩) | (exact (RunAt.below hB1 hb0 ⟨f0, f1, f2⟩)) | (exact (RunAt.below hB2 hb0 ⟨f0, f1, f2⟩)) | (exact (RunAt.below hB3 hb0 ⟨f0, f1, f2⟩)))
    ((first
      | (go_at_call 53; have _t := tok1; clear tok1; have hi := ih M w.drew (some a) c kM (by have := EM.out; omega) (by have := EM.out; omega) (by exact Runs.drewN hM 1) fM (by omega); rw [EM.out] at hi; refine hi.mono ?_; clear hi; rintro e w1 ⟨pM, rfl, htM, hb1⟩; have hB1 : Below w.heap.size w w1 := Below.of_drew hb1)
      | (go_at_call 53; refine (build_nil w1 (some a) 0).mono ?_; rintro e w2 ⟨pR, rfl, htR, hb2⟩; have hB2 : Below w.heap.size w w2 := Below.next hB1 hb2)
      | (go_at_call 78; refine (link_any w2 pM pR (x.hi - x.lo) x.tag (Tr.bld k (segs M)) (.nil) (by exact htM.below hb2) (by exact htR) (by omega) x4 x5 oM trivial (by rw [P1.out]; simp only [Tr.pcs]; omega)).mono ?_; rintro e w3 ⟨pN, rfl, htN, hb3⟩; have hB3 : Below w.heap.size w w3 := Below.next hB2 hb3)))
  go_wp2_with (fail)
  go_ret
  exact ⟨_, rfl, htN, hB3⟩
theorem build_any : ∀ n : Nat, BD n
  | 0 => fun L w A c h0 _ _ _ _ _ => by
    obtain rfl : L = [] := List.eq_nil_of_length_eq_zero (by omega)
    exact build_nil w A c
  | k + 1 => fun L w A c h0 h1 h2 hL fL ht => by
    have ih := build_any k
    by_cases hz : L.length = 0
    · obtain rfl : L = [] := List.eq_nil_of_length_eq_zero hz
      have e : Tr.bld (k + 1) (segs []) = .nil := by simp [segs, Tr.bld]
      rw [e]; exact build_nil w A c
    · have hlt : L.length / 2 < L.length := by omega
      have hlt' : (segs L).length / 2 < (segs L).length := by rw [segs_length]; exact hlt
      obtain ⟨a, rfl⟩ : ∃ a, A = some a := by
        rcases hL with h | ⟨a, h, _⟩
        · rw [h] at hz; simp at hz
        · exact ⟨a, h⟩
      obtain ⟨hb, hx⟩ := hL.at_ hlt
      have fx := fL _ (List.getElem_mem hlt)
      have e : Tr.bld (k + 1) (segs L) = .node (Tr.bld k (segs (L.take (L.length / 2)))) (L[L.length / 2].hi - L[L.length / 2].lo) L[L.length / 2].tag (Tr.bld k (segs (L.drop (L.length / 2 + 1)))) := by
        simp only [Tr.bld]
        rw [dif_pos hlt']
        simp only [segs, List.length_map, List.getElem_map, List.map_take, List.map_drop]
      have hsum : Tr.total (segs (L.take (L.length / 2))) + Tr.total (segs (L.drop (L.length / 2 + 1))) + (L[L.length / 2].hi - L[L.length / 2].lo) = Tr.total (segs L) := by
        have h := List.take_append_drop (L.length / 2) L
        rw [List.drop_eq_getElem_cons hlt] at h
        have h' : segs L = segs (L.take (L.length / 2)) ++ (L[L.length / 2].hi - L[L.length / 2].lo, L[L.length / 2].tag) :: segs (L.drop (L.length / 2 + 1)) := by
          simp only [segs]; rw [← List.map_cons (f := fun x : Rn => (x.hi - x.lo, x.tag)), ← List.map_append, h]
        rw [h', Tr.total_append, Tr.total_cons]; omega
      have hR := hL.cut (L.length / 2 + 1) c h2
      rw [e]
      by_cases hcm : c = L.length / 2 + 1
      · rw [if_pos hcm] at hR
        have hd : L.drop (L.length / 2 + 1) = [] := List.drop_eq_nil_of_le (by omega)
        have hb0 : Tr.bld k (segs (L.drop (L.length / 2 + 1))) = .nil := by rw [hd]; cases k <;> simp [segs, Tr.bld]
        rw [hb0]
        rw [hd, show Tr.total (segs []) = 0 from rfl] at hsum
        exact build_stepP k ih _ _ w a L.length c (L.length / 2) (by omega) h2 h1 rfl hcm.symm (by simp; omega) (by simp; omega) hb hx (hL.take _) (fL.take _) fx (by omega)
      · rw [if_neg hcm] at hR
        exact build_stepN k ih _ _ _ w a L.length c (L.length / 2) (by omega) h2 h1 rfl hcm (by simp; omega) (by simp) (by simp; omega) (by simp; omega) hb hx (hL.take _) hR (fL.take _) (fL.drop _) fx (by omega)
end Go.Proofs.Ytfmplibjhohpgaa
