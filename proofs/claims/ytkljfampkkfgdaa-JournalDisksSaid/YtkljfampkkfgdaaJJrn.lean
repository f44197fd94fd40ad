/- The journal layer: a journal in memory; the walks over what asks it. -/
import Derived.Test.YtkljfampkkfgdaaJSure
namespace Go.Proofs.Ytkljfampkkfgdaa
open Go.RowKit
/-- A journal, as a plain value. -/
structure Jn where
  own : Int
  broken : Bool
  ep : Int
  reg : Int
  st : Bs
  recs : List Bs
  dur : Nat
  used : Nat
/-- The journal J lies in block jb, on the disk in block dk; its records are v. -/
structure JB (W : World) (jb dk : Nat) (v : Value) (J : Jn) : Prop where
  head : W.heap[jb]? = some (.cells #[.pointer (some ⟨dk, 0, none⟩), .int .i64 J.own, .bool J.broken, .int .i64 J.ep, .int .i64 J.reg, .string ⟨J.st.toArray⟩, v, .int .i64 (J.dur : Nat), .int .i64 (J.used : Nat)] 85 (0, 0))
  own : OwnStrs W 0 v J.recs
  far : ∀ g, v.ownBlock = some g → g ≠ jb
def Fj (jb : Nat) (v : Value) (i : Nat) : Prop := i = jb ∨ v.ownBlock = some i
def JAt (W : World) (jb dk : Nat) (J : Jn) (G : Nat → Prop) : Prop := ∃ v, JB W jb dk v J ∧ G = Fj jb v
theorem OwnStrs.kept {w w' : World} {base : Nat} {v : Value} {l : List Bs} (h : OwnStrs w base v l) (hk : ∀ g, v.ownBlock = some g → w'.heap[g]? = w.heap[g]?) : OwnStrs w' base v l := by
  obtain ⟨h1, h2⟩ := h
  refine ⟨h1, ?_⟩
  rcases h2 with h2 | ⟨g, cap, cur, e, hg, hh, r⟩
  · exact .inl h2
  · exact .inr ⟨g, cap, cur, e, hg, (hk g (by rw [e]; rfl)).trans hh, r⟩
theorem OwnStrs.lt {w : World} {base : Nat} {v : Value} {l : List Bs} (h : OwnStrs w base v l) {g : Nat} (hg : v.ownBlock = some g) : g < w.heap.size := (World.ownsRow.lt h g hg).2
section
variable {W W' : World} {jb dk : Nat} {v : Value} {J : Jn} {G F : Nat → Prop} {D : Dk}
theorem JB.kept (h : JB W jb dk v J) (hk : ∀ i, Fj jb v i → W'.heap[i]? = W.heap[i]?) : JB W' jb dk v J :=
  ⟨(hk jb (.inl rfl)).trans h.head, h.own.kept fun g hg => hk g (.inr hg), h.far⟩
theorem JB.lt (h : JB W jb dk v J) : ∀ i, Fj jb v i → i < W.heap.size := by
  rintro i (rfl | hg)
  · exact (Array.getElem?_eq_some_iff.1 h.head).1
  · exact h.own.lt hg
theorem JB.next (h : JB W jb dk v J) (hB : Below W.heap.size W W') : JB W' jb dk v J := h.kept fun i hi => hB.block i (h.lt i hi)
theorem JAt.next (h : JAt W jb dk J G) (hB : Below W.heap.size W W') : JAt W' jb dk J G := by
  obtain ⟨v, h, e⟩ := h
  exact ⟨v, h.next hB, e⟩
theorem JAt.lt (h : JAt W jb dk J G) : ∀ i, G i → i < W.heap.size := by
  obtain ⟨v, h, rfl⟩ := h
  exact h.lt
theorem JAt.but {H : Nat → Prop} (h : JAt W jb dk J G) (hB : ButS H W W') (hG : ∀ i, G i → ¬ H i) : JAt W' jb dk J G := by
  obtain ⟨v, h, rfl⟩ := h
  exact ⟨v, h.kept fun i hi => hB.block i (h.lt i hi) (hG i hi), rfl⟩
theorem JAt.self (h : JAt W jb dk J G) : G jb := by
  obtain ⟨v, h, rfl⟩ := h
  exact .inl rfl
theorem JB.f (h : JB W jb dk v J) (i : Nat) : W.frozen? ⟨jb, i, none⟩ = false := by have := h.head; simp [World.frozen?, this]
theorem JB.c0 (h : JB W jb dk v J) : W.cell? ⟨jb, 0, none⟩ = some (.pointer (some ⟨dk, 0, none⟩)) := (cell_of_row W jb 0 _ _ _ h.head).trans rfl
theorem JB.c1 (h : JB W jb dk v J) : W.cell? ⟨jb, 1, none⟩ = some (.int .i64 J.own) := (cell_of_row W jb 1 _ _ _ h.head).trans rfl
theorem JB.c2 (h : JB W jb dk v J) : W.cell? ⟨jb, 2, none⟩ = some (.bool J.broken) := (cell_of_row W jb 2 _ _ _ h.head).trans rfl
theorem JB.c3 (h : JB W jb dk v J) : W.cell? ⟨jb, 3, none⟩ = some (.int .i64 J.ep) := (cell_of_row W jb 3 _ _ _ h.head).trans rfl
theorem JB.c4 (h : JB W jb dk v J) : W.cell? ⟨jb, 4, none⟩ = some (.int .i64 J.reg) := (cell_of_row W jb 4 _ _ _ h.head).trans rfl
theorem JB.c5 (h : JB W jb dk v J) : W.cell? ⟨jb, 5, none⟩ = some (.string ⟨J.st.toArray⟩) := (cell_of_row W jb 5 _ _ _ h.head).trans rfl
theorem JB.c6 (h : JB W jb dk v J) : W.cell? ⟨jb, 6, none⟩ = some v := (cell_of_row W jb 6 _ _ _ h.head).trans rfl
theorem JB.c7 (h : JB W jb dk v J) : W.cell? ⟨jb, 7, none⟩ = some (.int .i64 (J.dur : Nat)) := (cell_of_row W jb 7 _ _ _ h.head).trans rfl
theorem JB.c8 (h : JB W jb dk v J) : W.cell? ⟨jb, 8, none⟩ = some (.int .i64 (J.used : Nat)) := (cell_of_row W jb 8 _ _ _ h.head).trans rfl
/-- Only the journal's own block has changed, the records not. -/
theorem JB.setBroken (h : JB W jb dk v J) (b : Bool) : JB (W.setCell ⟨jb, 2, none⟩ (.bool b)) jb dk v { J with broken := b } := by
  refine ⟨?_, h.own.kept fun g hg => Below.heap_setCell _ _ _ _ (h.far g hg), h.far⟩
  have := h.head
  simp [World.setCell, Array.getElem?_modify, this]
theorem JB.setDur (h : JB W jb dk v J) (n : Nat) : JB (W.setCell ⟨jb, 7, none⟩ (.int .i64 (n : Int))) jb dk v { J with dur := n } := by
  refine ⟨?_, h.own.kept fun g hg => Below.heap_setCell _ _ _ _ (h.far g hg), h.far⟩
  have := h.head
  simp [World.setCell, Array.getElem?_modify, this]
theorem JB.setUsed (h : JB W jb dk v J) (n : Nat) : JB (W.setCell ⟨jb, 8, none⟩ (.int .i64 (n : Int))) jb dk v { J with used := n } := by
  refine ⟨?_, h.own.kept fun g hg => Below.heap_setCell _ _ _ _ (h.far g hg), h.far⟩
  have := h.head
  simp [World.setCell, Array.getElem?_modify, this]
theorem JB.setRecs (h : JB W jb dk v J) {v' : Value} {l : List Bs} (ho : OwnStrs W 0 v' l) (hf : ∀ g, v'.ownBlock = some g → g ≠ jb) : JB (W.setCell ⟨jb, 6, none⟩ v') jb dk v' { J with recs := l } := by
  refine ⟨?_, ho.kept fun g hg => Below.heap_setCell _ _ _ _ (hf g hg), hf⟩
  have := h.head
  simp [World.setCell, Array.getElem?_modify, this]
set_option maxRecDepth 100000 in
set_option maxHeartbeats 400000 in
theorem jusable_any (h : JAt W jb dk J G) : Calls Try.prog 43 #[.pointer (some ⟨jb, 0, none⟩)] W fun e w' => e = .returned (.bool true) ∧ w' = W := by
  obtain ⟨v, h, rfl⟩ := h
  have c0 := h.c0
  clear h
  go_enter Try.func43, Try.ntmps43
  go_wp2_with (fail)
  go_ret
  exact ⟨rfl, rfl⟩
theorem jusable_nil (W : World) : Calls Try.prog 43 #[.pointer none] W fun e w' => e = .returned (.bool false) ∧ w' = W := by
  go_enter Try.func43, Try.ntmps43
  go_wp2_with (fail)
  go_ret
  exact ⟨rfl, rfl⟩
set_option maxRecDepth 100000 in
set_option maxHeartbeats 400000 in
theorem jstate_any (h : JAt W jb dk J G) : Calls Try.prog 31 #[.pointer (some ⟨jb, 0, none⟩)] W fun e w' => e = .returned (.string ⟨J.st.toArray⟩) ∧ w' = W := by
  have hu := jusable_any h
  obtain ⟨v, h, rfl⟩ := h
  have c5 := h.c5
  clear h
  go_enter Try.func31, Try.ntmps31
  go_wp2_with (go_at_call 43; refine hu.mono ?_; rintro x w2 ⟨rfl, hw2⟩; obtain rfl := hw2.symm)
  go_ret
  exact ⟨rfl, rfl⟩
theorem jstate_nil (W : World) : Calls Try.prog 31 #[.pointer none] W fun e w' => e = .returned (.string ⟨([] : Bs).toArray⟩) ∧ w' = W := by
  go_enter Try.func31, Try.ntmps31
  go_wp2_with (go_at_call 43; refine (jusable_nil _).mono ?_; rintro x w2 ⟨rfl, hw2⟩; obtain rfl := hw2.symm)
  go_ret
  exact ⟨rfl, rfl⟩
set_option maxRecDepth 100000 in
set_option maxHeartbeats 400000 in
theorem jdurable_any (h : JAt W jb dk J G) : Calls Try.prog 19 #[.pointer (some ⟨jb, 0, none⟩)] W fun e w' => e = .returned (.int .i64 (J.dur : Nat)) ∧ w' = W := by
  have hu := jusable_any h
  obtain ⟨v, h, rfl⟩ := h
  have c7 := h.c7
  clear h
  go_enter Try.func19, Try.ntmps19
  go_wp2_with (go_at_call 43; refine hu.mono ?_; rintro x w2 ⟨rfl, hw2⟩; obtain rfl := hw2.symm)
  go_ret
  exact ⟨rfl, rfl⟩
theorem jdurable_nil (W : World) : Calls Try.prog 19 #[.pointer none] W fun e w' => e = .returned (.int .i64 0) ∧ w' = W := by
  go_enter Try.func19, Try.ntmps19
  go_wp2_with (go_at_call 43; refine (jusable_nil _).mono ?_; rintro x w2 ⟨rfl, hw2⟩; obtain rfl := hw2.symm)
  go_ret
  exact ⟨rfl, rfl⟩
/-- A copy of a list of strings. -/
theorem clone_strs_any (W : World) (A : Option Addr) (l : List Bs) (c : Nat) (hS : Strs W A l) (hA : (∃ a, A = some a) ∨ (A = none ∧ c = 0)) (hl : l.length ≤ 1000000) :
    Calls Try.prog 45 #[.slice A l.length c] W fun e w' => ∃ v, e = .returned v ∧ OwnStrs w' W.heap.size v l ∧ Below W.heap.size W w' := by
  rcases hA with ⟨a, rfl⟩ | ⟨rfl, rfl⟩
  · refine (clone_strs_some W a l.length c (cellsT l) (by rw [cellsT_length, Nat.mul_one]) ?_ (cellsT_one l) hl).mono fun e w' h => h
    intro j u hu
    rcases hS with rfl | ⟨b, hb, h⟩
    · cases hu
    · cases hb
      exact h j u hu
  · rcases hS with rfl | ⟨b, hb, h⟩
    · refine (clone_strs_nil W).mono ?_
      rintro e w' ⟨rfl, rfl⟩
      exact ⟨_, rfl, OwnStrs.none _ _, Below.refl _ _⟩
    · cases hb
set_option maxRecDepth 100000 in
set_option maxHeartbeats 400000 in
theorem jrecords_any (h : JAt W jb dk J G) (hl : J.recs.length ≤ 1000000) : Calls Try.prog 15 #[.pointer (some ⟨jb, 0, none⟩)] W fun e w' => ∃ v, e = .returned v ∧ OwnStrs w' W.heap.size v J.recs ∧ Below W.heap.size W w' := by
  have hu := jusable_any h
  obtain ⟨v, h, rfl⟩ := h
  have c6 := h.c6
  obtain ⟨A, c, rfl, hS, hA⟩ := h.own.slice
  have hc := clone_strs_any W A J.recs c hS hA hl
  have HC := Lib.hid hc
  clear h hc hS hA
  go_enter Try.func15, Try.ntmps15
  go_wp2_with (first
    | (go_at_call 43; refine hu.mono ?_; rintro x w2 ⟨rfl, hw2⟩; obtain rfl := hw2.symm)
    | (go_at_call 45; refine HC.out.mono ?_; rintro x w2 ⟨vv, rfl, hv, hb⟩))
  go_ret
  exact ⟨_, rfl, hv, hb⟩
theorem jrecords_nil (W : World) : Calls Try.prog 15 #[.pointer none] W fun e w' => e = .returned (.slice none 0 0) ∧ w' = W := by
  go_enter Try.func15, Try.ntmps15
  go_wp2_with (go_at_call 43; refine (jusable_nil _).mono ?_; rintro x w2 ⟨rfl, hw2⟩; obtain rfl := hw2.symm)
  go_ret
  exact ⟨rfl, rfl⟩
set_option maxRecDepth 100000 in
set_option maxHeartbeats 1000000 in
theorem jroom_any (h : JAt W jb dk J G) (hd : DiskAt W dk D F) (h8 : 8 ≤ D.sec.length) (hu1 : J.used ≤ 1000000) : Calls Try.prog 13 #[.pointer (some ⟨jb, 0, none⟩)] W fun e w' => e = .returned (.int .i64 ((capM D.sec.length : Int) - (J.used : Int))) ∧ Below W.heap.size W w' := by
  have hu := jusable_any h
  have hN := hd.ok.few
  have hcl : capM D.sec.length ≤ 4096 := by unfold capM; omega
  have hcp := fun w (b : Below W.heap.size W w) => capacity_any (hd.next b) h8
  obtain ⟨v, h, rfl⟩ := h
  have c0 := h.c0
  have c8 := h.c8
  have m1 : IntKind.i64.wrap ((capM D.sec.length : Int) - (J.used : Int)) = (capM D.sec.length : Int) - (J.used : Int) := IntWalk.i64_in _ (by omega)
  generalize capM D.sec.length = C at *
  have HCP := Lib.hid hcp
  clear h hcp hd
  go_enter Try.func13, Try.ntmps13
  go_upto_region 3 with (go_at_call 43; refine hu.mono ?_; rintro x w2 ⟨rfl, hw2⟩; obtain rfl := hw2.symm)
  go_region_held3 (fun w => w.cell? ⟨jb, 0, none⟩ = some (.pointer (some ⟨dk, 0, none⟩)) ∧ w.cell? ⟨jb, 8, none⟩ = some (.int .i64 (J.used : Nat))) (exact ⟨c0, c8⟩) (first | (go_at_call 44; refine (HCP.out _ (Below.drawn W 1 _)).mono ?_; rintro x w2 ⟨rfl, hw2⟩; obtain rfl := hw2.symm))
  all_goals
    go_wp2_with (fail)
    go_ret
    exact ⟨rfl, Below.drawn W 1 _⟩
theorem jroom_nil (W : World) : Calls Try.prog 13 #[.pointer none] W fun e w' => e = .returned (.int .i64 0) ∧ w' = W := by
  go_enter Try.func13, Try.ntmps13
  go_wp2_with (go_at_call 43; refine (jusable_nil _).mono ?_; rintro x w2 ⟨rfl, hw2⟩; obtain rfl := hw2.symm)
  go_ret
  exact ⟨rfl, rfl⟩
end
end Go.Proofs.Ytkljfampkkfgdaa
