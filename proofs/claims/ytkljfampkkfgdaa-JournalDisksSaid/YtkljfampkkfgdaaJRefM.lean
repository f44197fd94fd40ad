/- The journal layer: the reference's disk in memory; the walks over burn, Set, Read of the reference. -/
import Derived.Test.YtkljfampkkfgdaaJRefD
namespace Go.Proofs.Ytkljfampkkfgdaa
open Go.RowKit
/-- The cells of a row of the reference's blocks. -/
def cellsRB (l : List (Bs × Value)) : List Value := l.flatMap fun x => [.string ⟨x.1.toArray⟩, x.2]
theorem cellsRB_length (l : List (Bs × Value)) : (cellsRB l).length = l.length * 2 := by
  induction l with
  | nil => rfl
  | cons x l ih => simp only [cellsRB, List.flatMap_cons, List.length_append, List.length_cons, List.length_nil] at ih ⊢; omega
theorem cellsRB_at {l : List (Bs × Value)} {i : Nat} {x : Bs × Value} (h : l[i]? = some x) : (cellsRB l)[i * 2]? = some (.string ⟨x.1.toArray⟩) ∧ (cellsRB l)[i * 2 + 1]? = some x.2 := by
  induction l generalizing i with
  | nil => simp at h
  | cons y l ih =>
    cases i with
    | zero =>
      simp only [List.getElem?_cons_zero, Option.some.injEq] at h
      subst h
      exact ⟨rfl, rfl⟩
    | succ i =>
      simp only [List.getElem?_cons_succ] at h
      obtain ⟨h1, h2⟩ := ih h
      rw [show (i + 1) * 2 = i * 2 + 1 + 1 from by omega]
      exact ⟨h1, h2⟩
def OwnRB (w : World) (base : Nat) (v : Value) (l : List (Bs × Value)) : Prop := w.ownsRow base 109 2 v l.length (cellsRB l)
theorem OwnRB.next {w w' : World} {base : Nat} {v : Value} {l : List (Bs × Value)} (h : OwnRB w base v l) (hB : Below w.heap.size w w') : OwnRB w' base v l := by
  obtain ⟨h1, h2⟩ := h
  refine ⟨h1, ?_⟩
  rcases h2 with h2 | ⟨g, cap, cur, e, hg, hh, r⟩
  · exact .inl h2
  · exact .inr ⟨g, cap, cur, e, hg, (hB.block g (Array.getElem?_eq_some_iff.1 hh).1).trans hh, r⟩
theorem OwnRB.mono {w : World} {base base' : Nat} {v : Value} {l : List (Bs × Value)} (h : OwnRB w base v l) (hb : base' ≤ base) : OwnRB w base' v l := by
  obtain ⟨h1, h2⟩ := h
  refine ⟨h1, ?_⟩
  rcases h2 with h2 | ⟨g, cap, cur, e, hg, r⟩
  · exact .inl h2
  · exact .inr ⟨g, cap, cur, e, Nat.le_trans hb hg, r⟩
/-- A row of pending writes. -/
def PendV (w : World) (v : Value) (p : List Bs) : Prop := ∃ A c, v = .slice A p.length c ∧ Strs w A p ∧ ((∃ a, A = some a) ∨ (A = none ∧ c = 0))
theorem PendV.next {w w' : World} {v : Value} {p : List Bs} (h : PendV w v p) (hB : Below w.heap.size w w') : PendV w' v p := by
  obtain ⟨A, c, e, h1, h2⟩ := h
  exact ⟨A, c, e, h1.next hB, h2⟩
theorem PendV.nil (w : World) : PendV w (.slice none 0 0) [] := ⟨none, 0, rfl, .inl rfl, .inr ⟨rfl, rfl⟩⟩
theorem PendV.own {w : World} {base : Nat} {v : Value} {p : List Bs} (h : OwnStrs w base v p) : PendV w v p := by
  obtain ⟨A, c, e, h1, h2⟩ := h.slice
  exact ⟨A, c, e, h1, h2⟩
/-- The pairs l stand for the sectors S. -/
def Stand (w : World) (l : List (Bs × Value)) (S : List Sec) : Prop := l.length = S.length ∧ ∀ (i : Nat) s, S[i]? = some s → ∃ v, l[i]? = some (s.dur, v) ∧ PendV w v s.pend
theorem Stand.next {w w' : World} {l : List (Bs × Value)} {S : List Sec} (h : Stand w l S) (hB : Below w.heap.size w w') : Stand w' l S :=
  ⟨h.1, fun i s hs => by obtain ⟨v, h1, h2⟩ := h.2 i s hs; exact ⟨v, h1, h2.next hB⟩⟩
theorem Stand.set {w : World} {l : List (Bs × Value)} {S : List Sec} (h : Stand w l S) (i : Nat) (s : Sec) (v : Value) (hv : PendV w v s.pend) : Stand w (l.set i (s.dur, v)) (S.set i s) := by
  refine ⟨by simp only [List.length_set]; exact h.1, fun j t ht => ?_⟩
  by_cases e : i = j
  · subst e
    rw [List.getElem?_set_self'] at ht ⊢
    cases h1 : S[i]? with
    | none => rw [h1] at ht; cases ht
    | some x =>
      rw [h1] at ht
      cases ht
      obtain ⟨u, h2, _⟩ := h.2 i x h1
      rw [h2]
      exact ⟨v, rfl, hv⟩
  · rw [List.getElem?_set_ne e] at ht ⊢
    exact h.2 j t ht
theorem Stand.push {w : World} {l : List (Bs × Value)} {S : List Sec} (h : Stand w l S) (s : Sec) (v : Value) (hv : PendV w v s.pend) : Stand w (l ++ [(s.dur, v)]) (S ++ [s]) := by
  refine ⟨by simp [h.1], fun j t ht => ?_⟩
  by_cases e : j < S.length
  · rw [List.getElem?_append_left e] at ht
    rw [List.getElem?_append_left (by rw [h.1]; exact e)]
    exact h.2 j t ht
  · have hj := (List.getElem?_eq_some_iff.1 ht).1
    rw [List.length_append, List.length_singleton] at hj
    obtain rfl : j = S.length := by omega
    rw [List.getElem?_append_right (Nat.le_refl _), Nat.sub_self] at ht
    rw [List.getElem?_append_right (by rw [h.1]; exact Nat.le_refl _), h.1, Nat.sub_self]
    cases ht
    exact ⟨v, rfl, hv⟩
/-- The rows' blocks lie in K. -/
def RefIn (K : Nat → Prop) (A : Option Addr) (l : List (Bs × Value)) : Prop := (∀ a, A = some a → K a.block) ∧ ∀ x ∈ l, ∀ a m d, x.2 = .slice (some a) m d → K a.block
/-- What becomes of them: old ones, and new ones. -/
def RefTo (b u : Nat) (A A' : Option Addr) (l l' : List (Bs × Value)) : Prop := (A' = A ∨ ∀ a, A' = some a → b ≤ a.block) ∧ ∀ x ∈ l', (∀ a m d, x.2 = .slice (some a) m d → b ≤ a.block ∧ a.block < u) ∨ ∃ y ∈ l, y.2 = x.2
theorem RefTo.refl (b u : Nat) (A : Option Addr) (l : List (Bs × Value)) : RefTo b u A A l l := ⟨.inl rfl, fun x hx => .inr ⟨x, hx, rfl⟩⟩
theorem RefTo.put {b u : Nat} {A A' A2 : Option Addr} {l l' : List (Bs × Value)} (h : RefTo b u A A' l l') (hA : ∀ a, A2 = some a → b ≤ a.block) (i : Nat) (x : Bs × Value) (hx : ∀ a m d, x.2 = .slice (some a) m d → b ≤ a.block ∧ a.block < u) : RefTo b u A A2 l (l'.set i x) :=
  ⟨.inr hA, fun y hy => (List.mem_or_eq_of_mem_set hy).elim (h.2 y) fun e => .inl (e ▸ hx)⟩
theorem RefTo.in_ {b u u' : Nat} {A A' : Option Addr} {l l' : List (Bs × Value)} (h : RefTo b u A A' l l') {K : Nat → Prop} (hK : RefIn K A l) (hu : u ≤ u') (hA : ∀ a, A' = some a → a.block < u') : RefIn (fun i => K i ∨ (b ≤ i ∧ i < u')) A' l' :=
  ⟨fun a e => h.1.elim (fun q => .inl (hK.1 a (q ▸ e))) fun q => .inr ⟨q a e, hA a e⟩, fun x hx a m d e => (h.2 x hx).elim (fun q => .inr ⟨(q a m d e).1, Nat.lt_of_lt_of_le (q a m d e).2 hu⟩) fun ⟨y, hy, q⟩ => .inl (hK.2 y hy a m d (q.trans e))⟩
theorem RefIn.mono {K K' : Nat → Prop} {A : Option Addr} {l : List (Bs × Value)} (h : RefIn K A l) (hk : ∀ i, K i → K' i) : RefIn K' A l := ⟨fun a e => hk _ (h.1 a e), fun x hx a m d e => hk _ (h.2 x hx a m d e)⟩
/-- The reference's disk D, as a value. -/
def RefV (K : Nat → Prop) (w : World) (v : Value) (D : Dk) : Prop := ∃ A n c l, v = .agg #[.slice A n c, .bool D.off, .int .i64 D.fuse] ∧ n = D.sec.length ∧ OwnRB w 0 (.slice A n c) l ∧ Stand w l D.sec ∧ RefIn K A l
theorem RefV.next {K : Nat → Prop} {w w' : World} {v : Value} {D : Dk} (h : RefV K w v D) (hB : Below w.heap.size w w') : RefV K w' v D := by
  obtain ⟨A, n, c, l, e, h0, h1, h2, h3⟩ := h
  exact ⟨A, n, c, l, e, h0, h1.next hB, h2.next hB, h3⟩
/-- A row that is not empty: where it lies, what its cells are. -/
theorem OwnRB.form {w : World} {base : Nat} {A : Option Addr} {n c : Nat} {l : List (Bs × Value)} (h : OwnRB w base (.slice A n c) l) (h0 : 0 < l.length) : ∃ g, A = some ⟨g, 0, none⟩ ∧ n = l.length ∧ n ≤ c ∧ base ≤ g ∧ g < w.heap.size ∧ (∀ o, w.frozen? ⟨g, o, none⟩ = false) ∧
    (∀ (i : Nat) x, l[i]? = some x → w.cell? ⟨g, i * 2, none⟩ = some (.string ⟨x.1.toArray⟩) ∧ w.cell? ⟨g, i * 2 + 1, none⟩ = some x.2) ∧ ∀ j u, (cellsRB l)[j]? = some u → w.cell? ((⟨g, 0, none⟩ : Addr).add j) = some u := by
  obtain ⟨h1, h2⟩ := id h
  rcases h2 with ⟨h2, h3⟩ | ⟨g, cap, cur, e, hg, hh, hc, hm, hs, ht⟩
  · omega
  · cases e
    have hcell : ∀ j u, (cellsRB l)[j]? = some u → w.cell? ⟨g, j, none⟩ = some u := fun j u hu => by
      rw [← ht, List.getElem?_take] at hu
      split at hu
      · rw [cell_of_row w g j cur _ _ hh, ← Array.getElem?_toList]; exact hu
      · cases hu
    exact ⟨g, rfl, rfl, hc, hg, (Array.getElem?_eq_some_iff.1 hh).1, fun o => by simp [World.frozen?, hh], fun i x hx => ⟨hcell _ _ (cellsRB_at hx).1, hcell _ _ (cellsRB_at hx).2⟩, fun j u hu => by rw [Addr.add_mid, Nat.zero_add]; exact hcell j u hu⟩
theorem Strs.some_ {W : World} {A : Option Addr} {l : List Bs} (h : Strs W A l) (hl : l ≠ []) : ∃ a, A = some a := by
  rcases h with e | ⟨a, e, _⟩
  · exact absurd e hl
  · exact ⟨a, e⟩
theorem OwnRB.lt {w : World} {base : Nat} {A : Option Addr} {n c : Nat} {l : List (Bs × Value)} (h : OwnRB w base (.slice A n c) l) : ∀ a, A = some a → a.block < w.heap.size := fun a e => by
  subst e
  exact (World.ownsRow.lt h a.block rfl).2
abbrev dkV (A : Option Addr) (n c : Nat) (off : Bool) (f : Int) : Value := .agg #[.slice A n c, .bool off, .int .i64 f]
/-- The results of a function that returns a disk and something else. -/
theorem results_dk {fn : Func} {p q : Tmp} (hf : fn.results = #[.cell p 46, .tmp q]) {W : World} {g n c : Nat} {A : Option Addr} {off : Bool} {f : Int} (hr : W.heap[g]? = some (.cells #[.slice A n c, .bool off, .int .i64 f] 46 (0, 0))) {tmps : Array Value} (u : Value) (hp : tmps.getD p undef = .pointer (some ⟨g, 0, none⟩)) (hq : tmps.getD q undef = u) :
    (results fn tmps).run Try.prog W = .ok (.tuple #[dkV A n c off f, u]) W := by
  have hp' : tmps[p]?.getD undef = .pointer (some ⟨g, 0, none⟩) := by simpa using hp
  have hq' : tmps[q]?.getD undef = u := by simpa using hq
  have hu : Try.prog.underlying 46 = some (.struct (Try.prog.fieldsOf 46)) := by kernel_rfl
  have hi : (Try.prog.info? 46).map (·.size) = some (#[.slice A n c, .bool off, .int .i64 f] : Array Value).size := by kernel_rfl
  have hl := run_loadVar_row (P := Try.prog) W g 46 46 _ _ (.struct (Try.prog.fieldsOf 46)) hr hu rfl hi
  simp [results, hf, hp', hq', asAddr, hl]
set_option maxRecDepth 100000 in
set_option maxHeartbeats 1000000 in
theorem rburn_none (W : World) (A : Option Addr) (n c : Nat) (off : Bool) : Calls Try.prog 77 #[dkV A n c off 0] W fun e w' => e = .returned (.tuple #[dkV A n c true 0, .bool false]) ∧ Below W.heap.size W w' := by
  go_enter Try.func77, Try.ntmps77
  go_wp2_with (fail)
  have r1 := heap_alloc_new (W.alloc (Obj.cells #[Value.slice A n c, Value.bool true, Value.int .i64 0] 46)) (Obj.cells #[Value.slice A n c, Value.bool true, Value.int .i64 0] 46)
  rw [World.size_alloc] at r1
  exact bodyPost_ret (v := .tuple #[dkV A n c true 0, .bool false]) (results_dk Try.results77 r1 _ rfl rfl) rfl ⟨rfl, Below.next (Below.new1 _ _) (Below.new1 _ _)⟩
set_option maxRecDepth 100000 in
set_option maxHeartbeats 1000000 in
theorem rburn_some (W : World) (A : Option Addr) (n c : Nat) (off : Bool) (f : Int) (h0 : f ≠ 0) (lo : -1 ≤ f) (hi : f < 9223372036854775808) : Calls Try.prog 77 #[dkV A n c off f] W fun e w' => e = .returned (.tuple #[dkV A n c off (fdec f), .bool true]) ∧ Below W.heap.size W w' := by
  have b0 : (f == 0) = false := by simpa using h0
  by_cases h1 : 0 < f
  · have e1 : fdec f = f - 1 := if_pos h1
    have m1 : IntKind.i64.wrap (f - 1) = f - 1 := IntWalk.i64_in _ (by omega)
    have t1 : f > 0 := h1
    rw [e1]
    clear h0 e1
    go_enter Try.func77, Try.ntmps77
    go_wp2_with (fail)
    have r1 := heap_alloc_new (W.alloc (Obj.cells #[Value.slice A n c, Value.bool off, Value.int .i64 (f - 1)] 46)) (Obj.cells #[Value.slice A n c, Value.bool off, Value.int .i64 (f - 1)] 46)
    rw [World.size_alloc] at r1
    exact bodyPost_ret (v := .tuple #[dkV A n c off (f - 1), .bool true]) (results_dk Try.results77 r1 _ rfl rfl) rfl ⟨rfl, Below.next (Below.new1 _ _) (Below.new1 _ _)⟩
  · have e1 : fdec f = f := if_neg h1
    have t1 : ¬ f > 0 := h1
    rw [e1]
    clear h0 e1
    go_enter Try.func77, Try.ntmps77
    go_wp2_with (fail)
    have r1 := heap_alloc_new (W.alloc (Obj.cells #[Value.slice A n c, Value.bool off, Value.int .i64 f] 46)) (Obj.cells #[Value.slice A n c, Value.bool off, Value.int .i64 f] 46)
    rw [World.size_alloc] at r1
    exact bodyPost_ret (v := .tuple #[dkV A n c off (f), .bool true]) (results_dk Try.results77 r1 _ rfl rfl) rfl ⟨rfl, Below.next (Below.new1 _ _) (Below.new1 _ _)⟩
set_option maxRecDepth 100000 in
set_option maxHeartbeats 1000000 in
theorem rset_off (W : World) (A : Option Addr) (n c : Nat) (f x : Int) : Calls Try.prog 61 #[dkV A n c true f, Value.int .i64 x] W fun e w' => e = .returned (.tuple #[dkV A n c true f, Value.int .i64 70]) ∧ Below W.heap.size W w' := by
  go_enter Try.func61, Try.ntmps61
  go_wp2_with (fail)
  have r1 := heap_alloc_new (W.alloc (.cells #[Value.slice A n c, Value.bool true, Value.int .i64 f] 46)) (Obj.cells #[Value.slice A n c, Value.bool true, Value.int .i64 f] 46)
  rw [World.size_alloc] at r1
  exact bodyPost_ret (v := .tuple #[dkV A n c true (f), Value.int .i64 70]) (results_dk Try.results61 r1 _ rfl rfl) rfl ⟨rfl, Below.next (Below.new1 _ _) (Below.new1 _ _)⟩
set_option maxRecDepth 100000 in
set_option maxHeartbeats 1000000 in
theorem rset_on (W : World) (A : Option Addr) (n c : Nat) (f x : Int) : Calls Try.prog 61 #[dkV A n c false f, Value.int .i64 x] W fun e w' => e = .returned (.tuple #[dkV A n c false (max x (-1)), Value.int .i64 0]) ∧ Below W.heap.size W w' := by
  by_cases h : -1 < x
  · rw [show max x (-1) = x from by omega]
    go_enter Try.func61, Try.ntmps61
    go_wp2_with (fail)

    have r1 := heap_alloc_new (W.alloc (Obj.cells #[Value.slice A n c, Value.bool false, Value.int .i64 x] 46)) (Obj.cells #[Value.slice A n c, Value.bool false, Value.int .i64 x] 46)
    rw [World.size_alloc] at r1
    exact bodyPost_ret (v := .tuple #[dkV A n c false (x), Value.int .i64 0]) (results_dk Try.results61 r1 _ rfl rfl) rfl ⟨rfl, Below.next (Below.new1 _ _) (Below.new1 _ _)⟩
  · rw [show max x (-1) = -1 from by omega]
    go_enter Try.func61, Try.ntmps61
    go_wp2_with (fail)
    have r1 := heap_alloc_new (W.alloc (Obj.cells #[Value.slice A n c, Value.bool false, Value.int .i64 (-1)] 46)) (Obj.cells #[Value.slice A n c, Value.bool false, Value.int .i64 (-1)] 46)
    rw [World.size_alloc] at r1
    exact bodyPost_ret (v := .tuple #[dkV A n c false (-1), Value.int .i64 0]) (results_dk Try.results61 r1 _ rfl rfl) rfl ⟨rfl, Below.next (Below.new1 _ _) (Below.new1 _ _)⟩
set_option maxRecDepth 100000 in
set_option maxHeartbeats 1000000 in
theorem rread_any (W : World) (A : Option Addr) (n c : Nat) (l : List (Bs × Value)) (D : Dk) (hn : n = D.sec.length) (hO : OwnRB W 0 (.slice A n c) l) (hS : Stand W l D.sec) (hfe : Few 1000000 D) (x : Int) :
    Calls Try.prog 62 #[dkV A n c D.off D.fuse, .int .i64 x] W fun e w' => e = .returned (.tuple #[.string ⟨(readM D x).1.toArray⟩, .int .i64 (readM D x).2]) ∧ Below W.heap.size W w' := by
  unfold readM
  generalize D.fuse = f at *
  cases ho : D.off
  · rw [if_neg (by simp)]
    by_cases hr : x < 0 ∨ (D.sec.length : Int) ≤ x
    · rw [if_pos hr]
      rw [← hn] at hr
      clear hO hS hn ho
      by_cases h0 : x < 0
      · clear hr
        go_enter Try.func62, Try.ntmps62
        go_wp2_with (fail)
        go_ret2
        exact ⟨rfl, Below.new1 _ _⟩
      · have h1 : x ≥ (n : Int) := by omega
        clear hr
        go_enter Try.func62, Try.ntmps62
        go_wp2_with (fail)
        go_ret2
        exact ⟨rfl, Below.new1 _ _⟩
    · rw [if_neg hr]
      obtain ⟨i, rfl⟩ : ∃ i : Nat, x = i := ⟨x.toNat, by omega⟩
      have hi : i < D.sec.length := by omega
      obtain ⟨s, hs⟩ : ∃ s, D.sec[i]? = some s := ⟨_, List.getElem?_eq_getElem hi⟩
      have hfew : s.pend.length ≤ 1000000 := hfe s (List.mem_of_getElem? hs)
      have e3 : D.sec.getD (i : Int).toNat ⟨[], []⟩ = s := by rw [List.getD_eq_getElem?_getD, Int.toNat_natCast, hs]; rfl
      rw [e3]
      obtain ⟨v, h1, PA, pc, rfl, hP, hPn⟩ := hS.2 i s hs
      obtain ⟨g, rfl, hnl, -, -, hg, -, hcell, -⟩ := hO.form (by rw [hS.1]; omega)
      obtain ⟨k0, k1⟩ := hcell i _ h1
      have i1 : ¬ (i : Int) < 0 := by omega
      have i2 : ¬ (i : Int) ≥ (n : Int) := by omega
      have i3 : (i : Int) < (n : Int) := by omega
      have i4 : 0 ≤ (i : Int) := by omega
      have i5 : i < n := by omega
      simp only at k0 k1
      obtain ⟨w1, hw1⟩ : ∃ w1, W.alloc (.cells #[.slice (some ⟨g, 0, none⟩) n c, .bool false, .int .i64 f] 46) = w1 := ⟨_, rfl⟩
      have b1 : Below W.heap.size W w1 := hw1 ▸ Below.new1 _ _
      have r1 : w1.heap[W.heap.size]? = some (.cells #[.slice (some ⟨g, 0, none⟩) n c, .bool false, .int .i64 f] 46 (0, 0)) := hw1 ▸ heap_alloc_new W _
      have d0 : w1.cell? ⟨W.heap.size, 0, none⟩ = some (.slice (some ⟨g, 0, none⟩) n c) := (cell_of_row w1 _ 0 _ _ _ r1).trans rfl
      have d1 : w1.cell? ⟨W.heap.size, 1, none⟩ = some (.bool false) := (cell_of_row w1 _ 1 _ _ _ r1).trans rfl
      have k0' := cell_kept b1 k0
      have k1' := cell_kept b1 k1
      have hP' := hP.next b1
      have HB1 := Lib.hid b1
      clear hO hS hs e3 h1 hr hn ho hcell hnl hi hg b1 r1 k0 k1 hP
      by_cases hp : s.pend = []
      · have e1 : s.latest = s.dur := by unfold Sec.latest; rw [hp]; rfl
        rw [e1]
        rw [hp] at k1'
        clear hP' hPn e1
        go_enter Try.func62, Try.ntmps62
        go_wp2_with (fail)
        go_ret2
        exact ⟨rfl, Below.next HB1.out (Below.new1 _ _)⟩
      · have hlp : 0 < s.pend.length := List.length_pos_iff.2 hp
        obtain ⟨pa, rfl⟩ := hP'.some_ hp
        have e1 : s.latest = s.pend[s.pend.length - 1] := by unfold Sec.latest; rw [last_get hp]
        rw [e1]
        have hc := fun w (b : Below w1.heap.size w1 w) => (hP'.next b).cell (i := s.pend.length - 1) (by omega)
        have HC := Lib.hid hc
        have m1 : IntKind.i64.wrap ((s.pend.length : Int) - 1) = ((s.pend.length - 1 : Nat) : Int) := by rw [IntWalk.i64_in _ (by omega)]; omega
        have p1 : ((s.pend.length : Nat) : Int) > 0 := by omega
        have p2 : ((s.pend.length - 1 : Nat) : Int) < (s.pend.length : Nat) := by omega
        have p3 : 0 ≤ ((s.pend.length - 1 : Nat) : Int) := by omega
        have p4 : s.pend.length - 1 < s.pend.length := by omega
        generalize s.pend[s.pend.length - 1] = y at *
        generalize hm : s.pend.length - 1 = m at *
        generalize s.pend.length = q at *
        clear hP' hPn hm e1 hp hc hfew
        go_enter Try.func62, Try.ntmps62
        go_upto_region 6 with (fail)
        obtain ⟨w2, hw2⟩ : ∃ w2, w1.alloc (.cells #[.string ⟨s.dur.toArray⟩, .slice (some pa) q pc] 109) = w2 := ⟨_, rfl⟩
        have b2 : Below w1.heap.size w1 w2 := hw2 ▸ Below.new1 _ _
        have r2 : w2.heap[w1.heap.size]? = some (.cells #[.string ⟨s.dur.toArray⟩, .slice (some pa) q pc] 109 (0, 0)) := hw2 ▸ heap_alloc_new w1 _
        have d2 : w2.cell? ⟨w1.heap.size, 1, none⟩ = some (.slice (some pa) q pc) := (cell_of_row w2 _ 1 _ _ _ r2).trans rfl
        have d3 := HC.out w2 b2
        have HB2 := Lib.hid (Below.next HB1.out b2)
        rw [hw2]
        clear b2 r2 HC HB1 k0' k1' d0 d1
        go_wp2_with (fail)
        go_ret2
        exact ⟨rfl, HB2.out⟩
  · rw [if_pos rfl]
    clear hO hS
    go_enter Try.func62, Try.ntmps62
    go_wp2_with (fail)
    go_ret2
    exact ⟨rfl, Below.new1 _ _⟩
end Go.Proofs.Ytkljfampkkfgdaa
