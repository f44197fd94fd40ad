/- The journal layer: a world of the law in memory. The journal layer: the walks over what the reference says may be on a disk. The journal layer: the walk over Allows. -/
import Derived.Test.YtkljfampkkfgdaaJKeepsL
import Derived.Deep.DeepCutAuto
import Derived.Deep.CutRange
namespace Go.Proofs.Ytkljfampkkfgdaa
section
open Go.RowKit
/-- A world of the law, as a plain value. -/
structure Wd where
  D : Dk
  J : Option Jn
  m : Md
  fused : Bool
  has : Bool
  broken : Bool
  st : Bs
  recs : List Bs
  sure : Nat
/-- A disk, and the journal on it, if there is one. -/
def DJ (K : Nat → Prop) (W : World) (dk : Nat) (jp : Value) (D : Dk) (Jo : Option Jn) : Prop := match Jo with
  | none => jp = .pointer none ∧ DD K W dk D
  | some J => ∃ jb, jp = .pointer (some ⟨jb, 0, none⟩) ∧ JD K W dk jb D J
section
variable {K K' : Nat → Prop} {W W' : World} {dk : Nat} {jp : Value} {D D' : Dk} {Jo : Option Jn}
theorem DJ.dd (h : DJ K W dk jp D Jo) : DD K W dk D := by
  cases Jo with
  | none => exact h.2
  | some J => obtain ⟨jb, _, h⟩ := h; exact h.dd
theorem DJ.next (h : DJ K W dk jp D Jo) (hB : Below W.heap.size W W') : DJ K W' dk jp D Jo := by
  cases Jo with
  | none => exact ⟨h.1, h.2.next hB⟩
  | some J => obtain ⟨jb, e, h⟩ := h; exact ⟨jb, e, h.next hB⟩
theorem DJ.more (h : DJ K W dk jp D Jo) (hB : Below W.heap.size W W') : DJ (fun i => K i ∨ (W.heap.size ≤ i ∧ i < W'.heap.size)) W' dk jp D Jo := by
  cases Jo with
  | none => exact ⟨h.1, h.2.more hB⟩
  | some J => obtain ⟨jb, e, h⟩ := h; exact ⟨jb, e, h.more hB⟩
theorem DD.keep (h : DD K W dk D) (hB : ButS K W W') : DD K W' dk D := by
  obtain ⟨h1, F, h2, h3⟩ := h
  exact ⟨fun i hi => Nat.lt_of_lt_of_le (h1 i hi) hB.size, F, h2.but hB h3, h3⟩
theorem JD.keep {jb : Nat} {J : Jn} (h : JD K W dk jb D J) (hB : ButS K W W') : JD K W' dk jb D J := by
  obtain ⟨h1, F, G, h2, h3, h4, h5, h6⟩ := h
  exact ⟨fun i hi => Nat.lt_of_lt_of_le (h1 i hi) hB.size, F, G, h2.but hB h5, h3.but hB h6, h4, h5, h6⟩
/-- Kept blocks have changed alone. -/
theorem DJ.keep (h : DJ K W dk jp D Jo) (hB : ButS K W W') : DJ K W' dk jp D Jo := by
  cases Jo with
  | none => exact ⟨h.1, h.2.keep hB⟩
  | some J => obtain ⟨jb, e, h⟩ := h; exact ⟨jb, e, h.keep hB⟩
/-- A call on the disk alone. -/
theorem DJ.lift (h : DJ K W dk jp D Jo) : ∃ K', (∀ i, K i → K' i) ∧ DD K' W dk D ∧ ∀ w' D', DD K' w' dk D' → Kp K' W w' → DJ K w' dk jp D' Jo ∧ Kp K W w' := by
  cases Jo with
  | none => exact ⟨K, fun _ h => h, h.2, fun w' D' q1 q2 => ⟨⟨h.1, q1⟩, q2⟩⟩
  | some J =>
    obtain ⟨jb, e, h⟩ := h
    obtain ⟨K', k1, k2, k3⟩ := h.lift
    exact ⟨K', k1, k2, fun w' D' q1 q2 => ⟨⟨jb, e, (k3 w' D' q1 q2).1⟩, (k3 w' D' q1 q2).2⟩⟩
theorem format_dj (h : DJ K W dk jp D Jo) (b : Bd D) : Calls Try.prog 23 #[.pointer (some ⟨dk, 0, none⟩)] W fun e w' => e = .returned (.int .i64 (formatM D).1) ∧ DJ K w' dk jp (formatM D).2 Jo ∧ Kp K W w' := by
  obtain ⟨K', k1, k2, k3⟩ := h.lift
  exact (format_dd k2 b).mono fun e w' ⟨q1, q2, q3⟩ => ⟨q1, k3 w' _ q2 q3⟩
theorem fuse_dj (h : DJ K W dk jp D Jo) (n : Int) (hn : n < 9223372036854775808) : Calls Try.prog 32 #[.pointer (some ⟨dk, 0, none⟩), .int .i64 n] W fun e w' => e = .returned (.int .i64 (setM D n).1) ∧ DJ K w' dk jp (setM D n).2 Jo ∧ Kp K W w' := by
  obtain ⟨K', k1, k2, k3⟩ := h.lift
  exact (fuse_dd k2 n hn).mono fun e w' ⟨q1, q2, q3⟩ => ⟨q1, k3 w' _ q2 q3⟩
theorem crash_dj (h : DJ K W dk jp D Jo) (A : Option Addr) (keep : List Int) (n c2 : Nat) (hn : keep.length = n) (hA : Ints W A keep) (hK : 0 < n → ∀ a, A = some a → K a.block) (hn1 : n ≤ 9223372036854775807) :
    Calls Try.prog 28 #[.pointer (some ⟨dk, 0, none⟩), .slice A n c2] W fun e w' => e = .returned (.int .i64 0) ∧ DJ K w' dk jp (crashM D keep) Jo ∧ Kp K W w' := by
  obtain ⟨K', k1, k2, k3⟩ := h.lift
  exact (crash_dd k2 A keep n c2 hn hA (fun h0 a e => k1 _ (hK h0 a e)) hn1).mono fun e w' ⟨q1, q2, q3⟩ => ⟨q1, k3 w' _ q2 q3⟩
theorem open_dj (h : DJ K W dk jp D Jo) (b : Bd D) : Calls Try.prog 21 #[.pointer (some ⟨dk, 0, none⟩)] W fun e w' => OpenD K W dk (openM D) e w' ∧ DJ K w' dk jp (openM D).2.1 Jo := by
  cases Jo with
  | none => exact (open_dd h.2 b).mono fun e w' q => ⟨q, h.1, q.2.1⟩
  | some J =>
    obtain ⟨jb, e, h⟩ := h
    exact (open_jd h b).mono fun e' w' q => ⟨q.1, jb, e, q.2⟩
theorem off_dj (h : DJ K W dk jp D Jo) : Calls Try.prog 42 #[.pointer (some ⟨dk, 0, none⟩)] W fun e w' => e = .returned (.bool D.off) ∧ w' = W := off_dd h.dd
theorem blocks_dj (h : DJ K W dk jp D Jo) : Calls Try.prog 41 #[.pointer (some ⟨dk, 0, none⟩)] W fun e w' => e = .returned (.int .i64 D.sec.length) ∧ w' = W := blocks_dd h.dd
/-- What a journal answers, if there is one. -/
def stO (Jo : Option Jn) : Bs := match Jo with | none => [] | some J => J.st
def durO (Jo : Option Jn) : Nat := match Jo with | none => 0 | some J => J.dur
def recsO (Jo : Option Jn) : List Bs := match Jo with | none => [] | some J => J.recs
def roomO (C : Int) (Jo : Option Jn) : Int := match Jo with | none => 0 | some J => C - (J.used : Int)
def JBo (Jo : Option Jn) : Prop := ∀ J, Jo = some J → JBd J
theorem state_dj (h : DJ K W dk jp D Jo) : Calls Try.prog 31 #[jp] W fun e w' => e = .returned (.string ⟨(stO Jo).toArray⟩) ∧ w' = W := by
  cases Jo with
  | none => obtain ⟨rfl, _⟩ := h; exact jstate_nil W
  | some J => obtain ⟨jb, rfl, h⟩ := h; exact state_jd h
theorem durable_dj (h : DJ K W dk jp D Jo) : Calls Try.prog 19 #[jp] W fun e w' => e = .returned (.int .i64 (durO Jo : Nat)) ∧ w' = W := by
  cases Jo with
  | none => obtain ⟨rfl, _⟩ := h; exact jdurable_nil W
  | some J => obtain ⟨jb, rfl, h⟩ := h; exact durable_jd h
theorem records_dj (h : DJ K W dk jp D Jo) (b : JBo Jo) : Calls Try.prog 15 #[jp] W fun e w' => ∃ v, e = .returned v ∧ OwnStrs w' W.heap.size v (recsO Jo) ∧ Below W.heap.size W w' := by
  cases Jo with
  | none =>
    obtain ⟨rfl, _⟩ := h
    exact (jrecords_nil W).mono fun e w' ⟨q1, q2⟩ => ⟨_, q1, OwnStrs.none _ _, q2 ▸ Below.refl _ _⟩
  | some J => obtain ⟨jb, rfl, h⟩ := h; exact records_jd h (by have := (b J rfl).recs; omega)
theorem room_dj (h : DJ K W dk jp D Jo) (h8 : 8 ≤ D.sec.length) (b : JBo Jo) : Calls Try.prog 13 #[jp] W fun e w' => e = .returned (.int .i64 (roomO (capM D.sec.length : Nat) Jo)) ∧ Below W.heap.size W w' := by
  cases Jo with
  | none =>
    obtain ⟨rfl, _⟩ := h
    exact (jroom_nil W).mono fun e w' ⟨q1, q2⟩ => ⟨q1, q2 ▸ Below.refl _ _⟩
  | some J => obtain ⟨jb, rfl, h⟩ := h; exact room_jd h h8 (by have := (b J rfl).used; omega)
end
/-- A row of strings in kept blocks. -/
def RowK (K : Nat → Prop) (W : World) (v : Value) (l : List Bs) : Prop := ∃ A c, v = .slice A l.length c ∧ Strs W A l ∧ ((∃ a, A = some a) ∨ (A = none ∧ c = 0)) ∧ ∀ a, A = some a → a.block < W.heap.size ∧ K a.block
theorem RowK.nil (K : Nat → Prop) (W : World) : RowK K W (.slice none 0 0) [] := ⟨none, 0, rfl, .inl rfl, .inr ⟨rfl, rfl⟩, nofun⟩
theorem RowK.kp {K : Nat → Prop} {W W' : World} {v : Value} {l : List Bs} (h : RowK K W v l) (hk : Kp K W W') : RowK K W' v l := by
  obtain ⟨A, c, e, h1, h2, h3⟩ := h
  exact ⟨A, c, e, h1.kp hk h3, h2, fun a ha => ⟨Nat.lt_of_lt_of_le (h3 a ha).1 hk.size, (h3 a ha).2⟩⟩
theorem RowK.next {K : Nat → Prop} {W W' : World} {v : Value} {l : List Bs} (h : RowK K W v l) (hB : Below W.heap.size W W') : RowK K W' v l := h.kp (Kp.of hB)
theorem RowK.mono {K K' : Nat → Prop} {W : World} {v : Value} {l : List Bs} (h : RowK K W v l) (hk : ∀ i, K i → K' i) : RowK K' W v l := by
  obtain ⟨A, c, e, h1, h2, h3⟩ := h
  exact ⟨A, c, e, h1, h2, fun a ha => ⟨(h3 a ha).1, hk _ (h3 a ha).2⟩⟩
theorem RowK.own {W : World} {base : Nat} {v : Value} {l : List Bs} (h : OwnStrs W base v l) : RowK (fun i => base ≤ i ∧ i < W.heap.size) W v l := by
  obtain ⟨A, c, rfl, h1, h2⟩ := h.slice
  exact ⟨A, c, rfl, h1, h2, fun a ha => by
    subst ha
    have := World.ownsRow.lt h a.block rfl
    exact ⟨this.2, this⟩⟩
def cellsWd (dk : Nat) (jp rv av cv : Value) (X : Wd) : Array Value := #[.pointer (some ⟨dk, 0, none⟩), jp, .string ⟨X.m.S.toArray⟩, rv, av, .bool X.m.Sure, .bool X.m.Empty, .bool X.m.Swap, .string ⟨X.m.Next.toArray⟩, .bool X.fused, .bool X.has, .bool X.broken, .string ⟨X.st.toArray⟩, cv, .int .i64 (X.sure : Nat)]
/-- The world X lies in block wb. -/
structure WB (K : Nat → Prop) (W : World) (wb dk : Nat) (jp rv av cv : Value) (X : Wd) : Prop where
  head : W.heap[wb]? = some (.cells (cellsWd dk jp rv av cv X) 76 (0, 0))
  rR : RowK (fun i => K i ∧ i ≠ wb) W rv X.m.R
  rA : RowK (fun i => K i ∧ i ≠ wb) W av X.m.A
  rC : RowK (fun i => K i ∧ i ≠ wb) W cv X.recs
  kw : K wb
  dj : DJ K W dk jp X.D X.J
section
variable {K : Nat → Prop} {W W' : World} {wb dk : Nat} {jp rv av cv : Value} {X : Wd}
theorem WB.c (h : WB K W wb dk jp rv av cv X) (i : Nat) {u : Value} (hu : (cellsWd dk jp rv av cv X)[i]? = some u) : W.cell? ⟨wb, i, none⟩ = some u := (cell_of_row W wb i _ _ _ h.head).trans hu
theorem WB.f (h : WB K W wb dk jp rv av cv X) (i : Nat) : W.frozen? ⟨wb, i, none⟩ = false := by have := h.head; simp [World.frozen?, this]
theorem WB.lt (h : WB K W wb dk jp rv av cv X) : wb < W.heap.size := (Array.getElem?_eq_some_iff.1 h.head).1
theorem WB.next (h : WB K W wb dk jp rv av cv X) (hB : Below W.heap.size W W') : WB K W' wb dk jp rv av cv X :=
  ⟨(hB.block wb h.lt).trans h.head, h.rR.next hB, h.rA.next hB, h.rC.next hB, h.kw, h.dj.next hB⟩
/-- What is new is kept from now on. -/
theorem WB.more (h : WB K W wb dk jp rv av cv X) (hB : Below W.heap.size W W') : WB (fun i => K i ∨ (W.heap.size ≤ i ∧ i < W'.heap.size)) W' wb dk jp rv av cv X :=
  ⟨(hB.block wb h.lt).trans h.head, (h.rR.next hB).mono fun _ hi => ⟨.inl hi.1, hi.2⟩, (h.rA.next hB).mono fun _ hi => ⟨.inl hi.1, hi.2⟩, (h.rC.next hB).mono fun _ hi => ⟨.inl hi.1, hi.2⟩, .inl h.kw, h.dj.more hB⟩
/-- A call on the disk and the journal. -/
theorem WB.call (h : WB K W wb dk jp rv av cv X) {D' : Dk} {J' : Option Jn} (hd : DJ K W' dk jp D' J') (hk : Kp K W W') : WB K W' wb dk jp rv av cv { X with D := D', J := J' } := by
  have q : Kp (fun i => K i ∧ i ≠ wb) W W' := hk.mono fun i hi => hi.1
  refine ⟨?_, h.rR.kp q, h.rA.kp q, h.rC.kp q, h.kw, hd⟩
  rw [hk.block h.lt h.kw, h.head]
  rfl
/-- The world's own block has changed. -/
theorem WB.set (h : WB K W wb dk jp rv av cv X) {jp' rv' av' cv' : Value} {X' : Wd} (hB : ButS (fun i => i = wb) W W') (hh : W'.heap[wb]? = some (.cells (cellsWd dk jp' rv' av' cv' X') 76 (0, 0)))
    (hR : RowK (fun i => K i ∧ i ≠ wb) W rv' X'.m.R) (hA : RowK (fun i => K i ∧ i ≠ wb) W av' X'.m.A) (hC : RowK (fun i => K i ∧ i ≠ wb) W cv' X'.recs) (hd : DJ K W dk jp' X'.D X'.J) : WB K W' wb dk jp' rv' av' cv' X' := by
  have q : Kp (fun i => K i ∧ i ≠ wb) W W' := hB.mono fun i _ e => fun hn => hn.2 e
  exact ⟨hh, hR.kp q, hA.kp q, hC.kp q, h.kw, hd.keep (hB.mono fun i _ e => e ▸ h.kw)⟩
theorem WB.setCell (h : WB K W wb dk jp rv av cv X) (k : Nat) (u : Value) {jp' rv' av' cv' : Value} {X' : Wd} (hc : (cellsWd dk jp rv av cv X).set! k u = cellsWd dk jp' rv' av' cv' X')
    (hR : RowK (fun i => K i ∧ i ≠ wb) W rv' X'.m.R) (hA : RowK (fun i => K i ∧ i ≠ wb) W av' X'.m.A) (hC : RowK (fun i => K i ∧ i ≠ wb) W cv' X'.recs) (hd : DJ K W dk jp' X'.D X'.J) : WB K (W.setCell ⟨wb, k, none⟩ u) wb dk jp' rv' av' cv' X' := by
  refine h.set (ButS.setCell (F := fun i => i = wb) W (p := ⟨wb, k, none⟩) rfl u) ?_ hR hA hC hd
  have := h.head
  simp [World.setCell, Array.getElem?_modify, this, ← hc]
end
/-- The world X lies in block wb; nothing that was there before has changed. -/
def WdAt (W0 W : World) (wb : Nat) (X : Wd) : Prop := ∃ K dk jp rv av cv, WB K W wb dk jp rv av cv X ∧ (∀ i, Old W0 i → K i) ∧ W0.heap.size ≤ wb ∧ Kp (Old W0) W0 W
end
section
open Go.RowKit
set_option maxRecDepth 100000 in
set_option maxHeartbeats 2000000 in
theorem joined_any (W : World) (A B : Option Addr) (a b : List Bs) (n m c d : Nat) (hA : Strs W A a) (hB : Strs W B b) (hn : a.length = n) (hm : b.length = m) (hA2 : (∃ x, A = some x) ∨ (A = none ∧ c = 0)) (hB2 : (∃ x, B = some x) ∨ (B = none ∧ d = 0)) (hs : n ≤ 50000) (hs2 : m ≤ 50000) :
    Calls Try.prog 82 #[.slice A n c, .slice B m d] W fun e w' => ∃ v, e = .returned v ∧ OwnStrs w' W.heap.size v (a ++ b) ∧ Below W.heap.size W w' := by
  have HA := Lib.hid hA
  have HB := Lib.hid hB
  have HN := Lib.hid hn
  have HM := Lib.hid hm
  have HA2 := Lib.hid hA2
  have HB2 := Lib.hid hB2
  clear hA hB hn hm hA2 hB2
  go_enter Try.func82, Try.ntmps82
  go_wp2_with (first
    | (at_builtin; refine wpList_append_strs rfl (.tmp 5) (.tmp 6) rfl W.heap.size _ [] a A n c rfl rfl HN.out (OwnStrs.empty W) (HA.out.next (Below.new1 _ _)) HA2.out (by simp) (by have := HN.out; omega) (by rw [World.size_alloc]; omega) ?_
       intro v1 w1 hO1 b1
       rw [List.nil_append] at hO1
       have B1 := (Below.new1 W (.cells #[] 9)).trans b1
       obtain ⟨A1, c1, rfl, -, -⟩ := hO1.slice)
    | (at_builtin; refine wpList_append_strs rfl (.tmp 7) (.tmp 8) rfl W.heap.size _ a b B m d rfl rfl HM.out hO1 (HB.out.next B1) HB2.out (by have := HN.out; omega) (by have := HM.out; omega) B1.size ?_
       intro v2 w2 hO2 b2
       obtain ⟨A2, c2, rfl, -, -⟩ := hO2.slice))
  go_ret
  exact ⟨.slice A2 (a ++ b).length c2, by simp, hO2, B1.trans b2⟩
theorem szModel : (Try.prog.info? 74).map (·.size) = some 7 := by kernel_rfl
def cellsMd (m : Md) (rv av : Value) : Array Value := #[.string ⟨m.S.toArray⟩, rv, av, .bool m.Sure, .bool m.Empty, .bool m.Swap, .string ⟨m.Next.toArray⟩]
abbrev zeroMd : Array Value := #[.string ⟨#[]⟩, .slice none 0 0, .slice none 0 0, .bool false, .bool false, .bool false, .string ⟨#[]⟩]
theorem cellsMd_one {m : Md} {A B : Option Addr} {n k c d : Nat} : (cellsMd m (.slice A n c) (.slice B k d)).all (·.oneCell') = true := by simp [cellsMd, Value.oneCell']
set_option maxRecDepth 100000 in
set_option maxHeartbeats 2000000 in
theorem opened_any (W : World) (st : Bs) (A : Option Addr) (a : List Bs) (n c : Nat) (hA : Strs W A a) (hn : a.length = n) (hA2 : (∃ x, A = some x) ∨ (A = none ∧ c = 0)) (hs : n ≤ 50000) :
    Calls Try.prog 68 #[.string ⟨st.toArray⟩, .slice A n c] W fun e w' => ∃ v, e = .returned (.agg (cellsMd (openedM st a) v (.slice none 0 0))) ∧ OwnStrs w' W.heap.size v a ∧ Below W.heap.size W w' := by
  have hO0 := OwnStrs.empty (W.alloc (.cells zeroMd 74))
  rw [World.size_alloc] at hO0
  have hB0 := (Below.new1 W (.cells zeroMd 74)).trans ((Below.new1 (W.alloc (.cells zeroMd 74)) (.cells #[] 9)).mono (by simp))
  have hr0 : ((W.alloc (.cells zeroMd 74)).alloc (.cells #[] 9)).heap[W.heap.size]? = some (.cells zeroMd 74 (0, 0)) := (heap_alloc_old _ _ (by simp)).trans (heap_alloc_new W _)
  have HA := Lib.hid (hA.next hB0)
  have HN := Lib.hid hn
  have HA2 := Lib.hid hA2
  have HB0 := Lib.hid hB0
  have HR0 := Lib.hid hr0
  have HO0 := Lib.hid hO0
  clear hA hn hA2 hO0 hB0 hr0
  go_enter Try.func68, Try.ntmps68
  go_wp2_with (first
    | (at_builtin; refine wpList_append_strs rfl (.tmp 6) (.tmp 7) rfl (W.heap.size + 1) _ [] a A n c rfl rfl HN.out HO0.out HA.out HA2.out (by simp) (by have := HN.out; omega) (by simp) ?_
       intro v1 w1 hO1 b1
       rw [List.nil_append] at hO1
       have r1 := (b1.block W.heap.size (by omega)).trans HR0.out
       obtain ⟨A1, c1, rfl, -, -⟩ := hO1.slice
       have HO1 := Lib.hid hO1
       have HB1 := Lib.hid b1
       clear hO1 b1)
    | (refine wpList_store_row rfl 74 (.tmp 4) (.tmp 9) rfl W.heap.size (cellsMd (openedM st a) (.slice A1 a.length c1) (.slice none 0 0)) rfl rfl 74 zeroMd r1 szModel rfl cellsMd_one ?_))
  have hh := setRow_heap _ _ _ (cellsMd (openedM st a) (.slice A1 a.length c1) (.slice none 0 0)) _ _ r1
  exact bodyPost_ret (v := .agg (cellsMd (openedM st a) (.slice A1 a.length c1) (.slice none 0 0))) (results_cell_row (p := 4) (ty := 74) rfl _ _ W.heap.size 74 _ (0, 0) (.struct (Try.prog.fieldsOf 74)) rfl hh (by kernel_rfl) rfl szModel) rfl
    ⟨_, rfl, (HO1.out.kept fun g hg => setRow_other _ _ _ _ (by have := (World.ownsRow.lt HO1.out g hg).1; omega)).mono (by omega), below_setRow (HB0.out.trans (HB1.out.mono (by omega))) (Nat.le_refl _) _⟩
set_option maxRecDepth 100000 in
set_option maxHeartbeats 2000000 in
theorem added_any (W : World) (m : Md) (s : Bs) (rv : Value) (A : Option Addr) (n c : Nat) (hn : m.A.length = n) (hA : Strs W A m.A) (hA2 : (∃ x, A = some x) ∨ (A = none ∧ c = 0)) (hs : n ≤ 50000) (A0 : Option Addr) (k0 c0 : Nat) (hrv : rv = .slice A0 k0 c0) :
    Calls Try.prog 81 #[.agg #[.string ⟨m.S.toArray⟩, rv, .slice A n c, .bool m.Sure, .bool m.Empty, .bool m.Swap, .string ⟨m.Next.toArray⟩], .string ⟨s.toArray⟩] W fun e w' => ∃ v, e = .returned (.agg (cellsMd (addedM m s) rv v)) ∧ OwnStrs w' W.heap.size v (addedM m s).A ∧ Below W.heap.size W w' := by
  subst hrv
  have hB0 : Below W.heap.size W (((W.alloc (.cells #[.string ⟨m.S.toArray⟩, .slice A0 k0 c0, .slice A n c, .bool m.Sure, .bool m.Empty, .bool m.Swap, .string ⟨m.Next.toArray⟩] 74)).alloc (.cells zeroMd 74)).alloc (.cells #[.string ⟨s.toArray⟩] 9)) :=
    ((Below.new1 W _).trans ((Below.new1 _ _).mono (by simp))).trans ((Below.new1 _ _).mono (by simp; omega))
  obtain ⟨w3, hw3⟩ : ∃ w3, ((W.alloc (.cells #[.string ⟨m.S.toArray⟩, .slice A0 k0 c0, .slice A n c, .bool m.Sure, .bool m.Empty, .bool m.Swap, .string ⟨m.Next.toArray⟩] 74)).alloc (.cells zeroMd 74)).alloc (.cells #[.string ⟨s.toArray⟩] 9) = w3 := ⟨_, rfl⟩
  have hr0 : w3.heap[W.heap.size]? = some (.cells #[.string ⟨m.S.toArray⟩, .slice A0 k0 c0, .slice A n c, .bool m.Sure, .bool m.Empty, .bool m.Swap, .string ⟨m.Next.toArray⟩] 74 (0, 0)) := by
    rw [← hw3]; exact (heap_alloc_old _ _ (by simp; omega)).trans ((heap_alloc_old _ _ (by simp)).trans (heap_alloc_new W _))
  have hr1 : w3.heap[W.heap.size + 1]? = some (.cells zeroMd 74 (0, 0)) := by
    rw [← hw3]; exact (heap_alloc_old _ _ (by simp)).trans (by have := heap_alloc_new (W.alloc (.cells #[.string ⟨m.S.toArray⟩, .slice A0 k0 c0, .slice A n c, .bool m.Sure, .bool m.Empty, .bool m.Swap, .string ⟨m.Next.toArray⟩] 74)) (.cells zeroMd 74); rw [World.size_alloc] at this; exact this)
  have hS3 : Strs w3 (some ⟨W.heap.size + 1 + 1, 0, none⟩) [s] := by
    rw [← hw3]
    have := Strs.oneS ((W.alloc (.cells #[.string ⟨m.S.toArray⟩, .slice A0 k0 c0, .slice A n c, .bool m.Sure, .bool m.Empty, .bool m.Swap, .string ⟨m.Next.toArray⟩] 74)).alloc (.cells zeroMd 74)) s
    simpa using this
  have hs3 : w3.heap.size = W.heap.size + 1 + 1 + 1 := by rw [← hw3]; simp
  rw [hw3] at hB0
  have hj := joined_any w3 A (some ⟨W.heap.size + 1 + 1, 0, none⟩) m.A [s] n 1 c 1 (hA.next hB0) hS3 hn rfl hA2 (.inl ⟨_, rfl⟩) hs (by decide)
  have HJ := Lib.hid hj
  have HB0 := Lib.hid hB0
  have HR0 := Lib.hid hr0
  have HR1 := Lib.hid hr1
  have HS3 := Lib.hid hs3
  clear hj hB0 hr0 hr1 hS3 hs3 hA hA2 hn
  have e0 : (addedM m s).A = m.A ++ [s] := rfl
  have e1 : ∀ v, cellsMd (addedM m s) (.slice A0 k0 c0) v = #[.string ⟨m.S.toArray⟩, .slice A0 k0 c0, v, .bool m.Sure, .bool m.Empty, .bool m.Swap, .string ⟨m.Next.toArray⟩] := fun v => rfl
  simp only [e0, e1]
  obtain ⟨S, R, Al, b1, b2, b3, Nx⟩ := m
  simp only at HJ HR0 hw3 ⊢
  clear e0 e1
  go_enter Try.func81, Try.ntmps81
  go_wp2_with (first
    | (go_at_call 82; try rw [hw3]
       refine HJ.out.mono ?_; rintro x w4 ⟨v4, rfl, hv4, b4⟩
       obtain ⟨A4, c4, rfl, -, -⟩ := hv4.slice
       rw [List.length_append, List.length_singleton] at hv4
       have r0 := (b4.block W.heap.size (by rw [HS3.out]; omega)).trans HR0.out
       have r1 := (b4.block (W.heap.size + 1) (by rw [HS3.out]; omega)).trans HR1.out
       have k2 : w4.cell? ⟨W.heap.size, 2, none⟩ = some (.slice A n c) := (cell_of_row w4 _ 2 _ _ _ r0).trans rfl
       have f2 : w4.frozen? ⟨W.heap.size, 2, none⟩ = false := by simp [World.frozen?, r0]
       have r5 : (w4.setCell ⟨W.heap.size, 2, none⟩ (.slice A4 (Al.length + 1) c4)).heap[W.heap.size]? = some (.cells #[.string ⟨S.toArray⟩, .slice A0 k0 c0, .slice A4 (Al.length + 1) c4, .bool b1, .bool b2, .bool b3, .string ⟨Nx.toArray⟩] 74 (0, 0)) := by simp [World.setCell, Array.getElem?_modify, r0]
       have r6 : (w4.setCell ⟨W.heap.size, 2, none⟩ (.slice A4 (Al.length + 1) c4)).heap[W.heap.size + 1]? = some (.cells zeroMd 74 (0, 0)) := (Below.heap_setCell _ _ _ _ (by simp)).trans r1
       have HV4 := Lib.hid hv4
       have HB4 := Lib.hid b4
       clear hv4 b4 r0 r1)
    | (refine wpList_load_row rfl 74 (.tmp 2) rfl W.heap.size rfl 74 #[.string ⟨S.toArray⟩, .slice A0 k0 c0, .slice A4 (Al.length + 1) c4, .bool b1, .bool b2, .bool b3, .string ⟨Nx.toArray⟩] (0, 0) (.struct (Try.prog.fieldsOf 74)) r5 (by kernel_rfl) rfl szModel ?_)
    | (refine wpList_store_row rfl 74 (.tmp 4) (.tmp 11) rfl (W.heap.size + 1) #[.string ⟨S.toArray⟩, .slice A0 k0 c0, .slice A4 (Al.length + 1) c4, .bool b1, .bool b2, .bool b3, .string ⟨Nx.toArray⟩] rfl rfl 74 zeroMd r6 szModel rfl (by simp [Value.oneCell']) ?_))
  have hh := setRow_heap _ _ _ #[.string ⟨S.toArray⟩, .slice A0 k0 c0, .slice A4 (Al.length + 1) c4, .bool b1, .bool b2, .bool b3, .string ⟨Nx.toArray⟩] _ _ r6
  refine bodyPost_ret (v := .agg #[.string ⟨S.toArray⟩, .slice A0 k0 c0, .slice A4 (Al.length + 1) c4, .bool b1, .bool b2, .bool b3, .string ⟨Nx.toArray⟩]) (results_cell_row (p := 4) (ty := 74) rfl _ _ (W.heap.size + 1) 74 _ (0, 0) (.struct (Try.prog.fieldsOf 74)) rfl hh (by kernel_rfl) rfl szModel) rfl
    ⟨_, rfl, (HV4.out.kept fun g hg => ?_).mono (by rw [HS3.out]; omega), below_setRow ((HB0.out.trans (HB4.out.mono HB0.out.size)).setCell (p := ⟨W.heap.size, 2, none⟩) (Nat.le_refl _) _) (by omega) _⟩
  have := (World.ownsRow.lt HV4.out g hg).1
  rw [HS3.out] at this
  exact (setRow_other _ _ _ _ (by omega)).trans (Below.heap_setCell _ _ _ _ (by simp; omega))
end
section
open Go.RowKit
set_option maxRecDepth 100000 in
set_option maxHeartbeats 16000000 in
theorem allows_any (W : World) (m : Md) (st : Bs) (RA AA B : Option Addr) (rk rc ak ac n d : Nat) (rs : List Bs) (hR : Strs W RA m.R) (hA : Strs W AA m.A) (hB : Strs W B rs) (hrk : m.R.length = rk) (hak : m.A.length = ak) (hn : rs.length = n)
    (hR2 : (∃ x, RA = some x) ∨ (RA = none ∧ rc = 0)) (hA2 : (∃ x, AA = some x) ∨ (AA = none ∧ ac = 0)) (b1 : rk ≤ 50000) (b2 : ak ≤ 50000) (b3 : n ≤ 50000) :
    Calls Try.prog 78 #[.agg #[.string ⟨m.S.toArray⟩, .slice RA rk rc, .slice AA ak ac, .bool m.Sure, .bool m.Empty, .bool m.Swap, .string ⟨m.Next.toArray⟩], .string ⟨st.toArray⟩, .slice B n d] W fun e w' => e = .returned (.bool (allowsM m st rs)) ∧ Below W.heap.size W w' := by
  obtain ⟨S, R, Al, sure, emp, swp, Nx⟩ := m
  obtain ⟨w1, hw1⟩ : ∃ w1, W.alloc (.cells #[.string ⟨S.toArray⟩, .slice RA rk rc, .slice AA ak ac, .bool sure, .bool emp, .bool swp, .string ⟨Nx.toArray⟩] 74) = w1 := ⟨_, rfl⟩
  have hB1 : Below W.heap.size W w1 := hw1 ▸ Below.new1 _ _
  have hr1 : w1.heap[W.heap.size]? = some (.cells #[.string ⟨S.toArray⟩, .slice RA rk rc, .slice AA ak ac, .bool sure, .bool emp, .bool swp, .string ⟨Nx.toArray⟩] 74 (0, 0)) := hw1 ▸ heap_alloc_new W _
  have k0 : w1.cell? ⟨W.heap.size, 0, none⟩ = some (.string ⟨S.toArray⟩) := (cell_of_row w1 _ 0 _ _ _ hr1).trans rfl
  have k1 : w1.cell? ⟨W.heap.size, 1, none⟩ = some (.slice RA rk rc) := (cell_of_row w1 _ 1 _ _ _ hr1).trans rfl
  have k2 : w1.cell? ⟨W.heap.size, 2, none⟩ = some (.slice AA ak ac) := (cell_of_row w1 _ 2 _ _ _ hr1).trans rfl
  have k3 : w1.cell? ⟨W.heap.size, 3, none⟩ = some (.bool sure) := (cell_of_row w1 _ 3 _ _ _ hr1).trans rfl
  have k4 : w1.cell? ⟨W.heap.size, 4, none⟩ = some (.bool emp) := (cell_of_row w1 _ 4 _ _ _ hr1).trans rfl
  have k5 : w1.cell? ⟨W.heap.size, 5, none⟩ = some (.bool swp) := (cell_of_row w1 _ 5 _ _ _ hr1).trans rfl
  have k6 : w1.cell? ⟨W.heap.size, 6, none⟩ = some (.string ⟨Nx.toArray⟩) := (cell_of_row w1 _ 6 _ _ _ hr1).trans rfl
  have hbe := fun w (b : Below w1.heap.size w1 w) => begins_any w B RA rs R n rk d rc ((hB.next hB1).next b) ((hR.next hB1).next b) hn hrk (by omega) (by omega)
  have hjo := fun w (b : Below w1.heap.size w1 w) => joined_any w RA AA R Al rk ak rc ac ((hR.next hB1).next b) ((hA.next hB1).next b) hrk hak hR2 hA2 b1 b2
  obtain ⟨k, hk, hk2⟩ : ∃ k, (R ++ Al).length = k ∧ k ≤ 100000 := ⟨_, rfl, by simp at hrk hak ⊢; omega⟩
  have hbe2 := fun w A c (b : Below w1.heap.size w1 w) (hS : Strs w A (R ++ Al)) => begins_any w A B (R ++ Al) rs k n c d hS ((hB.next hB1).next b) hk hn (by omega) (by omega)
  obtain ⟨res, hres⟩ : ∃ res, allowsM ⟨S, R, Al, sure, emp, swp, Nx⟩ st rs = res := ⟨_, rfl⟩
  rw [hres]
  obtain ⟨g1, hg1⟩ : ∃ g1, beginsM rs R = g1 := ⟨_, rfl⟩
  obtain ⟨g2, hg2⟩ : ∃ g2, beginsM (R ++ Al) rs = g2 := ⟨_, rfl⟩
  unfold allowsM at hres
  simp only [hg1, hg2, hn] at hres
  rw [hg1] at hbe
  rw [hg2] at hbe2
  have HBE := Lib.hid hbe
  have HK := Lib.hid hk
  have HJO := Lib.hid hjo
  have HBE2 := Lib.hid hbe2
  have HB1 := Lib.hid hB1
  have HR1 := Lib.hid hr1
  have HRES := Lib.hid hres
  have hF : (swp = false ∨ (swp = true ∧ (st == Nx) = false) ∨ (swp = true ∧ (st == Nx) = true ∧ ((n : Int) == 0) = false)) ∨ (swp = true ∧ (st == Nx) = true ∧ ((n : Int) == 0) = true) := by
    cases swp <;> cases (st == Nx) <;> cases ((n : Int) == 0) <;> simp
  have hE : (emp = false ∨ (emp = true ∧ (st == []) = false) ∨ (emp = true ∧ (st == []) = true ∧ ((n : Int) == 0) = false)) ∨ (emp = true ∧ (st == []) = true ∧ ((n : Int) == 0) = true) := by
    cases emp <;> cases (st == []) <;> cases ((n : Int) == 0) <;> simp
  have hn0 : ((n : Int) == 0) = (n == 0) := by
    rw [Bool.eq_iff_iff]; simp
  have HN0 := Lib.hid hn0
  clear hbe hjo hbe2 hB1 hr1 hres hg1 hg2 hR hA hB hrk hak hn hR2 hA2 hn0 hk
  rcases hF with hF | ⟨rfl, q1, q2⟩
  case inr =>
    have e := HRES.out
    rw [HN0.out] at q2
    rw [q1, q2] at e
    rw [← HN0.out] at q2
    simp only [Bool.and_self, Bool.true_or] at e
    subst e
    clear hE
    go_enter Try.func78, Try.ntmps78
    go_wp2_with (fail)
    go_ret
    exact ⟨rfl, HB1.out⟩
  rcases hE with hE | ⟨rfl, q1, q2⟩
  case inr =>
    have e := HRES.out
    rw [HN0.out] at q2
    rw [q1, q2] at e
    rw [← HN0.out] at q2
    simp only [Bool.and_self, Bool.true_or, Bool.or_true] at e
    subst e
    rcases hF with rfl | ⟨rfl, q3⟩ | ⟨rfl, q3, q4⟩
    case inr.inr => rw [q2] at q4; cases q4
    all_goals
      go_enter Try.func78, Try.ntmps78
      go_wp2_with (fail)
      go_ret
      exact ⟨rfl, HB1.out⟩
  have HC : Hid (res = (sure && st == S && g1 && g2)) := by
    refine Lib.hid ?_
    have e := HRES.out
    rw [← HN0.out] at e
    have e1 : (swp && st == Nx && ((n : Int) == 0)) = false := by rcases hF with h | ⟨h, h2⟩ | ⟨h, h2, h3⟩ <;> simp_all
    have e2 : (emp && st == [] && ((n : Int) == 0)) = false := by rcases hE with h | ⟨h, h2⟩ | ⟨h, h2, h3⟩ <;> simp_all
    rw [e1, e2] at e
    simpa using e.symm
  clear HRES
  go_enter Try.func78, Try.ntmps78
  go_upto_region 1 with (fail)
  go_cut [32] from 7 to 31 (fun u W => u = .bool false ∧ W = w1)
  case first =>
    clear HBE HJO HBE2 HC
    rcases hF with rfl | ⟨rfl, q3⟩ | ⟨rfl, q3, q4⟩ <;> rcases hE with rfl | ⟨rfl, q5⟩ | ⟨rfl, q5, q6⟩
    all_goals
      go_wp2_with (fail)
      go_meet
      exact ⟨rfl, rfl⟩
  case rest =>
    obtain ⟨rfl, rfl⟩ := hcut
    clear hF hE
    cases sure with
    | false =>
      have e : res = false := by rw [HC.out]; rfl
      subst e
      go_wp2_with (fail)
      go_ret
      exact ⟨rfl, HB1.out⟩
    | true =>
      cases q7 : (st == S) with
      | false =>
        have e : res = false := by rw [HC.out, q7]; rfl
        subst e
        go_wp2_with (fail)
        go_ret
        exact ⟨rfl, HB1.out⟩
      | true =>
        cases g1 with
        | false =>
          have e : res = false := by rw [HC.out, q7]; rfl
          subst e
          go_wp2_with (go_at_call 33; refine (HBE.out _ (Below.refl _ _)).mono ?_; rintro x w4 ⟨rfl, b4⟩)
          go_ret
          exact ⟨rfl, Below.next HB1.out b4⟩
        | true =>
          have e : res = g2 := by rw [HC.out, q7]; rfl
          subst e
          go_wp2_with (first
            | (go_at_call 82; refine (HJO.out _ b4).mono ?_; rintro x w5 ⟨v5, rfl, hv5, b5⟩; obtain ⟨A5, c5, e5, s5, -⟩ := hv5.slice; rw [HK.out] at e5; subst e5; have b45 := Below.next b4 b5)
            | (go_at_call 33; refine (HBE2.out _ A5 c5 b45 s5).mono ?_; rintro x w6 ⟨rfl, b6⟩)
            | (go_at_call 33; refine (HBE.out _ (Below.refl _ _)).mono ?_; rintro x w4 ⟨rfl, b4⟩
               have k1' := cell_kept b4 k1
               have k2' := cell_kept b4 k2))
          go_ret
          exact ⟨rfl, Below.next (Below.next (Below.next HB1.out b4) b5) b6⟩
end
end Go.Proofs.Ytkljfampkkfgdaa
