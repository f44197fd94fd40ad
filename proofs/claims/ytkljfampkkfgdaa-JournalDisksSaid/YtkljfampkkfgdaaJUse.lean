/- The journal layer: the walks over use and alike. -/
import Derived.Test.YtkljfampkkfgdaaJOwn
import Derived.Test.YtkljfampkkfgdaaJRefS
import Derived.Test.YtkljfampkkfgdaaJRefC
namespace Go.Proofs.Ytkljfampkkfgdaa
open Go.RowKit
/-- A disk and the reference's disk, both D. -/
def UseAt (K Kr : Nat → Prop) (W : World) (dk : Nat) (v : Value) (D : Dk) : Prop := DD K W dk D ∧ RefV Kr W v D ∧ ∀ i, Kr i → K i
section
variable {K Kr : Nat → Prop} {W W' : World} {dk : Nat} {v : Value} {D D' : Dk}
theorem RefV.some_ (h : RefV K W v D) : ∃ A n c, v = dkV A n c D.off D.fuse := by
  obtain ⟨A, n, c, l, e, _⟩ := h
  exact ⟨A, n, c, e⟩
theorem RefV.mono {K' : Nat → Prop} (h : RefV K W v D) (hk : ∀ i, K i → K' i) : RefV K' W v D := by
  obtain ⟨A, n, c, l, e, h0, h1, h2, h3⟩ := h
  exact ⟨A, n, c, l, e, h0, h1, h2, h3.mono hk⟩
/-- Kept blocks have not changed. -/
theorem RefV.kp (h : RefV K W v D) (hk : Kp K W W') (hK : ∀ i, K i → i < W.heap.size) : RefV K W' v D := by
  obtain ⟨A, n, c, l, e, h0, h1, h2, h3⟩ := h
  refine ⟨A, n, c, l, e, h0, ?_, ⟨h2.1, fun i s hs => ?_⟩, h3⟩
  · obtain ⟨q1, q2⟩ := h1
    refine ⟨q1, ?_⟩
    rcases q2 with q2 | ⟨g, cap, cur, e, hg, hh, r⟩
    · exact .inl q2
    · cases e
      exact .inr ⟨g, c, cur, rfl, hg, (hk.block (Array.getElem?_eq_some_iff.1 hh).1 (h3.1 _ rfl)).trans hh, r⟩
  · obtain ⟨u, q1, PA, pc, rfl, hP, hPn⟩ := h2.2 i s hs
    refine ⟨_, q1, PA, pc, rfl, hP.kp hk fun p e => ?_, hPn⟩
    subst e
    have := h3.2 _ (List.mem_of_getElem? q1) p _ _ rfl
    exact ⟨hK _ this, this⟩
theorem DD.keepU (h : DD K W dk D) (hB : ButS K W W') : DD K W' dk D := by
  obtain ⟨h1, F, h2, h3⟩ := h
  exact ⟨fun i hi => Nat.lt_of_lt_of_le (h1 i hi) hB.size, F, h2.but hB h3, h3⟩
theorem UseAt.next (h : UseAt K Kr W dk v D) (hB : Below W.heap.size W W') : UseAt K Kr W' dk v D := ⟨h.1.next hB, h.2.1.next hB, h.2.2⟩
/-- What use leaves. -/
def UseP (K Kr : Nat → Prop) (W : World) (dk : Nat) (D' : Dk) (e : Ending) (w' : World) : Prop := ∃ K' Kr' v', (∀ i, K i → K' i) ∧ (∀ i, Kr' i → Kr i ∨ W.heap.size ≤ i) ∧ e = .returned (.tuple #[v', .bool true]) ∧ UseAt K' Kr' w' dk v' D' ∧ Kp K W w'
/-- The boxes of use: the reference's disk, the call, the result. -/
structure UB (w : World) (s : Nat) (A : Option Addr) (n c : Nat) (o : Bool) (f : Int) (x : Ca) (B : Option Addr) (m d : Nat) (o' : Bool) (f' : Int) : Prop where
  b0 : w.heap[s]? = some (.cells #[.slice A n c, .bool o, .int .i64 f] 46 (0, 0))
  b1 : w.heap[s + 1]? = some (.cells #[.int .u8 x.kd, .int .i64 x.b, .string ⟨x.T.toArray⟩, .int .i64 x.n, .slice x.A x.keep.length x.kc] 53 (0, 0))
  b2 : w.heap[s + 1 + 1]? = some (.cells #[.slice B m d, .bool o', .int .i64 f'] 46 (0, 0))
abbrev callV (x : Ca) : Value := .agg #[.int .u8 x.kd, .int .i64 x.b, .string ⟨x.T.toArray⟩, .int .i64 x.n, .slice x.A x.keep.length x.kc]
abbrev useW (W : World) (A : Option Addr) (n c : Nat) (o : Bool) (f : Int) (x : Ca) : World := ((W.alloc (.cells #[.slice A n c, .bool o, .int .i64 f] 46)).alloc (.cells #[.int .u8 x.kd, .int .i64 x.b, .string ⟨x.T.toArray⟩, .int .i64 x.n, .slice x.A x.keep.length x.kc] 53)).alloc (.cells #[.slice none 0 0, .bool false, .int .i64 0] 46)
section
variable {W w w' : World} {s n c m d n' c' : Nat} {A B A' : Option Addr} {o o' : Bool} {f f' : Int} {x : Ca}
theorem UB.new (W : World) (A : Option Addr) (n c : Nat) (o : Bool) (f : Int) (x : Ca) : UB (useW W A n c o f x) W.heap.size A n c o f x none 0 0 false 0 ∧ Below W.heap.size W (useW W A n c o f x) ∧ (useW W A n c o f x).heap.size = W.heap.size + 3 := by
  refine ⟨⟨(heap_alloc_old _ _ (by simp; omega)).trans ((heap_alloc_old _ _ (by simp)).trans (heap_alloc_new W _)), (heap_alloc_old _ _ (by simp)).trans ?_, ?_⟩, Below.next (Below.next (Below.new1 _ _) (Below.new1 _ _)) (Below.new1 _ _), by simp⟩
  · have := heap_alloc_new (W.alloc (.cells #[.slice A n c, .bool o, .int .i64 f] 46)) (.cells #[.int .u8 x.kd, .int .i64 x.b, .string ⟨x.T.toArray⟩, .int .i64 x.n, .slice x.A x.keep.length x.kc] 53)
    rw [World.size_alloc] at this
    exact this
  · have := heap_alloc_new ((W.alloc (.cells #[.slice A n c, .bool o, .int .i64 f] 46)).alloc (.cells #[.int .u8 x.kd, .int .i64 x.b, .string ⟨x.T.toArray⟩, .int .i64 x.n, .slice x.A x.keep.length x.kc] 53)) (.cells #[.slice none 0 0, .bool false, .int .i64 0] 46)
    simpa using this
theorem UB.lt (h : UB w s A n c o f x B m d o' f') : s + 1 + 1 < w.heap.size := (Array.getElem?_eq_some_iff.1 h.b2).1
theorem UB.kept (h : UB w s A n c o f x B m d o' f') (hk : ∀ i, s ≤ i → i ≤ s + 1 + 1 → w'.heap[i]? = w.heap[i]?) : UB w' s A n c o f x B m d o' f' :=
  ⟨(hk _ (by omega) (by omega)).trans h.b0, (hk _ (by omega) (by omega)).trans h.b1, (hk _ (by omega) (by omega)).trans h.b2⟩
theorem UB.next (h : UB w s A n c o f x B m d o' f') (hB : Below w.heap.size w w') : UB w' s A n c o f x B m d o' f' := h.kept fun i _ _ => hB.block i (by have := h.lt; omega)
theorem UB.c0 (h : UB w s A n c o f x B m d o' f') : w.cell? ⟨s, 0, none⟩ = some (.slice A n c) := (cell_of_row w _ 0 _ _ _ h.b0).trans rfl
theorem UB.c1 (h : UB w s A n c o f x B m d o' f') : w.cell? ⟨s, 1, none⟩ = some (.bool o) := (cell_of_row w _ 1 _ _ _ h.b0).trans rfl
theorem UB.c2 (h : UB w s A n c o f x B m d o' f') : w.cell? ⟨s, 2, none⟩ = some (.int .i64 f) := (cell_of_row w _ 2 _ _ _ h.b0).trans rfl
theorem UB.x0 (h : UB w s A n c o f x B m d o' f') : w.cell? ⟨s + 1, 0, none⟩ = some (.int .u8 x.kd) := (cell_of_row w _ 0 _ _ _ h.b1).trans rfl
theorem UB.x1 (h : UB w s A n c o f x B m d o' f') : w.cell? ⟨s + 1, 1, none⟩ = some (.int .i64 x.b) := (cell_of_row w _ 1 _ _ _ h.b1).trans rfl
theorem UB.x2 (h : UB w s A n c o f x B m d o' f') : w.cell? ⟨s + 1, 2, none⟩ = some (.string ⟨x.T.toArray⟩) := (cell_of_row w _ 2 _ _ _ h.b1).trans rfl
theorem UB.x3 (h : UB w s A n c o f x B m d o' f') : w.cell? ⟨s + 1, 3, none⟩ = some (.int .i64 x.n) := (cell_of_row w _ 3 _ _ _ h.b1).trans rfl
theorem UB.x4 (h : UB w s A n c o f x B m d o' f') : w.cell? ⟨s + 1, 4, none⟩ = some (.slice x.A x.keep.length x.kc) := (cell_of_row w _ 4 _ _ _ h.b1).trans rfl
theorem UB.m0 (h : UB w s A n c o f x B m d o' f') : w.cell? ⟨s + 1 + 1, 0, none⟩ = some (.slice B m d) := (cell_of_row w _ 0 _ _ _ h.b2).trans rfl
theorem UB.m1 (h : UB w s A n c o f x B m d o' f') : w.cell? ⟨s + 1 + 1, 1, none⟩ = some (.bool o') := (cell_of_row w _ 1 _ _ _ h.b2).trans rfl
theorem UB.m2 (h : UB w s A n c o f x B m d o' f') : w.cell? ⟨s + 1 + 1, 2, none⟩ = some (.int .i64 f') := (cell_of_row w _ 2 _ _ _ h.b2).trans rfl
theorem UB.fz (h : UB w s A n c o f x B m d o' f') (i : Nat) : w.frozen? ⟨s, i, none⟩ = false := by have := h.b0; simp [World.frozen?, this]
theorem UB.fz2 (h : UB w s A n c o f x B m d o' f') (i : Nat) : w.frozen? ⟨s + 1 + 1, i, none⟩ = false := by have := h.b2; simp [World.frozen?, this]
theorem UB.put (h : UB w s A n c o f x B m d o' f') (A' : Option Addr) (n' c' : Nat) (p : Bool) (g' : Int) : UB (set3 w s A' n' c' p g') s A' n' c' p g' x B m d o' f' := by
  refine ⟨?_, (set3_other w (by omega) _ _ _ _ _).trans h.b1, (set3_other w (by omega) _ _ _ _ _).trans h.b2⟩
  have := h.b0
  simp [World.setCell, Array.getElem?_modify, this]
theorem UB.put2 (h : UB w s A n c o f x B m d o' f') (A' : Option Addr) (n' c' : Nat) (p : Bool) (g' : Int) : (set3 w (s + 1 + 1) A' n' c' p g').heap[s + 1 + 1]? = some (.cells #[.slice A' n' c', .bool p, .int .i64 g'] 46 (0, 0)) := by
  have := h.b2
  simp [World.setCell, Array.getElem?_modify, this]
theorem butS_set3 {F : Nat → Prop} (w : World) {s : Nat} (hs : F s) (A : Option Addr) (n c : Nat) (o : Bool) (f : Int) : ButS F w (set3 w s A n c o f) :=
  ((ButS.setCell (F := F) w (p := ⟨s, 0, none⟩) hs _).trans (ButS.setCell (F := F) _ (p := ⟨s, 1, none⟩) hs _) fun _ h => .inl h).trans (ButS.setCell (F := F) _ (p := ⟨s, 2, none⟩) hs _) fun _ h => .inl h
end
/-- What is known behind both calls of use: the disk, the reference's disk, and where they lie. -/
structure UseQ (K Kr : Nat → Prop) (W w2 w3 : World) (dk : Nat) (v : Value) (D' : Dk) (z : Nat) : Prop where
  lo : ∀ i, K i → i < W.heap.size
  sub : ∀ i, Kr i → K i
  dd : DD (fun i => K i ∨ (W.heap.size ≤ i ∧ i < z)) w2 dk D'
  kp : Kp K W w2
  b3 : Below w2.heap.size w2 w3
  rv : RefV (fun i => Kr i ∨ (w2.heap.size ≤ i ∧ i < w3.heap.size)) w3 v D'
  z3 : W.heap.size + 3 ≤ z
  zs : z ≤ w2.heap.size
theorem UseQ.fin {w2 w3 : World} {A : Option Addr} {n c z : Nat} {o : Bool} {f : Int} (h : UseQ K Kr W w2 w3 dk (dkV A n c o f) D' z) : UseP K Kr W dk D' (.returned (.tuple #[dkV A n c o f, .bool true])) (set3 (set3 w3 W.heap.size A n c o f) (W.heap.size + 1 + 1) A n c o f) := by
  have hz3 := h.z3
  have hzs := h.zs
  have hlo := h.lo
  have hd3 := h.dd.more h.b3
  have hs1 := butS_set3 (F := fun i => W.heap.size ≤ i ∧ i < W.heap.size + 3) w3 (s := W.heap.size) (by omega) A n c o f
  have hs2 := hs1.trans (butS_set3 (F := fun i => W.heap.size ≤ i ∧ i < W.heap.size + 3) (set3 w3 W.heap.size A n c o f) (s := W.heap.size + 1 + 1) (by omega) A n c o f) fun _ h => .inl h
  have hsub := h.sub
  have hkr : Kp (fun i => Kr i ∨ (w2.heap.size ≤ i ∧ i < w3.heap.size)) w3 (set3 (set3 w3 W.heap.size A n c o f) (W.heap.size + 1 + 1) A n c o f) := hs2.mono fun i _ hi hk => by
    rcases hk with hk | hk
    · have := hlo i (hsub i hk); omega
    · omega
  refine ⟨_, _, _, fun i hi => .inl (.inl hi), fun i hi => hi.imp id fun q => by have := h.kp.size; omega, rfl, ⟨hd3.keepU (hs2.mono fun i _ hi => .inl (.inr ⟨hi.1, by omega⟩)), h.rv.kp hkr fun i hi => ?_, fun i hi => ?_⟩, ?_⟩
  · rcases hi with hi | hi
    · have := hlo i (hsub i hi); have := h.b3.size; omega
    · exact hi.2
  · exact hi.elim (fun q => .inl (.inl (hsub i q))) fun q => .inr q
  · refine (h.kp.next h.b3).trans (hs2.mono fun i _ hi hk => ?_)
    have := hlo i hk
    omega
set_option maxRecDepth 100000 in
set_option maxHeartbeats 1000000 in
theorem use_sync (h : UseAt K Kr W dk v D) (ok : D.Ok) (hfe : Few 1000 D) (x : Ca) (hk : x.kd.tmod 6 = 2) : Calls Try.prog 26 #[.pointer (some ⟨dk, 0, none⟩), v, callV x] W (UseP K Kr W dk (syncM D).2) := by
  obtain ⟨A, n, c, rfl⟩ := h.2.1.some_
  obtain ⟨w1, hw1⟩ : ∃ w1, useW W A n c D.off D.fuse x = w1 := ⟨_, rfl⟩
  obtain ⟨hU, hB, hz⟩ := UB.new W A n c D.off D.fuse x
  rw [hw1] at hU hB hz
  have hlo := h.1.1
  have hsub := h.2.2
  have hd1 : DD (fun i => K i ∨ (W.heap.size ≤ i ∧ i < W.heap.size + 3)) w1 dk D := by have := h.1.more hB; rw [hz] at this; exact this
  have hr1 := h.2.1.next hB
  have hds := sync_dd hd1
  have hrs := fun w2 (k : Kp (fun i => K i ∨ (W.heap.size ≤ i ∧ i < W.heap.size + 3)) w1 w2) => rsync_any (hr1.kp (k.mono fun i hi => .inl (hsub i hi)) fun i hi => Nat.lt_of_lt_of_le (hlo i (hsub i hi)) hB.size) ok hfe
  have HDS := Lib.hid hds
  have HRS := Lib.hid hrs
  have HU := Lib.hid hU
  have HB := Lib.hid hB
  have HZ := Lib.hid hz
  have HLO := Lib.hid hlo
  have HSUB := Lib.hid hsub
  have g0 := hU.x0
  generalize (syncM D).1 = er at *
  generalize (syncM D).2 = D' at *
  have q0 : (er == er) = true := by simp
  have kk2 : (x.kd.tmod 6 == 2) = true := by rw [hk]; rfl
  clear hds hrs hU hB hz hlo hsub hd1 hr1 h ok hfe hk
  go_enter Try.func26, Try.ntmps26
  go_upto_region 18 with (first
    | (go_at_call 40; refine HDS.out.mono ?_; rintro y w2 ⟨rfl, hd2, k2⟩
       have U2 := HU.out.kept fun i h1 h2 => k2.block (by have := HZ.out; omega) (.inr ⟨by omega, by omega⟩)
       have c0 := U2.c0
       have c1 := U2.c1
       have c2 := U2.c2
       have HR2 := Lib.hid (HRS.out w2 k2))
    | (go_at_call 60; refine HR2.out.mono ?_; rintro y w3 ⟨v3, rfl, hr3, b3⟩
       obtain ⟨A3, n3, c3, rfl⟩ := hr3.some_
       have HQ := Lib.hid (UseQ.mk HLO.out HSUB.out hd2 ((Kp.of HB.out).trans (k2.mono fun i hi => .inl hi)) b3 hr3 (Nat.le_refl _) (by rw [← HZ.out]; exact k2.size))
       have U3 := U2.next b3
       have d0 := U3.c0
       have d1 := U3.c1
       have d2 := U3.c2
       have f0 := U3.fz 0
       have f1 := U3.fz 1
       have f2 := U3.fz 2))
  generalize hw4 : ((w3.setCell ⟨W.heap.size, 0, none⟩ (.slice A3 n3 c3)).setCell ⟨W.heap.size, 1, none⟩ (.bool D'.off)).setCell ⟨W.heap.size, 2, none⟩ (.int .i64 D'.fuse) = w4
  have U4 : UB w4 W.heap.size A3 n3 c3 D'.off D'.fuse x none 0 0 false 0 := by rw [← hw4]; exact U3.put A3 n3 c3 D'.off D'.fuse
  have HF : Hid (UseP K Kr W dk D' (.returned (.tuple #[dkV A3 n3 c3 D'.off D'.fuse, .bool true])) (set3 w4 (W.heap.size + 1 + 1) A3 n3 c3 D'.off D'.fuse)) := Lib.hid (by rw [← hw4]; exact HQ.out.fin)
  clear hw4 d0 d1 d2 f0 f1 f2 U3 HQ hr3 b3
  have d0 := U4.c0
  have d1 := U4.c1
  have d2 := U4.c2
  have m0 := U4.m0
  have m1 := U4.m1
  have m2 := U4.m2
  have f0 := U4.fz2 0
  have f1 := U4.fz2 1
  have f2 := U4.fz2 2
  have HU4 := Lib.hid U4
  clear U4
  go_wp2_with (fail)
  exact bodyPost_ret (v := .tuple #[dkV A3 n3 c3 D'.off D'.fuse, Value.bool true]) (results_dk Try.results26 (HU4.out.put2 A3 n3 c3 D'.off D'.fuse) _ rfl rfl) rfl HF.out
/-- Fuse of the reference. -/
theorem rset_any (h : RefV K W v D) (x : Int) : Calls Try.prog 61 #[v, .int .i64 x] W fun e w' => ∃ v', e = .returned (.tuple #[v', .int .i64 (setM D x).1]) ∧ RefV (fun i => K i ∨ (W.heap.size ≤ i ∧ i < w'.heap.size)) w' v' (setM D x).2 ∧ Below W.heap.size W w' := by
  obtain ⟨A, n, c, l, rfl, hn, hO, hS, hI⟩ := h
  have hI2 : ∀ w' : World, RefIn (fun i => K i ∨ (W.heap.size ≤ i ∧ i < w'.heap.size)) A l := fun w' => hI.mono fun i hi => .inl hi
  unfold setM
  cases ho : D.off
  · rw [if_neg (by simp)]
    exact (rset_on W A n c D.fuse x).mono fun e w' ⟨q1, q2⟩ => ⟨_, q1, ⟨A, n, c, l, rfl, hn, hO.next q2, hS.next q2, hI2 w'⟩, q2⟩
  · rw [if_pos rfl]
    exact (rset_off W A n c D.fuse x).mono fun e w' ⟨q1, q2⟩ => ⟨_, q1, ⟨A, n, c, l, by rw [ho], hn, hO.next q2, hS.next q2, hI2 w'⟩, q2⟩
set_option maxRecDepth 100000 in
set_option maxHeartbeats 2000000 in
theorem use_fuse (h : UseAt K Kr W dk v D) (_ok : D.Ok) (_hfe : Few 1000 D) (x : Ca) (hN : x.n < 9223372036854775808) (hk : x.kd.tmod 6 = 3) : Calls Try.prog 26 #[.pointer (some ⟨dk, 0, none⟩), v, callV x] W (UseP K Kr W dk (setM D x.n).2) := by
  obtain ⟨A, n, c, rfl⟩ := h.2.1.some_
  obtain ⟨w1, hw1⟩ : ∃ w1, useW W A n c D.off D.fuse x = w1 := ⟨_, rfl⟩
  obtain ⟨hU, hB, hz⟩ := UB.new W A n c D.off D.fuse x
  rw [hw1] at hU hB hz
  have hlo := h.1.1
  have hsub := h.2.2
  have hd1 : DD (fun i => K i ∨ (W.heap.size ≤ i ∧ i < W.heap.size + 3)) w1 dk D := by have := h.1.more hB; rw [hz] at this; exact this
  have hr1 := h.2.1.next hB
  have hds := fuse_dd hd1 x.n hN
  have hrs := fun w2 (k : Kp (fun i => K i ∨ (W.heap.size ≤ i ∧ i < W.heap.size + 3)) w1 w2) => rset_any (hr1.kp (k.mono fun i hi => .inl (hsub i hi)) fun i hi => Nat.lt_of_lt_of_le (hlo i (hsub i hi)) hB.size) x.n
  have HDS := Lib.hid hds
  have HRS := Lib.hid hrs
  have HU := Lib.hid hU
  have HB := Lib.hid hB
  have HZ := Lib.hid hz
  have HLO := Lib.hid hlo
  have HSUB := Lib.hid hsub
  have g0 := hU.x0
  have g3 := hU.x3
  generalize (setM D x.n).1 = er at *
  generalize (setM D x.n).2 = D' at *
  have q0 : (er == er) = true := by simp
  have kk2 : (x.kd.tmod 6 == 2) = false := by rw [hk]; rfl
  have kk3 : (x.kd.tmod 6 == 3) = true := by rw [hk]; rfl
  clear hds hrs hU hB hz hlo hsub hd1 hr1 h _ok _hfe hk
  go_enter Try.func26, Try.ntmps26
  go_upto_region 18 with (first
    | (go_at_call 32; refine HDS.out.mono ?_; rintro y w2 ⟨rfl, hd2, k2⟩
       have U2 := HU.out.kept fun i h1 h2 => k2.block (by have := HZ.out; omega) (.inr ⟨by omega, by omega⟩)
       have c0 := U2.c0
       have c1 := U2.c1
       have c2 := U2.c2
       have e3 := U2.x3
       have HR2 := Lib.hid (HRS.out w2 k2))
    | (go_at_call 61; refine HR2.out.mono ?_; rintro y w3 ⟨v3, rfl, hr3, b3⟩
       obtain ⟨A3, n3, c3, rfl⟩ := hr3.some_
       have HQ := Lib.hid (UseQ.mk HLO.out HSUB.out hd2 ((Kp.of HB.out).trans (k2.mono fun i hi => .inl hi)) b3 hr3 (Nat.le_refl _) (by rw [← HZ.out]; exact k2.size))
       have U3 := U2.next b3
       have d0 := U3.c0
       have d1 := U3.c1
       have d2 := U3.c2
       have f0 := U3.fz 0
       have f1 := U3.fz 1
       have f2 := U3.fz 2))
  generalize hw4 : ((w3.setCell ⟨W.heap.size, 0, none⟩ (.slice A3 n3 c3)).setCell ⟨W.heap.size, 1, none⟩ (.bool D'.off)).setCell ⟨W.heap.size, 2, none⟩ (.int .i64 D'.fuse) = w4
  have U4 : UB w4 W.heap.size A3 n3 c3 D'.off D'.fuse x none 0 0 false 0 := by rw [← hw4]; exact U3.put A3 n3 c3 D'.off D'.fuse
  have HF : Hid (UseP K Kr W dk D' (.returned (.tuple #[dkV A3 n3 c3 D'.off D'.fuse, .bool true])) (set3 w4 (W.heap.size + 1 + 1) A3 n3 c3 D'.off D'.fuse)) := Lib.hid (by rw [← hw4]; exact HQ.out.fin)
  clear hw4 d0 d1 d2 f0 f1 f2 U3 HQ hr3 b3
  have d0 := U4.c0
  have d1 := U4.c1
  have d2 := U4.c2
  have m0 := U4.m0
  have m1 := U4.m1
  have m2 := U4.m2
  have f0 := U4.fz2 0
  have f1 := U4.fz2 1
  have f2 := U4.fz2 2
  have HU4 := Lib.hid U4
  clear U4
  go_wp2_with (fail)
  exact bodyPost_ret (v := .tuple #[dkV A3 n3 c3 D'.off D'.fuse, Value.bool true]) (results_dk Try.results26 (HU4.out.put2 A3 n3 c3 D'.off D'.fuse) _ rfl rfl) rfl HF.out
set_option maxRecDepth 100000 in
set_option maxHeartbeats 2000000 in
theorem use_write (h : UseAt K Kr W dk v D) (ok : D.Ok) (hfe : Few 1000 D) (x : Ca) (hk2 : (x.kd.tmod 6 == 2) = false) (hk3 : (x.kd.tmod 6 == 3) = false) (hk4 : (x.kd.tmod 6 == 4) = false) (hk5 : (x.kd.tmod 6 == 5) = false) : Calls Try.prog 26 #[.pointer (some ⟨dk, 0, none⟩), v, callV x] W (UseP K Kr W dk (writeM D x.b x.T).2) := by
  obtain ⟨A, n, c, rfl⟩ := h.2.1.some_
  obtain ⟨w1, hw1⟩ : ∃ w1, useW W A n c D.off D.fuse x = w1 := ⟨_, rfl⟩
  obtain ⟨hU, hB, hz⟩ := UB.new W A n c D.off D.fuse x
  rw [hw1] at hU hB hz
  have hlo := h.1.1
  have hsub := h.2.2
  have hd1 : DD (fun i => K i ∨ (W.heap.size ≤ i ∧ i < W.heap.size + 3)) w1 dk D := by have := h.1.more hB; rw [hz] at this; exact this
  have hr1 := h.2.1.next hB
  have hds := write_dd hd1 x.b x.T (hfe.mono (by decide))
  have hrs := fun w2 (k : Kp (fun i => K i ∨ (W.heap.size ≤ i ∧ i < W.heap.size + 3)) w1 w2) => rwrite_any (hr1.kp (k.mono fun i hi => .inl (hsub i hi)) fun i hi => Nat.lt_of_lt_of_le (hlo i (hsub i hi)) hB.size) ok hfe x.b x.T
  have HDS := Lib.hid hds
  have HRS := Lib.hid hrs
  have HU := Lib.hid hU
  have HB := Lib.hid hB
  have HZ := Lib.hid hz
  have HLO := Lib.hid hlo
  have HSUB := Lib.hid hsub
  have g0 := hU.x0
  have g1 := hU.x1
  have g2 := hU.x2
  generalize (writeM D x.b x.T).1 = er at *
  generalize (writeM D x.b x.T).2 = D' at *
  have q0 : (er == er) = true := by simp
  clear hds hrs hU hB hz hlo hsub hd1 hr1 h ok hfe 
  go_enter Try.func26, Try.ntmps26
  go_upto_region 18 with (first
    | (go_at_call 39; refine HDS.out.mono ?_; rintro y w2 ⟨rfl, hd2, k2⟩
       have U2 := HU.out.kept fun i h1 h2 => k2.block (by have := HZ.out; omega) (.inr ⟨by omega, by omega⟩)
       have c0 := U2.c0
       have c1 := U2.c1
       have c2 := U2.c2
       have e1 := U2.x1
       have e2 := U2.x2
       have HR2 := Lib.hid (HRS.out w2 k2))
    | (go_at_call 63; refine HR2.out.mono ?_; rintro y w3 ⟨v3, rfl, hr3, b3⟩
       obtain ⟨A3, n3, c3, rfl⟩ := hr3.some_
       have HQ := Lib.hid (UseQ.mk HLO.out HSUB.out hd2 ((Kp.of HB.out).trans (k2.mono fun i hi => .inl hi)) b3 hr3 (Nat.le_refl _) (by rw [← HZ.out]; exact k2.size))
       have U3 := U2.next b3
       have d0 := U3.c0
       have d1 := U3.c1
       have d2 := U3.c2
       have f0 := U3.fz 0
       have f1 := U3.fz 1
       have f2 := U3.fz 2))
  generalize hw4 : ((w3.setCell ⟨W.heap.size, 0, none⟩ (.slice A3 n3 c3)).setCell ⟨W.heap.size, 1, none⟩ (.bool D'.off)).setCell ⟨W.heap.size, 2, none⟩ (.int .i64 D'.fuse) = w4
  have U4 : UB w4 W.heap.size A3 n3 c3 D'.off D'.fuse x none 0 0 false 0 := by rw [← hw4]; exact U3.put A3 n3 c3 D'.off D'.fuse
  have HF : Hid (UseP K Kr W dk D' (.returned (.tuple #[dkV A3 n3 c3 D'.off D'.fuse, .bool true])) (set3 w4 (W.heap.size + 1 + 1) A3 n3 c3 D'.off D'.fuse)) := Lib.hid (by rw [← hw4]; exact HQ.out.fin)
  clear hw4 d0 d1 d2 f0 f1 f2 U3 HQ hr3 b3
  have d0 := U4.c0
  have d1 := U4.c1
  have d2 := U4.c2
  have m0 := U4.m0
  have m1 := U4.m1
  have m2 := U4.m2
  have f0 := U4.fz2 0
  have f1 := U4.fz2 1
  have f2 := U4.fz2 2
  have HU4 := Lib.hid U4
  clear U4
  go_wp2_with (fail)
  exact bodyPost_ret (v := .tuple #[dkV A3 n3 c3 D'.off D'.fuse, Value.bool true]) (results_dk Try.results26 (HU4.out.put2 A3 n3 c3 D'.off D'.fuse) _ rfl rfl) rfl HF.out
/-- Read of the reference. -/
theorem rread_ref (h : RefV K W v D) (hfe : Few 1000 D) (x : Int) : Calls Try.prog 62 #[v, .int .i64 x] W fun e w' => e = .returned (.tuple #[.string ⟨(readM D x).1.toArray⟩, .int .i64 (readM D x).2]) ∧ Below W.heap.size W w' := by
  obtain ⟨A, n, c, l, rfl, hn, hO, hS, hI⟩ := h
  exact rread_any W A n c l D hn hO hS (hfe.mono (by decide)) x
theorem UseAt.fin {w3 : World} {A : Option Addr} {n c : Nat} {o : Bool} {f : Int} (h : UseAt K Kr W dk (dkV A n c o f) D) (hB : Below W.heap.size W w3) (_hz : W.heap.size + 3 ≤ w3.heap.size) : UseP K Kr W dk D (.returned (.tuple #[dkV A n c o f, .bool true])) (set3 w3 (W.heap.size + 1 + 1) A n c o f) := by
  have hlo := h.1.1
  have hd3 := h.1.more hB
  have hs2 := butS_set3 (F := fun i => W.heap.size ≤ i ∧ i < W.heap.size + 3) w3 (s := W.heap.size + 1 + 1) (by omega) A n c o f
  have hkr : Kp K w3 (set3 w3 (W.heap.size + 1 + 1) A n c o f) := hs2.mono fun i _ hi hk => by have := hlo i hk; omega
  exact ⟨_, _, _, fun i hi => .inl hi, fun i hi => .inl hi, rfl, ⟨hd3.keepU (hs2.mono fun i _ hi => .inr ⟨hi.1, by omega⟩), (h.2.1.next hB).kp (hkr.mono fun i hi => h.2.2 i hi) fun i hi => Nat.lt_of_lt_of_le (hlo i (h.2.2 i hi)) hB.size, fun i hi => .inl (h.2.2 i hi)⟩, (Kp.of hB).trans hkr⟩
set_option maxRecDepth 100000 in
set_option maxHeartbeats 2000000 in
theorem use_read (h : UseAt K Kr W dk v D) (_ok : D.Ok) (hfe : Few 1000 D) (x : Ca) (hk : x.kd.tmod 6 = 5) : Calls Try.prog 26 #[.pointer (some ⟨dk, 0, none⟩), v, callV x] W (UseP K Kr W dk D) := by
  obtain ⟨A, n, c, rfl⟩ := h.2.1.some_
  obtain ⟨w1, hw1⟩ : ∃ w1, useW W A n c D.off D.fuse x = w1 := ⟨_, rfl⟩
  obtain ⟨hU, hB, hz⟩ := UB.new W A n c D.off D.fuse x
  rw [hw1] at hU hB hz
  have hds := read_dd (h.1.next hB) x.b
  have hrs := fun w2 (b : Below w1.heap.size w1 w2) => rread_ref ((h.2.1.next hB).next b) hfe x.b
  have HDS := Lib.hid hds
  have HRS := Lib.hid hrs
  have HU := Lib.hid hU
  have HB := Lib.hid hB
  have HZ := Lib.hid hz
  have HH := Lib.hid h
  have g0 := hU.x0
  have g1 := hU.x1
  generalize (readM D x.b).1 = rs at *
  generalize (readM D x.b).2 = er at *
  have q0 : (er == er) = true := by simp
  have q1 : (rs == rs) = true := by simp
  have kk2 : (x.kd.tmod 6 == 2) = false := by rw [hk]; rfl
  have kk3 : (x.kd.tmod 6 == 3) = false := by rw [hk]; rfl
  have kk4 : (x.kd.tmod 6 == 4) = false := by rw [hk]; rfl
  have kk5 : (x.kd.tmod 6 == 5) = true := by rw [hk]; rfl
  clear hds hrs hU hB hz h _ok hfe hk
  go_enter Try.func26, Try.ntmps26
  go_wp2_with (first
    | (go_at_call 38; refine HDS.out.mono ?_; rintro y w2 ⟨rfl, b2⟩
       have U2 := HU.out.next b2
       have c0 := U2.c0
       have c1 := U2.c1
       have c2 := U2.c2
       have e1 := U2.x1)
    | (go_at_call 62; refine (HRS.out w2 b2).mono ?_; rintro y w3 ⟨rfl, b3⟩
       have U3 := U2.next b3
       have d0 := U3.c0
       have d1 := U3.c1
       have d2 := U3.c2
       have m0 := U3.m0
       have m1 := U3.m1
       have m2 := U3.m2
       have f0 := U3.fz2 0
       have f1 := U3.fz2 1
       have f2 := U3.fz2 2))
  have hB3 := Below.next (Below.next HB.out b2) b3
  exact bodyPost_ret (v := .tuple #[dkV A n c D.off D.fuse, Value.bool true]) (results_dk Try.results26 (U3.put2 A n c D.off D.fuse) _ rfl rfl) rfl (HH.out.fin hB3 (by rw [← HZ.out]; exact Nat.le_trans b2.size b3.size))
theorem wpList_append_ints {ops : Array Oper} {rest : List Oper} {o : Oper} {a : Act} {w : World} {Q : Exit → Act → World → Prop} (hgd : o.guard = none) (s y : Operand) (ho : o.op = .call { callee := .builtin .append, args := #[s, y], argTypes := #[51, 51] })
    (base g : Nat) (hb : base ≤ g) (A : Option Addr) (l : List Int) (n c : Nat) (hs : a.eval s = .slice (some ⟨g, 0, none⟩) 0 0) (hy : a.eval y = .slice A n c) (hg : w.heap[g]? = some (.cells #[] 3 (0, 0))) (hn : l.length = n) (hA : KeepOk w A c l)
    (K : ∀ v' w', CopyZ base n l v' w' → Below base w w' → wpList Try.prog ops Q rest (a.put o.dst v') w') : wpList Try.prog ops Q (o :: rest) a w := by
  obtain ⟨v', w', hr, h3, h4⟩ := run_append_ints base w o.type g hg hb A l n c hn hA.ints hA.nil (by have := hA.few; omega)
  refine wpList_plain hgd fun _ hK => ?_
  unfold Oper.wp
  rw [show (execOp a.eval o).run Try.prog w = .ok (.value v') w' from by
    unfold execOp
    simp only [ho, resolve, invoke, builtin, Sem.run_bind, Sem.run_pure, Result.andThen_ok, List.map_toArray, List.map_cons, List.map_nil, hs, hy, hr]]
  exact hK _ _ (K v' w' h3 h4)
theorem KeepOk.kp {w w' : World} {A : Option Addr} {kc : Nat} {l : List Int} {K : Nat → Prop} (h : KeepOk w A kc l) (hk : Kp K w w') (hK : ∀ a, 0 < l.length → A = some a → K a.block) : KeepOk w' A kc l := by
  refine ⟨?_, h.nil, h.few⟩
  rcases h.ints with e | ⟨a, e, hc⟩
  · exact .inl e
  · by_cases h0 : l = []
    · exact .inl h0
    · refine .inr ⟨a, e, fun i u hu => hk.cell (hc i u hu) ?_⟩
      rw [add_block']
      exact hK a (List.length_pos_iff.2 h0) e
set_option maxRecDepth 100000 in
set_option maxHeartbeats 2000000 in
theorem use_crash (h : UseAt K Kr W dk v D) (ok : D.Ok) (hfe : Few 1000 D) (x : Ca) (hk : x.kd.tmod 6 = 4) (hK : KeepOk W x.A x.kc x.keep) (hKK : ∀ a, 0 < x.keep.length → x.A = some a → K a.block) : Calls Try.prog 26 #[.pointer (some ⟨dk, 0, none⟩), v, callV x] W (UseP K Kr W dk (crashM D x.keep)) := by
  obtain ⟨A, n, c, rfl⟩ := h.2.1.some_
  obtain ⟨w1, hw1⟩ : ∃ w1, useW W A n c D.off D.fuse x = w1 := ⟨_, rfl⟩
  obtain ⟨hU, hB, hz⟩ := UB.new W A n c D.off D.fuse x
  rw [hw1] at hU hB hz
  have hlo := h.1.1
  have hsub := h.2.2
  obtain ⟨w4, hw4⟩ : ∃ w4, w1.alloc (.cells #[] 3) = w4 := ⟨_, rfl⟩
  have b4 : Below w1.heap.size w1 w4 := hw4 ▸ Below.new1 w1 _
  have e4 : w4.heap[w1.heap.size]? = some (.cells #[] 3 (0, 0)) := hw4 ▸ heap_alloc_new w1 _
  have hB4 := Below.next hB b4
  have hda : ∀ w6 A6 c6, Below w1.heap.size w4 w6 → CopyZ w1.heap.size x.keep.length x.keep (.slice A6 x.keep.length c6) w6 → Calls Try.prog 28 #[.pointer (some ⟨dk, 0, none⟩), .slice A6 x.keep.length c6] w6 fun e w' => e = .returned (.int .i64 0) ∧ DD (fun i => K i ∨ (W.heap.size ≤ i ∧ i < w6.heap.size)) w' dk (crashM D x.keep) ∧ Kp (fun i => K i ∨ (W.heap.size ≤ i ∧ i < w6.heap.size)) w6 w' := fun w6 A6 c6 b6 hc => by
    have hb : Below W.heap.size W w6 := hB4.trans (b6.mono hB.size)
    obtain ⟨A7, c7, e7, i7, l7⟩ := hc
    cases e7
    exact crash_dd (h.1.more hb) A6 x.keep x.keep.length c6 rfl i7 (fun h0 a e => .inr ⟨Nat.le_trans hB.size (l7 a h0 e).1, (l7 a h0 e).2⟩) (by have := hK.few; omega)
  have hrs : ∀ w2, Kp K W w2 → Calls Try.prog 29 #[dkV A n c D.off D.fuse, .slice x.A x.keep.length x.kc] w2 fun e w' => ∃ v', e = .returned v' ∧ RefV (fun i => Kr i ∨ (w2.heap.size ≤ i ∧ i < w'.heap.size)) w' v' (crashM D x.keep) ∧ Below w2.heap.size w2 w' := fun w2 k =>
    rcrash_any (h.2.1.kp (k.mono hsub) fun i hi => hlo i (hsub i hi)) ok hfe x.A x.keep.length x.kc x.keep rfl (hK.kp k hKK)
  have hz6 : ∀ w6 w2, Below w1.heap.size w4 w6 → Kp (fun i => K i ∨ (W.heap.size ≤ i ∧ i < w6.heap.size)) w6 w2 → w1.heap.size ≤ w6.heap.size ∧ Kp K W w2 ∧ w6.heap.size ≤ w2.heap.size ∧ UB w2 W.heap.size A n c D.off D.fuse x none 0 0 false 0 := fun w6 w2 b6 k => by
    have hb : Below W.heap.size W w6 := hB4.trans (b6.mono hB.size)
    have h6 : w1.heap.size ≤ w6.heap.size := Nat.le_trans b4.size b6.size
    exact ⟨h6, (Kp.of hb).trans (k.mono fun i hi => .inl hi), k.size, ((hU.next b4).kept fun i h1 h2 => b6.block i (by omega)).kept fun i h1 h2 => k.block (by omega) (.inr ⟨h1, by omega⟩)⟩
  have HDA := Lib.hid hda
  have HRS := Lib.hid hrs
  have HZ6 := Lib.hid hz6
  have HU4 := Lib.hid (hU.next b4)
  have HZ := Lib.hid hz
  have HLO := Lib.hid hlo
  have HSUB := Lib.hid hsub
  have HE4 := Lib.hid e4
  have HK4 := Lib.hid (hK.next hB4)
  have g0 := hU.x0
  have g4 := (hU.next b4).x4
  have kk2 : (x.kd.tmod 6 == 2) = false := by rw [hk]; rfl
  have kk3 : (x.kd.tmod 6 == 3) = false := by rw [hk]; rfl
  have kk4 : (x.kd.tmod 6 == 4) = true := by rw [hk]; rfl
  generalize crashM D x.keep = D' at *
  clear hda hrs hz6 hU hB hz hlo hsub h ok hfe hk hK hKK b4 e4 hB4
  go_enter Try.func26, Try.ntmps26
  go_upto_region 18 with (first
    | (at_builtin; refine wpList_append_ints rfl (.tmp 57) (.tmp 59) rfl w1.heap.size w1.heap.size (Nat.le_refl _) x.A x.keep x.keep.length x.kc rfl rfl HE4.out rfl HK4.out ?_
       intro v6 w6 hc6 b6
       obtain ⟨A6, c6, rfl, i6, l6⟩ := hc6
       have HC6 := Lib.hid (show CopyZ w1.heap.size x.keep.length x.keep (.slice A6 x.keep.length c6) w6 from ⟨A6, c6, rfl, i6, l6⟩))
    | (go_at_call 28; refine (HDA.out w6 A6 c6 b6 HC6.out).mono ?_; rintro y w2 ⟨rfl, hd2, k2⟩
       obtain ⟨h6, kw, z62, U2⟩ := HZ6.out w6 w2 b6 k2
       have c0 := U2.c0
       have c1 := U2.c1
       have c2 := U2.c2
       have e4' := U2.x4
       have HR2 := Lib.hid (HRS.out w2 kw))
    | (go_at_call 29; refine HR2.out.mono ?_; rintro y w3 ⟨v3, rfl, hr3, b3⟩
       obtain ⟨A3, n3, c3, rfl⟩ := hr3.some_
       have HQ := Lib.hid (UseQ.mk HLO.out HSUB.out hd2 kw b3 hr3 (by rw [← HZ.out]; exact h6) z62)
       have U3 := U2.next b3
       have d0 := U3.c0
       have d1 := U3.c1
       have d2 := U3.c2
       have f0 := U3.fz 0
       have f1 := U3.fz 1
       have f2 := U3.fz 2))
  generalize hw4 : ((w3.setCell ⟨W.heap.size, 0, none⟩ (.slice A3 n3 c3)).setCell ⟨W.heap.size, 1, none⟩ (.bool D'.off)).setCell ⟨W.heap.size, 2, none⟩ (.int .i64 D'.fuse) = w4
  have U4 : UB w4 W.heap.size A3 n3 c3 D'.off D'.fuse x none 0 0 false 0 := by rw [← hw4]; exact U3.put A3 n3 c3 D'.off D'.fuse
  have HF : Hid (UseP K Kr W dk D' (.returned (.tuple #[dkV A3 n3 c3 D'.off D'.fuse, .bool true])) (set3 w4 (W.heap.size + 1 + 1) A3 n3 c3 D'.off D'.fuse)) := Lib.hid (by rw [← hw4]; exact HQ.out.fin)
  clear hw4 d0 d1 d2 f0 f1 f2 U3 HQ hr3 b3
  have d0 := U4.c0
  have d1 := U4.c1
  have d2 := U4.c2
  have m0 := U4.m0
  have m1 := U4.m1
  have m2 := U4.m2
  have f0 := U4.fz2 0
  have f1 := U4.fz2 1
  have f2 := U4.fz2 2
  have HU4 := Lib.hid U4
  clear U4
  go_wp2_with (fail)
  exact bodyPost_ret (v := .tuple #[dkV A3 n3 c3 D'.off D'.fuse, Value.bool true]) (results_dk Try.results26 (HU4.out.put2 A3 n3 c3 D'.off D'.fuse) _ rfl rfl) rfl HF.out
/-- What a call of use makes of a disk. -/
def useM (D : Dk) (x : Ca) : Dk := if x.kd.tmod 6 = 2 then (syncM D).2 else if x.kd.tmod 6 = 3 then (setM D x.n).2 else if x.kd.tmod 6 = 4 then crashM D x.keep else if x.kd.tmod 6 = 5 then D else (writeM D x.b x.T).2
theorem use_any (h : UseAt K Kr W dk v D) (ok : D.Ok) (hfe : Few 1000 D) (x : Ca) (hx : CaOk W x) (hKK : ∀ a, 0 < x.keep.length → x.A = some a → K a.block) : Calls Try.prog 26 #[.pointer (some ⟨dk, 0, none⟩), v, callV x] W (UseP K Kr W dk (useM D x)) := by
  unfold useM
  by_cases h2 : x.kd.tmod 6 = 2
  · rw [if_pos h2]; exact use_sync h ok hfe x h2
  rw [if_neg h2]
  by_cases h3 : x.kd.tmod 6 = 3
  · rw [if_pos h3]; exact use_fuse h ok hfe x hx.n h3
  rw [if_neg h3]
  by_cases h4 : x.kd.tmod 6 = 4
  · rw [if_pos h4]; exact use_crash h ok hfe x h4 hx.keep hKK
  rw [if_neg h4]
  by_cases h5 : x.kd.tmod 6 = 5
  · rw [if_pos h5]; exact use_read h ok hfe x h5
  rw [if_neg h5]
  exact use_write h ok hfe x (by simpa using h2) (by simpa using h3) (by simpa using h4) (by simpa using h5)
set_option maxRecDepth 100000 in
set_option maxHeartbeats 2000000 in
theorem alike_any (h : UseAt K Kr W dk v D) (ok : D.Ok) (hfe : Few 1000 D) : Calls Try.prog 27 #[.pointer (some ⟨dk, 0, none⟩), v] W fun e w' => e = .returned (.bool true) ∧ Below W.heap.size W w' := by
  obtain ⟨A, n, c, rfl⟩ := h.2.1.some_
  have hn : n = D.sec.length := by
    obtain ⟨A', n', c', l, e, q, -⟩ := h.2.1
    simp only [dkV, Value.agg.injEq] at e
    have := congrArg (fun a => a[0]?) e
    simp at this
    rw [this.2.1]; exact q
  obtain ⟨w1, hw1⟩ : ∃ w1, W.alloc (.cells #[.slice A n c, .bool D.off, .int .i64 D.fuse] 46) = w1 := ⟨_, rfl⟩
  have b1 : Below W.heap.size W w1 := hw1 ▸ Below.new1 _ _
  have r1 : w1.heap[W.heap.size]? = some (.cells #[.slice A n c, .bool D.off, .int .i64 D.fuse] 46 (0, 0)) := hw1 ▸ heap_alloc_new W _
  have d0 := (cell_of_row w1 _ 0 _ _ _ r1).trans (rfl : _ = some (Value.slice A n c))
  have d1 := (cell_of_row w1 _ 1 _ _ _ r1).trans (rfl : _ = some (Value.bool D.off))
  have d2 := (cell_of_row w1 _ 2 _ _ _ r1).trans (rfl : _ = some (Value.int .i64 D.fuse))
  have hd1 := h.1.next b1
  have hbl := fun w (b : Below w1.heap.size w1 w) => blocks_dd (hd1.next b)
  have hof := fun w (b : Below w1.heap.size w1 w) => off_dd (hd1.next b)
  have hrd := fun w (b : Below w1.heap.size w1 w) x => read_dd (hd1.next b) x
  have hrr := fun w (b : Below w1.heap.size w1 w) x => rread_ref ((h.2.1.next b1).next b) hfe x
  rw [← hn] at hbl
  have HBL := Lib.hid hbl
  have HOF := Lib.hid hof
  have HRD := Lib.hid hrd
  have HRR := Lib.hid hrr
  have HB1 := Lib.hid b1
  have HOK := Lib.hid (show n ≤ 4096 from by have := ok.few; omega)
  have q0 : ((n : Int) != (n : Int)) = false := by simp
  have q1 : (D.off != D.off) = false := by simp
  clear hbl hof hrd hrr hd1 h ok hfe hn r1 b1
  go_enter Try.func27, Try.ntmps27
  go_upto_region 1 with (fail)
  go_quiet (first
    | (go_at_call 41; exact Calls.quiet_of_same (HBL.out _ (Below.drawn w1 _ _)))
    | (go_at_call 42; exact Calls.quiet_of_same (HOF.out _ (Below.drawn w1 _ _))))
  go_wp2_with (fail)
  have HQ := Lib.hid (Below.drawn w1 nq w1.heap.size)
  generalize w1.drewN nq = w2 at *
  go_loopw [5, 6, 7, 8, 9] (fun i _ _ _ _ w => ∃ k : Nat, k ≤ n ∧ i = .int .i64 k ∧ Below w1.heap.size w1 w) (fun i _ _ _ _ _ => n - (intOf i).toNat)
  case atStart => exact ⟨0, Nat.zero_le _, rfl, HQ.out⟩
  case round =>
    obtain ⟨k, hk, rfl, hb⟩ := hrel
    have e0 := cell_kept hb d0
    have e1 := cell_kept hb d1
    have e2 := cell_kept hb d2
    have HB := Lib.hid hb
    by_cases hlt : k < n
    · have k1 : (k : Int) < (n : Nat) := by omega
      have k0 : 0 ≤ (k : Int) := by omega
      have k5 : n ≤ 4096 := HOK.out
      have HMS := Lib.hid (show k + 1 ≤ n ∧ n - (k + 1) < n - k from by omega)
      have hrd := HRD.out wr hb (k : Int)
      have hrr := fun w b => HRR.out w b (k : Int)
      generalize (readM D (k : Int)).1 = rs at *
      generalize (readM D (k : Int)).2 = er at *
      have t0 : (er != er) = false := by simp
      have t1 : (rs != rs) = false := by simp
      have HR1 := Lib.hid hrd
      have HR2 := Lib.hid hrr
      clear hb hrd hrr
      go_wp2_with (first
        | (go_at_call 38; refine HR1.out.mono ?_; rintro y w3 ⟨rfl, b3⟩
           have g0 := cell_kept b3 e0
           have g1 := cell_kept b3 e1
           have g2 := cell_kept b3 e2
           have B3 := Below.next HB.out b3)
        | (go_at_call 62; refine (HR2.out w3 B3).mono ?_; rintro y w4 ⟨rfl, b4⟩))
      exact ⟨⟨k + 1, HMS.out.1, by go_num, Below.next B3 b4⟩, by have := HMS.out.2; simp [intOf]; omega⟩
    · have k1 : ¬ (k : Int) < (n : Nat) := by omega
      clear hb
      go_wp2_with (fail)
      go_ret
      exact ⟨rfl, HB1.out.trans (HB.out.mono HB1.out.size)⟩
theorem useM_few {m : Nat} (h : Few m D) (x : Ca) : Few (m + 1) (useM D x) := by
  unfold useM
  split
  · exact (syncM_few h).mono (by omega)
  split
  · intro s hs
    have : (setM D x.n).2.sec = D.sec := by unfold setM; split <;> rfl
    rw [this] at hs
    have := h s hs; omega
  split
  · intro s hs
    have key : ∀ (c : Nat) (S : List Sec) (s : Sec), s ∈ crashS x.keep c S → s.pend = [] := by
      intro c S
      induction S generalizing c with
      | nil => intro s hs; simp [crashS] at hs
      | cons y S ih =>
        intro s hs
        unfold crashS at hs
        split at hs
        · rename_i hp
          rcases List.mem_cons.1 hs with e | e
          · rw [e]; exact hp
          · exact ih c s e
        · rcases List.mem_cons.1 hs with e | e
          · rw [e]
          · exact ih (c + 1) s e
    rw [key 0 D.sec s hs]
    exact Nat.zero_le _
  split
  · exact h.mono (by omega)
  · unfold writeM
    split
    · exact h.mono (by omega)
    split
    · exact h.mono (by omega)
    split
    · exact h.mono (by omega)
    split
    · exact h.mono (by omega)
    · intro s hs
      simp only at hs
      obtain ⟨i, hi, rfl⟩ := List.getElem_of_mem hs
      rw [List.getElem_modify]
      simp only [List.length_modify] at hi
      have := h _ (List.getElem_mem hi)
      split
      · simp only [List.length_append, List.length_singleton]; omega
      · omega
end
end Go.Proofs.Ytkljfampkkfgdaa
