/- JournalDisks answers true: the walk over the law. -/
import Derived.Test.YtkljfampkkfgdaaJUse
import Derived.Test.YtkljfampkkfgdaaJAwake
namespace Go.Proofs.Ytkljfampkkfgdaa
open Go.RowKit
/-- All blocks that are there. -/
abbrev OldW (W : World) : Nat → Prop := fun i => i < W.heap.size
abbrev boxD (A : Option Addr) (n c : Nat) (D : Dk) : Obj := .cells #[.slice A n c, .bool D.off, .int .i64 D.fuse] 46
/-- A disk and the reference's disk, which lies in the box s. -/
structure Lp (W w : World) (s dk : Nat) (A : Option Addr) (n c : Nat) (D : Dk) (K Kr : Nat → Prop) (m : Nat) : Prop where
  few : Few m D
  use : UseAt K Kr w dk (dkV A n c D.off D.fuse) D
  box : w.heap[s]? = some (boxD A n c D)
  kb : K s
  nb : ¬ Kr s
  old : ∀ i, OldW W i → K i
  kp : Kp (OldW W) W w
  lo : W.heap.size ≤ s
section
variable {W w wd w' : World} {s dk n c n' c' m m' : Nat} {A A' : Option Addr} {D D' : Dk} {K Kr K' Kr' : Nat → Prop}
theorem Lp.ok (h : Lp W w s dk A n c D K Kr m) : D.Ok := by
  obtain ⟨_, F, hF, _⟩ := h.use.1
  exact hF.ok
theorem Lp.lt (h : Lp W w s dk A n c D K Kr m) : s < w.heap.size := (Array.getElem?_eq_some_iff.1 h.box).1
theorem Lp.next (h : Lp W w s dk A n c D K Kr m) (hB : Below w.heap.size w w') : Lp W w' s dk A n c D K Kr m :=
  ⟨h.few, h.use.next hB, (hB.block s h.lt).trans h.box, h.kb, h.nb, h.old, h.kp.next hB, h.lo⟩
theorem Lp.c0 (h : Lp W w s dk A n c D K Kr m) : w.cell? ⟨s, 0, none⟩ = some (.slice A n c) := (cell_of_row w _ 0 _ _ _ h.box).trans rfl
theorem Lp.c1 (h : Lp W w s dk A n c D K Kr m) : w.cell? ⟨s, 1, none⟩ = some (.bool D.off) := (cell_of_row w _ 1 _ _ _ h.box).trans rfl
theorem Lp.c2 (h : Lp W w s dk A n c D K Kr m) : w.cell? ⟨s, 2, none⟩ = some (.int .i64 D.fuse) := (cell_of_row w _ 2 _ _ _ h.box).trans rfl
theorem Lp.after (h : Lp W w s dk A n c D K Kr m) (k : Kp K w w') : w'.heap[s]? = some (boxD A n c D) := (k.block h.lt h.kb).trans h.box
/-- A call of use, and its result in the box. -/
theorem Lp.step (h : Lp W w s dk A n c D K Kr m) (hk : ∀ i, K i → K' i) (hr : ∀ i, Kr' i → Kr i ∨ w.heap.size ≤ i) (hu : UseAt K' Kr' w' dk (dkV A' n' c' D'.off D'.fuse) D') (k : Kp K w w') (hf : Few m' D') :
    Lp W (set3 w' s A' n' c' D'.off D'.fuse) s dk A' n' c' D' K' Kr' m' := by
  have hlt := h.lt
  have hnb : ¬ Kr' s := fun q => (hr s q).elim h.nb fun q => by omega
  have hbx := h.after k
  refine ⟨hf, ⟨hu.1.keepU (butS_set3 w' (hk s h.kb) _ _ _ _ _), hu.2.1.kp ((butS_set3 (F := fun i => i = s) w' rfl _ _ _ _ _).mono fun i _ e hi => hnb (e ▸ hi)) fun i hi => hu.1.1 i (hu.2.2 i hi), hu.2.2⟩, ?_, hk s h.kb, hnb, fun i hi => hk i (h.old i hi), ?_, h.lo⟩
  · simp [World.setCell, Array.getElem?_modify, hbx]
  · exact (h.kp.trans (k.mono h.old)).trans ((butS_set3 (F := fun i => i = s) w' rfl _ _ _ _ _).mono fun i _ e hi => by have := h.lo; simp only [OldW] at hi; omega)
end
theorem cellsFz {w : World} {s : Nat} {A : Option Addr} {n c : Nat} {D : Dk} (h : w.heap[s]? = some (boxD A n c D)) : w.cell? ⟨s, 0, none⟩ = some (.slice A n c) ∧ w.cell? ⟨s, 1, none⟩ = some (.bool D.off) ∧ w.cell? ⟨s, 2, none⟩ = some (.int .i64 D.fuse) ∧ ∀ i, w.frozen? ⟨s, i, none⟩ = false :=
  ⟨(cell_of_row w _ 0 _ _ _ h).trans rfl, (cell_of_row w _ 1 _ _ _ h).trans rfl, (cell_of_row w _ 2 _ _ _ h).trans rfl, fun i => by simp [World.frozen?, h]⟩
section
variable {W w w' : World} {s dk n c n' c' m : Nat} {A A' : Option Addr} {D : Dk} {K Kr : Nat → Prop}
theorem intsLt {w : World} {A : Option Addr} {l : List Int} (h : Ints w A l) (h0 : 0 < l.length) {a : Addr} (e : A = some a) : a.block < w.heap.size := by
  rcases h with h | ⟨a', e', h⟩
  · rw [h] at h0; cases h0
  · rw [e] at e'
    cases e'
    have := block_lt_of_cell (h 0 _ (List.getElem?_eq_getElem (by simpa using h0)))
    rwa [add_block'] at this
/-- A new disk, and the reference's. -/
theorem Lp.new {w1 w2 : World} {N : Nat} (b1 : Below W.heap.size W w1) (d1 : DD (OldW W) w1 dk (newM N)) (b2 : Below w1.heap.size w1 w2) (hO : OwnRB w2 w1.heap.size (.slice A n c) (zeroRB N)) (hn : n = N) :
    Lp W (w2.alloc (boxD A n c (newM N))) w2.heap.size dk A n c (newM N) (fun i => OldW W i ∨ (w1.heap.size ≤ i ∧ i < (w2.alloc (boxD A n c (newM N))).heap.size)) (fun i => w1.heap.size ≤ i ∧ i < w2.heap.size) 0 := by
  have b3 := Below.new1 w2 (boxD A n c (newM N))
  have b23 := Below.next b2 b3
  refine ⟨fun s hs => ?_, ⟨d1.more b23, ⟨A, n, c, zeroRB N, rfl, by simp [newM, hn], (hO.mono (Nat.zero_le _)).next b3, (zeroRB_stand w2 N).next b3, ⟨fun a e => ?_, fun x hx a m d e => ?_⟩⟩, fun i hi => .inr ⟨hi.1, by rw [World.size_alloc]; omega⟩⟩, heap_alloc_new w2 _, .inr ⟨by have := b2.size; omega, by rw [World.size_alloc]; omega⟩, fun q => by omega, fun i hi => .inl hi, (Kp.of b1).next (Below.next b2 b3), by have := b1.size; have := b2.size; omega⟩
  · simp only [newM] at hs
    rw [List.eq_of_mem_replicate hs]
    exact Nat.zero_le _
  · subst e
    exact World.ownsRow.lt hO a.block rfl
  · rw [List.eq_of_mem_replicate hx] at e
    cases e
end
theorem ints1 (w : World) : Ints (w.alloc (.cells #[.int .i64 1] 3)) (some ⟨w.heap.size, 0, none⟩) [1] :=
  .inr ⟨_, rfl, fun i u hu => by rw [Addr.add_mid, Nat.zero_add, cell_of_row _ _ i _ _ _ (heap_alloc_new w _)]; simpa using hu⟩
/-- The reference's disk crashes, and what the disk has then is alike. -/
theorem rcrash1 {K : Nat → Prop} {w : World} {v : Value} {dk m : Nat} {D : Dk} (h : RefV K w v D) (ok : D.Ok) (hf : Few m D) (hm : m ≤ 900) (hd : DD K w dk (crashM D [1])) : Calls Try.prog 29 #[v, .slice (some ⟨w.heap.size, 0, none⟩) 1 1] (w.alloc (.cells #[.int .i64 1] 3)) fun e w' => ∃ v', e = .returned v' ∧ Below w.heap.size w w' ∧ Calls Try.prog 27 #[.pointer (some ⟨dk, 0, none⟩), v'] w' fun e w2 => e = .returned (.bool true) ∧ Below w'.heap.size w' w2 := by
  have ba := Below.new1 w (.cells #[.int .i64 1] 3)
  refine (rcrash_any (h.next ba) ok (hf.mono (by omega)) (some ⟨w.heap.size, 0, none⟩) 1 1 [1] rfl ⟨ints1 w, .inl ⟨_, rfl⟩, by decide⟩).mono ?_
  rintro e w' ⟨v', rfl, q1, q2⟩
  have hu : UseAt _ _ w' dk v' (crashM D [1]) := ⟨(hd.next ba).more q2, q1, fun _ hi => hi⟩
  have hc : useM D ⟨4, 0, [], 0, none, 0, [1]⟩ = crashM D [1] := by unfold useM; rw [if_neg (by decide), if_neg (by decide), if_pos (by decide)]
  have hf2 := useM_few hf ⟨4, 0, [], 0, none, 0, [1]⟩
  rw [hc] at hf2
  obtain ⟨_, F, hF, _⟩ := hu.1
  exact ⟨v', rfl, Below.next ba q2, alike_any hu hF.ok (hf2.mono (by omega))⟩
theorem UseAt.ok {K Kr : Nat → Prop} {w : World} {dk : Nat} {v : Value} {D : Dk} (h : UseAt K Kr w dk v D) : D.Ok := by
  obtain ⟨⟨_, F, hF, _⟩, _⟩ := h
  exact hF.ok
/-- Two disks with the reference's, of which the second one is used. -/
structure Tw (W w : World) (sb dk : Nat) (A : Option Addr) (n c : Nat) (D : Dk) (Kr : Nat → Prop) (sx ck : Nat) (A2 : Option Addr) (n2 c2 : Nat) (C : Dk) (K2 Kr2 : Nat → Prop) (m : Nat) : Prop where
  lp : Lp W w sx ck A2 n2 c2 C K2 Kr2 m
  few : Few 60 D
  fp : ∃ F, DiskAt w dk D F ∧ ∀ i, F i → K2 i ∧ ¬ Kr i ∧ ¬ Kr2 i ∧ i ≠ sx ∧ i ≠ sb ∧ ¬ OldW W i
  rv : RefV Kr w (dkV A n c D.off D.fuse) D
  rk : ∀ i, Kr i → K2 i ∧ i ≠ sx
  box : w.heap[sb]? = some (boxD A n c D)
  kb : K2 sb ∧ sb ≠ sx
section
variable {W w w' : World} {sb dk n c sx ck n2 c2 n' c' m m' : Nat} {A A2 A' : Option Addr} {D C C' : Dk} {K Kr K2 Kr2 K' Kr' : Nat → Prop}
theorem Tw.next (h : Tw W w sb dk A n c D Kr sx ck A2 n2 c2 C K2 Kr2 m) (hB : Below w.heap.size w w') : Tw W w' sb dk A n c D Kr sx ck A2 n2 c2 C K2 Kr2 m := by
  obtain ⟨F, h1, h2⟩ := h.fp
  exact ⟨h.lp.next hB, h.few, ⟨F, h1.next hB, h2⟩, h.rv.next hB, h.rk, (hB.block sb (Array.getElem?_eq_some_iff.1 h.box).1).trans h.box, h.kb⟩
theorem Tw.step (h : Tw W w sb dk A n c D Kr sx ck A2 n2 c2 C K2 Kr2 m) (hk : ∀ i, K2 i → K' i) (hr : ∀ i, Kr' i → Kr2 i ∨ w.heap.size ≤ i) (hu : UseAt K' Kr' w' ck (dkV A' n' c' C'.off C'.fuse) C') (k : Kp K2 w w') (hf : Few m' C') :
    Tw W (set3 w' sx A' n' c' C'.off C'.fuse) sb dk A n c D Kr sx ck A' n' c' C' K' Kr' m' := by
  obtain ⟨F, h1, h2⟩ := h.fp
  have hlo := h.lp.use.1.1
  have hs := butS_set3 (F := fun i => i = sx) w' rfl A' n' c' C'.off C'.fuse
  refine ⟨h.lp.step hk hr hu k hf, h.few, ⟨F, (h1.but k fun i hi hn => hn (h2 i hi).1).but hs fun i hi e => (h2 i hi).2.2.2.1 e, fun i hi => ⟨hk i (h2 i hi).1, (h2 i hi).2.1, fun q => (hr i q).elim (h2 i hi).2.2.1 fun q => by have := h1.lt i hi; omega, (h2 i hi).2.2.2⟩⟩, ?_, fun i hi => ⟨hk i (h.rk i hi).1, (h.rk i hi).2⟩, ?_, hk _ h.kb.1, h.kb.2⟩
  · exact (h.rv.kp (k.mono fun i hi => (h.rk i hi).1) fun i hi => hlo i (h.rk i hi).1).kp (hs.mono fun i _ e hi => (h.rk i hi).2 e) fun i hi => Nat.lt_of_lt_of_le (hlo i (h.rk i hi).1) k.size
  · exact (set3_other w' h.kb.2 _ _ _ _ _).trans ((k.block (hlo sb h.kb.1) h.kb.1).trans h.box)
theorem Tw.new {w7 : World} {H : Nat → Prop} (hL : Lp W w sb dk A n c D K Kr m) (hm : m ≤ 60) (b7 : Below w.heap.size w w7) (hC : DiskAt w7 ck { D with own := 0 } H) (hH : ∀ i, H i → w.heap.size ≤ i) :
    ∃ K2, Tw W (w7.alloc (boxD A n c D)) sb dk A n c D Kr w7.heap.size ck A n c { D with own := 0 } K2 Kr m := by
  have b8 := Below.new1 w7 (boxD A n c D)
  have b78 := Below.next b7 b8
  have z8 : (w7.alloc (boxD A n c D)).heap.size = w7.heap.size + 1 := World.size_alloc _ _
  have hsub := hL.use.2.2
  have hlo := hL.use.1.1
  have hb7 := b7.size
  have hW := hL.kp.size
  obtain ⟨-, F, hF, hFK⟩ := hL.use.1
  have hKr : ∀ i, Kr i → i < w.heap.size := fun i hi => hlo i (hsub i hi)
  refine ⟨fun i => i < (w7.alloc (boxD A n c D)).heap.size ∧ ¬ H i, ⟨hL.few, ⟨⟨fun i hi => hi.1, H, hC.next b8, fun i hi hk => hk.2 hi⟩, hL.use.2.1.next b78, fun i hi => ⟨by have := hKr i hi; omega, fun q => by have := hKr i hi; have := hH i q; omega⟩⟩, heap_alloc_new w7 _, ⟨by omega, fun q => by have := hC.lt _ q; omega⟩, fun q => by have := hKr _ q; omega,
    fun i hi => ⟨by simp only [OldW] at hi; omega, fun q => by have := hH i q; simp only [OldW] at hi; omega⟩, hL.kp.next b78, by omega⟩, hL.few.mono hm, ⟨F, hF.next b78, fun i hi => ?_⟩, hL.use.2.1.next b78, fun i hi => ?_, (b78.block sb hL.lt).trans hL.box, ?_⟩
  · have h1 := hF.lt i hi
    exact ⟨⟨by omega, fun q => by have := hH i q; omega⟩, fun q => hFK i hi (hsub i q), fun q => hFK i hi (hsub i q), by omega, fun e => hFK i hi (e ▸ hL.kb), fun q => hFK i hi (hL.old i q)⟩
  · have := hKr i hi
    exact ⟨⟨by omega, fun q => by have := hH i q; omega⟩, by omega⟩
  · have := hL.lt
    exact ⟨⟨by omega, fun q => by have := hH _ q; omega⟩, by omega⟩
theorem Tw.use0 (h : Tw W w sb dk A n c D Kr sx ck A2 n2 c2 C K2 Kr2 m) : UseAt Kr Kr w dk (dkV A n c D.off D.fuse) D := by
  obtain ⟨F, h1, h2⟩ := h.fp
  exact ⟨⟨fun i hi => h.lp.use.1.1 i (h.rk i hi).1, F, h1, fun i hi => (h2 i hi).2.1⟩, h.rv, fun i hi => hi⟩
/-- The first disk crashes. -/
theorem Tw.crash (h : Tw W w sb dk A n c D Kr sx ck A2 n2 c2 C K2 Kr2 m) : Calls Try.prog 28 #[.pointer (some ⟨dk, 0, none⟩), .slice (some ⟨w.heap.size, 0, none⟩) 1 1] (w.alloc (.cells #[.int .i64 1] 3)) fun e w' => e = .returned (.int .i64 0) ∧ DD Kr w' dk (crashM D [1]) ∧ RefV Kr w' (dkV A n c D.off D.fuse) D ∧ w'.heap[sb]? = some (boxD A n c D) ∧ w'.heap[sx]? = some (boxD A2 n2 c2 C) ∧ UseAt Kr2 Kr2 w' ck (dkV A2 n2 c2 C.off C.fuse) C ∧ Below W.heap.size W w' := by
  obtain ⟨F, h1, h2⟩ := h.fp
  have ba := Below.new1 w (.cells #[.int .i64 1] 3)
  have za : (w.alloc (.cells #[.int .i64 1] 3)).heap.size = w.heap.size + 1 := World.size_alloc _ _
  have hlo := h.lp.use.1.1
  obtain ⟨-, H, hH, hHK⟩ := h.lp.use.1
  have hd : DD (fun i => i < (w.alloc (.cells #[.int .i64 1] 3)).heap.size ∧ ¬ F i) (w.alloc (.cells #[.int .i64 1] 3)) dk D := ⟨fun i hi => hi.1, F, h1.next ba, fun i hi hk => hk.2 hi⟩
  have hI : Ints (w.alloc (.cells #[.int .i64 1] 3)) (some ⟨w.heap.size, 0, none⟩) [1] := .inr ⟨_, rfl, fun i u hu => by
    rw [Addr.add_mid, Nat.zero_add, cell_of_row _ _ i _ _ _ (heap_alloc_new w _)]; simpa using hu⟩
  have hsz : ∀ i, K2 i → i < (w.alloc (.cells #[.int .i64 1] 3)).heap.size := fun i hi => by have := hlo i hi; omega
  refine (crash_dd hd (some ⟨w.heap.size, 0, none⟩) [1] 1 1 rfl hI (fun _ a e => ?_) (by decide)).mono ?_
  · cases e
    exact ⟨by show w.heap.size < _; omega, fun q => by have := h1.lt _ q; simp only at this; omega⟩
  · rintro e w' ⟨rfl, q1, q2⟩
    have hK : ∀ i, K2 i → ¬ F i → (fun i => i < (w.alloc (.cells #[.int .i64 1] 3)).heap.size ∧ ¬ F i) i := fun i hi hn => ⟨hsz i hi, hn⟩
    have hrk : ∀ i, Kr i → (fun i => i < (w.alloc (.cells #[.int .i64 1] 3)).heap.size ∧ ¬ F i) i := fun i hi => hK i (h.rk i hi).1 fun q => (h2 i q).2.1 hi
    have hrk2 : ∀ i, Kr2 i → (fun i => i < (w.alloc (.cells #[.int .i64 1] 3)).heap.size ∧ ¬ F i) i := fun i hi => hK i (h.lp.use.2.2 i hi) fun q => (h2 i q).2.2.1 hi
    have hsb := hK sb h.kb.1 fun q => (h2 sb q).2.2.2.2.1 rfl
    have hsx := hK sx h.lp.kb fun q => (h2 sx q).2.2.2.1 rfl
    refine ⟨rfl, q1.less hrk, (h.rv.next ba).kp (q2.mono hrk) fun i hi => hsz i (h.rk i hi).1, (q2.block hsb.1 hsb).trans ((ba.block sb (hlo sb h.kb.1)).trans h.box), (q2.block hsx.1 hsx).trans ((ba.block sx h.lp.lt).trans h.lp.box), ⟨⟨fun i hi => Nat.lt_of_lt_of_le (hrk2 i hi).1 q2.size, H, (hH.next ba).but q2 fun i hi hn => hn ⟨by have := hH.lt i hi; omega, fun q => hHK i hi (h2 i q).1⟩, fun i hi hk => hHK i hi (h.lp.use.2.2 i hk)⟩, (h.lp.use.2.1.next ba).kp (q2.mono hrk2) fun i hi => (hrk2 i hi).1, fun i hi => hi⟩, ?_⟩
    have hWw := h.lp.kp.size
    have hKo : Kp (OldW W) W (w.alloc (.cells #[.int .i64 1] 3)) := h.lp.kp.next ba
    exact (hKo.trans (q2.mono fun i hi => hK i (h.lp.old i hi) fun q => (h2 i q).2.2.2.2.2 hi)).below (Nat.le_refl _) fun _ hi => hi
end
set_option maxRecDepth 100000 in
set_option maxHeartbeats 1000000 in
theorem rnew_bad (W : World) (n : Int) (h : n < 8 ∨ 4096 < n) : Calls Try.prog 25 #[.int .i64 n] W fun e w' => e = .returned (.tuple #[dkV none 0 0 false 0, .int .i64 2]) ∧ Below W.heap.size W w' := by
  have r1 := heap_alloc_new W (.cells #[Value.slice none 0 0, Value.bool false, Value.int .i64 0] 46)
  have b1 := Below.new1 W (.cells #[Value.slice none 0 0, Value.bool false, Value.int .i64 0] 46)
  have R1 := Lib.hid r1
  have B1 := Lib.hid b1
  clear r1 b1
  by_cases h1 : n < 8
  · clear h
    go_enter Try.func25, Try.ntmps25
    go_wp2_with (fail)
    exact bodyPost_ret (v := .tuple #[dkV none 0 0 false 0, Value.int .i64 2]) (results_dk Try.results25 R1.out _ rfl rfl) rfl ⟨rfl, B1.out⟩
  · have h2 : n > 4096 := by omega
    clear h
    go_enter Try.func25, Try.ntmps25
    go_wp2_with (fail)
    exact bodyPost_ret (v := .tuple #[dkV none 0 0 false 0, Value.int .i64 2]) (results_dk Try.results25 R1.out _ rfl rfl) rfl ⟨rfl, B1.out⟩
set_option maxRecDepth 100000 in
set_option maxHeartbeats 2000000 in
/-- What is not run. -/
theorem disks_easy (W : World) (z0 : Int) (A1 : Option Addr) (c1 : Nat) (L1 : List Ca) (A2 : Option Addr) (c2 : Nat) (L2 : List Ca) (h : ¬ (8 ≤ z0 ∧ z0 ≤ 40 ∧ L1.length ≤ 60 ∧ L2.length ≤ 60)) : Calls Try.prog 5 #[.int .i64 z0, .slice A1 L1.length c1, .slice A2 L2.length c2] W fun e w' => e = .returned (.bool true) ∧ Below W.heap.size W w' := by
  have HAW := Lib.hid awake_any
  obtain ⟨n1, hn1⟩ : ∃ n, L1.length = n := ⟨_, rfl⟩
  obtain ⟨n2, hn2⟩ : ∃ n, L2.length = n := ⟨_, rfl⟩
  rw [hn1, hn2] at h
  rw [hn1, hn2]
  clear hn1 hn2
  have fin : ∀ (q : (¬ z0 > 40) ∨ (z0 > 40 ∧ ¬ z0 ≤ 4096)), n1 ≤ 60 → n2 ≤ 60 → Calls Try.prog 5 #[.int .i64 z0, .slice A1 n1 c1, .slice A2 n2 c2] W fun e w' => e = .returned (.bool true) ∧ Below W.heap.size W w' := fun q h1 h2 => by
    have hz : z0 < 8 ∨ 4096 < z0 := by omega
    have HND := Lib.hid (newdisk_bad W z0 hz)
    have HNW := Lib.hid (rnew_bad W z0 hz)
    have t1 : ¬ (n1 : Int) > 60 := by omega
    have t2 : ¬ (n2 : Int) > 60 := by omega
    clear h hz h1 h2
    rcases q with q | ⟨q, q'⟩
    all_goals
      go_enter Try.func5, Try.ntmps5
      go_wp2_with (first
        | (go_at_call 24; refine HND.out.mono ?_; rintro x w1 ⟨rfl, hw1⟩; obtain rfl := hw1.symm)
        | (go_at_call 25; refine HNW.out.mono ?_; rintro x w2 ⟨rfl, b2⟩
           have ba := Below.next b2 (Below.new1 w2 (.cells #[.slice none 0 0, .bool false, .int .i64 0] 46)))
        | (go_at_call 12; refine (HAW.out _).mono ?_; rintro x w3 ⟨rfl, b3⟩))
      go_ret
      exact ⟨rfl, Below.next ba b3⟩
  have many : ∀ (q : (¬ z0 > 40) ∨ (z0 > 40 ∧ ¬ z0 ≤ 4096)), (n1 : Int) > 60 ∨ (n2 : Int) > 60 → Calls Try.prog 5 #[.int .i64 z0, .slice A1 n1 c1, .slice A2 n2 c2] W fun e w' => e = .returned (.bool true) ∧ Below W.heap.size W w' := fun q hm => by
    clear h fin
    by_cases h1 : (n1 : Int) > 60
    · clear hm
      rcases q with q | ⟨q, q'⟩
      all_goals
        go_enter Try.func5, Try.ntmps5
        go_wp2_with (go_at_call 12; refine (HAW.out _).mono ?_; rintro x w3 ⟨rfl, b3⟩)
        go_ret
        exact ⟨rfl, b3⟩
    · have h2 := hm.resolve_left h1
      clear hm
      rcases q with q | ⟨q, q'⟩
      all_goals
        go_enter Try.func5, Try.ntmps5
        go_wp2_with (go_at_call 12; refine (HAW.out _).mono ?_; rintro x w3 ⟨rfl, b3⟩)
        go_ret
        exact ⟨rfl, b3⟩
  by_cases q1 : z0 > 40
  · by_cases q2 : z0 ≤ 4096
    · clear h fin many
      go_enter Try.func5, Try.ntmps5
      go_wp2_with (go_at_call 12; refine (HAW.out _).mono ?_; rintro x w3 ⟨rfl, b3⟩)
      go_ret
      exact ⟨rfl, b3⟩
    · by_cases hm : (n1 : Int) > 60 ∨ (n2 : Int) > 60
      · exact many (.inr ⟨q1, q2⟩) hm
      · exact fin (.inr ⟨q1, q2⟩) (by omega) (by omega)
  · by_cases hm : (n1 : Int) > 60 ∨ (n2 : Int) > 60
    · exact many (.inl q1) hm
    · exact fin (.inl q1) (by omega) (by omega)
set_option maxRecDepth 100000 in
set_option maxHeartbeats 4000000 in
theorem disks_go (W : World) (N : Nat) (h8 : 8 ≤ N) (h40 : N ≤ 40) (A1 : Option Addr) (c1 : Nat) (L1 : List Ca) (S1 : CallsL W A1 L1) (A2 : Option Addr) (c2 : Nat) (L2 : List Ca) (S2 : CallsL W A2 L2) (hl1 : L1.length ≤ 60) (hl2 : L2.length ≤ 60) : Calls Try.prog 5 #[.int .i64 N, .slice A1 L1.length c1, .slice A2 L2.length c2] W fun e w' => e = .returned (.bool true) ∧ Below W.heap.size W w' := by
  obtain ⟨n1, hn1⟩ : ∃ n, L1.length = n := ⟨_, rfl⟩
  obtain ⟨n2, hn2⟩ : ∃ n, L2.length = n := ⟨_, rfl⟩
  rw [hn1] at hl1
  rw [hn2] at hl2
  rw [hn1, hn2]
  have HAW := Lib.hid awake_any
  have t0 : ¬ (N : Int) > 40 := by omega
  have t1 : ¬ (n1 : Int) > 60 := by omega
  have t2 : ¬ (n2 : Int) > 60 := by omega
  have HND := Lib.hid (dnew_dd W (OldW W) (fun i hi => hi) N h8 (by omega))
  have HNW := Lib.hid fun w => rnew_any w N h8 (by omega)
  have HS1 := Lib.hid S1
  have HS2 := Lib.hid S2
  have HN1 := Lib.hid hn1
  have HN2 := Lib.hid hn2
  clear S1 S2 hn1 hn2 h8
  go_enter Try.func5, Try.ntmps5
  go_upto_region 5 with (first
    | (go_at_call 24; refine HND.out.mono ?_; rintro x w1 ⟨dk, rfl, b1, d1⟩)
    | (go_at_call 25; refine (HNW.out w1).mono ?_; rintro x w2 ⟨A0, c0, rfl, hO, b2⟩
       have HL := Lib.hid (Lp.new b1 d1 b2 hO rfl)))
  generalize hw3 : World.alloc w2 _ = w3
  obtain ⟨sb, K0, Kr0, hsb, hL0⟩ : ∃ sb K Kr, w2.heap.size = sb ∧ Lp W w3 sb dk A0 N c0 (newM N) K Kr 0 := ⟨_, _, _, rfl, by rw [← hw3]; exact HL.out⟩
  rw [hsb]
  have HL0 := Lib.hid hL0
  clear hw3 hsb HL hO b2 b1 d1 hL0
  go_wp2_with (fail)
  go_loopw [11, 12] (fun ok i w => ∃ (k : Nat) (A : Option Addr) (n c : Nat) (D : Dk) (K Kr : Nat → Prop), k ≤ n1 ∧ i = .int .i64 k ∧ ok = .bool true ∧ Lp W w sb dk A n c D K Kr k) (fun _ i _ => n1 - (intOf i).toNat)
  case atStart => exact ⟨0, A0, N, c0, newM N, K0, Kr0, Nat.zero_le _, rfl, rfl, HL0.out⟩
  case round =>
    obtain ⟨k, A, n, c, D, K, Kr, hk, rfl, rfl, hL⟩ := hrel
    have hold : Below W.heap.size W wr := hL.kp.below (Nat.le_refl _) fun _ hi => hi
    by_cases hlt : k < n1
    · have k1 : (k : Int) < (n1 : Nat) := by omega
      have k0 : 0 ≤ (k : Int) := by omega
      have k2 : k < n1 := hlt
      have hl : k < L1.length := by have := HN1.out; omega
      obtain ⟨a, rfl⟩ := HS1.out.some_ hl
      obtain ⟨-, ⟨x0, x1, x2, x3, x4⟩, ok⟩ := (HS1.out.next hold).at_ hl
      have okW := (HS1.out.at_ hl).2.2
      generalize L1[k] = X at *
      have hLd : Lp W wr.drew sb dk A n c D K Kr k := hL.next (Below.drawn wr 1 _)
      have okd : CaOk wr.drew X := ⟨ok.kd, ok.n, ok.keep.next (Below.drawn wr 1 _)⟩
      have hu := use_any hLd.use hLd.ok (hLd.few.mono (by omega)) X okd (fun a h0 e => hLd.old _ (intsLt okW.keep.ints h0 e))
      have hfw := useM_few hLd.few X
      have g0 : wr.drew.cell? (a.add (k * 5)) = some (.int .u8 X.kd) := x0
      have g1 : wr.drew.cell? ⟨(a.add (k * 5)).block, (a.add (k * 5)).off + 1, none⟩ = some (.int .i64 X.b) := x1
      have g2 : wr.drew.cell? ⟨(a.add (k * 5)).block, (a.add (k * 5)).off + 2, none⟩ = some (.string ⟨X.T.toArray⟩) := x2
      have g3 : wr.drew.cell? ⟨(a.add (k * 5)).block, (a.add (k * 5)).off + 3, none⟩ = some (.int .i64 X.n) := x3
      have g4 : wr.drew.cell? ⟨(a.add (k * 5)).block, (a.add (k * 5)).off + 4, none⟩ = some (.slice X.A X.keep.length X.kc) := x4
      have d0 := hLd.c0
      have d1 := hLd.c1
      have d2 := hLd.c2
      have HMS := Lib.hid (show k + 1 ≤ n1 ∧ n1 - (k + 1) < n1 - k from by omega)
      have HLD := Lib.hid hLd
      have HU := Lib.hid hu
      have HFW := Lib.hid hfw
      generalize useM D X = D' at *
      clear hL hLd hu hfw ok okW okd hold hl x0 x1 x2 x3 x4
      go_upto_region 11 with (fail)
      go_region_with (go_at_call 26; refine HU.out.mono ?_; rintro y w4 ⟨K', Kr', v', hk', hkr', rfl, hu', kp'⟩
                      obtain ⟨A', n', c', rfl⟩ := hu'.2.1.some_
                      obtain ⟨m0, m1, m2, mf⟩ := cellsFz (HLD.out.after kp')
                      have f0 := mf 0
                      have f1 := mf 1
                      have f2 := mf 2)
      all_goals
        clear mf
        go_upto_region 12 with (fail)
        generalize hw5 : ((w4.setCell ⟨sb, 0, none⟩ (.slice A' n' c')).setCell ⟨sb, 1, none⟩ (.bool D'.off)).setCell ⟨sb, 2, none⟩ (.int .i64 D'.fuse) = w5
        have L5 : Lp W w5 sb dk A' n' c' D' K' Kr' (k + 1) := by rw [← hw5]; exact HLD.out.step hk' hkr' hu' kp' HFW.out
        clear hw5 m0 m1 m2 f0 f1 f2 d0 d1 d2 hu' kp' hk' hkr' g0 g1 g2 g3 g4
        have d0 := L5.c0
        have d1 := L5.c1
        have d2 := L5.c2
        have HAL := Lib.hid (alike_any L5.use L5.ok (L5.few.mono (by omega)))
        have HL5 := Lib.hid L5
        clear L5
        go_wp2_with (go_at_call 27; refine HAL.out.mono ?_; rintro y w6 ⟨rfl, b6⟩)
        exact ⟨⟨k + 1, A', n', c', D', K', Kr', HMS.out.1, by go_num, rfl, HL5.out.next b6⟩, by have := HMS.out.2; simp [intOf]; omega⟩
    · have k1 : ¬ (k : Int) < (n1 : Nat) := by omega
      have hcl := clone_dd hL.use.1 (hL.few.mono (by omega))
      have d0 := hL.c0
      have d1 := hL.c1
      have d2 := hL.c2
      have HCL := Lib.hid hcl
      have HL := Lib.hid hL
      have HK := Lib.hid (show k ≤ 60 from by omega)
      clear hcl hL hold
      go_upto_region 16 with (go_at_call 20; refine HCL.out.mono ?_; rintro y w7 ⟨ck, H, rfl, b7, hC, hH⟩
                              have e0 := cell_kept b7 d0
                              have e1 := cell_kept b7 d1
                              have e2 := cell_kept b7 d2)
      go_upto_region 17 with (fail)
      generalize hw8 : World.alloc w7 _ = w8
      obtain ⟨sx, K2, hsx, T⟩ : ∃ sx K2, w7.heap.size = sx ∧ Tw W w8 sb dk A n c D Kr sx ck A n c { D with own := 0 } K2 Kr k := by
        obtain ⟨K2, T⟩ := Tw.new HL.out HK.out b7 hC hH
        exact ⟨_, K2, rfl, by rw [← hw8]; exact T⟩
      rw [hsx]
      have HTW := Lib.hid T
      clear hw8 hsx T b7 hC hH e0 e1 e2 d0 d1 d2 HL HCL
      go_wp2_with (fail)
      go_loopw [11, 15] (fun ok i w => ∃ (j : Nat) (B : Option Addr) (p q : Nat) (C : Dk) (K2 Kr2 : Nat → Prop), j ≤ n2 ∧ i = .int .i64 j ∧ ok = .bool true ∧ Tw W w sb dk A n c D Kr sx ck B p q C K2 Kr2 (k + j)) (fun _ i _ => n2 - (intOf i).toNat)
      case atStart => exact ⟨0, A, n, c, _, K2, Kr, Nat.zero_le _, rfl, rfl, HTW.out⟩
      case round =>
        obtain ⟨j, B, p, q, C, K3, Kr3, hj, rfl, rfl, hT⟩ := hrel
        have hold : Below W.heap.size W wr := hT.lp.kp.below (Nat.le_refl _) fun _ hi => hi
        by_cases hlt : j < n2
        · have j1 : (j : Int) < (n2 : Nat) := by omega
          have j0 : 0 ≤ (j : Int) := by omega
          have j2 : j < n2 := hlt
          have hl : j < L2.length := by have := HN2.out; omega
          obtain ⟨a, rfl⟩ := HS2.out.some_ hl
          obtain ⟨-, ⟨x0, x1, x2, x3, x4⟩, ok⟩ := (HS2.out.next hold).at_ hl
          have okW := (HS2.out.at_ hl).2.2
          generalize L2[j] = X at *
          have hTd : Tw W wr.drew sb dk A n c D Kr sx ck B p q C K3 Kr3 (k + j) := hT.next (Below.drawn wr 1 _)
          have okd : CaOk wr.drew X := ⟨ok.kd, ok.n, ok.keep.next (Below.drawn wr 1 _)⟩
          have hu := use_any hTd.lp.use hTd.lp.ok (hTd.lp.few.mono (by have := HK.out; omega)) X okd (fun a h0 e => hTd.lp.old _ (intsLt okW.keep.ints h0 e))
          have hfw := useM_few hTd.lp.few X
          have g0 : wr.drew.cell? (a.add (j * 5)) = some (.int .u8 X.kd) := x0
          have g1 : wr.drew.cell? ⟨(a.add (j * 5)).block, (a.add (j * 5)).off + 1, none⟩ = some (.int .i64 X.b) := x1
          have g2 : wr.drew.cell? ⟨(a.add (j * 5)).block, (a.add (j * 5)).off + 2, none⟩ = some (.string ⟨X.T.toArray⟩) := x2
          have g3 : wr.drew.cell? ⟨(a.add (j * 5)).block, (a.add (j * 5)).off + 3, none⟩ = some (.int .i64 X.n) := x3
          have g4 : wr.drew.cell? ⟨(a.add (j * 5)).block, (a.add (j * 5)).off + 4, none⟩ = some (.slice X.A X.keep.length X.kc) := x4
          have d0 := hTd.lp.c0
          have d1 := hTd.lp.c1
          have d2 := hTd.lp.c2
          have HMS := Lib.hid (show j + 1 ≤ n2 ∧ n2 - (j + 1) < n2 - j from by omega)
          have HTD := Lib.hid hTd
          have HU := Lib.hid hu
          have HFW := Lib.hid hfw
          generalize useM C X = C' at *
          clear hT hTd hu hfw ok okW okd hold hl x0 x1 x2 x3 x4
          go_upto_region 20 with (fail)
          go_region_with (go_at_call 26; refine HU.out.mono ?_; rintro y w4 ⟨K', Kr', v', hk', hkr', rfl, hu', kp'⟩
                          obtain ⟨A', n', c', rfl⟩ := hu'.2.1.some_
                          obtain ⟨m0, m1, m2, mf⟩ := cellsFz (HTD.out.lp.after kp')
                          have f0 := mf 0
                          have f1 := mf 1
                          have f2 := mf 2)
          all_goals
            clear mf
            go_upto_region 19 with (fail)
            generalize hw5 : ((w4.setCell ⟨sx, 0, none⟩ (.slice A' n' c')).setCell ⟨sx, 1, none⟩ (.bool C'.off)).setCell ⟨sx, 2, none⟩ (.int .i64 C'.fuse) = w5
            have T5 : Tw W w5 sb dk A n c D Kr sx ck A' n' c' C' K' Kr' (k + j + 1) := by rw [← hw5]; exact HTD.out.step hk' hkr' hu' kp' HFW.out
            have HT5 := Lib.hid T5
            clear hw5 m0 m1 m2 f0 f1 f2 d0 d1 d2 hu' kp' hk' hkr' g0 g1 g2 g3 g4 T5
            go_wp2_with (fail)
            exact ⟨⟨j + 1, A', n', c', C', K', Kr', HMS.out.1, by go_num, rfl, HT5.out⟩, by have := HMS.out.2; simp [intOf]; omega⟩
        · have j1 : ¬ (j : Int) < (n2 : Nat) := by omega
          have h120 : k + j ≤ 1000 := by have := HK.out; omega
          have hu0 := hT.use0
          have d0 := hT.lp.c0
          have d1 := hT.lp.c1
          have d2 := hT.lp.c2
          obtain ⟨u0, u1, u2, -⟩ := cellsFz hT.box
          have HA1 := Lib.hid (alike_any hT.lp.use hT.lp.ok (hT.lp.few.mono h120))
          have HA2 := Lib.hid fun w (b : Below wr.heap.size wr w) => alike_any (hu0.next b) hu0.ok (hT.few.mono (by decide))
          have HT := Lib.hid hT
          have HOK := Lib.hid hu0.ok
          have H120 := Lib.hid h120
          clear hT hold hu0 h120
          have tok1 : True := trivial
          have tok2 : True := trivial
          go_upto_region 23 with (first
            | (go_at_call 27; have _t := tok1; clear tok1; refine HA1.out.mono ?_; rintro y wa ⟨rfl, ba⟩
               have a0 := cell_kept ba u0
               have a1 := cell_kept ba u1
               have a2 := cell_kept ba u2)
            | (go_at_call 27; refine (HA2.out wa ba).mono ?_; rintro y wb ⟨rfl, bb⟩))
          have T2 := HT.out.next (Below.next ba bb)
          have HCR := Lib.hid T2.crash
          have HFD := Lib.hid T2.few
          have HFC := Lib.hid T2.lp.few
          have HOC := Lib.hid T2.lp.ok
          clear T2 ba bb d0 d1 d2 u0 u1 u2 a0 a1 a2 HT
          go_wp2_with (first
            | (go_at_call 28; refine HCR.out.mono ?_; rintro y w12 ⟨rfl, q1, q2, q3, q4, q5, q6⟩
               obtain ⟨u0, u1, u2, -⟩ := cellsFz q3
               have HRC := Lib.hid (rcrash1 q2 HOK.out HFD.out (by decide) q1))
            | (go_at_call 29; refine HRC.out.mono ?_; rintro y w13 ⟨v', rfl, b13, hal⟩
               have HAL := Lib.hid hal)
            | (go_at_call 27; have _t := tok2; clear tok2; refine HAL.out.mono ?_; rintro y w14 ⟨rfl, b14⟩
               have b24 := Below.next b13 b14
               obtain ⟨z0, z1, z2, -⟩ := cellsFz ((b24.block sx (Array.getElem?_eq_some_iff.1 q4).1).trans q4)
               have HAX := Lib.hid (alike_any (q5.next b24) HOC.out (HFC.out.mono H120.out)))
            | (go_at_call 27; refine HAX.out.mono ?_; rintro y w15 ⟨rfl, b15⟩)
            | (go_at_call 12; refine (HAW.out _).mono ?_; rintro y w16 ⟨rfl, b16⟩))
          go_ret
          exact ⟨rfl, Below.next q6 (Below.next (Below.next b24 b15) b16)⟩
theorem disks_any (W : World) (z0 : Int) (A1 : Option Addr) (c1 : Nat) (L1 : List Ca) (S1 : CallsL W A1 L1) (A2 : Option Addr) (c2 : Nat) (L2 : List Ca) (S2 : CallsL W A2 L2) : Calls Try.prog 5 #[.int .i64 z0, .slice A1 L1.length c1, .slice A2 L2.length c2] W fun e w' => e = .returned (.bool true) ∧ Below W.heap.size W w' := by
  by_cases h : 8 ≤ z0 ∧ z0 ≤ 40 ∧ L1.length ≤ 60 ∧ L2.length ≤ 60
  · obtain ⟨N, rfl⟩ : ∃ N : Nat, z0 = N := ⟨z0.toNat, by omega⟩
    exact disks_go W N (by omega) (by omega) A1 c1 L1 S1 A2 c2 L2 S2 h.2.2.1 h.2.2.2
  · exact disks_easy W z0 A1 c1 L1 A2 c2 L2 h
end Go.Proofs.Ytkljfampkkfgdaa
