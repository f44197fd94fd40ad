/- The journal layer: the walk over Clone of a disk. -/
import Derived.Test.YtkljfampkkfgdaaJClone
namespace Go.Proofs.Ytkljfampkkfgdaa
open Go.RowKit
/-- The cells of sectors. -/
def cellsS (l : List (Bs × Value)) : List Value := l.flatMap fun x => cellsB x.1 ++ [x.2]
theorem cellsS_cons (x : Bs × Value) (l : List (Bs × Value)) : cellsS (x :: l) = (cellsB x.1 ++ [x.2]) ++ cellsS l := by simp [cellsS]
theorem cellsS_length {l : List (Bs × Value)} (h : ∀ x ∈ l, x.1.length = 64) : (cellsS l).length = l.length * 65 := by
  induction l with
  | nil => rfl
  | cons x l ih =>
    rw [cellsS_cons, List.length_append, List.length_append, cellsB_length, h x (by simp), ih fun y hy => h y (by simp [hy])]; simp only [List.length_cons, List.length_nil]; omega
theorem cellsS_at {l : List (Bs × Value)} (h : ∀ x ∈ l, x.1.length = 64) {i : Nat} {x : Bs × Value} (hx : l[i]? = some x) {j : Nat} (hj : j < 65) : (cellsS l)[i * 65 + j]? = (cellsB x.1 ++ [x.2])[j]? := by
  induction l generalizing i with
  | nil => simp at hx
  | cons y l ih =>
    have hy : (cellsB y.1 ++ [y.2]).length = 65 := by rw [List.length_append, cellsB_length, h y (by simp), List.length_singleton]
    rw [cellsS_cons]
    cases i with
    | zero =>
      simp at hx
      subst hx
      rw [Nat.zero_mul, Nat.zero_add, List.getElem?_append_left (by omega)]
    | succ i =>
      rw [List.getElem?_append_right (by omega), hy, show (i + 1) * 65 + j - 65 = i * 65 + j from by omega]
      exact ih (fun z hz => h z (by simp [hz])) (by simpa using hx)
section
variable {W W' : World} {d b c : Nat} {vs : List Value} {D : Dk} {F : Nat → Prop}
/-- The sectors of a disk with their slices. -/
def pairsS (D : Dk) (vs : List Value) : List (Bs × Value) := (D.sec.map Sec.dur).zip vs
theorem pairsS_at {i : Nat} {s : Sec} {v : Value} (hs : D.sec[i]? = some s) (hv : vs[i]? = some v) : (pairsS D vs)[i]? = some (s.dur, v) := by
  unfold pairsS
  rw [List.getElem?_zip_eq_some]
  exact ⟨by rw [List.getElem?_map, hs]; rfl, hv⟩
theorem DiskB.pairs_len (h : DiskB W d b c vs D) : (pairsS D vs).length = D.sec.length := by simp [pairsS, h.len]
theorem DiskB.pairs64 (h : DiskB W d b c vs D) : ∀ x ∈ pairsS D vs, x.1.length = 64 := fun x hx => by
  have := (List.of_mem_zip (a := x.1) (b := x.2) hx).1
  obtain ⟨s, hs, e⟩ := List.mem_map.1 this
  rw [← e]; exact h.ok.dur s hs
theorem DiskB.news (h : DiskB W d b c vs D) : ∀ j u, (cellsS (pairsS D vs))[j]? = some u → W.cell? ((⟨b, 0, none⟩ : Addr).add j) = some u := fun j u hu => by
  have hj := (List.getElem?_eq_some_iff.1 hu).1
  rw [cellsS_length h.pairs64, h.pairs_len] at hj
  have hl := h.len
  have hi : j / 65 < D.sec.length := by omega
  have hs : D.sec[j / 65]? = some D.sec[j / 65] := List.getElem?_eq_getElem hi
  have hv : vs[j / 65]? = some (vs[j / 65]'(by omega)) := List.getElem?_eq_getElem (by omega)
  have ej : j / 65 * 65 + j % 65 = j := by omega
  have hat := cellsS_at h.pairs64 (pairsS_at hs hv) (j := j % 65) (Nat.mod_lt _ (by decide))
  rw [ej, hu] at hat
  have := h.row (j / 65) _ _ hs hv (j % 65) u hat.symm
  rw [ej] at this
  rw [Addr.add_mid, Nat.zero_add]; exact this
theorem DiskB.ones (h : DiskB W d b c vs D) : ∀ u ∈ cellsS (pairsS D vs), u.oneCell' = true := fun u hu => by
  simp only [cellsS, List.mem_flatMap, List.mem_append, List.mem_singleton] at hu
  obtain ⟨x, hx, h1 | rfl⟩ := hu
  · exact cellsB_one x.1 u h1
  · have := (List.of_mem_zip (a := x.1) (b := x.2) hx).2
    obtain ⟨i, hi, e⟩ := List.getElem_of_mem this
    have hl := h.len
    have ho := h.own i _ _ (List.getElem?_eq_getElem (by omega : i < D.sec.length)) (List.getElem?_eq_getElem hi)
    rw [e] at ho
    rcases ho.2.2 with ⟨q, _⟩ | ⟨_, _, _, q, _⟩
    · rw [q]; rfl
    · rw [q]; rfl
/-- A disk whose sectors are copied, its pending writes not yet. -/
theorem DiskB.copied {w : World} (h : DiskB W d b c vs D) (hB : Below W.heap.size W w) {g : Nat} {v : Value} (hv : w.ownsRow W.heap.size 98 65 v D.sec.length (cellsS (pairsS D vs))) (hg0 : W.heap.size ≤ g) (hgv : v.ownBlock ≠ some g) (own : Int)
    (hh : w.heap[g]? = some (.cells #[v, .bool D.off, .int .i64 D.fuse, .int .i64 own] 100 (0, 0))) : ∃ b2 c2, v = .slice (some ⟨b2, 0, none⟩) D.sec.length c2 ∧ W.heap.size ≤ b2 ∧ DiskB w g b2 c2 vs { D with own := own } := by
  have hpos := h.ok.pos
  rcases hv.2 with ⟨_, e⟩ | ⟨b2, c2, cur, rfl, hb2, hcur, hc, _, hsz, htake⟩
  · omega
  refine ⟨b2, c2, rfl, hb2, ?_⟩
  have hne : g ≠ b2 := fun e => hgv (by rw [e]; rfl)
  refine ⟨hh, fun i s u hs hu j y hy => ?_, fun o => by simp [World.frozen?, hcur], hc, h.len, fun i s u hs hu => (h.own i s u hs hu).kept fun k hk => hB.block k (h.lt k (.inr (.inr ⟨u, List.mem_of_getElem? hu, hk⟩))), hne, fun i u k hu hk => ?_, h.apart, ⟨h.ok.dur, h.ok.pend, h.ok.pos, h.ok.few, h.ok.lo, h.ok.hi⟩⟩
  · have hj : j < 65 := by have := (List.getElem?_eq_some_iff.1 hy).1; rw [List.length_append, cellsB_length, h.ok.dur s (List.mem_of_getElem? hs)] at this; simpa using this
    have hat := cellsS_at h.pairs64 (pairsS_at hs hu) hj
    rw [hy, ← htake, List.getElem?_take] at hat
    split at hat
    · rw [cell_of_row w b2 _ cur _ _ hcur, ← Array.getElem?_toList]; exact hat
    · cases hat
  · have := h.lt k (.inr (.inr ⟨u, List.mem_of_getElem? hu, hk⟩))
    omega
theorem ownsRow_slice {w : World} {base : Nat} {e : TypeId} {size : Nat} {v : Value} {n : Nat} {xs : List Value} (h : w.ownsRow base e size v n xs) (hn : 0 < n) : ∃ b2 c2, v = .slice (some ⟨b2, 0, none⟩) n c2 := by
  rcases h.2 with ⟨_, e⟩ | ⟨b2, c2, _, e, _⟩
  · omega
  · exact ⟨b2, c2, e⟩
theorem own0 {w : World} {base : Nat} {e : TypeId} {size : Nat} {v : Value} {n : Nat} {xs : List Value} (h : w.ownsRow base e size v n xs) : w.ownsRow 0 e size v n xs := by
  refine ⟨h.1, ?_⟩
  rcases h.2 with h | ⟨g, cap, cur, q1, q2, q3⟩
  · exact .inl h
  · exact .inr ⟨g, cap, cur, q1, Nat.zero_le _, q3⟩
/-- The copy so far. -/
def CloneI (W : World) (D : Dk) (vs : List Value) (g b2 c2 : Nat) (w : World) (k : Nat) : Prop :=
  ∃ vs', DiskB w g b2 c2 vs' { D with own := 0 } ∧ Below W.heap.size W w ∧ (∀ (i : Nat) v x, i < k → vs'[i]? = some v → v.ownBlock = some x → W.heap.size ≤ x) ∧ ∀ i, k ≤ i → vs'[i]? = vs[i]?
theorem dclone_nil (W : World) : Calls Try.prog 20 #[.pointer none] W fun e w' => e = .returned (.pointer none) ∧ w' = W := by
  go_enter Try.func20, Try.ntmps20
  go_wp2_with (go_at_call 52; refine (dusable_nil _).mono ?_; rintro e w1 ⟨rfl, rfl⟩)
  go_ret
  exact ⟨rfl, rfl⟩
set_option maxRecDepth 100000 in
set_option maxHeartbeats 4000000 in
theorem dclone_any {Wi : World} {dk : Nat} (h : DiskAt Wi dk D F) (hfew : Few 1000000 D) : Calls Try.prog 20 #[.pointer (some ⟨dk, 0, none⟩)] Wi fun e w' =>
    ∃ g F', e = .returned (.pointer (some ⟨g, 0, none⟩)) ∧ Below Wi.heap.size Wi w' ∧ DiskAt w' g { D with own := 0 } F' ∧ ∀ i, F' i → Wi.heap.size ≤ i := by
  have hu := dusable_any h
  obtain ⟨b, c, vs, h, rfl⟩ := h
  obtain ⟨N, hN⟩ : ∃ N, D.sec.length = N := ⟨_, rfl⟩
  have hN4 : N ≤ 4096 := by rw [← hN]; exact h.ok.few
  have hNp : 0 < N := by rw [← hN]; exact h.ok.pos
  have c0 := h.c0
  have c1 := h.c1
  have c2' := h.c2
  rw [hN] at c0
  have hd : DiskB Wi.drew dk b c vs D := h.next (Below.drawn Wi 1 _)
  have hcl := clone_secs_some Wi.drew ⟨b, 0, none⟩ N c (cellsS (pairsS D vs)) (by rw [cellsS_length h.pairs64, h.pairs_len, hN]) hd.news hd.ones (by omega)
  have H0 := Lib.hid h
  have HD := Lib.hid hd
  have HN := Lib.hid hN
  clear h hN hd
  generalize hOff : D.off = off at *
  generalize hFuse : D.fuse = fuse at *
  have HO := Lib.hid hOff
  have HF := Lib.hid hFuse
  clear hOff hFuse
  go_enter Try.func20, Try.ntmps20
  go_upto_region 3 with (go_at_call 52; refine hu.mono ?_; rintro e w1 ⟨rfl, hw1⟩; obtain rfl := hw1.symm)
  go_region_held3 (fun W => W.cell? ⟨dk, 0, none⟩ = some (.slice (some ⟨b, 0, none⟩) N c) ∧ W.cell? ⟨dk, 1, none⟩ = some (.bool off) ∧ W.cell? ⟨dk, 2, none⟩ = some (.int .i64 fuse)) (first | exact ⟨c0, c1, c2'⟩ | exact ⟨cell_kept (Below.drawn _ 1 _) c0, cell_kept (Below.drawn _ 1 _) c1, cell_kept (Below.drawn _ 1 _) c2'⟩ | exact ⟨cell_kept b3 c0, cell_kept b3 c1, cell_kept b3 c2'⟩ | exact ⟨cell_kept (Below.new1 _ _) (cell_kept b3 c0), cell_kept (Below.new1 _ _) (cell_kept b3 c1), cell_kept (Below.new1 _ _) (cell_kept b3 c2')⟩)
    (first
      | (go_at_call 53; refine hcl.mono ?_; rintro e w3 ⟨v, rfl, hv, b3⟩; obtain ⟨b2, c2, rfl⟩ := ownsRow_slice hv hNp))
  -- behind the copy
  have hb2 := (World.ownsRow.lt hv b2 rfl)
  have hBi : Below Wi.heap.size Wi w3 := (Below.drawn Wi 1 _).trans b3
  have hv4 := World.ownsRow.alloc hv (.cells #[.slice (some ⟨b2, 0, none⟩) N c2, .bool off, .int .i64 fuse, .int .i64 0] 100)
  have hB4 : Below Wi.heap.size Wi (w3.alloc (.cells #[.slice (some ⟨b2, 0, none⟩) N c2, .bool off, .int .i64 fuse, .int .i64 0] 100)) := Below.on hBi (Below.new1 _ _)
  have hh4 := heap_alloc_new w3 (.cells #[.slice (some ⟨b2, 0, none⟩) N c2, .bool off, .int .i64 fuse, .int .i64 0] 100)
  obtain ⟨b2', c2'', e2, hb2', hdb⟩ := H0.out.copied (v := .slice (some ⟨b2, 0, none⟩) N c2) (own := 0) hB4 (by rw [HN.out]; exact hv4) hBi.size (by intro e; have := Option.some.inj (show some b2 = some w3.heap.size from e); omega) (by rw [HO.out, HF.out]; exact hh4)
  obtain ⟨rfl, rfl⟩ : b2 = b2' ∧ c2 = c2'' := by simp only [Value.slice.injEq, Option.some.injEq, Addr.mk.injEq] at e2; exact ⟨e2.1.1, e2.2.2⟩
  generalize hw4 : World.alloc w3 _ = w4 at *
  generalize hgg : w3.heap.size = g at *
  have hgi : Wi.heap.size ≤ g := by rw [← hgg]; exact hBi.size
  have START : Hid (CloneI Wi D vs g b2 c2 w4 0) := ⟨vs, hdb, hB4, fun i v x hi => by omega, fun i _ => rfl⟩
  have c0 := hdb.c0
  simp only at c0
  rw [HN.out] at c0
  clear hw4 hh4 hv4 hB4 hBi hv b3 hdb e2 hu hcl HD hgg
  go_wp2_with (fail)
  clear c0
  go_loopw [4, 28] (fun _ i w => ∃ k : Nat, k ≤ N ∧ i = .int .i64 k ∧ CloneI Wi D vs g b2 c2 w k) (fun _ i _ => N - (intOf i).toNat)
  case atStart => exact ⟨0, by omega, rfl, START.out⟩
  case round =>
    clear START
    obtain ⟨k, hk, rfl, hI⟩ := hrel
    by_cases hlt : k < N
    · have k1 : (k : Int) < N := by omega
      have k0 : 0 ≤ (k : Int) := by omega
      have HLT := Lib.hid (show k + 1 ≤ N ∧ N - (k + 1) < N - k from by omega)
      obtain ⟨vs', hd, hBw, hn1, hn2⟩ := hI
      obtain ⟨s, vk, es, ev, r1, r2, r3, r4⟩ := hd.sec_ (i := k) (by simp only; rw [HN.out]; exact hlt)
      simp only at es
      have c0 := hd.c0
      simp only at c0
      rw [HN.out] at c0
      have hff := hd.free (k * 65 + 64)
      have hset : D.sec.set k ⟨s.dur, s.pend⟩ = D.sec := by
        refine List.ext_getElem? fun j => ?_
        rw [List.getElem?_set]
        by_cases q : k = j
        · subst q
          rw [if_pos rfl, if_pos (List.getElem?_eq_some_iff.1 es).1, es]
        · rw [if_neg q]
      have hsp := hfew s (List.mem_of_getElem? es)
      have NEXT : Hid (∀ W z, Below wr.heap.size wr W → OwnHs W 0 z s.pend → (∀ x, z.ownBlock = some x → wr.heap.size ≤ x) → CloneI Wi D vs g b2 c2 (W.setCell ⟨b2, k * 65 + 64, none⟩ z) (k + 1)) := by
        intro W z hB ho hz
        have hp := hd.pended es ev s.pend W (ButS.of hB) ho (.inr hz)
        simp only [hset] at hp
        have hbi : Wi.heap.size ≤ b2 := hb2'
        refine ⟨vs'.set k z, hp, (hBw.trans (hB.mono hBw.size)).setCell hbi _, fun i u x hi hu hx => ?_, fun i hi => ?_⟩
        · by_cases q : i = k
          · subst q
            rw [List.getElem?_set, if_pos rfl] at hu
            split at hu
            · cases hu; exact Nat.le_trans hBw.size (hz x hx)
            · cases hu
          · rw [List.getElem?_set, if_neg (Ne.symm q)] at hu
            exact hn1 i u x (by omega) hu hx
        · rw [List.getElem?_set, if_neg (by omega)]
          exact hn2 i (by omega)
      have hb0 := hd.lt b2 (.inr (.inl rfl))
      clear hn1 hn2 hset
      generalize hw0 : wr = w0 at *
      have HD0 := Lib.hid hd
      clear hd hw0
      rcases r3.2.2 with ⟨hv0, hl0⟩ | ⟨gk, cp, cur, hvk, _, hcur, hnc, _, _, _⟩
      · subst hv0
        have HP0 : Hid (s.pend = []) := List.eq_nil_of_length_eq_zero hl0
        have cv := r2
        clear r1 r2 r3 r4
        go_upto_region 7 with (fail)
        refine wp_name fun a0 ha0 => ?_
        have e3 : a0.eval (.tmp 3) = .pointer (some ⟨g, 0, none⟩) := by rw [ha0]; rfl
        have e4 : a0.eval (.tmp 4) = .int .i64 (k : Int) := by rw [ha0]; rfl
        have hz : a0.tmps.size = 49 := by rw [ha0]; rfl
        have HA0 := Lib.hid ha0
        clear ha0
        have SG : ∀ (d d' : Nat → Prop) (W W' : World), (fun (_ : Nat → Prop) (W : World) => Below w0.heap.size w0 W) d W → (∀ j, d j → d' j) → Below W.heap.size W W' → (fun (_ : Nat → Prop) (W : World) => Below w0.heap.size w0 W) d' W' := fun _ _ _ _ h _ b => Below.next h b
        have St : ∀ xc ∈ [(⟨some 0, 31, none, fun v _ => v = .pointer (some ⟨g, 0, none⟩)⟩ : Cl), ⟨some 1, 32, none, fun v _ => v = .pointer (some ⟨g, 0, none⟩)⟩, ⟨some 2, 33, none, fun v _ => v = .pointer (some ⟨g, 0, none⟩)⟩, ⟨some 3, 34, none, fun v _ => v = .slice (some ⟨b2, 0, none⟩) N c2⟩, ⟨some 4, 35, none, fun v _ => v = .int .i64 (k : Int)⟩, ⟨some 5, 36, none, fun v _ => v = .pointer (some ⟨g, 0, none⟩)⟩, ⟨some 6, 37, none, fun v _ => v = .pointer (some ⟨g, 0, none⟩)⟩, ⟨some 7, 38, none, fun v _ => v = .pointer (some ⟨g, 0, none⟩)⟩, ⟨some 8, 39, none, fun v _ => v = .slice (some ⟨b2, 0, none⟩) N c2⟩, ⟨some 9, 40, none, fun v _ => v = .int .i64 (k : Int)⟩, ⟨some 10, 41, none, fun v _ => v = .pointer (some ⟨b2, k * 65, none⟩)⟩, ⟨some 11, 42, none, fun v _ => v = .pointer (some ⟨b2, k * 65 + 64, none⟩)⟩, ⟨some 12, 43, none, fun v _ => v = .slice none 0 0⟩, ⟨some 13, 44, none, fun u W => OwnHs W 0 u s.pend ∧ (∀ x, u.ownBlock = some x → w0.heap.size ≤ x)⟩, ⟨some 14, 45, none, fun v _ => v = .pointer (some ⟨b2, k * 65, none⟩)⟩, ⟨some 15, 46, none, fun v _ => v = .pointer (some ⟨b2, k * 65 + 64, none⟩)⟩], Lasts xc := AllC.mem ⟨lastsV0 _ _ _ _, lastsV0 _ _ _ _, lastsV0 _ _ _ _, lastsV0 _ _ _ _, lastsV0 _ _ _ _, lastsV0 _ _ _ _, lastsV0 _ _ _ _, lastsV0 _ _ _ _, lastsV0 _ _ _ _, lastsV0 _ _ _ _, lastsV0 _ _ _ _, lastsV0 _ _ _ _, lastsV0 _ _ _ _, (fun _ _ _ h b => ⟨h.1.kept fun x hx => b.block x (h.1.lt hx), h.2⟩), lastsV0 _ _ _ _, lastsV0 _ _ _ _, trivial⟩
        refine wp_region_lastlyR 16 _ (Inv [31, 32, 33, 34, 35, 36, 37, 38, 39, 40, 41, 42, 43, 44, 45, 46] a0 (fun (_ : Nat → Prop) (W : World) => Below w0.heap.size w0 W) (lst St)) (by kernel_rfl) (by kernel_rfl) rfl rfl (fun d hcl hw j hj => ?_) rfl (Inv.start (Below.refl _ _).drew ⟨nofun, nofun, nofun, nofun, nofun, nofun, nofun, nofun, nofun, nofun, nofun, nofun, nofun, nofun, nofun, nofun, trivial⟩) ?_ ?_
        · have r13 := hw 13 rfl
          have r15 := hw 15 rfl
          have r14 := hcl 15 _ 14 rfl rfl r15
          have r3 := hcl 14 _ 3 rfl rfl r14
          have r4 := hcl 14 _ 4 rfl rfl r14
          have r2 := hcl 3 _ 2 rfl rfl r3
          have r1 := hcl 2 _ 1 rfl rfl r2
          have r0 := hcl 1 _ 0 rfl rfl r1
          have r12 := hcl 13 _ 12 rfl rfl r13
          have r11 := hcl 12 _ 11 rfl rfl r12
          have r10 := hcl 11 _ 10 rfl rfl r11
          have r8 := hcl 10 _ 8 rfl rfl r10
          have r9 := hcl 10 _ 9 rfl rfl r10
          have r7 := hcl 8 _ 7 rfl rfl r8
          have r6 := hcl 7 _ 6 rfl rfl r7
          have r5 := hcl 6 _ 5 rfl rfl r6
          match j, hj with
          | 0, _ => exact r0
          | 1, _ => exact r1
          | 2, _ => exact r2
          | 3, _ => exact r3
          | 4, _ => exact r4
          | 5, _ => exact r5
          | 6, _ => exact r6
          | 7, _ => exact r7
          | 8, _ => exact r8
          | 9, _ => exact r9
          | 10, _ => exact r10
          | 11, _ => exact r11
          | 12, _ => exact r12
          | 13, _ => exact r13
          | 14, _ => exact r14
          | 15, _ => exact r15
          | j + 16, h => exact absurd h (by omega)
        · clear HA0
          refine ⟨?_, ?_, ?_, ?_, ?_, ?_, ?_, ?_, ?_, ?_, ?_, ?_, ?_, ?_, ?_, ?_, trivial⟩
          · refine stepB rfl rfl (by decide) (by rw [hz]; decide) rfl rfl (by kernel_rfl) St SG fun d a W hF hG hH hn hcl hw => ?_
            have q3 := (hF.same 3 (by decide)).trans e3
            exact ⟨.pointer (some ⟨g, 0, none⟩), W, by clear hF hG hH hn hcl hw; generalize a.eval = ρ at *; go_simp, Below.refl _ _, rfl⟩
          · refine stepB rfl rfl (by decide) (by rw [hz]; decide) rfl rfl (by kernel_rfl) St SG fun d a W hF hG hH hn hcl hw => ?_
            have q31 : a.eval (.tmp 31) = .pointer (some ⟨g, 0, none⟩) := hH.at_ (i := 0) rfl (hw 0 rfl) id
            exact ⟨.pointer (some ⟨g, 0, none⟩), W, by clear hF hG hH hn hcl hw; generalize a.eval = ρ at *; go_simp, Below.refl _ _, rfl⟩
          · refine stepB rfl rfl (by decide) (by rw [hz]; decide) rfl rfl (by kernel_rfl) St SG fun d a W hF hG hH hn hcl hw => ?_
            have q32 : a.eval (.tmp 32) = .pointer (some ⟨g, 0, none⟩) := hH.at_ (i := 1) rfl (hw 1 rfl) id
            exact ⟨.pointer (some ⟨g, 0, none⟩), W, by clear hF hG hH hn hcl hw; generalize a.eval = ρ at *; go_simp, Below.refl _ _, rfl⟩
          · refine stepB rfl rfl (by decide) (by rw [hz]; decide) rfl rfl (by kernel_rfl) St SG fun d a W hF hG hH hn hcl hw => ?_
            have q33 : a.eval (.tmp 33) = .pointer (some ⟨g, 0, none⟩) := hH.at_ (i := 2) rfl (hw 2 rfl) id
            have cc := cell_kept hG c0
            exact ⟨.slice (some ⟨b2, 0, none⟩) N c2, W, by clear hF hG hH hn hcl hw; generalize a.eval = ρ at *; go_simp, Below.refl _ _, rfl⟩
          · refine stepB rfl rfl (by decide) (by rw [hz]; decide) rfl rfl (by kernel_rfl) St SG fun d a W hF hG hH hn hcl hw => ?_
            have q4 := (hF.same 4 (by decide)).trans e4
            exact ⟨.int .i64 (k : Int), W, by clear hF hG hH hn hcl hw; generalize a.eval = ρ at *; go_simp, Below.refl _ _, rfl⟩
          · refine stepB rfl rfl (by decide) (by rw [hz]; decide) rfl rfl (by kernel_rfl) St SG fun d a W hF hG hH hn hcl hw => ?_
            have q3 := (hF.same 3 (by decide)).trans e3
            exact ⟨.pointer (some ⟨g, 0, none⟩), W, by clear hF hG hH hn hcl hw; generalize a.eval = ρ at *; go_simp, Below.refl _ _, rfl⟩
          · refine stepB rfl rfl (by decide) (by rw [hz]; decide) rfl rfl (by kernel_rfl) St SG fun d a W hF hG hH hn hcl hw => ?_
            have q36 : a.eval (.tmp 36) = .pointer (some ⟨g, 0, none⟩) := hH.at_ (i := 5) rfl (hw 5 rfl) id
            exact ⟨.pointer (some ⟨g, 0, none⟩), W, by clear hF hG hH hn hcl hw; generalize a.eval = ρ at *; go_simp, Below.refl _ _, rfl⟩
          · refine stepB rfl rfl (by decide) (by rw [hz]; decide) rfl rfl (by kernel_rfl) St SG fun d a W hF hG hH hn hcl hw => ?_
            have q37 : a.eval (.tmp 37) = .pointer (some ⟨g, 0, none⟩) := hH.at_ (i := 6) rfl (hw 6 rfl) id
            exact ⟨.pointer (some ⟨g, 0, none⟩), W, by clear hF hG hH hn hcl hw; generalize a.eval = ρ at *; go_simp, Below.refl _ _, rfl⟩
          · refine stepB rfl rfl (by decide) (by rw [hz]; decide) rfl rfl (by kernel_rfl) St SG fun d a W hF hG hH hn hcl hw => ?_
            have q38 : a.eval (.tmp 38) = .pointer (some ⟨g, 0, none⟩) := hH.at_ (i := 7) rfl (hw 7 rfl) id
            have cc := cell_kept hG c0
            exact ⟨.slice (some ⟨b2, 0, none⟩) N c2, W, by clear hF hG hH hn hcl hw; generalize a.eval = ρ at *; go_simp, Below.refl _ _, rfl⟩
          · refine stepB rfl rfl (by decide) (by rw [hz]; decide) rfl rfl (by kernel_rfl) St SG fun d a W hF hG hH hn hcl hw => ?_
            have q4 := (hF.same 4 (by decide)).trans e4
            exact ⟨.int .i64 (k : Int), W, by clear hF hG hH hn hcl hw; generalize a.eval = ρ at *; go_simp, Below.refl _ _, rfl⟩
          · refine stepB rfl rfl (by decide) (by rw [hz]; decide) rfl rfl (by kernel_rfl) St SG fun d a W hF hG hH hn hcl hw => ?_
            have q39 : a.eval (.tmp 39) = .slice (some ⟨b2, 0, none⟩) N c2 := hH.at_ (i := 8) rfl (hw 8 rfl) id
            have q40 : a.eval (.tmp 40) = .int .i64 (k : Int) := hH.at_ (i := 9) rfl (hw 9 rfl) id
            exact ⟨.pointer (some ⟨b2, k * 65, none⟩), W, by clear hF hG hH hn hcl hw; generalize a.eval = ρ at *; go_simp, Below.refl _ _, rfl⟩
          · refine stepB rfl rfl (by decide) (by rw [hz]; decide) rfl rfl (by kernel_rfl) St SG fun d a W hF hG hH hn hcl hw => ?_
            have q41 : a.eval (.tmp 41) = .pointer (some ⟨b2, k * 65, none⟩) := hH.at_ (i := 10) rfl (hw 10 rfl) id
            exact ⟨.pointer (some ⟨b2, k * 65 + 64, none⟩), W, by clear hF hG hH hn hcl hw; generalize a.eval = ρ at *; go_simp, Below.refl _ _, rfl⟩
          · refine stepB rfl rfl (by decide) (by rw [hz]; decide) rfl rfl (by kernel_rfl) St SG fun d a W hF hG hH hn hcl hw => ?_
            have q42 : a.eval (.tmp 42) = .pointer (some ⟨b2, k * 65 + 64, none⟩) := hH.at_ (i := 11) rfl (hw 11 rfl) id
            have cc := cell_kept hG cv
            exact ⟨.slice none 0 0, W, by clear hF hG hH hn hcl hw; generalize a.eval = ρ at *; go_simp, Below.refl _ _, rfl⟩
          · refine stepC rfl rfl (by decide) (by rw [hz]; decide) rfl rfl (by kernel_rfl) St SG fun d a W hF hG hH hn hcl hw => ?_
            have q43 : a.eval (.tmp 43) = .slice none 0 0 := hH.at_ (i := 12) rfl (hw 12 rfl) id
            have qf : a.eval (.func 54) = .func (.func 54) #[] #[] := rfl
            refine ⟨54, #[.slice none 0 0], ?_, ?_⟩
            · clear hF hG hH hn hcl hw
              generalize a.eval = ρ at *
              go_simp
            · refine (clone_blocks_nil W).mono ?_; rintro e W' ⟨rfl, rfl⟩; exact ⟨_, rfl, Below.refl _ _, by rw [HP0.out]; exact OwnHs.none_ _ _, fun x hx => by cases hx⟩
          · refine stepB rfl rfl (by decide) (by rw [hz]; decide) rfl rfl (by kernel_rfl) St SG fun d a W hF hG hH hn hcl hw => ?_
            have q34 : a.eval (.tmp 34) = .slice (some ⟨b2, 0, none⟩) N c2 := hH.at_ (i := 3) rfl (hw 3 rfl) id
            have q35 : a.eval (.tmp 35) = .int .i64 (k : Int) := hH.at_ (i := 4) rfl (hw 4 rfl) id
            exact ⟨.pointer (some ⟨b2, k * 65, none⟩), W, by clear hF hG hH hn hcl hw; generalize a.eval = ρ at *; go_simp, Below.refl _ _, rfl⟩
          · refine stepB rfl rfl (by decide) (by rw [hz]; decide) rfl rfl (by kernel_rfl) St SG fun d a W hF hG hH hn hcl hw => ?_
            have q45 : a.eval (.tmp 45) = .pointer (some ⟨b2, k * 65, none⟩) := hH.at_ (i := 14) rfl (hw 14 rfl) id
            exact ⟨.pointer (some ⟨b2, k * 65 + 64, none⟩), W, by clear hF hG hH hn hcl hw; generalize a.eval = ρ at *; go_simp, Below.refl _ _, rfl⟩
        · intro d a W ⟨hF, hB, hH⟩ hall
          have k44 : OwnHs W 0 (a.eval (.tmp 44)) s.pend ∧ (∀ x, (a.eval (.tmp 44)).ownBlock = some x → w0.heap.size ≤ x) := hH.at_ (i := 13) rfl (hall 13 (by decide)) id
          have k46 : a.eval (.tmp 46) = .pointer (some ⟨b2, k * 65 + 64, none⟩) := hH.at_ (i := 15) rfl (hall 15 (by decide)) id
          clear hH hall
          rw [hF.shape (by rw [hz]; decide)]
          clear hF
          simp only [List.foldl]
          generalize a.eval (.tmp 31) = z31, a.eval (.tmp 32) = z32, a.eval (.tmp 33) = z33, a.eval (.tmp 34) = z34, a.eval (.tmp 35) = z35, a.eval (.tmp 36) = z36, a.eval (.tmp 37) = z37, a.eval (.tmp 38) = z38, a.eval (.tmp 39) = z39, a.eval (.tmp 40) = z40, a.eval (.tmp 41) = z41, a.eval (.tmp 42) = z42, a.eval (.tmp 43) = z43, a.eval (.tmp 44) = z44, a.eval (.tmp 45) = z45, a.eval (.tmp 46) = z46 at *
          subst k46
          rw [HA0.out]
          simp only [Act.put, List.setIfInBounds_toArray, List.set_cons_zero, List.set_cons_succ]
          clear hz HA0 St SG e3 e4
          clear a a0
          have G44 := Lib.hid k44
          clear k44
          have h1c : z44.oneCell' = true := by
            rcases G44.out.1.2.2 with ⟨e, _⟩ | ⟨_, _, _, e, _⟩
            · rw [e]; rfl
            · rw [e]; rfl
          have hcc := cell_kept hB cv
          have hf2 := (World.frozen?_of_block (a := ⟨b2, k * 65 + 64, none⟩) (hB.block b2 hb0)).trans hff
          refine wp_store1 _ (.tmp 46) (.tmp 44) rfl b2 (k * 65 + 64) z44 _ rfl rfl hcc hf2 h1c (by kernel_rfl) ?_
          have NX := Lib.hid (NEXT.out _ z44 hB G44.out.1 G44.out.2)
          go_wp2_with (fail)
          exact ⟨⟨k + 1, HLT.out.1, by go_num, NX.out⟩, by have := HLT.out.2; simp [intOf]; omega⟩
      · subst hvk
        have HCL : Hid ((cellsH s.pend).length = s.pend.length * 64) := cellsH_length r3.1
        have HCE : Hid (∀ j u, (cellsH s.pend)[j]? = some u → w0.cell? ((⟨gk, 0, none⟩ : Addr).add j) = some u) := World.ownsRow.cells r3.2 (g := gk) rfl
        have HB := Lib.hid r3.1
        have cv := r2
        obtain ⟨m, hm⟩ : ∃ m, s.pend.length = m := ⟨_, rfl⟩
        rw [hm] at cv HCL hsp
        have HML := Lib.hid hm
        have hm9 : m ≤ 1000000 := hsp
        clear r1 r2 r3 r4 hcur hnc hm hsp
        go_upto_region 7 with (fail)
        refine wp_name fun a0 ha0 => ?_
        have e3 : a0.eval (.tmp 3) = .pointer (some ⟨g, 0, none⟩) := by rw [ha0]; rfl
        have e4 : a0.eval (.tmp 4) = .int .i64 (k : Int) := by rw [ha0]; rfl
        have hz : a0.tmps.size = 49 := by rw [ha0]; rfl
        have HA0 := Lib.hid ha0
        clear ha0
        have SG : ∀ (d d' : Nat → Prop) (W W' : World), (fun (_ : Nat → Prop) (W : World) => Below w0.heap.size w0 W) d W → (∀ j, d j → d' j) → Below W.heap.size W W' → (fun (_ : Nat → Prop) (W : World) => Below w0.heap.size w0 W) d' W' := fun _ _ _ _ h _ b => Below.next h b
        have St : ∀ xc ∈ [(⟨some 0, 31, none, fun v _ => v = .pointer (some ⟨g, 0, none⟩)⟩ : Cl), ⟨some 1, 32, none, fun v _ => v = .pointer (some ⟨g, 0, none⟩)⟩, ⟨some 2, 33, none, fun v _ => v = .pointer (some ⟨g, 0, none⟩)⟩, ⟨some 3, 34, none, fun v _ => v = .slice (some ⟨b2, 0, none⟩) N c2⟩, ⟨some 4, 35, none, fun v _ => v = .int .i64 (k : Int)⟩, ⟨some 5, 36, none, fun v _ => v = .pointer (some ⟨g, 0, none⟩)⟩, ⟨some 6, 37, none, fun v _ => v = .pointer (some ⟨g, 0, none⟩)⟩, ⟨some 7, 38, none, fun v _ => v = .pointer (some ⟨g, 0, none⟩)⟩, ⟨some 8, 39, none, fun v _ => v = .slice (some ⟨b2, 0, none⟩) N c2⟩, ⟨some 9, 40, none, fun v _ => v = .int .i64 (k : Int)⟩, ⟨some 10, 41, none, fun v _ => v = .pointer (some ⟨b2, k * 65, none⟩)⟩, ⟨some 11, 42, none, fun v _ => v = .pointer (some ⟨b2, k * 65 + 64, none⟩)⟩, ⟨some 12, 43, none, fun v _ => v = .slice (some ⟨gk, 0, none⟩) m cp⟩, ⟨some 13, 44, none, fun u W => OwnHs W 0 u s.pend ∧ (∀ x, u.ownBlock = some x → w0.heap.size ≤ x)⟩, ⟨some 14, 45, none, fun v _ => v = .pointer (some ⟨b2, k * 65, none⟩)⟩, ⟨some 15, 46, none, fun v _ => v = .pointer (some ⟨b2, k * 65 + 64, none⟩)⟩], Lasts xc := AllC.mem ⟨lastsV0 _ _ _ _, lastsV0 _ _ _ _, lastsV0 _ _ _ _, lastsV0 _ _ _ _, lastsV0 _ _ _ _, lastsV0 _ _ _ _, lastsV0 _ _ _ _, lastsV0 _ _ _ _, lastsV0 _ _ _ _, lastsV0 _ _ _ _, lastsV0 _ _ _ _, lastsV0 _ _ _ _, lastsV0 _ _ _ _, (fun _ _ _ h b => ⟨h.1.kept fun x hx => b.block x (h.1.lt hx), h.2⟩), lastsV0 _ _ _ _, lastsV0 _ _ _ _, trivial⟩
        refine wp_region_lastlyR 16 _ (Inv [31, 32, 33, 34, 35, 36, 37, 38, 39, 40, 41, 42, 43, 44, 45, 46] a0 (fun (_ : Nat → Prop) (W : World) => Below w0.heap.size w0 W) (lst St)) (by kernel_rfl) (by kernel_rfl) rfl rfl (fun d hcl hw j hj => ?_) rfl (Inv.start (Below.refl _ _).drew ⟨nofun, nofun, nofun, nofun, nofun, nofun, nofun, nofun, nofun, nofun, nofun, nofun, nofun, nofun, nofun, nofun, trivial⟩) ?_ ?_
        · have r13 := hw 13 rfl
          have r15 := hw 15 rfl
          have r14 := hcl 15 _ 14 rfl rfl r15
          have r3 := hcl 14 _ 3 rfl rfl r14
          have r4 := hcl 14 _ 4 rfl rfl r14
          have r2 := hcl 3 _ 2 rfl rfl r3
          have r1 := hcl 2 _ 1 rfl rfl r2
          have r0 := hcl 1 _ 0 rfl rfl r1
          have r12 := hcl 13 _ 12 rfl rfl r13
          have r11 := hcl 12 _ 11 rfl rfl r12
          have r10 := hcl 11 _ 10 rfl rfl r11
          have r8 := hcl 10 _ 8 rfl rfl r10
          have r9 := hcl 10 _ 9 rfl rfl r10
          have r7 := hcl 8 _ 7 rfl rfl r8
          have r6 := hcl 7 _ 6 rfl rfl r7
          have r5 := hcl 6 _ 5 rfl rfl r6
          match j, hj with
          | 0, _ => exact r0
          | 1, _ => exact r1
          | 2, _ => exact r2
          | 3, _ => exact r3
          | 4, _ => exact r4
          | 5, _ => exact r5
          | 6, _ => exact r6
          | 7, _ => exact r7
          | 8, _ => exact r8
          | 9, _ => exact r9
          | 10, _ => exact r10
          | 11, _ => exact r11
          | 12, _ => exact r12
          | 13, _ => exact r13
          | 14, _ => exact r14
          | 15, _ => exact r15
          | j + 16, h => exact absurd h (by omega)
        · clear HA0
          refine ⟨?_, ?_, ?_, ?_, ?_, ?_, ?_, ?_, ?_, ?_, ?_, ?_, ?_, ?_, ?_, ?_, trivial⟩
          · refine stepB rfl rfl (by decide) (by rw [hz]; decide) rfl rfl (by kernel_rfl) St SG fun d a W hF hG hH hn hcl hw => ?_
            have q3 := (hF.same 3 (by decide)).trans e3
            exact ⟨.pointer (some ⟨g, 0, none⟩), W, by clear hF hG hH hn hcl hw; generalize a.eval = ρ at *; go_simp, Below.refl _ _, rfl⟩
          · refine stepB rfl rfl (by decide) (by rw [hz]; decide) rfl rfl (by kernel_rfl) St SG fun d a W hF hG hH hn hcl hw => ?_
            have q31 : a.eval (.tmp 31) = .pointer (some ⟨g, 0, none⟩) := hH.at_ (i := 0) rfl (hw 0 rfl) id
            exact ⟨.pointer (some ⟨g, 0, none⟩), W, by clear hF hG hH hn hcl hw; generalize a.eval = ρ at *; go_simp, Below.refl _ _, rfl⟩
          · refine stepB rfl rfl (by decide) (by rw [hz]; decide) rfl rfl (by kernel_rfl) St SG fun d a W hF hG hH hn hcl hw => ?_
            have q32 : a.eval (.tmp 32) = .pointer (some ⟨g, 0, none⟩) := hH.at_ (i := 1) rfl (hw 1 rfl) id
            exact ⟨.pointer (some ⟨g, 0, none⟩), W, by clear hF hG hH hn hcl hw; generalize a.eval = ρ at *; go_simp, Below.refl _ _, rfl⟩
          · refine stepB rfl rfl (by decide) (by rw [hz]; decide) rfl rfl (by kernel_rfl) St SG fun d a W hF hG hH hn hcl hw => ?_
            have q33 : a.eval (.tmp 33) = .pointer (some ⟨g, 0, none⟩) := hH.at_ (i := 2) rfl (hw 2 rfl) id
            have cc := cell_kept hG c0
            exact ⟨.slice (some ⟨b2, 0, none⟩) N c2, W, by clear hF hG hH hn hcl hw; generalize a.eval = ρ at *; go_simp, Below.refl _ _, rfl⟩
          · refine stepB rfl rfl (by decide) (by rw [hz]; decide) rfl rfl (by kernel_rfl) St SG fun d a W hF hG hH hn hcl hw => ?_
            have q4 := (hF.same 4 (by decide)).trans e4
            exact ⟨.int .i64 (k : Int), W, by clear hF hG hH hn hcl hw; generalize a.eval = ρ at *; go_simp, Below.refl _ _, rfl⟩
          · refine stepB rfl rfl (by decide) (by rw [hz]; decide) rfl rfl (by kernel_rfl) St SG fun d a W hF hG hH hn hcl hw => ?_
            have q3 := (hF.same 3 (by decide)).trans e3
            exact ⟨.pointer (some ⟨g, 0, none⟩), W, by clear hF hG hH hn hcl hw; generalize a.eval = ρ at *; go_simp, Below.refl _ _, rfl⟩
          · refine stepB rfl rfl (by decide) (by rw [hz]; decide) rfl rfl (by kernel_rfl) St SG fun d a W hF hG hH hn hcl hw => ?_
            have q36 : a.eval (.tmp 36) = .pointer (some ⟨g, 0, none⟩) := hH.at_ (i := 5) rfl (hw 5 rfl) id
            exact ⟨.pointer (some ⟨g, 0, none⟩), W, by clear hF hG hH hn hcl hw; generalize a.eval = ρ at *; go_simp, Below.refl _ _, rfl⟩
          · refine stepB rfl rfl (by decide) (by rw [hz]; decide) rfl rfl (by kernel_rfl) St SG fun d a W hF hG hH hn hcl hw => ?_
            have q37 : a.eval (.tmp 37) = .pointer (some ⟨g, 0, none⟩) := hH.at_ (i := 6) rfl (hw 6 rfl) id
            exact ⟨.pointer (some ⟨g, 0, none⟩), W, by clear hF hG hH hn hcl hw; generalize a.eval = ρ at *; go_simp, Below.refl _ _, rfl⟩
          · refine stepB rfl rfl (by decide) (by rw [hz]; decide) rfl rfl (by kernel_rfl) St SG fun d a W hF hG hH hn hcl hw => ?_
            have q38 : a.eval (.tmp 38) = .pointer (some ⟨g, 0, none⟩) := hH.at_ (i := 7) rfl (hw 7 rfl) id
            have cc := cell_kept hG c0
            exact ⟨.slice (some ⟨b2, 0, none⟩) N c2, W, by clear hF hG hH hn hcl hw; generalize a.eval = ρ at *; go_simp, Below.refl _ _, rfl⟩
          · refine stepB rfl rfl (by decide) (by rw [hz]; decide) rfl rfl (by kernel_rfl) St SG fun d a W hF hG hH hn hcl hw => ?_
            have q4 := (hF.same 4 (by decide)).trans e4
            exact ⟨.int .i64 (k : Int), W, by clear hF hG hH hn hcl hw; generalize a.eval = ρ at *; go_simp, Below.refl _ _, rfl⟩
          · refine stepB rfl rfl (by decide) (by rw [hz]; decide) rfl rfl (by kernel_rfl) St SG fun d a W hF hG hH hn hcl hw => ?_
            have q39 : a.eval (.tmp 39) = .slice (some ⟨b2, 0, none⟩) N c2 := hH.at_ (i := 8) rfl (hw 8 rfl) id
            have q40 : a.eval (.tmp 40) = .int .i64 (k : Int) := hH.at_ (i := 9) rfl (hw 9 rfl) id
            exact ⟨.pointer (some ⟨b2, k * 65, none⟩), W, by clear hF hG hH hn hcl hw; generalize a.eval = ρ at *; go_simp, Below.refl _ _, rfl⟩
          · refine stepB rfl rfl (by decide) (by rw [hz]; decide) rfl rfl (by kernel_rfl) St SG fun d a W hF hG hH hn hcl hw => ?_
            have q41 : a.eval (.tmp 41) = .pointer (some ⟨b2, k * 65, none⟩) := hH.at_ (i := 10) rfl (hw 10 rfl) id
            exact ⟨.pointer (some ⟨b2, k * 65 + 64, none⟩), W, by clear hF hG hH hn hcl hw; generalize a.eval = ρ at *; go_simp, Below.refl _ _, rfl⟩
          · refine stepB rfl rfl (by decide) (by rw [hz]; decide) rfl rfl (by kernel_rfl) St SG fun d a W hF hG hH hn hcl hw => ?_
            have q42 : a.eval (.tmp 42) = .pointer (some ⟨b2, k * 65 + 64, none⟩) := hH.at_ (i := 11) rfl (hw 11 rfl) id
            have cc := cell_kept hG cv
            exact ⟨.slice (some ⟨gk, 0, none⟩) m cp, W, by clear hF hG hH hn hcl hw; generalize a.eval = ρ at *; go_simp, Below.refl _ _, rfl⟩
          · refine stepC rfl rfl (by decide) (by rw [hz]; decide) rfl rfl (by kernel_rfl) St SG fun d a W hF hG hH hn hcl hw => ?_
            have q43 : a.eval (.tmp 43) = .slice (some ⟨gk, 0, none⟩) m cp := hH.at_ (i := 12) rfl (hw 12 rfl) id
            have qf : a.eval (.func 54) = .func (.func 54) #[] #[] := rfl
            refine ⟨54, #[.slice (some ⟨gk, 0, none⟩) m cp], ?_, ?_⟩
            · clear hF hG hH hn hcl hw
              generalize a.eval = ρ at *
              go_simp
            · refine (clone_blocks_some W ⟨gk, 0, none⟩ m cp (cellsH s.pend) HCL.out (fun j y hy => cell_kept hG (HCE.out j y hy)) (cellsH_one s.pend) hm9).mono ?_; rintro e W' ⟨u, rfl, r1, r2⟩; exact ⟨_, rfl, r2, ⟨HB.out, own0 (by rw [HML.out]; exact r1)⟩, fun x hx => Nat.le_trans hG.size ((World.ownsRow.lt r1 x hx).1)⟩
          · refine stepB rfl rfl (by decide) (by rw [hz]; decide) rfl rfl (by kernel_rfl) St SG fun d a W hF hG hH hn hcl hw => ?_
            have q34 : a.eval (.tmp 34) = .slice (some ⟨b2, 0, none⟩) N c2 := hH.at_ (i := 3) rfl (hw 3 rfl) id
            have q35 : a.eval (.tmp 35) = .int .i64 (k : Int) := hH.at_ (i := 4) rfl (hw 4 rfl) id
            exact ⟨.pointer (some ⟨b2, k * 65, none⟩), W, by clear hF hG hH hn hcl hw; generalize a.eval = ρ at *; go_simp, Below.refl _ _, rfl⟩
          · refine stepB rfl rfl (by decide) (by rw [hz]; decide) rfl rfl (by kernel_rfl) St SG fun d a W hF hG hH hn hcl hw => ?_
            have q45 : a.eval (.tmp 45) = .pointer (some ⟨b2, k * 65, none⟩) := hH.at_ (i := 14) rfl (hw 14 rfl) id
            exact ⟨.pointer (some ⟨b2, k * 65 + 64, none⟩), W, by clear hF hG hH hn hcl hw; generalize a.eval = ρ at *; go_simp, Below.refl _ _, rfl⟩
        · intro d a W ⟨hF, hB, hH⟩ hall
          have k44 : OwnHs W 0 (a.eval (.tmp 44)) s.pend ∧ (∀ x, (a.eval (.tmp 44)).ownBlock = some x → w0.heap.size ≤ x) := hH.at_ (i := 13) rfl (hall 13 (by decide)) id
          have k46 : a.eval (.tmp 46) = .pointer (some ⟨b2, k * 65 + 64, none⟩) := hH.at_ (i := 15) rfl (hall 15 (by decide)) id
          clear hH hall
          rw [hF.shape (by rw [hz]; decide)]
          clear hF
          simp only [List.foldl]
          generalize a.eval (.tmp 31) = z31, a.eval (.tmp 32) = z32, a.eval (.tmp 33) = z33, a.eval (.tmp 34) = z34, a.eval (.tmp 35) = z35, a.eval (.tmp 36) = z36, a.eval (.tmp 37) = z37, a.eval (.tmp 38) = z38, a.eval (.tmp 39) = z39, a.eval (.tmp 40) = z40, a.eval (.tmp 41) = z41, a.eval (.tmp 42) = z42, a.eval (.tmp 43) = z43, a.eval (.tmp 44) = z44, a.eval (.tmp 45) = z45, a.eval (.tmp 46) = z46 at *
          subst k46
          rw [HA0.out]
          simp only [Act.put, List.setIfInBounds_toArray, List.set_cons_zero, List.set_cons_succ]
          clear hz HA0 St SG e3 e4
          clear a a0
          have G44 := Lib.hid k44
          clear k44
          have h1c : z44.oneCell' = true := by
            rcases G44.out.1.2.2 with ⟨e, _⟩ | ⟨_, _, _, e, _⟩
            · rw [e]; rfl
            · rw [e]; rfl
          have hcc := cell_kept hB cv
          have hf2 := (World.frozen?_of_block (a := ⟨b2, k * 65 + 64, none⟩) (hB.block b2 hb0)).trans hff
          refine wp_store1 _ (.tmp 46) (.tmp 44) rfl b2 (k * 65 + 64) z44 _ rfl rfl hcc hf2 h1c (by kernel_rfl) ?_
          have NX := Lib.hid (NEXT.out _ z44 hB G44.out.1 G44.out.2)
          go_wp2_with (fail)
          exact ⟨⟨k + 1, HLT.out.1, by go_num, NX.out⟩, by have := HLT.out.2; simp [intOf]; omega⟩
    · obtain rfl : k = N := by omega
      have HI := Lib.hid hI
      clear hI
      go_wp2_with (fail)
      go_ret
      obtain ⟨vs', hd, hBw, hn1, hn2⟩ := HI.out
      rw [HO.out, HF.out] at hd
      refine ⟨g, Fp g b2 vs', rfl, hBw, ⟨b2, c2, vs', hd, rfl⟩, fun i hi => ?_⟩
      rcases hi with e | e | ⟨u, hu, e⟩
      · omega
      · omega
      · obtain ⟨j, hj, rfl⟩ := List.getElem_of_mem hu
        have hl := hd.len
        have hl2 := HN.out
        exact hn1 j _ i (by simp only at hl; omega) (List.getElem?_eq_getElem hj) e
end
end Go.Proofs.Ytkljfampkkfgdaa
