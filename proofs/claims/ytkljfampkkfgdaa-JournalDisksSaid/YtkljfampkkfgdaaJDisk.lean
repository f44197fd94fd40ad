/- The journal layer: a disk, as a plain value and in memory. -/
import Derived.Test.YtkljfampkkfgdaaJBase
namespace Go.Proofs.Ytkljfampkkfgdaa
open Go.RowKit
/-- A sector: its durable content, the pending writes. -/
structure Sec where
  dur : Bs
  pend : List Bs
/-- What a sector contains. -/
def Sec.latest (s : Sec) : Bs := s.pend.getLastD s.dur
/-- A disk. -/
structure Dk where
  sec : List Sec
  off : Bool
  fuse : Int
  own : Int
def fdec (f : Int) : Int := if 0 < f then f - 1 else f
/-- Data with bytes 0 behind it. -/
def padB (s : Bs) : Bs := s ++ List.replicate (64 - s.length) 0
theorem padB_length {s : Bs} (h : s.length ≤ 64) : (padB s).length = 64 := by simp [padB]; omega
def burnM (D : Dk) : Int × Dk := if D.fuse = 0 then (70, { D with off := true }) else (0, { D with fuse := fdec D.fuse })
def readyM (D : Dk) : Int := if D.off then 70 else 0
def readM (D : Dk) (n : Int) : Bs × Int := if D.off then ([], 70) else if n < 0 ∨ (D.sec.length : Int) ≤ n then ([], 3) else ((D.sec.getD n.toNat ⟨[], []⟩).latest, 0)
def writeM (D : Dk) (n : Int) (s : Bs) : Int × Dk :=
  if D.off then (70, D) else if n < 0 ∨ (D.sec.length : Int) ≤ n then (3, D) else if 64 < s.length then (2, D) else if D.fuse = 0 then (70, { D with off := true })
  else (0, { D with fuse := fdec D.fuse, sec := D.sec.modify n.toNat fun x => { x with pend := x.pend ++ [padB s] } })
def syncM (D : Dk) : Int × Dk :=
  if D.off then (70, D) else if D.fuse = 0 then (70, { D with off := true }) else (0, { D with fuse := fdec D.fuse, sec := D.sec.map fun x => ⟨x.latest, []⟩ })
def setM (D : Dk) (c : Int) : Int × Dk := if D.off then (70, D) else (0, { D with fuse := max c (-1) })
/-- How many of m pending writes a crash keeps, the c-th time. -/
def keepM (keep : List Int) (c m : Nat) : Nat := if keep = [] then 0 else (min (max (keep.getD (c % keep.length) 0) 0) (m : Int)).toNat
def crashS (keep : List Int) : Nat → List Sec → List Sec
  | _, [] => []
  | c, s :: l => if s.pend = [] then s :: crashS keep c l else ⟨if 0 < keepM keep c s.pend.length then s.pend.getD (keepM keep c s.pend.length - 1) [] else s.dur, []⟩ :: crashS keep (c + 1) l
def crashM (D : Dk) (keep : List Int) : Dk := { sec := crashS keep 0 D.sec, off := false, fuse := -1, own := IntKind.i64.wrap (D.own + 1) }
def zeroS : Sec := ⟨List.replicate 64 0, []⟩
def newM (n : Nat) : Dk := { sec := List.replicate n zeroS, off := false, fuse := -1, own := 0 }
/-- What every disk is. -/
structure Dk.Ok (D : Dk) : Prop where
  dur : ∀ s ∈ D.sec, s.dur.length = 64
  pend : ∀ s ∈ D.sec, B64 s.pend
  pos : 0 < D.sec.length
  few : D.sec.length ≤ 4096
  lo : -1 ≤ D.fuse
  hi : D.fuse < 9223372036854775808
theorem latest_length {s : Sec} (h : s.dur.length = 64) (h2 : B64 s.pend) : s.latest.length = 64 := by
  unfold Sec.latest
  cases hp : s.pend with
  | nil => simpa using h
  | cons a l =>
    rw [List.getLastD_cons]
    have : (l.getLastD a) ∈ s.pend := by
      rw [hp]
      cases l with
      | nil => simp
      | cons b l => rw [List.getLastD_eq_getLast?, List.getLast?_eq_some_getLast (by simp)]; simp
    exact h2 _ this
/-- The worlds differ in the blocks F at most, and in what is new. -/
structure ButS (F : Nat → Prop) (w w' : World) : Prop where
  os : w'.os = w.os
  tape : w'.tape = w.tape
  output : w'.output = w.output
  size : w.heap.size ≤ w'.heap.size
  block : ∀ i, i < w.heap.size → ¬ F i → w'.heap[i]? = w.heap[i]?
theorem ButS.refl (F : Nat → Prop) (w : World) : ButS F w w := ⟨rfl, rfl, rfl, Nat.le_refl _, fun _ _ _ => rfl⟩
theorem ButS.of {F : Nat → Prop} {w w' : World} (h : Below w.heap.size w w') : ButS F w w' := ⟨h.os, h.tape, h.output, h.size, fun i hi _ => h.block i hi⟩
theorem ButS.trans {F G : Nat → Prop} {a b c : World} (h : ButS F a b) (k : ButS G b c) (hg : ∀ i, G i → F i ∨ a.heap.size ≤ i) : ButS F a c :=
  ⟨k.os.trans h.os, k.tape.trans h.tape, k.output.trans h.output, Nat.le_trans h.size k.size, fun i hi hf => (k.block i (Nat.lt_of_lt_of_le hi h.size) (fun g => (hg i g).elim hf (by omega))).trans (h.block i hi hf)⟩
theorem ButS.next {F : Nat → Prop} {a b c : World} (h : ButS F a b) (k : Below b.heap.size b c) : ButS F a c := h.trans (ButS.of (F := fun _ => False) k) (fun _ h => h.elim)
theorem ButS.mono {F G : Nat → Prop} {a b : World} (h : ButS F a b) (hg : ∀ i, i < a.heap.size → F i → G i) : ButS G a b := ⟨h.os, h.tape, h.output, h.size, fun i hi hn => h.block i hi fun hf => hn (hg i hi hf)⟩
theorem ButS.below {F : Nat → Prop} {a b : World} (h : ButS F a b) {n : Nat} (hn : n ≤ a.heap.size) (hf : ∀ i, F i → n ≤ i) : Below n a b := ⟨h.os, h.tape, h.output, h.size, fun i hi => h.block i (by omega) fun f => by have := hf i f; omega⟩
theorem ButS.setCell {F : Nat → Prop} (w : World) {p : Addr} (hp : F p.block) (u : Value) : ButS F w (w.setCell p u) :=
  ⟨rfl, rfl, rfl, by simp [World.setCell], fun i _ hf => Below.heap_setCell _ _ _ _ fun e => hf (e ▸ hp)⟩
theorem ButS.setRow {F : Nat → Prop} (w : World) {g : Nat} (hp : F g) (cs : Array Value) : ButS F w (w.setRow g cs) :=
  ⟨rfl, rfl, rfl, by simp, fun i _ hf => setRow_other w g i cs fun e => hf (e ▸ hp)⟩
theorem ButS.grown {F : Nat → Prop} {w w' : World} {r : Option Nat} (h : w.grownBy w' r) (hr : ∀ k, r = some k → F k) : ButS F w w' :=
  ⟨h.os, h.tape, h.output, h.size, fun i hi hf => h.block i hi fun e => hf (hr i e.symm)⟩
theorem ButS.cell {F : Nat → Prop} {w w' : World} (h : ButS F w w') {p : Addr} {v : Value} (hc : w.cell? p = some v) (hp : ¬ F p.block) : w'.cell? p = some v :=
  (World.cell?_of_block (h.block p.block (block_lt_of_cell hc) hp)).trans hc
theorem OwnHs.kept {w w' : World} {base : Nat} {v : Value} {l : List Bs} (h : OwnHs w base v l) (hk : ∀ g, v.ownBlock = some g → w'.heap[g]? = w.heap[g]?) : OwnHs w' base v l := by
  obtain ⟨h0, h1, h2⟩ := h
  refine ⟨h0, h1, ?_⟩
  rcases h2 with h2 | ⟨g, cap, cur, e, hg, hh, r⟩
  · exact .inl h2
  · exact .inr ⟨g, cap, cur, e, hg, (hk g (by rw [e]; rfl)).trans hh, r⟩
theorem OwnHs.lt {w : World} {base : Nat} {v : Value} {l : List Bs} (h : OwnHs w base v l) {g : Nat} (hg : v.ownBlock = some g) : g < w.heap.size := (World.ownsRow.lt h.2 g hg).2
theorem OwnHs.none_ (w : World) (base : Nat) : OwnHs w base (.slice none 0 0) [] := ⟨B64.nil, World.ownsRow_nil _ _ _ _⟩
theorem rangeAt_kept {w w' : World} {b o : Nat} {cs : List Value} (h : w.rangeAt b o cs) (hk : w'.heap[b]? = w.heap[b]?) : w'.rangeAt b o cs := fun j v hv => (World.cell?_of_block hk).trans (h j v hv)
/-- The disk D lies in block d: its sectors in block b, the slices of pending writes are vs. -/
structure DiskB (W : World) (d b c : Nat) (vs : List Value) (D : Dk) : Prop where
  head : W.heap[d]? = some (.cells #[.slice (some ⟨b, 0, none⟩) D.sec.length c, .bool D.off, .int .i64 D.fuse, .int .i64 D.own] 100 (0, 0))
  row : ∀ (i : Nat) s v, D.sec[i]? = some s → vs[i]? = some v → W.rangeAt b (i * 65) (cellsB s.dur ++ [v])
  free : ∀ o, W.frozen? ⟨b, o, none⟩ = false
  cap : D.sec.length ≤ c
  len : vs.length = D.sec.length
  own : ∀ (i : Nat) s v, D.sec[i]? = some s → vs[i]? = some v → OwnHs W 0 v s.pend
  db : d ≠ b
  far : ∀ (i : Nat) v g, vs[i]? = some v → v.ownBlock = some g → g ≠ d ∧ g ≠ b
  apart : ∀ (i j : Nat) v u g, vs[i]? = some v → vs[j]? = some u → v.ownBlock = some g → u.ownBlock = some g → i = j
  ok : D.Ok
/-- The blocks of a disk. -/
def Fp (d b : Nat) (vs : List Value) (i : Nat) : Prop := i = d ∨ i = b ∨ ∃ v ∈ vs, v.ownBlock = some i
/-- The disk D lies in block d, in the blocks F. -/
def DiskAt (W : World) (d : Nat) (D : Dk) (F : Nat → Prop) : Prop := ∃ b c vs, DiskB W d b c vs D ∧ F = Fp d b vs
/-- From the world w, in which a disk lies in the blocks F, on: it is now D, and nothing else has changed. -/
def Mv (w : World) (F : Nat → Prop) (d : Nat) (W : World) (D : Dk) : Prop := ∃ F', DiskAt W d D F' ∧ ButS F w W ∧ ∀ i, F' i → F i ∨ w.heap.size ≤ i
section
variable {W W' : World} {d b c : Nat} {vs : List Value} {D : Dk} {F : Nat → Prop}
theorem DiskB.kept (h : DiskB W d b c vs D) (hk : ∀ i, Fp d b vs i → W'.heap[i]? = W.heap[i]?) : DiskB W' d b c vs D := by
  have hb := hk b (.inr (.inl rfl))
  exact ⟨(hk d (.inl rfl)).trans h.head, fun i s v hs hv => rangeAt_kept (h.row i s v hs hv) hb, fun o => (World.frozen?_of_block hb).trans (h.free o), h.cap, h.len,
    fun i s v hs hv => (h.own i s v hs hv).kept fun g hg => hk g (.inr (.inr ⟨v, List.mem_of_getElem? hv, hg⟩)), h.db, h.far, h.apart, h.ok⟩
theorem DiskB.lt (h : DiskB W d b c vs D) : ∀ i, Fp d b vs i → i < W.heap.size := by
  rintro i (rfl | rfl | ⟨v, hv, hg⟩)
  · exact (Array.getElem?_eq_some_iff.1 h.head).1
  · have hp := h.ok.pos
    have hl := h.len
    have := h.row 0 _ _ (List.getElem?_eq_getElem hp) (List.getElem?_eq_getElem (by omega : 0 < vs.length)) 64 _ (by rw [List.getElem?_append_right (by rw [cellsB_length, h.ok.dur _ (List.getElem_mem hp)]; omega), cellsB_length, h.ok.dur _ (List.getElem_mem hp)]; rfl)
    exact block_lt_of_cell this
  · obtain ⟨j, hj, rfl⟩ := List.getElem_of_mem hv
    have hl := h.len
    exact (h.own j _ _ (List.getElem?_eq_getElem (by omega)) (List.getElem?_eq_getElem hj)).lt hg
theorem DiskB.next (h : DiskB W d b c vs D) (hB : Below W.heap.size W W') : DiskB W' d b c vs D := h.kept fun i hi => hB.block i (h.lt i hi)
theorem DiskB.c0 (h : DiskB W d b c vs D) : W.cell? ⟨d, 0, none⟩ = some (.slice (some ⟨b, 0, none⟩) D.sec.length c) := (cell_of_row W d 0 _ _ _ h.head).trans rfl
theorem DiskB.c1 (h : DiskB W d b c vs D) : W.cell? ⟨d, 1, none⟩ = some (.bool D.off) := (cell_of_row W d 1 _ _ _ h.head).trans rfl
theorem DiskB.c2 (h : DiskB W d b c vs D) : W.cell? ⟨d, 2, none⟩ = some (.int .i64 D.fuse) := (cell_of_row W d 2 _ _ _ h.head).trans rfl
theorem DiskB.c3 (h : DiskB W d b c vs D) : W.cell? ⟨d, 3, none⟩ = some (.int .i64 D.own) := (cell_of_row W d 3 _ _ _ h.head).trans rfl
theorem DiskB.f (h : DiskB W d b c vs D) (i : Nat) : W.frozen? ⟨d, i, none⟩ = false := by have := h.head; simp [World.frozen?, this]
/-- Only the disk's own block has changed. -/
theorem DiskB.headed {D' : Dk} (h : DiskB W d b c vs D) (hk : ∀ i, i ≠ d → W'.heap[i]? = W.heap[i]?) (hs : D'.sec = D.sec) (ok : D'.Ok)
    (hh : W'.heap[d]? = some (.cells #[.slice (some ⟨b, 0, none⟩) D.sec.length c, .bool D'.off, .int .i64 D'.fuse, .int .i64 D'.own] 100 (0, 0))) : DiskB W' d b c vs D' := by
  have hb := hk b (Ne.symm h.db)
  refine ⟨by rw [hs]; exact hh, fun i s v hi hv => rangeAt_kept (h.row i s v (by rw [← hs]; exact hi) hv) hb, fun o => (World.frozen?_of_block hb).trans (h.free o), by rw [hs]; exact h.cap, by rw [hs]; exact h.len, fun i s v hi hv => ?_, h.db, h.far, h.apart, ok⟩
  rw [hs] at hi
  exact (h.own i s v hi hv).kept fun g hg => hk g (h.far i v g hv hg).1
theorem DiskB.setOff (h : DiskB W d b c vs D) (o : Bool) : DiskB (W.setCell ⟨d, 1, none⟩ (.bool o)) d b c vs { D with off := o } := by
  refine h.headed (fun i hi => Below.heap_setCell _ _ _ _ hi) rfl ⟨h.ok.dur, h.ok.pend, h.ok.pos, h.ok.few, h.ok.lo, h.ok.hi⟩ ?_
  have := h.head
  simp [World.setCell, Array.getElem?_modify, this]
theorem DiskB.setFuse (h : DiskB W d b c vs D) (f : Int) (h1 : -1 ≤ f) (h2 : f < 9223372036854775808) : DiskB (W.setCell ⟨d, 2, none⟩ (.int .i64 f)) d b c vs { D with fuse := f } := by
  refine h.headed (fun i hi => Below.heap_setCell _ _ _ _ hi) rfl ⟨h.ok.dur, h.ok.pend, h.ok.pos, h.ok.few, h1, h2⟩ ?_
  have := h.head
  simp [World.setCell, Array.getElem?_modify, this]
theorem DiskB.setOwn (h : DiskB W d b c vs D) (f : Int) : DiskB (W.setCell ⟨d, 3, none⟩ (.int .i64 f)) d b c vs { D with own := f } := by
  refine h.headed (fun i hi => Below.heap_setCell _ _ _ _ hi) rfl ⟨h.ok.dur, h.ok.pend, h.ok.pos, h.ok.few, h.ok.lo, h.ok.hi⟩ ?_
  have := h.head
  simp [World.setCell, Array.getElem?_modify, this]
/-- A sector has changed. -/
theorem DiskB.put (h : DiskB W d b c vs D) (i : Nat) (s' : Sec) (v' : Value) (hd : W'.heap[d]? = W.heap[d]?) (hf : ∀ o, W'.frozen? ⟨b, o, none⟩ = false)
    (hr : ∀ j cs, j ≠ i → cs.length = 65 → W.rangeAt b (j * 65) cs → W'.rangeAt b (j * 65) cs) (hn : W'.rangeAt b (i * 65) (cellsB s'.dur ++ [v'])) (ho : OwnHs W' 0 v' s'.pend)
    (hk : ∀ (j : Nat) v g, j ≠ i → vs[j]? = some v → v.ownBlock = some g → W'.heap[g]? = W.heap[g]?)
    (hfar : ∀ g, v'.ownBlock = some g → g ≠ d ∧ g ≠ b ∧ ∀ (j : Nat) v, j ≠ i → vs[j]? = some v → v.ownBlock ≠ some g) (hs : s'.dur.length = 64) :
    DiskB W' d b c (vs.set i v') { D with sec := D.sec.set i s' } := by
  have ok := h.ok
  refine ⟨?_, ?_, hf, ?_, ?_, ?_, h.db, ?_, ?_, ⟨?_, ?_, ?_, ?_, ok.lo, ok.hi⟩⟩
  · simp only [List.length_set]; exact hd.trans h.head
  · intro j s v hs' hv'
    by_cases e : j = i
    · subst e
      simp only [List.getElem?_set] at hs' hv'
      simp only [if_true] at hs' hv'
      split at hs'
      · split at hv'
        · cases hs'; cases hv'; exact hn
        · cases hv'
      · cases hs'
    · simp only [List.getElem?_set, if_neg (Ne.symm e)] at hs' hv'
      exact hr j _ e (by rw [List.length_append, cellsB_length, ok.dur s (List.mem_of_getElem? hs')]; rfl) (h.row j s v hs' hv')
  · simp only [List.length_set]; exact h.cap
  · simp only [List.length_set]; exact h.len
  · intro j s v hs' hv'
    by_cases e : j = i
    · subst e
      simp only [List.getElem?_set] at hs' hv'
      simp only [if_true] at hs' hv'
      split at hs'
      · split at hv'
        · cases hs'; cases hv'; exact ho
        · cases hv'
      · cases hs'
    · simp only [List.getElem?_set, if_neg (Ne.symm e)] at hs' hv'
      exact (h.own j s v hs' hv').kept fun g hg => hk j v g e hv' hg
  · intro j v g hv' hg
    by_cases e : j = i
    · subst e
      simp only [List.getElem?_set] at hv'
      simp only [if_true] at hv'
      split at hv'
      · cases hv'; exact ⟨(hfar g hg).1, (hfar g hg).2.1⟩
      · cases hv'
    · simp only [List.getElem?_set, if_neg (Ne.symm e)] at hv'
      exact h.far j v g hv' hg
  · intro j k v u g hv' hu' hg hg'
    by_cases e : j = i
    · by_cases e2 : k = i
      · rw [e, e2]
      · exfalso
        subst e
        simp only [List.getElem?_set, if_neg (Ne.symm e2)] at hu'
        simp only [List.getElem?_set, if_true] at hv'
        split at hv'
        · cases hv'; exact (hfar g hg).2.2 k u e2 hu' hg'
        · cases hv'
    · by_cases e2 : k = i
      · exfalso
        subst e2
        simp only [List.getElem?_set, if_neg (Ne.symm e)] at hv'
        simp only [List.getElem?_set, if_true] at hu'
        split at hu'
        · cases hu'; exact (hfar g hg').2.2 j v e hv' hg
        · cases hu'
      · simp only [List.getElem?_set, if_neg (Ne.symm e)] at hv'
        simp only [List.getElem?_set, if_neg (Ne.symm e2)] at hu'
        exact h.apart j k v u g hv' hu' hg hg'
  · intro s hs'
    rcases List.mem_or_eq_of_mem_set hs' with m | rfl
    · exact ok.dur s m
    · exact hs
  · intro s hs'
    rcases List.mem_or_eq_of_mem_set hs' with m | rfl
    · exact ok.pend s m
    · exact ho.1
  · simp only [List.length_set]; exact ok.pos
  · simp only [List.length_set]; exact ok.few
theorem DiskAt.next (h : DiskAt W d D F) (hB : Below W.heap.size W W') : DiskAt W' d D F := by
  obtain ⟨b, c, vs, h, e⟩ := h
  exact ⟨b, c, vs, h.next hB, e⟩
theorem DiskAt.lt (h : DiskAt W d D F) : ∀ i, F i → i < W.heap.size := by
  obtain ⟨b, c, vs, h, rfl⟩ := h
  exact h.lt
theorem DiskAt.but {G : Nat → Prop} (h : DiskAt W d D F) (hB : ButS G W W') (hG : ∀ i, F i → ¬ G i) : DiskAt W' d D F := by
  obtain ⟨b, c, vs, h, rfl⟩ := h
  exact ⟨b, c, vs, h.kept fun i hi => hB.block i (h.lt i hi) (hG i hi), rfl⟩
theorem DiskAt.mv (h : DiskAt W d D F) : Mv W F d W D := ⟨F, h, ButS.refl _ _, fun _ h => .inl h⟩
theorem DiskAt.ok (h : DiskAt W d D F) : D.Ok := by
  obtain ⟨b, c, vs, h, rfl⟩ := h
  exact h.ok
end
theorem Mv.next {w W W' : World} {F : Nat → Prop} {d : Nat} {D : Dk} (h : Mv w F d W D) (hB : Below W.heap.size W W') : Mv w F d W' D := by
  obtain ⟨F', h1, h2, h3⟩ := h
  exact ⟨F', h1.next hB, h2.next hB, h3⟩
theorem Mv.size {w W : World} {F : Nat → Prop} {d : Nat} {D : Dk} (h : Mv w F d W D) : w.heap.size ≤ W.heap.size := by
  obtain ⟨F', h1, h2, h3⟩ := h
  exact h2.size
theorem Mv.ok {w W : World} {F : Nat → Prop} {d : Nat} {D : Dk} (h : Mv w F d W D) : D.Ok := by
  obtain ⟨F', h1, h2, h3⟩ := h
  exact h1.ok
/-- One step more. -/
theorem Mv.then {w W W' : World} {F F' : Nat → Prop} {d : Nat} {D' : Dk} (h : Mv W F' d W' D') (hb : ButS F w W) (hf : ∀ i, F' i → F i ∨ w.heap.size ≤ i) : Mv w F d W' D' := by
  obtain ⟨F2, h1, h2, h3⟩ := h
  exact ⟨F2, h1, hb.trans h2 hf, fun i hi => (h3 i hi).elim (hf i) fun h => .inr (Nat.le_trans hb.size h)⟩
theorem DiskB.mv {w W : World} {d b c : Nat} {vs : List Value} {D D' : Dk} {vs' : List Value} (_h : DiskB w d b c vs D) (h' : DiskB W d b c vs' D') (hb : ButS (Fp d b vs) w W) (hf : ∀ i, Fp d b vs' i → Fp d b vs i ∨ w.heap.size ≤ i) : Mv w (Fp d b vs) d W D' :=
  ⟨_, ⟨b, c, vs', h', rfl⟩, hb, hf⟩
section
variable {W W' : World} {d b c : Nat} {vs : List Value} {D : Dk} {F : Nat → Prop}
set_option maxRecDepth 100000 in
set_option maxHeartbeats 400000 in
theorem dusable_any (h : DiskAt W d D F) : Calls Try.prog 52 #[.pointer (some ⟨d, 0, none⟩)] W fun e w' => e = .returned (.bool true) ∧ w' = W := by
  obtain ⟨b, c, vs, h, rfl⟩ := h
  have c0 := h.c0
  have hp : 0 < D.sec.length := h.ok.pos
  clear h
  go_enter Try.func52, Try.ntmps52
  go_wp2_with (fail)
  go_ret
  exact ⟨rfl, rfl⟩
theorem dusable_nil (W : World) : Calls Try.prog 52 #[.pointer none] W fun e w' => e = .returned (.bool false) ∧ w' = W := by
  go_enter Try.func52, Try.ntmps52
  go_wp2_with (fail)
  go_ret
  exact ⟨rfl, rfl⟩
set_option maxRecDepth 100000 in
set_option maxHeartbeats 400000 in
theorem dready_any (h : DiskAt W d D F) : Calls Try.prog 65 #[.pointer (some ⟨d, 0, none⟩)] W fun e w' => e = .returned (.int .i64 (readyM D)) ∧ w' = W := by
  have hu := dusable_any h
  obtain ⟨b, c, vs, h, rfl⟩ := h
  have c1 := h.c1
  unfold readyM
  clear h
  cases ho : D.off
  all_goals
    rw [ho] at c1
    go_enter Try.func65, Try.ntmps65
    go_wp2_with (go_at_call 52; refine hu.mono ?_; rintro e w1 ⟨rfl, rfl⟩)
    go_ret
    exact ⟨rfl, rfl⟩
theorem dready_nil (W : World) : Calls Try.prog 65 #[.pointer none] W fun e w' => e = .returned (.int .i64 1) ∧ w' = W := by
  go_enter Try.func65, Try.ntmps65
  go_wp2_with (go_at_call 52; refine (dusable_nil _).mono ?_; rintro e w1 ⟨rfl, rfl⟩)
  go_ret
  exact ⟨rfl, rfl⟩
set_option maxRecDepth 100000 in
set_option maxHeartbeats 400000 in
theorem burn_b (h : DiskB W d b c vs D) : Calls Try.prog 72 #[.pointer (some ⟨d, 0, none⟩)] W fun e w' => e = .returned (.int .i64 (burnM D).1) ∧ DiskB w' d b c vs (burnM D).2 ∧ ButS (fun i => i = d) W w' := by
  have c1 := h.c1
  have c2 := h.c2
  have f1 := h.f 1
  have f2 := h.f 2
  have lo := h.ok.lo
  have hi := h.ok.hi
  have hO := h.setOff true
  have hF := h.setFuse (D.fuse - 1)
  have H := Lib.hid h
  have HO := Lib.hid hO
  have HF := Lib.hid hF
  clear h hO hF
  unfold burnM fdec
  by_cases e0 : D.fuse = 0
  · rw [e0] at c2
    rw [if_pos e0]
    go_enter Try.func72, Try.ntmps72
    go_wp2_with (fail)
    go_ret
    exact ⟨rfl, HO.out, ButS.setCell (F := fun i => i = d) _ rfl _⟩
  · rw [if_neg e0]
    have b0 : (D.fuse == 0) = false := by simpa using e0
    by_cases e1 : 0 < D.fuse
    · have b1 : D.fuse > 0 := e1
      have m1 : IntKind.i64.wrap (D.fuse - 1) = D.fuse - 1 := IntWalk.i64_in _ (by omega)
      rw [if_pos e1]
      go_enter Try.func72, Try.ntmps72
      go_wp2_with (fail)
      go_ret
      exact ⟨rfl, HF.out (by omega) (by omega), ButS.setCell (F := fun i => i = d) _ rfl _⟩
    · have b1 : ¬ D.fuse > 0 := e1
      rw [if_neg e1]
      go_enter Try.func72, Try.ntmps72
      go_wp2_with (fail)
      go_ret
      exact ⟨rfl, H.out, ButS.refl _ _⟩
end
end Go.Proofs.Ytkljfampkkfgdaa
