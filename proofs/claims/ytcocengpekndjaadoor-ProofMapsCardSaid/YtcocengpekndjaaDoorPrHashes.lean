/- The walks over next and done of a reader. The walks over done and rebuild of a reader. Drawn regions whose last operation waits for all others. The walks over text, seal. The walk over hashes. -/
import Derived.Test.YtcocengpekndjaaDoorPrTop
import Derived.Test.YtcocengpekndjaaDoorSpBase
import Derived.Great.BuildSlice
namespace Go.Proofs.YtcocengpekndjaaDoor
section
open Go.RowKit
/-- The hashes lie in blocks before number n. -/
def InB (n : Nat) (A : Option Addr) (l : List Bs) : Prop := l ≠ [] → ∀ a, A = some a → a.block < n
theorem InB.cut {n : Nat} {A : Option Addr} {l : List Bs} (h : InB n A l) (c i : Nat) (l' : List Bs) (hl : l' ≠ [] → l ≠ []) : InB n (cutA A c i) l' := by
  intro h1 a h2
  unfold cutA at h2
  split at h2
  · exact h (hl h1) a h2
  · cases A with
    | none => cases h2
    | some a' =>
      simp only [Option.map_some, Option.some.injEq] at h2
      rw [← h2, add_block]
      exact h (hl h1) a' rfl
theorem Hs.inB {w : World} {A : Option Addr} {l : List Bs} (h : Hs w A l) : InB w.heap.size A l := by
  rintro hl a rfl; exact h.block hl
/-- Block b is a reader; its path lies in older blocks than number m. -/
def BoxRd (W : World) (m b : Nat) (r : Rd) : Prop := m ≤ b ∧ ∃ A c, W.heap[b]? = some (.cells #[.slice A r.1.length c, .bool r.2] 105 (0, 0)) ∧ r.1.length ≤ c ∧ Hs W A r.1 ∧ InB m A r.1
/-- Nothing but block b has changed. -/
def But (b : Nat) (w w' : World) : Prop := w'.os = w.os ∧ w'.tape = w.tape ∧ w'.output = w.output ∧ w.heap.size ≤ w'.heap.size ∧ ∀ i, i < w.heap.size → i ≠ b → w'.heap[i]? = w.heap[i]?
theorem But.of {b : Nat} {w w' : World} (h : Below w.heap.size w w') : But b w w' := ⟨h.os, h.tape, h.output, h.size, fun i hi _ => h.block i hi⟩
theorem But.refl (b : Nat) (w : World) : But b w w := .of (Below.refl _ _)
theorem But.trans {b : Nat} {w w1 w2 : World} (h : But b w w1) (k : But b w1 w2) : But b w w2 :=
  ⟨k.1.trans h.1, k.2.1.trans h.2.1, k.2.2.1.trans h.2.2.1, Nat.le_trans h.2.2.2.1 k.2.2.2.1, fun i hi hb => (k.2.2.2.2 i (Nat.lt_of_lt_of_le hi h.2.2.2.1) hb).trans (h.2.2.2.2 i hi hb)⟩
theorem But.size {b : Nat} {w w' : World} (h : But b w w') : w.heap.size ≤ w'.heap.size := h.2.2.2.1
theorem But.below {b n : Nat} {w0 w w' : World} (hB : Below n w0 w) (h : But b w w') (hb : n ≤ b) (hn : n ≤ w.heap.size) : Below n w0 w' :=
  ⟨h.1.trans hB.os, h.2.1.trans hB.tape, h.2.2.1.trans hB.output, Nat.le_trans hB.size h.size, fun i hi => (h.2.2.2.2 i (Nat.lt_of_lt_of_le hi hn) (by omega)).trans (hB.block i hi)⟩
theorem But.on {b : Nat} {w w1 w2 : World} (h : But b w w1) (k : Below w.heap.size w1 w2) : But b w w2 :=
  ⟨k.os.trans h.1, k.tape.trans h.2.1, k.output.trans h.2.2.1, Nat.le_trans h.size k.size, fun i hi hb => (k.block i hi).trans (h.2.2.2.2 i hi hb)⟩
theorem But.setCell {b : Nat} {w w' : World} (h : But b w w') (off : Nat) (v : Value) : But b w (w'.setCell ⟨b, off, none⟩ v) := by
  obtain ⟨h1, h2, h3, h4, h5⟩ := h
  refine ⟨h1, h2, h3, by simpa [World.setCell] using h4, fun i hi hb => ?_⟩
  rw [← h5 i hi hb]
  simp only [World.setCell, Array.getElem?_modify]
  rw [if_neg (by omega)]
theorem BoxA.but {w w' : World} {b b' : Nat} {t : TypeId} {k : IntKind} {l : List Int} (h : BoxA w b' t k l) (hb : b' ≠ b) (hB : But b w w') : BoxA w' b' t k l := (hB.2.2.2.2 b' h.lt hb).trans h
theorem cell_but {w w' : World} {b : Nat} (hB : But b w w') {p : Addr} {v : Value} (h : w.cell? p = some v) (hb : p.block ≠ b) : w'.cell? p = some v := by
  have e := hB.2.2.2.2 p.block (block_lt_of_cell h) hb
  unfold World.cell? at h ⊢
  rw [e]; exact h
theorem Hs.but {w w' : World} {b : Nat} {A : Option Addr} {l : List Bs} (h : Hs w A l) (hb : l ≠ [] → ∀ a, A = some a → a.block ≠ b) (hB : But b w w') : Hs w' A l := by
  obtain ⟨h0, h | ⟨a, e, h⟩⟩ := h
  · exact ⟨h0, .inl h⟩
  · by_cases hl : l = []
    · exact ⟨h0, .inl hl⟩
    · exact ⟨h0, .inr ⟨a, e, fun j u hu => cell_but hB (h j u hu) (by rw [add_block]; exact hb hl a e)⟩⟩
theorem Kon.but {w w' : World} {b : Nat} (h : Kon w) (hb : b ≠ 0) (hB : But b w w') : Kon w' := ⟨Nat.lt_of_lt_of_le h.1 hB.size, fun i hi => cell_but hB (h.2 i hi) (fun e => hb e.symm)⟩
theorem BoxRd.cells {w : World} {m b : Nat} {r : Rd} (h : BoxRd w m b r) {i : Nat} {k : IntKind} {n : Int} (hc : w.cell? ⟨b, i, none⟩ = some (.int k n)) : False := by
  obtain ⟨_, A, c, h, _⟩ := h
  rw [cell_of_row w b i _ _ _ h] at hc
  match i, hc with
  | 0, hc => simp at hc
  | 1, hc => simp at hc
  | i + 2, hc => simp at hc
theorem BoxRd.ne0 {w : World} {m b : Nat} {r : Rd} (h : BoxRd w m b r) (hk : Kon w) : b ≠ 0 := by
  rintro rfl; exact h.cells (hk.2 0 (by decide))
theorem Hs.first {w : World} {a : Addr} {l : List Bs} (h : Hs w (some a) l) (hl : l ≠ []) : ∃ k n, w.cell? a = some (.int k n) := by
  obtain ⟨h0, h | ⟨a', e, h⟩⟩ := h
  · exact absurd h hl
  · cases e
    match l, hl with
    | x :: l, _ =>
      have hx : x.length = 32 := h0 x (by simp)
      have := h 0 (.int .u8 ((x[0]'(by omega)).toNat : Int)) (by rw [cellsH_cons, List.getElem?_append_left (by rw [cellsB_length]; omega), cellsB_get (by omega)])
      exact ⟨_, _, this⟩
theorem BoxRd.apart {w : World} {m b : Nat} {r : Rd} (h : BoxRd w m b r) {A : Option Addr} {l : List Bs} (hs : Hs w A l) : l ≠ [] → ∀ a, A = some a → a.block ≠ b := by
  rintro hl a rfl rfl
  obtain ⟨k, n, hc⟩ := hs.first hl
  obtain ⟨_, A, c, h, _⟩ := h
  unfold World.cell? at hc
  rw [h] at hc
  simp only at hc
  have : (#[Value.slice A r.1.length c, Value.bool r.2])[a.off]? = some (.int k n) := by
    revert hc
    cases a.spot <;> simp
  generalize a.off = i at this
  match i, this with
  | 0, hc => simp at hc
  | 1, hc => simp at hc
  | i + 2, hc => simp at hc
theorem BoxRd.next {w w' : World} {m b : Nat} {r : Rd} (h : BoxRd w m b r) (hB : Below w.heap.size w w') : BoxRd w' m b r := by
  obtain ⟨h0, A, c, h1, h2, h3, h4⟩ := h
  exact ⟨h0, A, c, (hB.block b (Array.getElem?_eq_some_iff.1 h1).1).trans h1, h2, h3.next hB, h4⟩
theorem BoxRd.lt {w : World} {m b : Nat} {r : Rd} (h : BoxRd w m b r) : b < w.heap.size := by
  obtain ⟨_, A, c, h1, _⟩ := h; exact (Array.getElem?_eq_some_iff.1 h1).1
theorem BoxRd.le {w : World} {m b : Nat} {r : Rd} (h : BoxRd w m b r) : m ≤ b := h.1
theorem BoxRd.but {w w' : World} {m b g : Nat} {r : Rd} (h : BoxRd w m b r) (hg : b ≠ g) (hm : m ≤ g) (hB : But g w w') : BoxRd w' m b r := by
  obtain ⟨h0, A, c, h1, h2, h3, h4⟩ := h
  refine ⟨h0, A, c, (hB.2.2.2.2 b (Array.getElem?_eq_some_iff.1 h1).1 hg).trans h1, h2, h3.but (fun hl a e => by have := h4 hl a e; omega) hB, h4⟩
theorem But.row (w : World) (g : Nat) (cs : Array Value) : But g w (w.setRow g cs) :=
  ⟨rfl, rfl, rfl, by simp [World.setRow], fun i _ hi => setRow_other w g i cs hi⟩
theorem BoxRd.farRow {w : World} {m b g : Nat} {r : Rd} (h : BoxRd w m b r) (hg : b < g) (cs : Array Value) : BoxRd (w.setRow g cs) m b r :=
  h.but (by omega) (by have := h.le; omega) (But.row w g cs)
theorem But.cells (g : Nat) : ∀ (vs : List Value) (o : Nat) (w : World), But g w (w.setCells g o vs)
  | [], _, w => But.refl g w
  | v :: vs, o, w => ((But.refl g w).setCell o v).trans (But.cells g vs (o + 1) _)
set_option maxRecDepth 100000 in
set_option maxHeartbeats 1000000 in
theorem next_nil (s : Bool) (b : Nat) (w : World) (m : Nat) (h : BoxRd w m b ([], s)) : Calls Tryd.prog 92 #[.pointer (some ⟨b, 0, none⟩)] w fun e w' => e = .returned (hashV zeroH) ∧ BoxRd w' m b ([], true) ∧ But b w w' := by
  have lb := h.lt
  have hb : b ≠ w.heap.size := by omega
  go_enter Tryd.func92, Tryd.ntmps92
  go_upto_region 1 with (fail)
  obtain ⟨w0, hW0⟩ : ∃ w0, World.alloc w (.cells (ints .u8 (List.replicate 32 0)) 30) = w0 := ⟨_, rfl⟩
  have B0 : Below w.heap.size w w0 := hW0 ▸ Below.new1 _ _
  have x2 : BoxA w0 w.heap.size 30 .u8 (List.replicate 32 0) := hW0 ▸ BoxA.new w _ _ (List.replicate 32 0) _ rfl
  obtain ⟨hm, A, c, h1, h2, h3, _⟩ := h.next B0
  change Code.wp _ _ _ _ (World.alloc w (.cells (ints .u8 (List.replicate 32 0)) 30))
  rw [hW0]
  clear hW0 h
  have c0 : w0.cell? ⟨b, 0, none⟩ = some (.slice A 0 c) := (cell_of_row w0 b 0 _ _ _ h1).trans rfl
  have c1 : w0.cell? ⟨b, 1, none⟩ = some (.bool s) := (cell_of_row w0 b 1 _ _ _ h1).trans rfl
  have f1 : w0.frozen? ⟨b, 1, none⟩ = false := by simp [World.frozen?, h1]
  have H1 := Lib.hid h1
  clear h1
  have sz : (Tryd.prog.info? 30).map (·.size) = some (ints .u8 (List.replicate 32 0)).size := by rw [ints_size]; exact szHash
  go_wp2_with (refine wpList_store_row rfl 30 (.tmp 2) (.tmp 13) rfl w.heap.size (ints .u8 (List.replicate 32 0)) rfl rfl 30 (ints .u8 (List.replicate 32 0)) (x2.far (Ne.symm hb) 1 none (.bool true)) sz rfl (ints_one _ _) ?_)
  have y2 : BoxH ((w0.setCell ⟨b, 1, none⟩ (.bool true)).setRow w.heap.size (ints .u8 (List.replicate 32 0))) w.heap.size zeroH := (x2.far (Ne.symm hb) 1 none (.bool true)).setRow
  have e : ((w0.setCell ⟨b, 1, none⟩ (.bool true)).setRow w.heap.size (ints .u8 (List.replicate 32 0))).heap[b]? = some (.cells #[.slice A 0 c, .bool true] 105 (0, 0)) := by
    rw [setRow_other _ _ _ _ hb]
    simp [World.setCell, Array.getElem?_modify, H1.out]
  refine bodyPost_ret (v := hashV zeroH) (results_hash rfl _ w.heap.size _ rfl y2 rfl) rfl ⟨rfl, ⟨hm, A, c, e, Nat.zero_le _, Hs.nil _ _, fun h => absurd rfl h⟩, ?_⟩
  exact ((But.of B0).setCell 1 _).on (below_setRow (Below.refl _ _) (Nat.le_refl _) _)
set_option maxRecDepth 100000 in
set_option maxHeartbeats 1000000 in
theorem next_cons (x : Bs) (p : List Bs) (s : Bool) (b : Nat) (w : World) (m : Nat) (h : BoxRd w m b (x :: p, s)) (hp : p.length ≤ 1000000) : Calls Tryd.prog 92 #[.pointer (some ⟨b, 0, none⟩)] w fun e w' => e = .returned (hashV x) ∧ BoxRd w' m b (p, s) ∧ But b w w' := by
  have lb := h.lt
  obtain ⟨hm, A, c, h1, h2, h3, h4⟩ := h
  obtain ⟨a, rfl⟩ : ∃ a, A = some a := by
    obtain ⟨_, h | ⟨a, e, _⟩⟩ := h3
    · cases h
    · exact ⟨a, e⟩
  have hx : x.length = 32 := h3.1 x (by simp)
  obtain ⟨n, hn⟩ : ∃ n, p.length = n := ⟨_, rfl⟩
  simp only [List.length_cons, hn] at h1 h2
  have hq : Hs w (cutA (some a) c 1) p := h3.from_ (c := c) (by simp only [List.length_cons]; omega) 1 (by simp)
  have sl : ∀ W, (Instr.slice 35 (.slice (some a) (n + 1) c) (some (.int .i64 1)) none none).run Tryd.prog W = .ok (.slice (cutA (some a) c 1) n (c - 1)) W := fun W => hs_from (some a) (n + 1) c 1 (by omega) W
  have ap : InB m (cutA (some a) c 1) p := h4.cut c 1 p (fun _ => by simp)
  generalize cutA (some a) c 1 = A2 at *
  have HQ := Lib.hid hq
  have AP := Lib.hid ap
  have H3 := Lib.hid h3
  have HX := Lib.hid hx
  have HN := Lib.hid hn
  have HS1 := Lib.hid h1
  clear hq ap h3 hx hn h4 h1
  have hb : b ≠ w.heap.size := by omega
  go_enter Tryd.func92, Tryd.ntmps92
  go_upto_region 1 with (fail)
  obtain ⟨w0, hW0⟩ : ∃ w0, World.alloc w (.cells (ints .u8 (List.replicate 32 0)) 30) = w0 := ⟨_, rfl⟩
  have B0 : Below w.heap.size w w0 := hW0 ▸ Below.new1 _ _
  have x2 : BoxA w0 w.heap.size 30 .u8 (List.replicate 32 0) := hW0 ▸ BoxA.new w _ _ (List.replicate 32 0) _ rfl
  have h1 := (B0.block b lb).trans HS1.out
  change Code.wp _ _ _ _ (World.alloc w (.cells (ints .u8 (List.replicate 32 0)) 30))
  rw [hW0]
  clear hW0
  have c0 : w0.cell? ⟨b, 0, none⟩ = some (.slice (some a) (n + 1) c) := (cell_of_row w0 b 0 _ _ _ h1).trans rfl
  have f0 : w0.frozen? ⟨b, 0, none⟩ = false := by simp [World.frozen?, h1]
  have ld := (H3.out.next B0).load (P := Tryd.prog) (i := 0) (by simp) 30 32 5 (by kernel_rfl) szHash
  have ne0 : ((n : Int) + 1 == 0) = false := by simp; omega
  have H1 := Lib.hid h1
  have LD := Lib.hid ld
  have lw := x2.lt
  clear h1 ld
  go_wp2_with (first
    | (refine wpList_load_at rfl 30 (.tmp 18) rfl (hashV x) (by exact LD.out) ?_)
    | (refine wpList_storeH rfl (.tmp 3) (.tmp 19) rfl w0.heap.size x rfl rfl (BoxA.new w0 _ _ (List.replicate 32 0) _ rfl) rfl HX.out ?_
       obtain ⟨w1, hW1⟩ : ∃ w1, World.setRow (World.alloc w0 (Obj.cells (ints .u8 (List.replicate 32 0)) 30)) w0.heap.size (ints .u8 (nums x)) = w1 := ⟨_, rfl⟩
       have b1 : Below w0.heap.size w0 w1 := hW1 ▸ below_setRow (Below.new1 w0 _) (Nat.le_refl _) _
       have z3 : BoxH w1 w0.heap.size x := hW1 ▸ (BoxA.new w0 _ _ (List.replicate 32 0) _ rfl).setRow
       have z2 := x2.next b1
       have k0 := cell_kept b1 c0
       have g0 : w1.frozen? ⟨b, 0, none⟩ = false := by
         have := H1.out; simp [World.frozen?, b1.block b (by omega), this]
       change wpList _ _ _ _ _ (World.setRow (World.alloc w0 (Obj.cells (ints .u8 (List.replicate 32 0)) 30)) w0.heap.size (ints .u8 (nums x)))
       rw [hW1]
       clear hW1 c0 f0)
    | (refine wpList_loadH rfl (.tmp 3) rfl w0.heap.size x rfl (z3.far (by omega) 0 none _) HX.out ?_)
    | (refine wpList_storeH rfl (.tmp 2) (.tmp 28) rfl w.heap.size x rfl rfl (z2.far (by omega) 0 none _) rfl HX.out ?_))
  obtain ⟨w2, hW2⟩ : ∃ w2, w1.setCell ⟨b, 0, none⟩ (.slice A2 n (c - 1)) = w2 := ⟨_, rfl⟩
  have q2 : BoxA w2 w.heap.size 30 .u8 (List.replicate 32 0) := hW2 ▸ z2.far (by omega) 0 none _
  have e : w2.heap[b]? = some (.cells #[.slice A2 n (c - 1), .bool s] 105 (0, 0)) := by
    rw [← hW2]
    simp [World.setCell, Array.getElem?_modify, b1.block b (by omega), H1.out]
  have B2 : But b w w2 := hW2 ▸ ((But.of B0).on (b1.mono B0.size)).setCell 0 _
  rw [hW2]
  have y2 : BoxH (w2.setRow w.heap.size (ints .u8 (nums x))) w.heap.size x := q2.setRow
  have b3 : Below w.heap.size w2 (w2.setRow w.heap.size (ints .u8 (nums x))) := below_setRow (Below.refl _ _) (Nat.le_refl _) _
  refine bodyPost_ret (v := hashV x) (results_hash rfl _ w.heap.size _ rfl y2 HX.out) rfl ⟨rfl, ⟨hm, A2, c - 1, ?_, by show p.length ≤ _; rw [HN.out]; omega, ?_, AP.out⟩, B2.on b3⟩
  · show _ = some (Obj.cells #[.slice A2 p.length (c - 1), .bool s] 105 (0, 0))
    rw [HN.out, setRow_other _ _ _ _ hb]; exact e
  · exact HQ.out.but (fun hl a e => by have := AP.out hl a e; omega) (B2.on b3)
end
section
open Go.RowKit
theorem zeroH_length : zeroH.length = 32 := rfl
theorem nextM_ok {r : Rd} (h : H32 r.1) : (nextM r).1.length = 32 ∧ H32 (nextM r).2.1 ∧ (nextM r).2.1.length ≤ r.1.length := by
  obtain ⟨p, s⟩ := r
  cases p with
  | nil => exact ⟨rfl, H32.nil, Nat.le_refl _⟩
  | cons x p => exact ⟨h x (by simp), fun y hy => h y (List.mem_cons_of_mem _ hy), by simp [nextM]⟩
theorem rebuildM_ok (m : Nat) : ∀ (n : Nat) (i : Int) (known : List Bs) (r : Rd), n ≤ m → H32 known → H32 r.1 → (rebuildM sha n i known r).1.length = 32 ∧ H32 (rebuildM sha n i known r).2.1 ∧ (rebuildM sha n i known r).2.1.length ≤ r.1.length := by
  induction m with
  | zero =>
    intro n i known r hn hk hr
    obtain rfl : n = 0 := by omega
    by_cases c1 : i + known.length ≤ 0 ∨ ((0 : Nat) : Int) ≤ i
    · rw [rebuildM_out sha c1]; exact nextM_ok hr
    · rw [rebuildM_in sha c1 (by omega)]
      exact ⟨topM_length sha sha_length ((hk.drop _).take _), hr, Nat.le_refl _⟩
  | succ m ih =>
    intro n i known r hn hk hr
    by_cases c1 : i + known.length ≤ 0 ∨ (n : Int) ≤ i
    · rw [rebuildM_out sha c1]; exact nextM_ok hr
    · by_cases c2 : i ≤ 0 ∧ (n : Int) ≤ i + known.length
      · rw [rebuildM_in sha c1 c2]
        exact ⟨topM_length sha sha_length ((hk.drop _).take _), hr, Nat.le_refl _⟩
      · have hh := half_range (n := n) (by omega)
        rw [rebuildM_two sha c1 c2]
        obtain ⟨a1, a2, a3⟩ := ih (half n) i known r (by omega) hk hr
        obtain ⟨b1, b2, b3⟩ := ih (n - half n) (i - (half n : Nat)) known _ (by omega) hk a2
        exact ⟨sha_length _, b2, Nat.le_trans b3 a3⟩
theorem next_any {r : Rd} {m b : Nat} {w : World} (h : BoxRd w m b r) (hp : r.1.length ≤ 1000000) : Calls Tryd.prog 92 #[.pointer (some ⟨b, 0, none⟩)] w fun e w' => e = .returned (hashV (nextM r).1) ∧ BoxRd w' m b (nextM r).2 ∧ But b w w' := by
  obtain ⟨p, s⟩ := r
  cases p with
  | nil => exact next_nil s b w m h
  | cons x p => exact next_cons x p s b w m h (by simp at hp; omega)
theorem BoxRd.h32 {w : World} {m b : Nat} {r : Rd} (h : BoxRd w m b r) : H32 r.1 := by obtain ⟨_, A, c, _, _, h, _⟩ := h; exact h.1
/-- The path is used up, and it was not too short. -/
def doneM (r : Rd) : Bool := !r.2 && r.1.isEmpty
set_option maxRecDepth 100000 in
set_option maxHeartbeats 1000000 in
theorem done_any {r : Rd} {m b : Nat} {w : World} (h : BoxRd w m b r) : Calls Tryd.prog 66 #[.pointer (some ⟨b, 0, none⟩)] w fun e w' => e = .returned (.bool (doneM r)) ∧ w = w' := by
  obtain ⟨p, s⟩ := r
  obtain ⟨_, A, c, h1, h2, h3, _⟩ := h
  have c1 : w.cell? ⟨b, 1, none⟩ = some (.bool s) := (cell_of_row w b 1 _ _ _ h1).trans rfl
  cases s with
  | true =>
    clear h1 h2 h3
    show Calls _ _ _ _ fun e w' => e = .returned (.bool false) ∧ w = w'
    go_enter Tryd.func66, Tryd.ntmps66
    go_wp2_with (fail)
    go_ret
    exact ⟨rfl, rfl⟩
  | false =>
    cases p with
    | nil =>
      have c0 : w.cell? ⟨b, 0, none⟩ = some (.slice A 0 c) := (cell_of_row w b 0 _ _ _ h1).trans rfl
      clear h1 h2 h3
      show Calls _ _ _ _ fun e w' => e = .returned (.bool true) ∧ w = w'
      go_enter Tryd.func66, Tryd.ntmps66
      go_wp2_with (fail)
      go_ret
      exact ⟨rfl, rfl⟩
    | cons x p =>
      obtain ⟨n, hn⟩ : ∃ n, p.length = n := ⟨_, rfl⟩
      have c0 : w.cell? ⟨b, 0, none⟩ = some (.slice A (n + 1) c) := (cell_of_row w b 0 _ _ _ h1).trans (by simp [hn])
      have ne0 : ((n : Int) + 1 == 0) = false := by simp; omega
      clear h1 h2 h3 hn
      show Calls _ _ _ _ fun e w' => e = .returned (.bool false) ∧ w = w'
      go_enter Tryd.func66, Tryd.ntmps66
      go_wp2_with (fail)
      go_ret
      exact ⟨rfl, rfl⟩
set_option maxRecDepth 100000 in
set_option maxHeartbeats 1000000 in
theorem reb_out (n : Nat) (i : Int) (known : List Bs) (K : Option Addr) (kn kc : Nat) (r : Rd) (m b : Nat) (w : World) (h1 : 1 ≤ n) (h2 : n ≤ 5000) (hkn : known.length = kn) (h3 : kn ≤ 5000) (i0 : -20000 ≤ i) (i1 : i ≤ 10000) (hr : r.1.length ≤ 1000000)
    (hb : BoxRd w m b r) (c : i + kn ≤ 0 ∨ (n : Int) ≤ i) : Calls Tryd.prog 63 #[.pointer (some ⟨b, 0, none⟩), .int .i64 n, .int .i64 i, .slice K kn kc] w fun e w' =>
      e = .returned (hashV (rebuildM sha n i known r).1) ∧ BoxRd w' m b (rebuildM sha n i known r).2 ∧ But b w w' := by
  rw [rebuildM_out sha (by rw [hkn]; exact c)]
  have hl := (nextM_ok hb.h32).1
  have HN := Lib.hid (next_any (hb.next (Below.new1 w (.cells (ints .u8 (List.replicate 32 0)) 30))) hr)
  generalize (nextM r).1 = x at *
  generalize (nextM r).2 = r' at *
  have HL := Lib.hid hl
  have HB := Lib.hid hb
  have LB := hb.lt
  clear hl hb hkn hr
  rcases c with c | c
  · go_enter Tryd.func63, Tryd.ntmps63
    go_wp2_with (first
      | (go_at_call 92; refine HN.out.mono ?_; rintro e w1 ⟨rfl, q1, q2⟩)
      | (refine wpList_storeH rfl (.tmp 8) (.tmp 25) rfl w.heap.size x rfl rfl ((BoxA.new w _ _ (List.replicate 32 0) _ rfl).but (by omega) q2) rfl HL.out ?_))
    exact bodyPost_ret (v := hashV x) (results_hash rfl _ w.heap.size _ rfl (((BoxA.new w 30 .u8 (List.replicate 32 0) _ rfl).but (by omega) q2).setRow) HL.out) rfl ⟨rfl, q1.farRow LB _, ((But.of (Below.new1 w _)).trans q2).on (below_setRow (Below.refl _ _) (Nat.le_refl _) _)⟩
  · by_cases c' : i + kn ≤ 0
    all_goals
      go_enter Tryd.func63, Tryd.ntmps63
      go_wp2_with (first
        | (go_at_call 92; refine HN.out.mono ?_; rintro e w1 ⟨rfl, q1, q2⟩)
        | (refine wpList_storeH rfl (.tmp 8) (.tmp 25) rfl w.heap.size x rfl rfl ((BoxA.new w _ _ (List.replicate 32 0) _ rfl).but (by omega) q2) rfl HL.out ?_))
      exact bodyPost_ret (v := hashV x) (results_hash rfl _ w.heap.size _ rfl (((BoxA.new w 30 .u8 (List.replicate 32 0) _ rfl).but (by omega) q2).setRow) HL.out) rfl ⟨rfl, q1.farRow LB _, ((But.of (Below.new1 w _)).trans q2).on (below_setRow (Below.refl _ _) (Nat.le_refl _) _)⟩
set_option maxRecDepth 100000 in
set_option maxHeartbeats 1000000 in
theorem reb_in (n : Nat) (i : Int) (known : List Bs) (K : Option Addr) (kn kc : Nat) (r : Rd) (m b : Nat) (w : World) (h1 : 1 ≤ n) (h2 : n ≤ 5000) (hkn : known.length = kn) (hkc : kn ≤ kc) (h3 : kn ≤ 5000) (i0 : -20000 ≤ i) (i1 : i ≤ 10000)
    (hs : Hs w K known) (hk : Kon w) (hb : BoxRd w m b r) (c : ¬ (i + kn ≤ 0 ∨ (n : Int) ≤ i)) (c2 : i ≤ 0 ∧ (n : Int) ≤ i + kn) : Calls Tryd.prog 63 #[.pointer (some ⟨b, 0, none⟩), .int .i64 n, .int .i64 i, .slice K kn kc] w fun e w' =>
      e = .returned (hashV (rebuildM sha n i known r).1) ∧ BoxRd w' m b (rebuildM sha n i known r).2 ∧ But b w w' := by
  rw [rebuildM_in sha (by rw [hkn]; exact c) (by rw [hkn]; exact c2)]
  obtain ⟨j, hj⟩ : ∃ j : Nat, j = (-i).toNat := ⟨_, rfl⟩
  rw [← hj]
  have hj1 : (j : Int) = -i := by omega
  have sl := fun W => hs_mid K kn kc j (j + n) (-i) ((n : Int) - i) (by omega) (by omega) (by omega) (by omega) W
  have cut := (hs.next (Below.new1 w (.cells (ints .u8 (List.replicate 32 0)) 30))).cut (c := kc) (by omega) j (j + n) (by omega) (by omega)
  have cut' : Hs (w.alloc (.cells (ints .u8 (List.replicate 32 0)) 30)) (cutA K kc j) ((known.drop j).take (j + n - j)) := cut
  rw [show j + n - j = n from by omega] at sl cut'
  have HT := Lib.hid (top_any ((known.drop j).take n) (cutA K kc j) n (kc - j) _ (by rw [List.length_take, List.length_drop]; omega) (by omega) (by omega) cut' (hk.next (Below.new1 w _)))
  have hl : (topM sha ((known.drop j).take n)).length = 32 := topM_length sha sha_length ((hs.1.drop _).take _)
  generalize cutA K kc j = K2 at *
  generalize topM sha ((known.drop j).take n) = x at *
  have HL := Lib.hid hl
  have HB := Lib.hid hb
  have LB := hb.lt
  obtain ⟨c3, c4⟩ := c2
  have c5 : ¬ (i + (kn : Int) ≤ 0) := fun h => c (.inl h)
  have c6 : ¬ ((n : Int) ≤ i) := fun h => c (.inr h)
  clear hl hb hkn c cut cut' hj hj1 hs
  go_enter Tryd.func63, Tryd.ntmps63
  go_wp2_with (first
    | (go_at_call 69; refine HT.out.mono ?_; rintro e w1 ⟨rfl, b1⟩)
    | (refine wpList_storeH rfl (.tmp 8) (.tmp 41) rfl w.heap.size x rfl rfl ((BoxA.new w _ _ (List.replicate 32 0) _ rfl).next b1) rfl HL.out ?_))
  exact bodyPost_ret (v := hashV x) (results_hash rfl _ w.heap.size _ rfl (((BoxA.new w 30 .u8 (List.replicate 32 0) _ rfl).next b1).setRow) HL.out) rfl ⟨rfl, ((HB.out.next (Below.new1 w _)).next b1).farRow LB _, But.of (below_setRow (Below.on (Below.new1 w _) b1) (Nat.le_refl _) _)⟩
theorem BoxH.range {W : World} {b : Nat} {h : Bs} (H : BoxH W b h) : W.rangeAt b 0 (cellsB h) := fun j v hv => by
  have hj : j < h.length := by have := (List.getElem?_eq_some_iff.1 hv).1; rwa [cellsB_length] at this
  rw [Nat.zero_add, H.cellB j hj, ← hv, cellsB_get hj]
/-- What rebuild does with trees of at most q leaves. -/
def RebOk (q : Nat) : Prop := ∀ (n : Nat) (i : Int) (known : List Bs) (K : Option Addr) (kn kc : Nat) (r : Rd) (m b : Nat) (w : World), n ≤ q → 1 ≤ n → n ≤ 5000 → known.length = kn → kn ≤ kc → kn ≤ 5000 → -10000 ≤ i + n → i ≤ 5000 → r.1.length ≤ 1000000 →
  Hs w K known → Kon w → BoxRd w m b r → Calls Tryd.prog 63 #[.pointer (some ⟨b, 0, none⟩), .int .i64 n, .int .i64 i, .slice K kn kc] w fun e w' =>
      e = .returned (hashV (rebuildM sha n i known r).1) ∧ BoxRd w' m b (rebuildM sha n i known r).2 ∧ But b w w'
set_option maxRecDepth 100000 in
set_option maxHeartbeats 2000000 in
theorem reb_two (q : Nat) (ih : RebOk q) (n : Nat) (i : Int) (known : List Bs) (K : Option Addr) (kn kc : Nat) (r : Rd) (m b : Nat) (w : World) (hq : n ≤ q + 1) (h1 : 1 ≤ n) (h2 : n ≤ 5000) (hkn : known.length = kn) (hkc : kn ≤ kc) (h3 : kn ≤ 5000) (i0 : -10000 ≤ i + n) (i1 : i ≤ 5000) (hr : r.1.length ≤ 1000000)
    (hs : Hs w K known) (hk : Kon w) (hb : BoxRd w m b r) (c : ¬ (i + kn ≤ 0 ∨ (n : Int) ≤ i)) (c2 : ¬ (i ≤ 0 ∧ (n : Int) ≤ i + kn)) : Calls Tryd.prog 63 #[.pointer (some ⟨b, 0, none⟩), .int .i64 n, .int .i64 i, .slice K kn kc] w fun e w' =>
      e = .returned (hashV (rebuildM sha n i known r).1) ∧ BoxRd w' m b (rebuildM sha n i known r).2 ∧ But b w w' := by
  have n2 : 2 ≤ n := by omega
  have hh := half_range n2
  rw [rebuildM_two sha (by rw [hkn]; exact c) (by rw [hkn]; exact c2)]
  have hf := fun W => half_any n W n2 (by omega)
  have o1 := rebuildM_ok (half n) (half n) i known r (Nat.le_refl _) hs.1 hb.h32
  have p1 := fun (W : World) (hs : Hs W K known) (hk : Kon W) (hb : BoxRd W m b r) => ih (half n) i known K kn kc r m b W (by omega) (by omega) (by omega) hkn hkc h3 (by omega) (by omega) hr hs hk hb
  generalize rebuildM sha (half n) i known r = R1 at *
  obtain ⟨x1, r1⟩ := R1
  simp only at o1 p1 ⊢
  have o2 := rebuildM_ok (n - half n) (n - half n) (i - (half n : Nat)) known r1 (Nat.le_refl _) hs.1 o1.2.1
  have p2 := fun (W : World) (hs : Hs W K known) (hk : Kon W) (hb : BoxRd W m b r1) => ih (n - half n) (i - (half n : Nat)) known K kn kc r1 m b W (by omega) (by omega) (by omega) hkn hkc h3 (by omega) (by omega) (Nat.le_trans o1.2.2 hr) hs hk hb
  generalize rebuildM sha (n - half n) (i - (half n : Nat)) known r1 = R2 at *
  obtain ⟨x2, r2⟩ := R2
  simp only at o2 p2 ⊢
  have hj := fun (W : World) (hk : Kon W) => hjoin_any x1 x2 W o1.1 o2.1 hk
  have hl : (joinM sha x1 x2).length = 32 := sha_length _
  generalize joinM sha x1 x2 = x at *
  generalize half n = k at *
  obtain ⟨n', hn'⟩ : ∃ n', n - k = n' := ⟨_, rfl⟩
  rw [hn'] at p2
  have m1 : IntKind.i64.wrap ((n : Int) - k) = n' := by rw [IntWalk.i64_in _ (by omega)]; omega
  have m2 : IntKind.i64.wrap (i - (k : Int)) = i - k := IntWalk.i64_in _ (by omega)
  have szA : Tryd.prog.underlying 30 = some (.array 32 5) := by kernel_rfl
  have sz1 := cellsB_size o1.1
  have HF := Lib.hid hf
  have P1 := Lib.hid p1
  have P2 := Lib.hid p2
  have HJ := Lib.hid hj
  have HL := Lib.hid hl
  have L1 := Lib.hid o1.1
  have HB := Lib.hid hb
  have HK := Lib.hid hk
  have HS := Lib.hid hs
  have LB := hb.lt
  have AP := Lib.hid (hb.apart hs)
  have B0' := hb.ne0 hk
  have M1 := Lib.hid m1
  have M2 := Lib.hid m2
  have SZA := Lib.hid szA
  have SZ1 := Lib.hid sz1
  have c5 : ¬ (i + (kn : Int) ≤ 0) := fun h => c (.inl h)
  have c6 : ¬ ((n : Int) ≤ i) := fun h => c (.inr h)
  have ci : 0 < i ∨ (i ≤ 0 ∧ ¬ ((n : Int) ≤ i + kn)) := by omega
  clear hf p1 p2 hj hl o1 o2 hb hk hs m1 m2 szA sz1 ih hkn hr c c2 hn' hq
  rcases ci with ci | ⟨ci, cj⟩
  all_goals
    go_enter Tryd.func63, Tryd.ntmps63
    go_upto_region 7 with (go_at_call 93; refine (HF.out _).mono ?_; rintro e w' ⟨rfl, rfl⟩)
    obtain ⟨w0, hW0⟩ : ∃ w0, World.alloc w (.cells (ints .u8 (List.replicate 32 0)) 30) = w0 := ⟨_, rfl⟩
    have B0 : Below w.heap.size w w0 := hW0 ▸ Below.new1 _ _
    have x8 : BoxA w0 w.heap.size 30 .u8 (List.replicate 32 0) := hW0 ▸ BoxA.new w _ _ (List.replicate 32 0) _ rfl
    change Code.wp _ _ _ _ (World.alloc w (.cells (ints .u8 (List.replicate 32 0)) 30))
    rw [hW0]
    clear hW0
    go_upto_region 8 with (first
      | (go_at_call 63; refine (P1.out _ (HS.out.next B0) (HK.out.next B0) (HB.out.next B0)).mono ?_; rintro e w1 ⟨rfl, q1, q2⟩)
      | (refine wpList_storeH rfl (.tmp 11) (.tmp 48) rfl w1.heap.size x1 rfl rfl (BoxA.new w1 _ _ (List.replicate 32 0) _ rfl) rfl L1.out ?_))
    obtain ⟨g, hg⟩ : ∃ g, w1.heap.size = g := ⟨_, rfl⟩
    obtain ⟨w2, hW2⟩ : ∃ w2, World.setRow (World.alloc w1 (Obj.cells (ints .u8 (List.replicate 32 0)) 30)) w1.heap.size (ints .u8 (nums x1)) = w2 := ⟨_, rfl⟩
    have b2 : Below w1.heap.size w1 w2 := hW2 ▸ below_setRow (Below.new1 w1 _) (Nat.le_refl _) _
    have z2 : BoxH w2 g x1 := hg ▸ hW2 ▸ (BoxA.new w1 _ _ (List.replicate 32 0) _ rfl).setRow
    have y2 := (x8.but (by omega) q2).next b2
    have hs2 := (((HS.out.next B0).but AP.out q2).next b2).drew
    have hk2 := (((HK.out.next B0).but B0' q2).next b2).drew
    have hb2 := (q1.next b2).next (Below.drawn w2 1 _)
    have B2 : But b w w2 := ((But.of B0).trans q2).trans (But.of b2)
    have sg : w.heap.size < g := by have := q2.size; have := x8.lt; omega
    change Code.wp _ _ _ _ (World.setRow (World.alloc w1 (Obj.cells (ints .u8 (List.replicate 32 0)) 30)) w1.heap.size (ints .u8 (nums x1)))
    rw [hW2, hg]
    have HS2 := Lib.hid hs2
    have HK2 := Lib.hid hk2
    have HB2 := Lib.hid hb2
    have m1 := M1.out
    have m2 := M2.out
    have szA := SZA.out
    have sz1 := SZ1.out
    clear hW2 b2 q1 q2 x8 B0 hg hs2 hk2 hb2
    go_region_held3 (fun W => W.rangeAt g 0 (cellsB x1)) (first | exact BoxH.range z2 | exact BoxH.range z3 | exact BoxH.range z4 | exact BoxH.range (BoxA.farCells (by omega) _ _ z4))
      ((first
        | (go_at_call 63; refine (P2.out _ (by exact HS2.out) (by exact HK2.out) (by exact HB2.out)).mono ?_; rintro e w3 ⟨rfl, q3, q4⟩; have z3 := (BoxA.next z2 (Below.drawn w2 1 _)).but (by omega) q4)
        | (go_at_call 94; refine (HJ.out _ (by exact HK2.out.but B0' q4)).mono ?_; rintro e w4 ⟨rfl, b4⟩; have z4 := BoxA.next z3 b4; have szt := cellsB_size HL.out; have ont := cellsB_one x; have tht := (((y2.next (Below.drawn w2 1 _)).but (by omega) q4).next b4).there (n := (cellsB x).length) (by rw [cellsB_length]; exact HL.out))))
    have B3 := (((B2.trans (But.of (Below.drawn w2 1 _))).trans q4).trans (But.of b4))
    have y5 := ((y2.next (Below.drawn w2 1 _)).but (by omega) q4).next b4
    have y6 := BoxH.stored y5 rfl x HL.out
    have r6 := (q3.next b4).but (g := w.heap.size) (by omega) (by have := HB.out.le; omega) (But.cells w.heap.size (cellsB x) 0 w4)
    have B4 : But b w (w4.setCells w.heap.size 0 (cellsB x)) := B3.on (below_cells (Nat.le_refl _) (cellsB x) 0 (Below.refl _ _))
    generalize World.setCells w4 w.heap.size 0 (cellsB x) = w5 at *
    go_wp2_with (fail)
    exact bodyPost_ret (v := hashV x) (results_hash rfl _ w.heap.size _ rfl y6 HL.out) rfl ⟨rfl, r6, B4⟩
theorem reb_le (q : Nat) : RebOk q := by
  induction q with
  | zero => intro n _ _ _ _ _ _ _ _ _ h h'; omega
  | succ q ih =>
    intro n i known K kn kc r m b w hq h1 h2 hkn hkc h3 i0 i1 hr hs hk hb
    by_cases c : i + kn ≤ 0 ∨ (n : Int) ≤ i
    · exact reb_out n i known K kn kc r m b w h1 h2 hkn h3 (by omega) (by omega) hr hb c
    · by_cases c2 : i ≤ 0 ∧ (n : Int) ≤ i + kn
      · exact reb_in n i known K kn kc r m b w h1 h2 hkn hkc h3 (by omega) (by omega) hs hk hb c c2
      · exact reb_two q ih n i known K kn kc r m b w hq h1 h2 hkn hkc h3 i0 i1 hr hs hk hb c c2
theorem rebuild_any (n : Nat) (i : Int) (known : List Bs) (K : Option Addr) (kn kc : Nat) (r : Rd) (m b : Nat) (w : World) (h1 : 1 ≤ n) (h2 : n ≤ 5000) (hkn : known.length = kn) (hkc : kn ≤ kc) (h3 : kn ≤ 5000) (i0 : -5000 ≤ i) (i1 : i ≤ 5000) (hr : r.1.length ≤ 1000000)
    (hs : Hs w K known) (hk : Kon w) (hb : BoxRd w m b r) : Calls Tryd.prog 63 #[.pointer (some ⟨b, 0, none⟩), .int .i64 n, .int .i64 i, .slice K kn kc] w fun e w' =>
      e = .returned (hashV (rebuildM sha n i known r).1) ∧ BoxRd w' m b (rebuildM sha n i known r).2 ∧ But b w w' :=
  reb_le n n i known K kn kc r m b w (Nat.le_refl _) h1 h2 hkn hkc h3 (by omega) i1 hr hs hk hb
end
section
open Go Go.RowKit
section
variable {P : Program} {Q : Exit → Act → World → Prop}
theorem AllSteps.take {ops : Array Oper} {I : (Nat → Prop) → Act → World → Prop} : ∀ {l : List Oper} {n k : Nat}, AllSteps P Q ops I k (l.take n) → ∀ {i : Nat} {o : Oper}, i < n → l[i]? = some o → StepOk P Q ops I (k + i) o := by
  intro l n k h i o hi ho
  exact h.get (by rw [List.getElem?_take, if_pos hi]; exact ho)
/-- A region that draws its order, the last operation apart. -/
theorem wp_region_lastly {id : Nat} {ops : List Oper} {a : Act} {w : World} (n : Nat) (ol : Oper) (I : (Nat → Prop) → Act → World → Prop) (hm : P.follows .mixedOrders = true) (hd : onward ops.toArray = true)
    (hn : ops.length = n + 1) (hol : ops[n]? = some ol) (hall : (List.range n).all (fun j => waits ol j) = true) (hog : ol.guard = none)
    (h0 : I (fun _ => False) a w.drew) (hs : AllSteps P Q ops.toArray I 0 (ops.take n)) (hl : ∀ (d : Nat → Prop) (a : Act) (w : World), I d a w → (∀ j, j < n → d j) → ol.wp P a w (fun a' w' => Q .normal a' w') Q) :
    (Code.region id ops.toArray true).wp P Q a w := by
  refine wp_region_inv (I := fun d a w => (d n → Q .normal a w) ∧ (¬ d n → I d a w)) hm hd ⟨fun h => h.elim, fun _ => h0⟩ (fun d d' a w i o ho ⟨hI1, hI2⟩ hni hcl ha hk hu hself => ?_) (fun d a w ⟨h1, _⟩ h => h1 (h n (by simp [hn])))
  have ho' : ops[i]? = some o := by simpa using ho
  have hin : i < n + 1 := by rw [← hn]; exact (List.getElem?_eq_some_iff.1 ho').1
  by_cases e : i = n
  · subst e
    rw [hol] at ho'
    obtain rfl := Option.some.inj ho'
    have hdn := hI2 hni
    unfold wpOp
    rw [ho]
    have hwt : Region.wanted ol (yielded ops.toArray a.tmps) = true := by unfold Region.wanted; rw [hog]
    simp only [hwt, if_true]
    refine .inl (Oper.wp_mono (fun a' w' h => ⟨fun _ => h, fun h' => (h' hself).elim⟩) (hl d a w hdn fun j hj => ha j ?_))
    rw [List.all_eq_true] at hall
    exact hall j (List.mem_range.2 hj)
  · have hnn : ¬ d n := fun h => hni (hcl n ol i (by simpa using hol) (by rw [List.all_eq_true] at hall; exact hall i (List.mem_range.2 (by omega))) h)
    obtain ⟨hg, st⟩ := hs.take (i := i) (by omega) ho'
    rw [Nat.zero_add] at st
    unfold wpOp
    rw [ho]
    have hwt : Region.wanted o (yielded ops.toArray a.tmps) = true := by unfold Region.wanted; rw [hg]
    simp only [hwt, if_true]
    refine .inl (Oper.wp_mono (fun a' w' h => ⟨fun h' => (hnn (hk n (fun q => e q.symm) h')).elim, fun _ => h⟩) (st d d' a w (hI2 hnn) hni hcl ha hk hu hself))
end
section
variable {P : Program} {ev : Operand → Value} {o : Oper} {W : World}
theorem exec_load {ty : TypeId} {x : Operand} {v : Value} (ho : o.op = .load ty x) (h : (Instr.loadAt ty (ev x)).run P W = .ok v W) : (execOp ev o).run P W = .ok (.value v) W := by
  simp [execOp, ho, h, Result.andThen]
end
section
variable {P : Program} {Q : Exit → Act → World → Prop}
/-- A step of a guarded operation. -/
def StepG (P : Program) (Q : Exit → Act → World → Prop) (ops : Array Oper) (I : (Nat → Prop) → Act → World → Prop) (k : Nat) (o : Oper) : Prop :=
  ∀ (d d' : Nat → Prop) (a : Act) (w : World), I d a w → ¬ d k → Closed ops d → (∀ j, waits o j = true → d j) → (∀ j, j ≠ k → d' j → d j) → (∀ j, d j → d' j) → d' k →
    if Region.wanted o (yielded ops a.tmps) = true then o.wp P a w (fun a' w' => I d' a' w') Q else I d' (a.put o.dst undef) w
def AllG (P : Program) (Q : Exit → Act → World → Prop) (ops : Array Oper) (I : (Nat → Prop) → Act → World → Prop) : Nat → List Oper → Prop
  | _, [] => True
  | k, o :: l => StepG P Q ops I k o ∧ AllG P Q ops I (k + 1) l
theorem AllG.get {ops : Array Oper} {I : (Nat → Prop) → Act → World → Prop} : ∀ {l : List Oper} {k : Nat}, AllG P Q ops I k l → ∀ {i : Nat} {o : Oper}, l[i]? = some o → StepG P Q ops I (k + i) o := by
  intro l
  induction l with
  | nil => intro k _ i o h; simp at h
  | cons x l ih =>
    intro k h i o ho
    cases i with
    | zero => simp at ho; subst ho; exact h.1
    | succ i =>
      have := ih h.2 (i := i) (o := o) (by simpa using ho)
      rwa [show k + 1 + i = k + (i + 1) from by omega] at this
variable {ops : Array Oper} {I : (Nat → Prop) → Act → World → Prop} {k : Nat} {o : Oper}
theorem StepG.of (h : StepOk P Q ops I k o) : StepG P Q ops I k o := fun d d' a w h1 h2 h3 h4 h5 h6 h7 => by
  have hwt : Region.wanted o (yielded ops a.tmps) = true := by unfold Region.wanted; rw [h.1]
  rw [if_pos hwt]
  exact h.2 d d' a w h1 h2 h3 h4 h5 h6 h7
theorem StepG.on {j : Nat} {b : Bool} (hg : o.guard = some (j, b)) (hy : ∀ d a w, I d a w → (∀ j, waits o j = true → d j) → yielded ops a.tmps j = some b) (h : StepOk P Q ops I k { o with guard := none }) : StepG P Q ops I k o := fun d d' a w h1 h2 h3 h4 h5 h6 h7 => by
  have hwt : Region.wanted o (yielded ops a.tmps) = true := by unfold Region.wanted; rw [hg]; simp [hy d a w h1 h4]
  rw [if_pos hwt]
  exact h.2 d d' a w h1 h2 h3 h4 h5 h6 h7
theorem StepG.off {j : Nat} {b : Bool} (hg : o.guard = some (j, b)) (hy : ∀ d a w, I d a w → (∀ j, waits o j = true → d j) → yielded ops a.tmps j = some (!b))
    (h : ∀ (d d' : Nat → Prop) (a : Act) (w : World), I d a w → ¬ d k → Closed ops d → (∀ j, waits o j = true → d j) → (∀ j, j ≠ k → d' j → d j) → (∀ j, d j → d' j) → d' k → I d' (a.put o.dst undef) w) : StepG P Q ops I k o := fun d d' a w h1 h2 h3 h4 h5 h6 h7 => by
  have hwt : ¬ Region.wanted o (yielded ops a.tmps) = true := by unfold Region.wanted; rw [hg]; simp [hy d a w h1 h4]
  rw [if_neg hwt]
  exact h d d' a w h1 h2 h3 h4 h5 h6 h7
theorem wp_region_guards {id : Nat} {ops : List Oper} {a : Act} {w : World} (I : (Nat → Prop) → Act → World → Prop) (hm : P.follows .mixedOrders = true) (hd : onward ops.toArray = true)
    (h0 : I (fun _ => False) a w.drew) (hs : AllG P Q ops.toArray I 0 ops) (fin : ∀ (d : Nat → Prop) (a : Act) (w : World), I d a w → (∀ i, i < ops.length → d i) → Q .normal a w) :
    (Code.region id ops.toArray true).wp P Q a w := by
  refine wp_region_inv hm hd h0 (fun d d' a w i o ho hI hn hcl ha hk hu hself => ?_) (fun d a w hI h => fin d a w hI (by simpa using h))
  have st := hs.get (i := i) (o := o) (by simpa using ho)
  rw [Nat.zero_add] at st
  have := st d d' a w hI hn hcl ha hk hu hself
  unfold wpOp
  rw [ho]
  simp only
  by_cases hw : Region.wanted o (yielded ops.toArray a.tmps) = true
  · rw [if_pos hw] at this ⊢; exact .inl this
  · rw [if_neg hw] at this ⊢; exact this
theorem yielded_of {ops : Array Oper} {a : Act} {j t : Nat} {b : Bool} (hj : (ops[j]?).bind (·.dst) = some t) (h : a.eval (.tmp t) = .bool b) : yielded ops a.tmps j = some b := by
  unfold yielded
  rw [hj]
  simp only [Option.bind_some]
  have : a.tmps.getD t undef = .bool b := h
  cases e : a.tmps[t]? with
  | none => simp [Array.getD_eq_getD_getElem?, e, undef] at this
  | some v => simp [Array.getD_eq_getD_getElem?, e] at this; subst this; rfl
variable {T : List Tmp} {a0 : Act} {G : (Nat → Prop) → World → Prop} {l : List Cl}
/-- An operation that is left out. -/
theorem step_off {ops : Array Oper} {k : Nat} {o : Oper} {t : Tmp} {c : Cl} {j : Nat} {b : Bool} (hg : o.guard = some (j, b)) (hd : o.dst = some t) (hT : t ∈ T) (hz : t < a0.tmps.size) (hc : l.filter (fun c => c.op == some k) = [c]) (hct : c.slot = t)
    (hso : slotsOk ops l k t = true) (hp : ∀ W, c.p undef W) (SG : ∀ d d' W W', G d W → (∀ j, d j → d' j) → Below W.heap.size W W' → G d' W')
    (hy : ∀ d a w, Inv T a0 G l d a w → (∀ j, waits o j = true → d j) → yielded ops a.tmps j = some (!b)) : StepG P Q ops (Inv T a0 G l) k o :=
  StepG.off hg hy fun d d' a W ⟨hF, hG, hH⟩ hn hcl hw hk hu hself => by
    rw [hd]
    exact ⟨hF.put hT undef, SG _ _ _ _ hG hu (Below.refl _ _), hH.put hc hct hso hcl hn hk hu hself (by rw [hF.size]; exact hz) (fun x hx _ _ _ u q => q) (hp W)⟩
end
theorem wp_storeH {o : Oper} {a : Act} {w : World} {K : Act → World → Prop} {Q : Exit → Act → World → Prop} (x y : Operand) (ho : o.op = .store 30 x y) (g : Nat) (h : Bs) (hx : a.eval x = .pointer (some ⟨g, 0, none⟩)) (hy : a.eval y = hashV h)
    {l : List Int} (hg : BoxA w g 30 .u8 l) (hl : l.length = 32) (hh : h.length = 32) (H : K (a.put o.dst undef) (w.setRow g (ints .u8 (nums h)))) : o.wp Tryd.prog a w K Q :=
  wp_store_row 30 x y ho g (ints .u8 (nums h)) hx (by rw [hy, hashV_eq]) 30 _ hg (by rw [ints_size, nums_length, hh]; exact szHash) (by rw [ints_size, ints_size, nums_length, hl, hh]) (ints_one _ _) H
theorem lastsV0 (op used : Option Nat) (t : Tmp) (x : Value) : Lasts ⟨op, t, used, fun v _ => v = x⟩ := fun _ _ _ h _ => h
/-- A slice of one cell of a block of its own. -/
def One (x : Value) (v : Value) (W : World) : Prop := ∃ g c, v = .slice (some ⟨g, 0, none⟩) 1 c ∧ W.cell? ⟨g, 0, none⟩ = some x
theorem lastsOne (op used : Option Nat) (t : Tmp) (x : Value) : Lasts ⟨op, t, used, One x⟩ := fun _ _ _ ⟨g, c, h1, h2⟩ hB => ⟨g, c, h1, cell_kept hB h2⟩
theorem One.text {n : Int} {v : Value} {W : World} (h : One (.int .u8 n) v W) (h0 : 0 ≤ n) (h1 : n < 256) : (convert 67 9 v).run Tryd.prog W = .ok (.string ⟨[n.toNat.toUInt8].toArray⟩) W := by
  obtain ⟨g, c, rfl, h⟩ := h
  refine bytes_back [n.toNat.toUInt8] W g c _ _ 5 (by kernel_rfl) (by kernel_rfl) (by kernel_rfl) (fun j hj => ?_) 1 rfl
  obtain rfl : j = 0 := by simpa using hj
  rw [h]
  have := byte_of n
  rw [show n % 256 = n from by omega] at this
  simp; omega
end
section
open Go.RowKit
/-- What is hashed for a run. -/
def textM (x : Rn) : Bs := eightM x.lo ++ eightM x.hi ++ [(x.tag % 256).toNat.toUInt8]
theorem textM_length (x : Rn) : (textM x).length = 17 := by simp [textM, eightM_length]
set_option maxRecDepth 100000 in
set_option maxHeartbeats 1000000 in
theorem text_any (x : Rn) (w : World) (h0 : 0 ≤ x.lo) (h1 : x.lo < 9223372036854775808) (h2 : 0 ≤ x.hi) (h3 : x.hi < 9223372036854775808) (h4 : 0 ≤ x.tag) (h5 : x.tag < 256) : Calls Tryd.prog 95 #[encR x] w fun e w' => e = .returned (.string ⟨(textM x).toArray⟩) ∧ Below w.heap.size w w' := by
  obtain ⟨lo, hi, tag⟩ := x
  simp only at h0 h1 h2 h3 h4 h5
  have ht : textM ⟨lo, hi, tag⟩ = eightM lo ++ eightM hi ++ [tag.toNat.toUInt8] := by unfold textM; rw [show tag % 256 = tag from by omega]
  rw [ht]
  unfold encR
  have a0 := fun W => s_add (P := Tryd.prog) (eightM lo) (eightM hi) W (by simp [eightM_length])
  have a1 := fun W => s_add (P := Tryd.prog) (eightM lo ++ eightM hi) [tag.toNat.toUInt8] W (by simp [eightM_length])
  have n1 := fun W => number_any lo W h0 h1
  have n2 := fun W => number_any hi W h2 h3
  generalize eightM lo = sl at *
  generalize eightM hi = sh at *
  have N1 := Lib.hid n1
  have N2 := Lib.hid n2
  have A0 := Lib.hid a0
  have A1 := Lib.hid a1
  clear n1 n2 ht a0 a1
  go_enter Tryd.func95, Tryd.ntmps95
  go_upto_region 1 with (fail)
  obtain ⟨w0, hW0⟩ : ∃ w0, World.alloc w (.cells #[.int .i64 lo, .int .i64 hi, .int .i64 tag] 34) = w0 := ⟨_, rfl⟩
  have B0 : Below w.heap.size w w0 := hW0 ▸ Below.new1 _ _
  have hh : w0.heap[w.heap.size]? = some (.cells #[.int .i64 lo, .int .i64 hi, .int .i64 tag] 34 (0, 0)) := hW0 ▸ heap_alloc_new w _
  change Code.wp _ _ _ _ (World.alloc w (.cells #[.int .i64 lo, .int .i64 hi, .int .i64 tag] 34))
  rw [hW0]
  have c0 : w0.cell? ⟨w.heap.size, 0, none⟩ = some (.int .i64 lo) := (cell_of_row w0 _ 0 _ _ _ hh).trans rfl
  have c1 : w0.cell? ⟨w.heap.size, 1, none⟩ = some (.int .i64 hi) := (cell_of_row w0 _ 1 _ _ _ hh).trans rfl
  have c2 : w0.cell? ⟨w.heap.size, 2, none⟩ = some (.int .i64 tag) := (cell_of_row w0 _ 2 _ _ _ hh).trans rfl
  have l0 : w.heap.size < w0.heap.size := (Array.getElem?_eq_some_iff.1 hh).1
  clear hW0 hh
  refine wp_name fun a0 ha0 => ?_
  have e1 : a0.eval (.tmp 1) = .pointer (some ⟨w.heap.size, 0, none⟩) := by rw [ha0]; rfl
  have hz : a0.tmps.size = 16 := by rw [ha0]; rfl
  have HA0 := Lib.hid ha0
  clear ha0
  have SG : ∀ (d d' : Nat → Prop) (W W' : World), (fun (_ : Nat → Prop) (W : World) => Below w0.heap.size w0 W) d W → (∀ j, d j → d' j) → Below W.heap.size W W' → (fun (_ : Nat → Prop) (W : World) => Below w0.heap.size w0 W) d' W' := fun _ _ _ _ h _ b => Below.next h b
  refine wp_region_steps (Inv [3, 4, 5, 6, 7, 8, 9, 10, 11, 12, 13, 14, 15, 2] a0 (fun (_ : Nat → Prop) (W : World) => Below w0.heap.size w0 W) [(⟨some 0, 3, none, fun v _ => v = .pointer (some ⟨w.heap.size, 0, none⟩)⟩ : Cl), ⟨some 1, 4, none, fun v _ => v = .int .i64 lo⟩, ⟨some 2, 5, none, fun v _ => v = .string ⟨sl.toArray⟩⟩, ⟨some 3, 6, none, fun v _ => v = .pointer (some ⟨w.heap.size, 1, none⟩)⟩, ⟨some 4, 7, none, fun v _ => v = .int .i64 hi⟩, ⟨some 5, 8, none, fun v _ => v = .string ⟨sh.toArray⟩⟩, ⟨some 6, 9, none, fun v _ => v = .string ⟨(sl ++ sh).toArray⟩⟩, ⟨some 7, 10, none, fun v _ => v = .pointer (some ⟨w.heap.size, 2, none⟩)⟩, ⟨some 8, 11, none, fun v _ => v = .int .i64 tag⟩, ⟨some 9, 12, none, fun v _ => v = .int .u8 tag⟩, ⟨some 10, 13, none, One (.int .u8 tag)⟩, ⟨some 11, 14, none, fun v _ => v = .string ⟨[tag.toNat.toUInt8].toArray⟩⟩, ⟨some 12, 15, none, fun v _ => v = .string ⟨(sl ++ sh ++ [tag.toNat.toUInt8]).toArray⟩⟩, ⟨some 13, 2, none, fun v _ => v = .string ⟨(sl ++ sh ++ [tag.toNat.toUInt8]).toArray⟩⟩]) (by kernel_rfl) (by kernel_rfl) (Inv.start (Below.refl _ _).drew ⟨nofun, nofun, nofun, nofun, nofun, nofun, nofun, nofun, nofun, nofun, nofun, nofun, nofun, nofun, trivial⟩) ?_ ?_
  · have St : ∀ xc ∈ [(⟨some 0, 3, none, fun v _ => v = .pointer (some ⟨w.heap.size, 0, none⟩)⟩ : Cl), ⟨some 1, 4, none, fun v _ => v = .int .i64 lo⟩, ⟨some 2, 5, none, fun v _ => v = .string ⟨sl.toArray⟩⟩, ⟨some 3, 6, none, fun v _ => v = .pointer (some ⟨w.heap.size, 1, none⟩)⟩, ⟨some 4, 7, none, fun v _ => v = .int .i64 hi⟩, ⟨some 5, 8, none, fun v _ => v = .string ⟨sh.toArray⟩⟩, ⟨some 6, 9, none, fun v _ => v = .string ⟨(sl ++ sh).toArray⟩⟩, ⟨some 7, 10, none, fun v _ => v = .pointer (some ⟨w.heap.size, 2, none⟩)⟩, ⟨some 8, 11, none, fun v _ => v = .int .i64 tag⟩, ⟨some 9, 12, none, fun v _ => v = .int .u8 tag⟩, ⟨some 10, 13, none, One (.int .u8 tag)⟩, ⟨some 11, 14, none, fun v _ => v = .string ⟨[tag.toNat.toUInt8].toArray⟩⟩, ⟨some 12, 15, none, fun v _ => v = .string ⟨(sl ++ sh ++ [tag.toNat.toUInt8]).toArray⟩⟩, ⟨some 13, 2, none, fun v _ => v = .string ⟨(sl ++ sh ++ [tag.toNat.toUInt8]).toArray⟩⟩], Lasts xc := AllC.mem ⟨lastsV0 _ _ _ _, lastsV0 _ _ _ _, lastsV0 _ _ _ _, lastsV0 _ _ _ _, lastsV0 _ _ _ _, lastsV0 _ _ _ _, lastsV0 _ _ _ _, lastsV0 _ _ _ _, lastsV0 _ _ _ _, lastsV0 _ _ _ _, lastsOne _ _ _ _, lastsV0 _ _ _ _, lastsV0 _ _ _ _, lastsV0 _ _ _ _, trivial⟩
    clear HA0
    refine ⟨?_, ?_, ?_, ?_, ?_, ?_, ?_, ?_, ?_, ?_, ?_, ?_, ?_, ?_, trivial⟩
    · refine stepB rfl rfl (by decide) (by rw [hz]; decide) rfl rfl (by kernel_rfl) St SG fun d a W hF hG hH hn hcl hw => ?_
      have q1 := (hF.same 1 (by decide)).trans e1
      refine ⟨.pointer (some ⟨w.heap.size, 0, none⟩), W, ?_, Below.refl _ _, ?_⟩
      · clear hF hG hH hn hcl hw
        generalize a.eval = ρ at *
        go_simp
      · rfl
    · refine stepB rfl rfl (by decide) (by rw [hz]; decide) rfl rfl (by kernel_rfl) St SG fun d a W hF hG hH hn hcl hw => ?_
      have q3 : a.eval (.tmp 3) = .pointer (some ⟨w.heap.size, 0, none⟩) := hH.at_ (i := 0) rfl (hw 0 rfl) id
      have c := cell_kept hG c0
      clear c0 c1 c2
      refine ⟨.int .i64 lo, W, ?_, Below.refl _ _, ?_⟩
      · clear hF hG hH hn hcl hw
        generalize a.eval = ρ at *
        go_simp
      · rfl
    · refine stepC rfl rfl (by decide) (by rw [hz]; decide) rfl rfl (by kernel_rfl) St SG fun d a W hF hG hH hn hcl hw => ?_
      have q4 : a.eval (.tmp 4) = .int .i64 lo := hH.at_ (i := 1) rfl (hw 1 rfl) id
      have qf : a.eval (.func 58) = .func (.func 58) #[] #[] := rfl
      refine ⟨58, #[.int .i64 lo], ?_, ?_⟩
      · clear hF hG hH hn hcl hw
        generalize a.eval = ρ at *
        go_simp
      · refine (N1.out W).mono ?_; rintro e W' ⟨rfl, b⟩; exact ⟨_, rfl, b, rfl⟩
    · refine stepB rfl rfl (by decide) (by rw [hz]; decide) rfl rfl (by kernel_rfl) St SG fun d a W hF hG hH hn hcl hw => ?_
      have q1 := (hF.same 1 (by decide)).trans e1
      refine ⟨.pointer (some ⟨w.heap.size, 1, none⟩), W, ?_, Below.refl _ _, ?_⟩
      · clear hF hG hH hn hcl hw
        generalize a.eval = ρ at *
        go_simp
      · rfl
    · refine stepB rfl rfl (by decide) (by rw [hz]; decide) rfl rfl (by kernel_rfl) St SG fun d a W hF hG hH hn hcl hw => ?_
      have q6 : a.eval (.tmp 6) = .pointer (some ⟨w.heap.size, 1, none⟩) := hH.at_ (i := 3) rfl (hw 3 rfl) id
      have c := cell_kept hG c1
      clear c0 c1 c2
      refine ⟨.int .i64 hi, W, ?_, Below.refl _ _, ?_⟩
      · clear hF hG hH hn hcl hw
        generalize a.eval = ρ at *
        go_simp
      · rfl
    · refine stepC rfl rfl (by decide) (by rw [hz]; decide) rfl rfl (by kernel_rfl) St SG fun d a W hF hG hH hn hcl hw => ?_
      have q7 : a.eval (.tmp 7) = .int .i64 hi := hH.at_ (i := 4) rfl (hw 4 rfl) id
      have qf : a.eval (.func 58) = .func (.func 58) #[] #[] := rfl
      refine ⟨58, #[.int .i64 hi], ?_, ?_⟩
      · clear hF hG hH hn hcl hw
        generalize a.eval = ρ at *
        go_simp
      · refine (N2.out W).mono ?_; rintro e W' ⟨rfl, b⟩; exact ⟨_, rfl, b, rfl⟩
    · refine stepB rfl rfl (by decide) (by rw [hz]; decide) rfl rfl (by kernel_rfl) St SG fun d a W hF hG hH hn hcl hw => ?_
      have q5 : a.eval (.tmp 5) = .string ⟨sl.toArray⟩ := hH.at_ (i := 2) rfl (hw 2 rfl) id
      have q8 : a.eval (.tmp 8) = .string ⟨sh.toArray⟩ := hH.at_ (i := 5) rfl (hw 5 rfl) id
      have r := A0.out W
      refine ⟨.string ⟨(sl ++ sh).toArray⟩, W, ?_, Below.refl _ _, ?_⟩
      · clear hF hG hH hn hcl hw
        generalize a.eval = ρ at *
        go_simp
      · rfl
    · refine stepB rfl rfl (by decide) (by rw [hz]; decide) rfl rfl (by kernel_rfl) St SG fun d a W hF hG hH hn hcl hw => ?_
      have q1 := (hF.same 1 (by decide)).trans e1
      refine ⟨.pointer (some ⟨w.heap.size, 2, none⟩), W, ?_, Below.refl _ _, ?_⟩
      · clear hF hG hH hn hcl hw
        generalize a.eval = ρ at *
        go_simp
      · rfl
    · refine stepB rfl rfl (by decide) (by rw [hz]; decide) rfl rfl (by kernel_rfl) St SG fun d a W hF hG hH hn hcl hw => ?_
      have q10 : a.eval (.tmp 10) = .pointer (some ⟨w.heap.size, 2, none⟩) := hH.at_ (i := 7) rfl (hw 7 rfl) id
      have c := cell_kept hG c2
      clear c0 c1 c2
      refine ⟨.int .i64 tag, W, ?_, Below.refl _ _, ?_⟩
      · clear hF hG hH hn hcl hw
        generalize a.eval = ρ at *
        go_simp
      · rfl
    · refine stepB rfl rfl (by decide) (by rw [hz]; decide) rfl rfl (by kernel_rfl) St SG fun d a W hF hG hH hn hcl hw => ?_
      have q11 : a.eval (.tmp 11) = .int .i64 tag := hH.at_ (i := 8) rfl (hw 8 rfl) id
      have m : IntKind.u8.wrap tag = tag := by rw [IntKind.wrap_u8']; omega
      refine ⟨.int .u8 tag, W, ?_, Below.refl _ _, ?_⟩
      · clear hF hG hH hn hcl hw
        generalize a.eval = ρ at *
        go_simp
      · rfl
    · refine stepB rfl rfl (by decide) (by rw [hz]; decide) rfl rfl (by kernel_rfl) St SG fun d a W hF hG hH hn hcl hw => ?_
      have q12 : a.eval (.tmp 12) = .int .u8 tag := hH.at_ (i := 9) rfl (hw 9 rfl) id
      refine ⟨.slice (some ⟨W.heap.size, 0, none⟩) 1 1, W.alloc (.cells #[.int .u8 tag] 5), ?_, Below.new1 W _, ?_⟩
      · clear hF hG hH hn hcl hw
        generalize a.eval = ρ at *
        go_simp
      · exact ⟨_, _, rfl, cell_one_new W _ _ 0 _ rfl⟩
    · refine stepB rfl rfl (by decide) (by rw [hz]; decide) rfl rfl (by kernel_rfl) St SG fun d a W hF hG hH hn hcl hw => ?_
      have q13 : One (.int .u8 tag) (a.eval (.tmp 13)) W := hH.at_ (i := 10) rfl (hw 10 rfl) id
      have r := q13.text h4 h5
      clear q13
      refine ⟨.string ⟨[tag.toNat.toUInt8].toArray⟩, W, ?_, Below.refl _ _, ?_⟩
      · clear hF hG hH hn hcl hw
        generalize a.eval = ρ at *
        go_simp
      · rfl
    · refine stepB rfl rfl (by decide) (by rw [hz]; decide) rfl rfl (by kernel_rfl) St SG fun d a W hF hG hH hn hcl hw => ?_
      have q9 : a.eval (.tmp 9) = .string ⟨(sl ++ sh).toArray⟩ := hH.at_ (i := 6) rfl (hw 6 rfl) id
      have q14 : a.eval (.tmp 14) = .string ⟨[tag.toNat.toUInt8].toArray⟩ := hH.at_ (i := 11) rfl (hw 11 rfl) id
      have r := A1.out W
      refine ⟨.string ⟨(sl ++ sh ++ [tag.toNat.toUInt8]).toArray⟩, W, ?_, Below.refl _ _, ?_⟩
      · clear hF hG hH hn hcl hw
        generalize a.eval = ρ at *
        go_simp
      · rfl
    · refine stepB rfl rfl (by decide) (by rw [hz]; decide) rfl rfl (by kernel_rfl) St SG fun d a W hF hG hH hn hcl hw => ?_
      have q15 : a.eval (.tmp 15) = .string ⟨(sl ++ sh ++ [tag.toNat.toUInt8]).toArray⟩ := hH.at_ (i := 12) rfl (hw 12 rfl) id
      refine ⟨.string ⟨(sl ++ sh ++ [tag.toNat.toUInt8]).toArray⟩, W, ?_, Below.refl _ _, ?_⟩
      · clear hF hG hH hn hcl hw
        generalize a.eval = ρ at *
        go_simp
      · rfl
  · intro d a W ⟨hF, hB, hH⟩ hall
    have k2 : a.eval (.tmp 2) = .string ⟨(sl ++ sh ++ [tag.toNat.toUInt8]).toArray⟩ := hH.at_ (i := 13) rfl (hall 13 (by decide)) id
    clear hH hall
    rw [hF.shape (by rw [hz]; decide)]
    clear hF
    simp only [List.foldl]
    generalize a.eval (.tmp 3) = z3 at *
    generalize a.eval (.tmp 4) = z4 at *
    generalize a.eval (.tmp 5) = z5 at *
    generalize a.eval (.tmp 6) = z6 at *
    generalize a.eval (.tmp 7) = z7 at *
    generalize a.eval (.tmp 8) = z8 at *
    generalize a.eval (.tmp 9) = z9 at *
    generalize a.eval (.tmp 10) = z10 at *
    generalize a.eval (.tmp 11) = z11 at *
    generalize a.eval (.tmp 12) = z12 at *
    generalize a.eval (.tmp 13) = z13 at *
    generalize a.eval (.tmp 14) = z14 at *
    generalize a.eval (.tmp 15) = z15 at *
    generalize a.eval (.tmp 2) = z2 at *
    subst k2
    rw [HA0.out]
    simp only [Act.put, List.setIfInBounds_toArray, List.set_cons_zero, List.set_cons_succ]
    clear hz HA0 SG e1
    clear a a0
    go_wp2_with (fail)
    go_ret
    exact ⟨rfl, Below.on B0 hB⟩
/-- The hash of a map. -/
def sealM (size count : Int) (h : Bs) : Bs := sha (2 :: (eightM size ++ eightM count ++ h))
set_option maxRecDepth 100000 in
set_option maxHeartbeats 1000000 in
theorem seal_any (size count : Int) (h : Bs) (w : World) (h0 : 0 ≤ size) (h1 : size < 9223372036854775808) (h2 : 0 ≤ count) (h3 : count < 9223372036854775808) (hh : h.length = 32) (hk : Kon w) : Calls Tryd.prog 65 #[.int .i64 size, .int .i64 count, hashV h] w fun e w' => e = .returned (hashV (sealM size count h)) ∧ Below w.heap.size w w' := by
  have a0 := fun W => s_add (P := Tryd.prog) [2] (eightM size) W (by simp [eightM_length])
  have a1 := fun W => s_add (P := Tryd.prog) (2 :: eightM size) (eightM count) W (by simp [eightM_length])
  have a2 := fun W => s_add (P := Tryd.prog) (2 :: (eightM size ++ eightM count)) h W (by simp [eightM_length, hh])
  simp only [List.cons_append, List.append_assoc] at a1 a2
  have n1 := fun W => number_any size W h0 h1
  have n2 := fun W => number_any count W h2 h3
  have hs := fun (W : World) (hk : Kon W) => sum_any (2 :: (eightM size ++ (eightM count ++ h))) W (by simp [eightM_length, hh]) hk
  have hl : (sealM size count h).length = 32 := sha_length _
  have he : sha (2 :: (eightM size ++ (eightM count ++ h))) = sealM size count h := rfl
  rw [he] at hs
  generalize sealM size count h = x at *
  generalize eightM size = ss at *
  generalize eightM count = sc at *
  have N1 := Lib.hid n1
  have N2 := Lib.hid n2
  have A0 := Lib.hid a0
  have A1 := Lib.hid a1
  have A2 := Lib.hid a2
  have HS := Lib.hid hs
  have HL := Lib.hid hl
  have HH := Lib.hid hh
  clear n1 n2 a0 a1 a2 hs hl hh he
  go_enter Tryd.func65, Tryd.ntmps65
  go_upto_region 1 with (fail)
  obtain ⟨w0, hW0⟩ : ∃ w0, World.alloc (World.alloc w (.cells (cellsB h).toArray 30)) (.cells (ints .u8 (List.replicate 32 0)) 30) = w0 := ⟨_, rfl⟩
  have B0 : Below w.heap.size w w0 := hW0 ▸ Below.on (Below.new1 _ _) (Below.new1 _ _)
  have x5 : BoxH w0 w.heap.size h := hW0 ▸ (BoxH.new w h).next (Below.new1 _ _)
  have x6 : BoxA w0 (w.heap.size + 1) 30 .u8 (List.replicate 32 0) := by
    have := BoxA.new (w.alloc (.cells (cellsB h).toArray 30)) 30 .u8 (List.replicate 32 0) _ rfl
    rw [World.size_alloc] at this; exact hW0 ▸ this
  change Code.wp _ _ _ _ (World.alloc (World.alloc w (.cells (cellsB h).toArray 30)) (.cells (ints .u8 (List.replicate 32 0)) 30))
  rw [hW0]
  have K0 := hk.next B0
  clear hW0
  refine wp_name fun a0 ha0 => ?_
  have e0 : a0.eval (.tmp 0) = .int .i64 size := by rw [ha0]; rfl
  have e1 : a0.eval (.tmp 1) = .int .i64 count := by rw [ha0]; rfl
  have e5 : a0.eval (.tmp 5) = .pointer (some ⟨w.heap.size, 0, none⟩) := by rw [ha0]; rfl
  have e6 : a0.eval (.tmp 6) = .pointer (some ⟨w.heap.size + 1, 0, none⟩) := by rw [ha0]; rfl
  have hz : a0.tmps.size = 17 := by rw [ha0]; rfl
  have HA0 := Lib.hid ha0
  clear ha0
  have SG : ∀ (d d' : Nat → Prop) (W W' : World), (fun (_ : Nat → Prop) (W : World) => Below w0.heap.size w0 W) d W → (∀ j, d j → d' j) → Below W.heap.size W W' → (fun (_ : Nat → Prop) (W : World) => Below w0.heap.size w0 W) d' W' := fun _ _ _ _ h _ b => Below.next h b
  refine wp_region_lastly 10 _ (Inv [7, 8, 9, 10, 11, 12, 13, 14, 15, 16] a0 (fun (_ : Nat → Prop) (W : World) => Below w0.heap.size w0 W) [(⟨some 0, 7, none, fun v _ => v = .int .i64 size⟩ : Cl), ⟨some 1, 8, none, fun v _ => v = .string ⟨ss.toArray⟩⟩, ⟨some 2, 9, none, fun v _ => v = .string ⟨(2 :: ss).toArray⟩⟩, ⟨some 3, 10, none, fun v _ => v = .int .i64 count⟩, ⟨some 4, 11, none, fun v _ => v = .string ⟨sc.toArray⟩⟩, ⟨some 5, 12, none, fun v _ => v = .string ⟨(2 :: (ss ++ sc)).toArray⟩⟩, ⟨some 6, 13, none, fun v _ => v = .slice (some ⟨w.heap.size, 0, none⟩) 32 32⟩, ⟨some 7, 14, none, fun v _ => v = .string ⟨h.toArray⟩⟩, ⟨some 8, 15, none, fun v _ => v = .string ⟨(2 :: (ss ++ (sc ++ h))).toArray⟩⟩, ⟨some 9, 16, none, fun v _ => v = hashV x⟩]) (by kernel_rfl) (by kernel_rfl) rfl rfl (by kernel_rfl) rfl (Inv.start (Below.refl _ _).drew ⟨nofun, nofun, nofun, nofun, nofun, nofun, nofun, nofun, nofun, nofun, trivial⟩) ?_ ?_
  · have St : ∀ xc ∈ [(⟨some 0, 7, none, fun v _ => v = .int .i64 size⟩ : Cl), ⟨some 1, 8, none, fun v _ => v = .string ⟨ss.toArray⟩⟩, ⟨some 2, 9, none, fun v _ => v = .string ⟨(2 :: ss).toArray⟩⟩, ⟨some 3, 10, none, fun v _ => v = .int .i64 count⟩, ⟨some 4, 11, none, fun v _ => v = .string ⟨sc.toArray⟩⟩, ⟨some 5, 12, none, fun v _ => v = .string ⟨(2 :: (ss ++ sc)).toArray⟩⟩, ⟨some 6, 13, none, fun v _ => v = .slice (some ⟨w.heap.size, 0, none⟩) 32 32⟩, ⟨some 7, 14, none, fun v _ => v = .string ⟨h.toArray⟩⟩, ⟨some 8, 15, none, fun v _ => v = .string ⟨(2 :: (ss ++ (sc ++ h))).toArray⟩⟩, ⟨some 9, 16, none, fun v _ => v = hashV x⟩], Lasts xc := AllC.mem ⟨lastsV0 _ _ _ _, lastsV0 _ _ _ _, lastsV0 _ _ _ _, lastsV0 _ _ _ _, lastsV0 _ _ _ _, lastsV0 _ _ _ _, lastsV0 _ _ _ _, lastsV0 _ _ _ _, lastsV0 _ _ _ _, lastsV0 _ _ _ _, trivial⟩
    clear HA0
    refine ⟨?_, ?_, ?_, ?_, ?_, ?_, ?_, ?_, ?_, ?_, trivial⟩
    · refine stepB rfl rfl (by decide) (by rw [hz]; decide) rfl rfl (by kernel_rfl) St SG fun d a W hF hG hH hn hcl hw => ?_
      have q0 := (hF.same 0 (by decide)).trans e0
      refine ⟨.int .i64 size, W, ?_, Below.refl _ _, ?_⟩
      · clear hF hG hH hn hcl hw
        generalize a.eval = ρ at *
        go_simp
      · rfl
    · refine stepC rfl rfl (by decide) (by rw [hz]; decide) rfl rfl (by kernel_rfl) St SG fun d a W hF hG hH hn hcl hw => ?_
      have q7 : a.eval (.tmp 7) = .int .i64 size := hH.at_ (i := 0) rfl (hw 0 rfl) id
      have qf : a.eval (.func 58) = .func (.func 58) #[] #[] := rfl
      refine ⟨58, #[.int .i64 size], ?_, ?_⟩
      · clear hF hG hH hn hcl hw
        generalize a.eval = ρ at *
        go_simp
      · refine (N1.out W).mono ?_; rintro e W' ⟨rfl, b⟩; exact ⟨_, rfl, b, rfl⟩
    · refine stepB rfl rfl (by decide) (by rw [hz]; decide) rfl rfl (by kernel_rfl) St SG fun d a W hF hG hH hn hcl hw => ?_
      have q8 : a.eval (.tmp 8) = .string ⟨ss.toArray⟩ := hH.at_ (i := 1) rfl (hw 1 rfl) id
      have qs : a.eval (.const (.string ⟨#[2]⟩)) = .string ⟨#[2]⟩ := rfl
      have r := A0.out W
      refine ⟨.string ⟨(2 :: ss).toArray⟩, W, ?_, Below.refl _ _, ?_⟩
      · clear hF hG hH hn hcl hw
        generalize a.eval = ρ at *
        go_simp
      · rfl
    · refine stepB rfl rfl (by decide) (by rw [hz]; decide) rfl rfl (by kernel_rfl) St SG fun d a W hF hG hH hn hcl hw => ?_
      have q1 := (hF.same 1 (by decide)).trans e1
      refine ⟨.int .i64 count, W, ?_, Below.refl _ _, ?_⟩
      · clear hF hG hH hn hcl hw
        generalize a.eval = ρ at *
        go_simp
      · rfl
    · refine stepC rfl rfl (by decide) (by rw [hz]; decide) rfl rfl (by kernel_rfl) St SG fun d a W hF hG hH hn hcl hw => ?_
      have q10 : a.eval (.tmp 10) = .int .i64 count := hH.at_ (i := 3) rfl (hw 3 rfl) id
      have qf : a.eval (.func 58) = .func (.func 58) #[] #[] := rfl
      refine ⟨58, #[.int .i64 count], ?_, ?_⟩
      · clear hF hG hH hn hcl hw
        generalize a.eval = ρ at *
        go_simp
      · refine (N2.out W).mono ?_; rintro e W' ⟨rfl, b⟩; exact ⟨_, rfl, b, rfl⟩
    · refine stepB rfl rfl (by decide) (by rw [hz]; decide) rfl rfl (by kernel_rfl) St SG fun d a W hF hG hH hn hcl hw => ?_
      have q9 : a.eval (.tmp 9) = .string ⟨(2 :: ss).toArray⟩ := hH.at_ (i := 2) rfl (hw 2 rfl) id
      have q11 : a.eval (.tmp 11) = .string ⟨sc.toArray⟩ := hH.at_ (i := 4) rfl (hw 4 rfl) id
      have r := A1.out W
      refine ⟨.string ⟨(2 :: (ss ++ sc)).toArray⟩, W, ?_, Below.refl _ _, ?_⟩
      · clear hF hG hH hn hcl hw
        generalize a.eval = ρ at *
        go_simp
      · rfl
    · refine stepB rfl rfl (by decide) (by rw [hz]; decide) rfl rfl (by kernel_rfl) St SG fun d a W hF hG hH hn hcl hw => ?_
      have q5 := (hF.same 5 (by decide)).trans e5
      refine ⟨.slice (some ⟨w.heap.size, 0, none⟩) 32 32, W, ?_, Below.refl _ _, ?_⟩
      · clear hF hG hH hn hcl hw
        generalize a.eval = ρ at *
        go_simp
      · rfl
    · refine stepB rfl rfl (by decide) (by rw [hz]; decide) rfl rfl (by kernel_rfl) St SG fun d a W hF hG hH hn hcl hw => ?_
      have q13 : a.eval (.tmp 13) = .slice (some ⟨w.heap.size, 0, none⟩) 32 32 := hH.at_ (i := 6) rfl (hw 6 rfl) id
      have r := BoxH.text (x5.next hG) HH.out 32
      refine ⟨.string ⟨h.toArray⟩, W, ?_, Below.refl _ _, ?_⟩
      · clear hF hG hH hn hcl hw
        generalize a.eval = ρ at *
        go_simp
      · rfl
    · refine stepB rfl rfl (by decide) (by rw [hz]; decide) rfl rfl (by kernel_rfl) St SG fun d a W hF hG hH hn hcl hw => ?_
      have q12 : a.eval (.tmp 12) = .string ⟨(2 :: (ss ++ sc)).toArray⟩ := hH.at_ (i := 5) rfl (hw 5 rfl) id
      have q14 : a.eval (.tmp 14) = .string ⟨h.toArray⟩ := hH.at_ (i := 7) rfl (hw 7 rfl) id
      have r := A2.out W
      refine ⟨.string ⟨(2 :: (ss ++ (sc ++ h))).toArray⟩, W, ?_, Below.refl _ _, ?_⟩
      · clear hF hG hH hn hcl hw
        generalize a.eval = ρ at *
        go_simp
      · rfl
    · refine stepC rfl rfl (by decide) (by rw [hz]; decide) rfl rfl (by kernel_rfl) St SG fun d a W hF hG hH hn hcl hw => ?_
      have q15 : a.eval (.tmp 15) = .string ⟨(2 :: (ss ++ (sc ++ h))).toArray⟩ := hH.at_ (i := 8) rfl (hw 8 rfl) id
      have qf : a.eval (.func 19) = .func (.func 19) #[] #[] := rfl
      refine ⟨19, #[.string ⟨(2 :: (ss ++ (sc ++ h))).toArray⟩], ?_, ?_⟩
      · clear hF hG hH hn hcl hw
        generalize a.eval = ρ at *
        go_simp
      · refine (HS.out W (K0.next hG)).mono ?_; rintro e W' ⟨rfl, b⟩; exact ⟨_, rfl, b, rfl⟩
  · intro d a W ⟨hF, hB, hH⟩ hall
    have k16 : a.eval (.tmp 16) = hashV x := hH.at_ (i := 9) rfl (hall 9 (by decide)) id
    clear hH hall
    rw [hF.shape (by rw [hz]; decide)]
    clear hF
    simp only [List.foldl]
    generalize a.eval (.tmp 7) = z7 at *
    generalize a.eval (.tmp 8) = z8 at *
    generalize a.eval (.tmp 9) = z9 at *
    generalize a.eval (.tmp 10) = z10 at *
    generalize a.eval (.tmp 11) = z11 at *
    generalize a.eval (.tmp 12) = z12 at *
    generalize a.eval (.tmp 13) = z13 at *
    generalize a.eval (.tmp 14) = z14 at *
    generalize a.eval (.tmp 15) = z15 at *
    generalize a.eval (.tmp 16) = z16 at *
    subst k16
    rw [HA0.out]
    simp only [Act.put, List.setIfInBounds_toArray, List.set_cons_zero, List.set_cons_succ]
    clear hz HA0 SG e0 e1 e5 e6
    clear a a0
    refine wp_storeH (.tmp 6) (.tmp 16) rfl (w.heap.size + 1) x rfl rfl (x6.next hB) rfl HL.out ?_
    have y6 : BoxH (W.setRow (w.heap.size + 1) (ints .u8 (nums x))) (w.heap.size + 1) x := (x6.next hB).setRow
    have b6 := below_setRow (Below.on B0 hB) (show w.heap.size ≤ w.heap.size + 1 by omega) (ints .u8 (nums x))
    generalize World.setRow W (w.heap.size + 1) (ints .u8 (nums x)) = W6 at *
    dsimp only [Act.put]
    go_wp2_with (fail)
    exact bodyPost_ret (v := hashV x) (results_hash rfl _ (w.heap.size + 1) _ rfl y6 HL.out) rfl ⟨rfl, b6⟩
end
section
open Go.RowKit
theorem infoHash : (Tryd.prog.info? 30).map (fun i => (i.zero, i.size, i.bytes)) = some (some zero32, 32, 32) := by kernel_rfl
theorem zero32_size : zero32.cells.size = 32 := by decide +kernel
theorem cellsB_new (w : World) (h : Bs) : ∀ j u, (cellsB h)[j]? = some u → (w.alloc (.cells (cellsB h).toArray 30)).cell? ((⟨w.heap.size, 0, none⟩ : Addr).add j) = some u := fun j u hu => by
  rw [Addr.add_mid, Nat.zero_add, cell_of_row _ _ j _ _ _ (heap_alloc_new w _)]; simpa using hu
theorem cellsH_snoc (l : List Bs) (x : Bs) : cellsH (l ++ [x]) = cellsH l ++ cellsB x := by rw [cellsH_append]; simp [cellsH]
theorem below_own {base : Nat} {W W' : World} {v : Value} {t : TypeId} {s n : Nat} {xs : List Value} (ho : W.ownsRow base t s v n xs) (hg : W.grownBy W' v.ownBlock) (hs : base ≤ W.heap.size) : Below base W W' := by
  refine ⟨hg.os, hg.tape, hg.output, hg.size, fun i hi => hg.block i (Nat.lt_of_lt_of_le hi hs) ?_⟩
  rcases ho.2 with ⟨e, _⟩ | ⟨g, cap, cur, e, hb, _⟩
  · rw [e]; simp [Value.ownBlock]
  · rw [e]; simp only [Value.ownBlock]; intro c; simp only [Option.some.injEq] at c; omega
theorem OwnHs.mono {w : World} {base base' : Nat} {v : Value} {l : List Bs} (h : OwnHs w base v l) (hb : base' ≤ base) : OwnHs w base' v l := by
  obtain ⟨h0, h1, h2⟩ := h
  refine ⟨h0, h1, ?_⟩
  rcases h2 with h2 | ⟨g, cap, cur, e, hg, r⟩
  · exact .inl h2
  · exact .inr ⟨g, cap, cur, e, by omega, r⟩
theorem OwnHs.sliced {w : World} {base : Nat} {v : Value} {l : List Bs} (h : OwnHs w base v l) : ∃ A c, v = .slice A l.length c := by
  rcases h.2.2 with ⟨h1, h2⟩ | ⟨g, cap, _, h1, _⟩
  · exact ⟨none, 0, by rw [h1, h2]⟩
  · exact ⟨_, cap, h1⟩
theorem fillH (x : Bs) (hx : x.length = 32) (ie : TypeInfo) (hi : Tryd.prog.info? 30 = some ie) (z : Value) (hz : ie.zero = some z) :
    Instr.fill (fun i => some (i * ie.size, ie.size)) ((Array.range (1 * ie.size)).map (z.cells[· % z.cells.size]!)) [(0, hashV x)] = some (cellsB x).toArray := by
  obtain ⟨i0, hi0, hz0, hz1, hz2⟩ := info_parts infoHash
  rw [hi0] at hi
  obtain rfl := Option.some.inj hi
  rw [hz0] at hz
  obtain rfl := Option.some.inj hz
  rw [hz1]
  match x, hx with
  | [x0, x1, x2, x3, x4, x5, x6, x7, x8, x9, x10, x11, x12, x13, x14, x15, x16, x17, x18, x19, x20, x21, x22, x23, x24, x25, x26, x27, x28, x29, x30, x31], _ => show _ = some _; kernel_rfl
section
variable {ops : Array Oper} {rest : List Oper} {o : Oper} {a : Act} {w : World} {Q : Exit → Act → World → Prop}
theorem run_buildHash (x : Bs) (hx : x.length = 32) (w : World) : (Instr.buildSlice 35 1 #[(0, hashV x)]).run Tryd.prog w = .ok (.slice (some ⟨w.heap.size, 0, none⟩) 1 1) (w.alloc (.cells (cellsB x).toArray 30)) := by
  obtain ⟨i0, hi0, hz0, hz1, hz2⟩ := info_parts infoHash
  exact run_buildSlice w 35 30 1 #[(0, hashV x)] (cellsB x).toArray i0 zero32 (by kernel_rfl) hi0 hz0 (by rw [hz1]; decide) (by rw [hz1]; decide) (fillH x hx i0 hi0 _ hz0)
theorem wpList_buildHash (hgd : o.guard = none) (xo : Operand) (ho : o.op = .buildSlice 35 1 #[(0, xo)]) (x : Bs) (hx : a.eval xo = hashV x) (hx32 : x.length = 32)
    (K : wpList Tryd.prog ops Q rest (a.put o.dst (.slice (some ⟨w.heap.size, 0, none⟩) 1 1)) (w.alloc (.cells (cellsB x).toArray 30))) : wpList Tryd.prog ops Q (o :: rest) a w := by
  refine wpList_plain hgd fun _ hK => ?_
  unfold Oper.wp execOp
  simp only [ho, List.map_toArray, List.map_cons, List.map_nil, hx, Sem.run_bind, run_buildHash x hx32 w, Result.andThen_ok]
  exact hK _ _ K
end
section
variable {ops : Array Oper} {rest : List Oper} {o : Oper} {a : Act} {w : World} {Q : Exit → Act → World → Prop}
theorem wpList_append_hash (hgd : o.guard = none) (s xo : Operand) (ho : o.op = .call { callee := .builtin .append, args := #[s, xo], argTypes := #[35, 35] })
    (base : Nat) (v : Value) (H : List Bs) (hs : a.eval s = v) (hO : OwnHs w base v H) (g : Nat) (x : Bs) (c : Nat) (hx : a.eval xo = .slice (some ⟨g, 0, none⟩) 1 c)
    (hg : ∀ j u, (cellsB x)[j]? = some u → w.cell? ((⟨g, 0, none⟩ : Addr).add j) = some u) (hx32 : x.length = 32) (hlen : H.length ≤ 1000000) (hb : base ≤ w.heap.size)
    (K : ∀ v' w', OwnHs w' base v' (H ++ [x]) → Below base w w' → wpList Tryd.prog ops Q rest (a.put o.dst v') w') : wpList Tryd.prog ops Q (o :: rest) a w := by
  obtain ⟨i0, hi0, hz0, hz1, hz2⟩ := info_parts infoHash
  refine wpList_append_own w hgd s xo 35 ho base 30 i0 zero32 32 32 (by kernel_rfl) hi0 hz0 hz1 hz2 zero32_size (by decide) v H.length (cellsH H) hs hO.2 ⟨g, 0, none⟩ 1 c (cellsB x) hx (by rw [cellsB_length, hx32]) hg (cellsB_one x) (by unfold maxLen; omega) (by omega) hb fun v' w' h1 h2 _ => ?_
  refine K v' w' ⟨hO.1.app (H32.one hx32), ?_⟩ (below_own hO.2 h2 hb)
  rw [cellsH_snoc, List.length_append]
  exact h1
end
/-- The hashes of the leaves of runs. -/
def lvM (x : Rn) : Bs := leafM sha (textM x)
/-- A run whose numbers fit into eight bytes. -/
def Fit (x : Rn) : Prop := 0 ≤ x.lo ∧ x.lo < 9223372036854775808 ∧ 0 ≤ x.hi ∧ x.hi < 9223372036854775808 ∧ 0 ≤ x.tag ∧ x.tag < 256
theorem lvM_length (x : Rn) : (lvM x).length = 32 := sha_length _
theorem h32_map (L : List Rn) : H32 (L.map lvM) := fun h hh => by obtain ⟨x, _, rfl⟩ := List.mem_map.1 hh; exact lvM_length x
set_option maxRecDepth 100000 in
set_option maxHeartbeats 2000000 in
theorem hashes_any (L : List Rn) (A : Option Addr) (n c : Nat) (w : World) (hn : L.length = n) (hL : Runs w A L) (hf : ∀ x ∈ L, Fit x) (h1 : n ≤ 100000) (hc : n ≤ c) (hk : Kon w) :
    Calls Tryd.prog 64 #[.slice A n c] w fun e w' => ∃ v, e = .returned v ∧ OwnHs w' w.heap.size v (L.map lvM) ∧ Below w.heap.size w w' := by
  obtain ⟨i0, hi0, hz0, hz1, hz2⟩ := info_parts infoHash
  have HN := Lib.hid hn
  have HF := Lib.hid hf
  have HK := Lib.hid hk
  clear hn hf hk
  go_enter Tryd.func64, Tryd.ntmps64
  go_wp2_with (fail)
  go_loopw [3, 8] (fun v i W => ∃ k : Nat, k ≤ n ∧ i = .int .i64 k ∧ OwnHs W w.heap.size v ((L.take k).map lvM) ∧ Below w.heap.size w W) (fun _ i _ => n - (intOf i).toNat)
  case atStart => exact ⟨0, Nat.zero_le _, rfl, ⟨H32.nil, World.ownsRow_nil _ _ _ _⟩, Below.refl _ _⟩
  case round =>
    obtain ⟨k, hkn, rfl, hO, hB⟩ := hrel
    by_cases hlt : k < n
    · have hkL : k < L.length := by have := HN.out; omega
      obtain ⟨a, rfl⟩ : ∃ a, A = some a := by
        rcases hL with e | ⟨a, e, _⟩
        · rw [e] at hkL; cases hkL
        · exact ⟨a, e⟩
      obtain ⟨hab, g0, g1, g2⟩ := (hL.below hB).at_ hkL
      have hx := HF.out _ (List.getElem_mem hkL)
      have ht : (L.take (k + 1)).map lvM = (L.take k).map lvM ++ [lvM L[k]] := by rw [List.take_succ_eq_append_getElem hkL, List.map_append]; rfl
      have hl : ((L.take k).map lvM).length = k := by rw [List.length_map, List.length_take]; omega
      have hlv : lvM L[k] = leafM sha (textM L[k]) := rfl
      have htl := textM_length L[k]
      obtain ⟨A1, c1, hv⟩ := hO.sliced
      rw [hl] at hv
      subst hv
      generalize (L.take k).map lvM = H at *
      generalize L[k] = X at *
      generalize hlx : lvM X = x at *
      have hx32 : x.length = 32 := hlx ▸ lvM_length X
      have HX := Lib.hid hx
      have HT := Lib.hid ht
      have HL := Lib.hid hl
      have HLV := Lib.hid hlv
      have HTL := Lib.hid htl
      have HX32 := Lib.hid hx32
      have HO := Lib.hid hO
      have k0 : (0 : Int) ≤ (k : Int) := by omega
      have k1 : (k : Int) < (n : Int) := by omega
      clear hx ht hl hlv htl hlx hx32 hO
      go_upto_region 5 with (fail)
      obtain ⟨W1, hW1⟩ : ∃ W1, World.alloc wr (.cells #[.int .i64 X.lo, .int .i64 X.hi, .int .i64 X.tag] 34) = W1 := ⟨_, rfl⟩
      have b1 : Below wr.heap.size wr W1 := hW1 ▸ Below.new1 _ _
      have hh : W1.heap[wr.heap.size]? = some (.cells #[.int .i64 X.lo, .int .i64 X.hi, .int .i64 X.tag] 34 (0, 0)) := hW1 ▸ heap_alloc_new wr _
      change Code.wp _ _ _ _ (World.alloc wr (.cells #[.int .i64 X.lo, .int .i64 X.hi, .int .i64 X.tag] 34))
      rw [hW1]
      have c0 : W1.cell? ⟨wr.heap.size, 0, none⟩ = some (.int .i64 X.lo) := (cell_of_row W1 _ 0 _ _ _ hh).trans rfl
      have c1 : W1.cell? ⟨wr.heap.size, 1, none⟩ = some (.int .i64 X.hi) := (cell_of_row W1 _ 1 _ _ _ hh).trans rfl
      have c2 : W1.cell? ⟨wr.heap.size, 2, none⟩ = some (.int .i64 X.tag) := (cell_of_row W1 _ 2 _ _ _ hh).trans rfl
      have hO1 := HO.out
      have bsz := hB.size
      clear hW1 hh g0 g1 g2
      go_wp2_with (first
        | (go_at_call 95; refine (text_any X _ HX.out.1 HX.out.2.1 HX.out.2.2.1 HX.out.2.2.2.1 HX.out.2.2.2.2.1 HX.out.2.2.2.2.2).mono ?_; rintro e W2 ⟨rfl, b2⟩; have B2 := Below.on (Below.on hB b1) b2)
        | (go_at_call 76; refine (hleaf_any (textM X) _ (by rw [HTL.out]; decide) (HK.out.next B2)).mono ?_; rw [← HLV.out]; rintro e W3 ⟨rfl, b3⟩; have B3 := Below.on B2 b3; have q32 : (cellsB x).length = 32 := by rw [cellsB_length]; exact HX32.out
           clear c0 c1 c2)
        | (refine wpList_buildHash rfl (.tmp 15) rfl x rfl HX32.out ?_)
        | (at_builtin; refine wpList_append_hash rfl (.tmp 12) (.tmp 16) rfl w.heap.size (.slice A1 k c1) H rfl (((hO1.next b1).next b2).next b3 |>.next (Below.new1 W3 _)) W3.heap.size x 1 rfl (cellsB_new W3 x) HX32.out (by rw [HL.out]; omega) (by have := B3.size; rw [World.size_alloc]; omega) ?_; intro v' W4 hO4 b4; have B4 := (Below.on B3 (Below.new1 W3 (.cells (cellsB x).toArray 30))).trans b4; rw [← HT.out] at hO4; clear q32))
      exact ⟨⟨k + 1, by omega, by go_num, hO4, B4⟩, by simp [intOf]; omega⟩
    · obtain rfl : k = n := by omega
      rw [List.take_of_length_le (by have := HN.out; omega)] at hO
      go_wp2_with (fail)
      go_ret
      exact ⟨_, rfl, hO, hB⟩
end
end Go.Proofs.YtcocengpekndjaaDoor
