/- The walk over Range. What a claim of a map shows: plain laws. The walk over State. A map's own claims are accepted: plain laws. -/
import Derived.Test.YtcocengpekndjaaDoorPrColl
import Derived.Test.YtcocengpekndjaaDoorPrAcc
namespace Go.Proofs.YtcocengpekndjaaDoor
section
open Go.RowKit
abbrev zeroC : Array Value := #[.slice none 0 0, .int .i64 0, .int .i64 0, .int .i64 0, .slice none 0 0]
/-- The runs of a range: the first, and behind the last. -/
def toM (lo hi : Int) (R : List Rn) : Nat := fromM lo R + 1 + cntM hi (R.drop (fromM lo R + 1))
theorem toM_le {lo hi : Int} {R : List Rn} (h : fromM lo R < R.length) : toM lo hi R ≤ R.length := by
  have := cntM_le hi (R.drop (fromM lo R + 1))
  rw [List.length_drop] at this
  unfold toM; omega
theorem szClaim : (Tryd.prog.info? 43).map (·.size) = some 5 := by kernel_rfl
theorem claim_one (A : Option Addr) (n c : Nat) (first count size : Int) (PA : Option Addr) (pn pc : Nat) : (#[.slice A n c, .int .i64 first, .int .i64 count, .int .i64 size, .slice PA pn pc] : Array Value).all (·.oneCell') = true := by simp [Value.oneCell']
theorem results_claim {fn : Func} {p q : Tmp} (hf : fn.results = #[.cell p 43, .tmp q]) (tmps : Array Value) (w : World) (g : Nat) (A : Option Addr) (n c : Nat) (first count size : Int) (PA : Option Addr) (pn pc : Nat) (v : Value)
    (hp : tmps.getD p undef = .pointer (some ⟨g, 0, none⟩)) (hq : tmps.getD q undef = v) (hg : BoxC w g A n c first count size PA pn pc) : (results fn tmps).run Tryd.prog w = .ok (.tuple #[claimV A n c first count size PA pn pc, v]) w := by
  exact results_row2 hf tmps w g 43 _ (0, 0) (.struct (Tryd.prog.fieldsOf 43)) v hp hq hg.row (by kernel_rfl) rfl szClaim
set_option maxRecDepth 100000 in
set_option maxHeartbeats 2000000 in
theorem range_bad (w : World) (p : Option Addr) (L : List (Int × Int)) (lo hi : Int) (x : Int) (h : Rep w p L) (hx : (L = [] ∧ x = 1) ∨ (L ≠ [] ∧ (lo < 0 ∨ hi ≤ lo ∨ Tr.total L < hi) ∧ x = 3)) :
    Calls Tryd.prog 27 #[.agg #[.pointer p], .int .i64 lo, .int .i64 hi] w fun e w' => e = .returned (.tuple #[claimV none 0 0 0 0 0 none 0 0, .int .i64 x]) ∧ Below w.heap.size w w' := by
  obtain ⟨w0, hW0⟩ : ∃ w0, World.alloc (World.alloc (World.alloc w (.cells #[.pointer p] 47)) (.cells #[.int .i64 lo] 3)) (.cells zeroC 43) = w0 := ⟨_, rfl⟩
  have B0 : Below w.heap.size w w0 := hW0 ▸ Below.on (Below.on (Below.new1 _ _) (Below.new1 _ _)) (Below.new1 _ _)
  have x3 : Boxed w0 w.heap.size 47 (.pointer p) := hW0 ▸ ((Boxed.new w _ _).alloc _).alloc _
  have x4 : Boxed w0 (w.heap.size + 1) 3 (.int .i64 lo) := by
    have := (Boxed.new (w.alloc (.cells #[.pointer p] 47)) 3 (.int .i64 lo)).alloc (.cells zeroC 43)
    rw [World.size_alloc] at this; exact hW0 ▸ this
  have x6 : BoxC w0 (w.heap.size + 1 + 1) none 0 0 0 0 0 none 0 0 := by
    have := BoxC.new ((w.alloc (.cells #[.pointer p] 47)).alloc (.cells #[.int .i64 lo] 3)) none 0 0 0 0 0 none 0 0
    rw [World.size_alloc, World.size_alloc] at this; exact hW0 ▸ this
  have HW0 := Lib.hid hW0
  have HS := Lib.hid (size_any w0 p L (h.below B0))
  have hg : L = [] ∨ Good L := by obtain ⟨T, _, _, _, hg⟩ := h; exact hg
  clear hW0 h
  rcases hx with ⟨rfl, rfl⟩ | ⟨hL, hb, rfl⟩
  · clear hg
    have tt : Tr.total [] = 0 := rfl
    rw [tt] at HS
    clear tt
    go_enter Tryd.func27, Tryd.ntmps27
    go_upto_region 1 with (fail)
    change Code.wp _ _ _ _ (World.alloc (World.alloc (World.alloc w (.cells #[.pointer p] 47)) (.cells #[.int .i64 lo] 3)) (.cells zeroC 43))
    rw [HW0.out]
    have c3 := x3.cell
    go_wp2_with (first
      | (go_at_call 67; refine HS.out.mono ?_; rintro e w1 ⟨rfl, b1⟩)
      | (refine wpList_store_row rfl 43 (.tmp 6) (.tmp 18) rfl (w.heap.size + 1 + 1) zeroC rfl rfl 43 zeroC (x6.next b1).row szClaim rfl (claim_one none 0 0 0 0 0 none 0 0) ?_))
    exact bodyPost_ret (v := .tuple #[claimV none 0 0 0 0 0 none 0 0, .int .i64 1]) (results_claim rfl _ _ (w.heap.size + 1 + 1) none 0 0 0 0 0 none 0 0 _ rfl rfl ⟨setRow_heap _ _ _ _ _ _ (x6.next b1).row⟩) rfl ⟨rfl, below_setRow (Below.on B0 b1) (by omega) _⟩
  · have g := hg.resolve_left hL
    have t1 : 1 ≤ Tr.total L := total_pos g.2.1 g.1
    generalize Tr.total L = T at *
    have ne : (T == 0) = false := by simp; omega
    clear hg g hL
    by_cases h1 : lo < 0
    · clear hb
      go_enter Tryd.func27, Tryd.ntmps27
      go_upto_region 1 with (fail)
      change Code.wp _ _ _ _ (World.alloc (World.alloc (World.alloc w (.cells #[.pointer p] 47)) (.cells #[.int .i64 lo] 3)) (.cells zeroC 43))
      rw [HW0.out]
      have c3 := x3.cell
      have l4 := x4.lt
      go_wp2_with (first
        | (go_at_call 67; refine HS.out.mono ?_; rintro e w1 ⟨rfl, b1⟩; have c4 := cell_kept b1 x4.cell)
        | (refine wpList_store_row rfl 43 (.tmp 6) (.tmp 32) rfl (w.heap.size + 1 + 1) zeroC rfl rfl 43 zeroC (x6.next b1).row szClaim rfl (claim_one none 0 0 0 0 0 none 0 0) ?_))
      exact bodyPost_ret (v := .tuple #[claimV none 0 0 0 0 0 none 0 0, .int .i64 3]) (results_claim rfl _ _ (w.heap.size + 1 + 1) none 0 0 0 0 0 none 0 0 _ rfl rfl ⟨setRow_heap _ _ _ _ _ _ (x6.next b1).row⟩) rfl ⟨rfl, below_setRow (Below.on B0 b1) (by omega) _⟩
    by_cases h2 : hi ≤ lo
    · clear hb
      go_enter Tryd.func27, Tryd.ntmps27
      go_upto_region 1 with (fail)
      change Code.wp _ _ _ _ (World.alloc (World.alloc (World.alloc w (.cells #[.pointer p] 47)) (.cells #[.int .i64 lo] 3)) (.cells zeroC 43))
      rw [HW0.out]
      have c3 := x3.cell
      have l4 := x4.lt
      go_wp2_with (first
        | (go_at_call 67; refine HS.out.mono ?_; rintro e w1 ⟨rfl, b1⟩; have c4 := cell_kept b1 x4.cell)
        | (refine wpList_store_row rfl 43 (.tmp 6) (.tmp 32) rfl (w.heap.size + 1 + 1) zeroC rfl rfl 43 zeroC (x6.next b1).row szClaim rfl (claim_one none 0 0 0 0 0 none 0 0) ?_))
      exact bodyPost_ret (v := .tuple #[claimV none 0 0 0 0 0 none 0 0, .int .i64 3]) (results_claim rfl _ _ (w.heap.size + 1 + 1) none 0 0 0 0 0 none 0 0 _ rfl rfl ⟨setRow_heap _ _ _ _ _ _ (x6.next b1).row⟩) rfl ⟨rfl, below_setRow (Below.on B0 b1) (by omega) _⟩
    · have h3 : T < hi := by omega
      clear hb
      go_enter Tryd.func27, Tryd.ntmps27
      go_upto_region 1 with (fail)
      change Code.wp _ _ _ _ (World.alloc (World.alloc (World.alloc w (.cells #[.pointer p] 47)) (.cells #[.int .i64 lo] 3)) (.cells zeroC 43))
      rw [HW0.out]
      have c3 := x3.cell
      have l4 := x4.lt
      go_wp2_with (first
        | (go_at_call 67; refine HS.out.mono ?_; rintro e w1 ⟨rfl, b1⟩; have c4 := cell_kept b1 x4.cell)
        | (refine wpList_store_row rfl 43 (.tmp 6) (.tmp 32) rfl (w.heap.size + 1 + 1) zeroC rfl rfl 43 zeroC (x6.next b1).row szClaim rfl (claim_one none 0 0 0 0 0 none 0 0) ?_))
      exact bodyPost_ret (v := .tuple #[claimV none 0 0 0 0 0 none 0 0, .int .i64 3]) (results_claim rfl _ _ (w.heap.size + 1 + 1) none 0 0 0 0 0 none 0 0 _ rfl rfl ⟨setRow_heap _ _ _ _ _ _ (x6.next b1).row⟩) rfl ⟨rfl, below_setRow (Below.on B0 b1) (by omega) _⟩
theorem fromM_lt {lo : Int} {R : List Rn} (h : ∃ x ∈ R, lo < x.hi) : fromM lo R < R.length := by
  induction R with
  | nil => obtain ⟨x, hx, _⟩ := h; cases hx
  | cons y R ih =>
    simp only [fromM, List.length_cons]
    split
    · omega
    · obtain ⟨x, hx, hl⟩ := h
      rcases List.mem_cons.1 hx with rfl | hx
      · omega
      · have := ih ⟨x, hx, hl⟩; omega
theorem lay_last {L : List (Int × Int)} (h : L ≠ []) : ∀ k, ∃ x ∈ lay k L, x.hi = k + Tr.total L := by
  induction L with
  | nil => exact absurd rfl h
  | cons y L ih =>
    intro k
    by_cases hL : L = []
    · subst hL; exact ⟨_, List.mem_cons_self, by rw [Tr.total_cons, Tr.total_nil]; simp⟩
    · obtain ⟨x, hx, e⟩ := ih hL (k + y.1)
      exact ⟨x, List.mem_cons_of_mem _ hx, by rw [Tr.total_cons, e]; omega⟩
theorem from_lay {L : List (Int × Int)} (g : Good L) {lo : Int} (h : lo < Tr.total L) : fromM lo (lay 0 L) < (lay 0 L).length :=
  let ⟨x, hx, e⟩ := lay_last g.1 0
  fromM_lt ⟨x, hx, by omega⟩
theorem elemR : Tryd.prog.underlying 41 = some (.slice (Tryd.prog.elem 41)) := by kernel_rfl
theorem sizeR (W : World) : (sizeOf (Tryd.prog.elem 41)).run Tryd.prog W = .ok 3 W := by kernel_rfl
/-- Where the runs from number i on lie. -/
def cutR (A : Option Addr) (c i : Nat) : Option Addr := if c = i then A else A.map (·.add (i * 3))
theorem rs_mid (A : Option Addr) (n c : Nat) (i j : Nat) (h1 : i ≤ j) (h2 : j ≤ c) (W : World) : (Instr.slice 41 (.slice A n c) (some (.int .i64 i)) (some (.int .i64 j)) none).run Tryd.prog W = .ok (.slice (cutR A c i) (j - i) (c - i)) W := by
  rw [run_slice_lh W _ A n c elemR .i64 .i64 i j (by omega) (by omega) (by omega), sizeR]; rfl
theorem Runs.cutR {w : World} {A : Option Addr} {L : List Rn} (h : Runs w A L) (k c : Nat) (hc : L.length ≤ c) : Runs w (cutR A c k) (L.drop k) := by
  cases A with
  | none =>
    rcases h with h | ⟨a, e, _⟩
    · exact .inl (by rw [h]; simp)
    · cases e
  | some a =>
    have := h.cut k c hc
    unfold Go.Proofs.YtcocengpekndjaaDoor.cutR
    split <;> rename_i e <;> simpa [e] using this
/-- What Range returns if the range is one of the map's. -/
def RangePost (w : World) (R : List Rn) (T : Int) (f t : Nat) (e : Ending) (w' : World) : Prop :=
  ∃ A m c PA pn pc, e = .returned (.tuple #[claimV A m c f R.length T PA pn pc, .int .i64 0]) ∧ OwnRuns w' w.heap.size (.slice A m c) ((R.drop f).take (t - f)) ∧ OwnHs w' w.heap.size (.slice PA pn pc) (visitM sha (R.map lvM) f t) ∧ Below w.heap.size w w'
theorem BoxC.set4 {W : World} {b : Nat} {A : Option Addr} {n c : Nat} {first count size : Int} {PA : Option Addr} {pn pc : Nat} (h : BoxC W b A n c first count size PA pn pc) (QA : Option Addr) (qn qc : Nat) :
    BoxC (W.setCell ⟨b, 4, none⟩ (.slice QA qn qc)) b A n c first count size QA qn qc := by
  refine ⟨?_⟩
  have := h.row
  simp [World.setCell, Array.getElem?_modify, this]
theorem BoxC.frozen {W : World} {b : Nat} {A : Option Addr} {n c : Nat} {first count size : Int} {PA : Option Addr} {pn pc : Nat} (h : BoxC W b A n c first count size PA pn pc) (i : Nat) : W.frozen? ⟨b, i, none⟩ = false := by
  have := h.row; simp [World.frozen?, this]
theorem OwnRuns.but {w w' : World} {base g : Nat} {v : Value} {L : List Rn} (h : OwnRuns w base v L) (hg : g < base ∨ w.heap.size ≤ g) (hB : But g w w') : OwnRuns w' base v L := by
  obtain ⟨h1, h2⟩ := h
  refine ⟨h1, ?_⟩
  rcases h2 with h2 | ⟨q, cap, cur, e, hq, hh, r⟩
  · exact .inl h2
  · have := (Array.getElem?_eq_some_iff.1 hh).1
    exact .inr ⟨q, cap, cur, e, hq, (hB.2.2.2.2 q this (by omega)).trans hh, r⟩
theorem OwnHs.but {w w' : World} {base g : Nat} {v : Value} {l : List Bs} (h : OwnHs w base v l) (hg : g < base ∨ w.heap.size ≤ g) (hB : But g w w') : OwnHs w' base v l := by
  obtain ⟨h0, h1, h2⟩ := h
  refine ⟨h0, h1, ?_⟩
  rcases h2 with h2 | ⟨q, cap, cur, e, hq, hh, r⟩
  · exact .inl h2
  · have := (Array.getElem?_eq_some_iff.1 hh).1
    exact .inr ⟨q, cap, cur, e, hq, (hB.2.2.2.2 q this (by omega)).trans hh, r⟩
theorem But.from_below {g : Nat} {w w1 w2 : World} (h : Below w.heap.size w w1) (k : But g w1 w2) : But g w w2 := (But.of h).trans k
theorem cntM_drop (hi : Int) (R : List Rn) (k : Nat) (h : k < R.length) : cntM hi (R.drop k) = if R[k].lo < hi then cntM hi (R.drop (k + 1)) + 1 else 0 := by
  rw [List.drop_eq_getElem_cons h]; rfl
set_option maxRecDepth 100000 in
set_option maxHeartbeats 4000000 in
theorem range_yes (w : World) (p : Option Addr) (L : List (Int × Int)) (lo hi : Int) (h : Rep w p L) (g : Good L) (h0 : 0 ≤ lo) (h1 : lo < hi) (h2 : hi ≤ Tr.total L) (hk : Kon w) :
    Calls Tryd.prog 27 #[.agg #[.pointer p], .int .i64 lo, .int .i64 hi] w (RangePost w (lay 0 L) (Tr.total L) (fromM lo (lay 0 L)) (toM lo hi (lay 0 L))) := by
  obtain ⟨w0, hW0⟩ : ∃ w0, World.alloc (World.alloc (World.alloc w (.cells #[.pointer p] 47)) (.cells #[.int .i64 lo] 3)) (.cells zeroC 43) = w0 := ⟨_, rfl⟩
  have B0 : Below w.heap.size w w0 := hW0 ▸ Below.on (Below.on (Below.new1 _ _) (Below.new1 _ _)) (Below.new1 _ _)
  have x3 : Boxed w0 w.heap.size 47 (.pointer p) := hW0 ▸ ((Boxed.new w _ _).alloc _).alloc _
  have x4 : Boxed w0 (w.heap.size + 1) 3 (.int .i64 lo) := by
    have := (Boxed.new (w.alloc (.cells #[.pointer p] 47)) 3 (.int .i64 lo)).alloc (.cells zeroC 43)
    rw [World.size_alloc] at this; exact hW0 ▸ this
  have x6 : BoxC w0 (w.heap.size + 1 + 1) none 0 0 0 0 0 none 0 0 := by
    have := BoxC.new ((w.alloc (.cells #[.pointer p] 47)).alloc (.cells #[.int .i64 lo] 3)) none 0 0 0 0 0 none 0 0
    rw [World.size_alloc, World.size_alloc] at this; exact hW0 ▸ this
  have HW0 := Lib.hid hW0
  have HS := Lib.hid (size_any w0 p L (h.below B0))
  have hall := fun (W : World) (hW : Below w.heap.size w W) => all_any W p L (h.below hW)
  have hfl := from_lay g (lo := lo) (by omega)
  have htl := toM_le (hi := hi) hfl
  have hfit := fit_lay (.inr g)
  have hlen : (lay 0 L).length ≤ 4096 := by rw [lay_length]; have := g.2.2.2.2; omega
  have t1 : 1 ≤ Tr.total L := total_pos g.2.1 g.1
  have t2 : Tr.total L ≤ 1099511627776 := g.2.2.2.1
  obtain ⟨f, hf⟩ : ∃ f, fromM lo (lay 0 L) = f := ⟨_, rfl⟩
  obtain ⟨t, ht⟩ : ∃ t, toM lo hi (lay 0 L) = t := ⟨_, rfl⟩
  have htc : f + 1 + cntM hi ((lay 0 L).drop (f + 1)) = t := by rw [← ht, ← hf]; rfl
  rw [ht] at htl
  rw [hf] at hfl
  rw [hf, ht]
  generalize lay 0 L = R at *
  generalize Tr.total L = T at *
  have hft : f + 1 ≤ t := by omega
  have ne : (T == 0) = false := by simp; omega
  obtain ⟨n, hn⟩ : ∃ n, R.length = n := ⟨_, rfl⟩
  rw [hn] at hfl htl hlen
  have HALL := Lib.hid hall
  have HF := Lib.hid hf
  have HTC := Lib.hid htc
  have HFIT := Lib.hid hfit
  have HK := Lib.hid hk
  have HN := Lib.hid hn
  clear hW0 h hall hf ht htc hfit hk hn g
  go_enter Tryd.func27, Tryd.ntmps27
  go_upto_region 1 with (fail)
  change Code.wp _ _ _ _ (World.alloc (World.alloc (World.alloc w (.cells #[.pointer p] 47)) (.cells #[.int .i64 lo] 3)) (.cells zeroC 43))
  rw [HW0.out]
  have c3 := x3.cell
  have l4 := x4.lt
  go_upto_region 6 with (go_at_call 67; refine HS.out.mono ?_; rintro e w1 ⟨rfl, b1⟩; have c4 := cell_kept b1 x4.cell; have c3' := cell_kept b1 c3)
  have B1 := Below.on B0 b1
  go_upto_region 7 with (go_at_call 70; refine (HALL.out _ B1).mono ?_; rintro e w2 ⟨v, rfl, hO, b2⟩; obtain ⟨A, c, rfl, hc, hR⟩ := hO.runs; have c4' := cell_kept b2 c4)
  rw [HN.out] at hc ⊢
  have B2 := Below.on B1 b2
  have l4' : w.heap.size + 1 < w2.heap.size := by have := b1.size; have := b2.size; omega
  go_wp2_with (go_at_call 71; refine (indexFunc_any R A n c (w.heap.size + 1) lo w2 HN.out hc (by omega) hR c4' l4' (by rw [HF.out]; exact hfl)).mono ?_; rw [HF.out]; rintro e w3 ⟨rfl, b3⟩)
  have B3 := Below.on B2 b3
  have hR3 := hR.below b3
  have hne : A ≠ none := by
    rintro rfl
    rcases hR with e | ⟨a, e, _⟩
    · have := HN.out; rw [e] at this; simp at this; omega
    · cases e
  obtain ⟨a, rfl⟩ := Option.ne_none_iff_exists'.1 hne
  have x6' := (((x6.next b1).next b2).next b3)
  clear c4' l4' c3 c3' c4 hne hR x3 x4 hO x6
  go_loop [11] (fun i => ∃ k : Nat, f + 1 ≤ k ∧ k ≤ t ∧ i = .int .i64 k ∧ k + cntM hi (R.drop k) = t) (fun i => t - (intOf i).toNat)
  case atStart => exact ⟨f + 1, Nat.le_refl _, hft, rfl, HTC.out⟩
  case round =>
    obtain ⟨k, hk1, hk2, rfl, hs⟩ := hrel
    have HSK := Lib.hid hs
    clear hs
    have key : (k < n ∧ k < t) ∨ (k < n ∧ k = t) ∨ (k = n ∧ k = t) := by omega
    have k0 : (0 : Int) ≤ (k : Int) := by omega
    by_cases hlt : k < n ∧ k < t
    · obtain ⟨hlt, hkt⟩ := hlt
      have hkL : k < R.length := by have := HN.out; omega
      obtain ⟨hab, g0, g1, g2⟩ := hR3.at_ hkL
      have e := cntM_drop hi R k hkL
      have hs := HSK.out
      rw [e] at hs
      have hX : R[k].lo < hi ∧ k + 1 + cntM hi (R.drop (k + 1)) = t := by
        split at hs
        · exact ⟨by assumption, by omega⟩
        · omega
      generalize R[k] = X at *
      obtain ⟨hX1, hX2⟩ := hX
      have HX2 := Lib.hid hX2
      have k1 : (k : Int) < (n : Int) := by omega
      clear hs e hX2 key
      go_wp2_with (fail)
      exact ⟨⟨k + 1, by omega, by omega, by go_num, HX2.out⟩, by simp [intOf]; omega⟩
    · obtain rfl : k = t := by omega
      have exits : ((k : Int) < (n : Int) ∧ ∃ y : Int, w3.cell? (a.add (k * 3)) = some (.int .i64 y) ∧ ¬ y < hi) ∨ ¬ ((k : Int) < (n : Int)) := by
        by_cases hkn : k < n
        · have hkL : k < R.length := by have := HN.out; omega
          obtain ⟨hab, g0, g1, g2⟩ := hR3.at_ hkL
          have e := cntM_drop hi R k hkL
          have hs := HSK.out
          refine .inl ⟨by omega, _, g0, fun hc => ?_⟩
          rw [e, if_pos hc] at hs
          omega
        · exact .inr (by omega)
      have sl := fun W => rs_mid (some a) n c f k (by omega) (by omega) W
      have hcut := ((hR3.cutR f c (by have := HN.out; omega)).take (k - f))
      have hcl : ((R.drop f).take (k - f)).length = k - f := by rw [List.length_take, List.length_drop, HN.out]; omega
      obtain ⟨A2, hA2⟩ : ∃ A2, cutR (some a) c f = A2 := ⟨_, rfl⟩
      rw [hA2] at sl hcut
      obtain ⟨m, hm⟩ : ∃ m, k - f = m := ⟨_, rfl⟩
      have HCL := Lib.hid (clone_any ((R.drop f).take (k - f)) A2 m (c - f) w3 (by rw [hcl, hm]) (by omega) (by omega) (by omega) hcut)
      rw [hm] at sl
      have HM := Lib.hid hm
      have HLL := Lib.hid (hcl.trans hm)
      have m0 : f + m = k := by omega
      clear hcl hcut hA2 HSK key hm
      have hvl := visitM_length (R.map lvM).length (R.map lvM) f k (Nat.le_refl _)
      rw [List.length_map, HN.out] at hvl
      have HVL := Lib.hid (show (visitM sha (R.map lvM) f k).length ≤ 1000000 by omega)
      obtain ⟨W4, hW4⟩ : ∃ W4 : World → World, W4 = fun w4 => w4.alloc (.cells #[.slice none 0 0, .int .i64 0, .int .i64 0, .int .i64 0, .slice none 0 0] 43) := ⟨_, rfl⟩
      clear hvl hW4 W4
      rcases exits with ⟨k1, y, g0, hy⟩ | k1
      all_goals
        go_upto_region 12 with (go_at_call 73; refine HCL.out.mono ?_; rintro e w4 ⟨v, rfl, hO4, b4⟩; obtain ⟨A4, c4, rfl, hc4, hR4⟩ := hO4.runs; rw [HLL.out] at hc4 hO4 ⊢)
        change Code.wp _ _ _ _ (World.alloc w4 (.cells #[.slice A4 m c4, .int .i64 (f : Int), .int .i64 (n : Int), .int .i64 T, .slice none 0 0] 43))
        have B4 := Below.on B3 b4
        have x7 := BoxC.new w4 A4 m c4 f n T none 0 0
        have bw5 := Below.new1 w4 (.cells #[.slice A4 m c4, .int .i64 (f : Int), .int .i64 (n : Int), .int .i64 T, .slice none 0 0] 43)
        obtain ⟨w5, hW5⟩ : ∃ w5, World.alloc w4 (.cells #[.slice A4 m c4, .int .i64 (f : Int), .int .i64 (n : Int), .int .i64 T, .slice none 0 0] 43) = w5 := ⟨_, rfl⟩
        rw [hW5] at x7 bw5 ⊢
        have B5 := Below.on B4 bw5
        have hR5 := (hR3.below b4).below bw5
        have x65 := (x6'.next b4).next bw5
        have o5 := hO4.next bw5
        have l45 := x7.lt
        clear hW5 hR4
        have lx := x6'.lt
        have H6 := Lib.hid (hashes_any R (some a) n c w5 HN.out hR5 HFIT.out (by omega) hc (HK.out.next B5))
        go_upto_region 13 with (first
          | (go_at_call 64; refine H6.out.mono ?_; rintro e w6 ⟨v, rfl, hO6, b6⟩; obtain ⟨A6, c6, rfl, hc6, hs6⟩ := hO6.toHs; rw [List.length_map, HN.out] at hc6 ⊢)
          | (go_at_call 75; refine (outer_any A6 n c6 (f : Int) (k : Int) w6).mono ?_; rintro e w7 ⟨rfl, hw7⟩
             have B7 : Below w6.heap.size w6 w7 := hw7 ▸ Below.on (Below.on (Below.new1 _ _) (Below.new1 _ _)) (Below.new1 _ _)
             have l7 : w7.heap.size = w6.heap.size + 1 + 1 + 1 := by rw [hw7]; simp [World.size_alloc]
             have y0 : Boxed w7 w6.heap.size 35 (.slice A6 n c6) := hw7 ▸ ((Boxed.new w6 _ _).alloc _).alloc _
             have y1 : Boxed w7 (w6.heap.size + 1) 3 (.int .i64 (f : Int)) := by
               have := (Boxed.new (w6.alloc (.cells #[.slice A6 n c6] 35)) 3 (.int .i64 (f : Int))).alloc (.cells #[.int .i64 (k : Int)] 3)
               rw [World.size_alloc] at this; exact hw7 ▸ this
             have y2 : Boxed w7 (w6.heap.size + 1 + 1) 3 (.int .i64 (k : Int)) := by
               have := Boxed.new ((w6.alloc (.cells #[.slice A6 n c6] 35)).alloc (.cells #[.int .i64 (f : Int)] 3)) 3 (.int .i64 (k : Int))
               rw [World.size_alloc, World.size_alloc] at this; exact hw7 ▸ this
             clear hw7)
          | (go_at_call 74
             refine (collect_any w6.heap.size (w6.heap.size + 1) (w6.heap.size + 1 + 1) (R.map lvM) A6 n c6 (f : Int) (k : Int) w7 y0.cell y1.cell y2.cell (by omega) (by omega) (by omega) (by rw [List.length_map]; exact HN.out.symm) (by omega) hc6 (by omega) (by omega) (by omega) (by omega) (hs6.next B7) (((HK.out.next B5).next b6).next B7) HVL.out).mono ?_
             rintro e w8 ⟨v, rfl, hO8, b8⟩
             obtain ⟨A8, c8, rfl⟩ := hO8.sliced
             have x78 := ((x7.next b6).next B7).next b8
             have cc := x78.c4
             have cf := x78.frozen 4))
        have g9 := (But.refl w4.heap.size w8).setCell 4 (.slice A8 (visitM sha (R.map lvM) f k).length c8)
        have x79 := x78.set4 A8 (visitM sha (R.map lvM) f k).length c8
        have s4 := b4.size
        have s5 := bw5.size
        have s6 := b6.size
        have s7 := B7.size
        have s8 := b8.size
        have s3 := B3.size
        have x69 := ((((x65.next b6).next B7).next b8)).but (by omega) g9
        have o9 := hO4.but (.inr (Nat.le_refl _)) (((But.of bw5).on (b6.mono s5)).on (B7.mono (by omega)) |>.on (b8.mono (by omega)) |>.setCell 4 (.slice A8 (visitM sha (R.map lvM) f k).length c8))
        have q9 := hO8.but (.inl (by omega)) g9
        have B8 := Below.on (Below.on (Below.on B5 b6) B7) b8
        have B9 := But.below B8 g9 (by omega) (by omega)
        obtain ⟨w9, hW9⟩ : ∃ w9, World.setCell w8 ⟨w4.heap.size, 4, none⟩ (.slice A8 (visitM sha (R.map lvM) f k).length c8) = w9 := ⟨_, rfl⟩
        rw [hW9] at x79 x69 o9 q9 B9
        clear x78 cc cf x7 x65 y0 y1 y2 hs6 hO6 x6' g9 hO4 hO8 o5 hR5 hR3 H6
        change Code.wp _ _ _ _ (World.setCell w8 ⟨w4.heap.size, 4, none⟩ (.slice A8 (visitM sha (R.map lvM) f k).length c8))
        rw [hW9]
        go_wp2_with (first
          | (refine wpList_load_row rfl 43 (.tmp 12) rfl w4.heap.size rfl 43 #[.slice A4 m c4, .int .i64 f, .int .i64 n, .int .i64 T, .slice A8 (visitM sha (R.map lvM) f k).length c8] (0, 0) (.struct (Tryd.prog.fieldsOf 43)) x79.row (by kernel_rfl) rfl szClaim ?_)
          | (refine wpList_store_row rfl 43 (.tmp 6) (.tmp 72) rfl (w.heap.size + 1 + 1) #[.slice A4 m c4, .int .i64 f, .int .i64 n, .int .i64 T, .slice A8 (visitM sha (R.map lvM) f k).length c8] rfl rfl 43 zeroC x69.row szClaim rfl (claim_one A4 m c4 f n T A8 (visitM sha (R.map lvM) f k).length c8) ?_))
        have g10 := But.row w9 (w.heap.size + 1 + 1) #[.slice A4 m c4, .int .i64 f, .int .i64 n, .int .i64 T, .slice A8 (visitM sha (R.map lvM) f k).length c8]
        have n9 := HN.out
        have m9 := HM.out
        refine bodyPost_ret (v := .tuple #[claimV A4 m c4 f n T A8 (visitM sha (R.map lvM) f k).length c8, .int .i64 0]) (results_claim rfl _ _ (w.heap.size + 1 + 1) A4 m c4 f n T A8 (visitM sha (R.map lvM) f k).length c8 _ rfl rfl ⟨setRow_heap _ _ _ _ _ _ x69.row⟩) rfl ?_
        exact ⟨A4, m, c4, A8, _, c8, by rw [n9], (o9.but (.inl (by omega)) g10).mono (by omega), (q9.but (.inl (by omega)) g10).mono (by omega), below_setRow B9 (by omega) _⟩
end
section
theorem eight_mod (n : Int) : n % 18446744073709551616 = n / 72057594037927936 % 256 * 72057594037927936 + n / 281474976710656 % 256 * 281474976710656 + n / 1099511627776 % 256 * 1099511627776 + n / 4294967296 % 256 * 4294967296 + n / 16777216 % 256 * 16777216 + n / 65536 % 256 * 65536 + n / 256 % 256 * 256 + n % 256 := by omega
theorem eightM_inj {a b : Int} (ha : 0 ≤ a) (ha' : a < 9223372036854775808) (hb : 0 ≤ b) (hb' : b < 9223372036854775808) (h : eightM a = eightM b) : a = b := by
  have h2 := congrArg (List.map fun x : UInt8 => (x.toNat : Int)) h
  simp only [eightM, List.map_cons, List.map_nil, byte_of, List.cons.injEq, and_true] at h2
  obtain ⟨h0, h1, h2, h3, h4, h5, h6, h7⟩ := h2
  have ea := eight_mod a
  have eb := eight_mod b
  rw [Int.emod_eq_of_lt ha (by omega)] at ea
  rw [Int.emod_eq_of_lt hb (by omega)] at eb
  simp only [show (2 : Int) ^ 56 = 72057594037927936 from rfl, show (2 : Int) ^ 48 = 281474976710656 from rfl, show (2 : Int) ^ 40 = 1099511627776 from rfl, show (2 : Int) ^ 32 = 4294967296 from rfl, show (2 : Int) ^ 24 = 16777216 from rfl, show (2 : Int) ^ 16 = 65536 from rfl, show (2 : Int) ^ 8 = 256 from rfl] at h0 h1 h2 h3 h4 h5 h6 h7
  rw [ea, eb, h0, h1, h2, h3, h4, h5, h6, h7]
theorem textM_inj {x y : Rn} (hx : Fit x) (hy : Fit y) (h : textM x = textM y) : x = y := by
  obtain ⟨x0, x1, x2, x3, x4, x5⟩ := hx
  obtain ⟨y0, y1, y2, y3, y4, y5⟩ := hy
  unfold textM at h
  obtain ⟨h, h3⟩ := List.append_inj h (by simp [eightM_length])
  obtain ⟨h1, h2⟩ := List.append_inj h (by simp [eightM_length])
  have e1 := eightM_inj x0 x1 y0 y1 h1
  have e2 := eightM_inj x2 x3 y2 y3 h2
  have h4 := congrArg (List.map fun x : UInt8 => (x.toNat : Int)) h3
  simp only [List.map_cons, List.map_nil, byte_of, List.cons.injEq, and_true] at h4
  obtain ⟨a, b, c⟩ := x
  obtain ⟨a', b', c'⟩ := y
  simp only at *
  have e3 : c = c' := by omega
  subst e1 e2 e3; rfl
/-- What is hashed for a map hash; the strings whose hashes the map hash of a map involves. -/
def sealT (size count : Int) (h : Bs) : Bs := 2 :: (eightM size ++ eightM count ++ h)
def mapT (T : Int) (R : List Rn) : List Bs := treeT sha (R.map textM) ++ [sealT T R.length (treeM sha (R.map textM))]
theorem map_text (R : List Rn) : (R.map textM).map (leafM sha) = R.map lvM := by rw [List.map_map]; rfl
theorem tree_text (R : List Rn) : treeM sha (R.map textM) = topM sha (R.map lvM) := by unfold treeM; rw [map_text]
/-- A claim that leads to the map hash of a map states its runs, and has its outer hashes. -/
theorem map_inj {R X : List Rn} {T index count size : Int} {path : List Bs} {h : Bs} {u : Nat} (hR : ∀ x ∈ R, Fit x) (hX : ∀ x ∈ X, Fit x) (h1 : 1 ≤ R.length) (hR2 : R.length ≤ 5000) (hXn : X ≠ []) (hp : H32 path)
    (hT : 0 ≤ T ∧ T < 9223372036854775808) (hs : 0 ≤ size ∧ size < 9223372036854775808) (hc : 1 ≤ count ∧ count < 9223372036854775808)
    (hf : foldM sha count.toNat index (X.map lvM) path = some (h, u)) (he : sealM size count h = sealM T R.length (topM sha (R.map lvM)))
    (hn : ¬ ClashL sha (mapT T R ++ foldT sha count.toNat index (X.map textM) path ++ [sealT size count h])) :
    size = T ∧ count = R.length ∧ (∀ p : Nat, p < R.length → index ≤ p → (p : Int) < index + X.length → X[((p : Int) - index).toNat]? = R[p]?) ∧ path.take u = visitM sha (R.map lvM) index (index + X.length) := by
  have hl : h.length = 32 := foldM_length sha sha_length _ _ _ _ _ (Nat.le_refl _) (fun x hx => h32_map X x hx) hp _ _ hf
  have e := clash_eq hn (a := sealT size count h) (b := sealT T R.length (topM sha (R.map lvM))) (by simp) (by rw [← tree_text]; simp [mapT]) he
  unfold sealT at e
  simp only [List.cons.injEq, true_and] at e
  obtain ⟨e, e3⟩ := List.append_inj e (by simp [eightM_length])
  obtain ⟨e1, e2⟩ := List.append_inj e (by simp [eightM_length])
  have z1 := eightM_inj hs.1 hs.2 hT.1 hT.2 e1
  have z2 := eightM_inj (by omega) hc.2 (by omega) (by omega) e2
  subst z1 z2 e3
  rw [Int.toNat_natCast] at hf hn
  have hl2 : (R.map textM).length = R.length := List.length_map _
  have hxl : (X.map textM).length = X.length := List.length_map _
  rw [← map_text X, ← tree_text, ← hl2] at hf
  have key := fold_inj sha sha_length (R.map textM).length (R.map textM) index (X.map textM) path u (Nat.le_refl _) (by rw [hl2]; exact h1) (by simpa using hXn) hp hf (fun hh => hn (hh.mono fun x hx => by
    rw [hl2] at hx
    rcases List.mem_append.1 hx with hx | hx
    · simp [mapT, hx]
    · simp [hx]))
  rw [map_text] at key
  refine ⟨rfl, rfl, fun p q0 q1 q2 => ?_, by rw [hxl] at key; exact key.2⟩
  have k := key.1 p (by rw [hl2]; exact q0) q1 (by rw [hxl]; exact q2)
  have hlt : ((p : Int) - index).toNat < X.length := by omega
  rw [List.getElem?_map, List.getElem?_map, List.getElem?_eq_getElem hlt, List.getElem?_eq_getElem q0] at k
  simp only [Option.map_some, Option.some.injEq] at k
  rw [List.getElem?_eq_getElem hlt, List.getElem?_eq_getElem q0]
  rw [textM_inj (hX _ (List.getElem_mem hlt)) (hR _ (List.getElem_mem q0)) k]
/-- The runs of a map are in their order. -/
theorem lay_sorted {L : List (Int × Int)} (h : Tr.OkL L) : ∀ (k : Int) (i j : Nat) (hi : i < (lay k L).length) (hj : j < (lay k L).length), i < j → (lay k L)[i].hi ≤ (lay k L)[j].lo := by
  induction L with
  | nil => intro k i j hi; simp [lay] at hi
  | cons y L ih =>
    intro k i j hi hj hij
    have h' := Tr.OkL.cons.1 h
    match i, j, hij with
    | 0, j + 1, _ =>
      have : ∀ (L : List (Int × Int)) (k : Int), Tr.OkL L → ∀ x ∈ lay k L, k ≤ x.lo := by
        intro L
        induction L with
        | nil => intro k _ x hx; cases hx
        | cons z L ih2 =>
          intro k hz x hx
          have hz' := Tr.OkL.cons.1 hz
          rcases List.mem_cons.1 hx with rfl | hx
          · exact Int.le_refl _
          · have := ih2 (k + z.1) hz'.2 x hx; omega
      exact this L (k + y.1) h'.2 _ (List.getElem_mem _)
    | i + 1, j + 1, hij => exact ih h'.2 (k + y.1) i j _ _ (by omega)
/-- Sorted runs, none of them empty. -/
def Srt (R : List Rn) : Prop := (∀ x ∈ R, x.lo < x.hi) ∧ ∀ (i j : Nat) (hi : i < R.length) (hj : j < R.length), i < j → R[i].hi ≤ R[j].lo
theorem Srt.tail {x : Rn} {R : List Rn} (h : Srt (x :: R)) : Srt R := ⟨fun y hy => h.1 y (List.mem_cons_of_mem _ hy), fun i j hi hj hij => h.2 (i + 1) (j + 1) (by simpa using hi) (by simpa using hj) (by omega)⟩
theorem fromM_at {R : List Rn} (h : Srt R) {lo : Int} {i : Nat} (hi : i < R.length) (h1 : R[i].lo ≤ lo) (h2 : lo < R[i].hi) : fromM lo R = i := by
  induction R generalizing i with
  | nil => simp at hi
  | cons x R ih =>
    cases i with
    | zero => simp only [List.getElem_cons_zero] at h2; simp only [fromM]; rw [if_pos h2]
    | succ i =>
      have := h.2 0 (i + 1) (by simp) hi (by omega)
      simp only [List.getElem_cons_succ, List.getElem_cons_zero] at this h1 h2
      simp only [fromM]
      rw [if_neg (by omega), ih h.tail (by simpa using hi) h1 h2]
theorem cntM_at {R : List Rn} (h : Srt R) {hi : Int} {i : Nat} (hil : i < R.length) (h1 : R[i].lo < hi) (h2 : hi ≤ R[i].hi) : cntM hi R = i + 1 := by
  induction R generalizing i with
  | nil => simp at hil
  | cons x R ih =>
    cases i with
    | zero =>
      simp only [List.getElem_cons_zero] at h1 h2
      simp only [cntM]
      rw [if_pos h1]
      cases R with
      | nil => rfl
      | cons y R =>
        have := h.2 0 1 (by simp) (by simp) (by omega)
        simp only [List.getElem_cons_succ, List.getElem_cons_zero] at this
        simp only [cntM]
        rw [if_neg (by omega)]
    | succ i =>
      have := h.2 0 (i + 1) (by simp) hil (by omega)
      have e := h.1 x (by simp)
      simp only [List.getElem_cons_succ, List.getElem_cons_zero] at this h1 h2
      simp only [cntM]
      rw [if_pos (by omega), ih h.tail (by simpa using hil) h1 h2]
theorem Srt.drop {R : List Rn} (h : Srt R) (k : Nat) : Srt (R.drop k) := by
  refine ⟨fun y hy => h.1 y (List.mem_of_mem_drop hy), fun i j hi hj hij => ?_⟩
  rw [List.length_drop] at hi hj
  rw [List.getElem_drop, List.getElem_drop]
  exact h.2 _ _ (by omega) (by omega) (by omega)
theorem toM_at {R : List Rn} (h : Srt R) {lo hi : Int} {i j : Nat} (hj : j < R.length) (hij : i ≤ j) (hf : fromM lo R = i) (h1 : R[j].lo < hi) (h2 : hi ≤ R[j].hi) : toM lo hi R = j + 1 := by
  unfold toM
  rw [hf]
  by_cases e : i = j
  · subst e
    by_cases hl : i + 1 < R.length
    · have := h.2 i (i + 1) hj hl (by omega)
      rw [cntM_drop hi R (i + 1) hl, if_neg (by omega)]
    · rw [List.drop_eq_nil_of_le (by omega)]; rfl
  · rw [cntM_at (h.drop (i + 1)) (i := j - (i + 1)) (by rw [List.length_drop]; omega) (by rw [List.getElem_drop]; simp only [show i + 1 + (j - (i + 1)) = j from by omega]; exact h1) (by rw [List.getElem_drop]; simp only [show i + 1 + (j - (i + 1)) = j from by omega]; exact h2)]
    omega
theorem lay_srt {L : List (Int × Int)} (h : Tr.OkL L) (k : Int) : Srt (lay k L) := by
  refine ⟨?_, fun i j hi hj hij => lay_sorted h k i j hi hj hij⟩
  induction L generalizing k with
  | nil => intro x hx; cases hx
  | cons y L ih =>
    intro x hx
    have h' := Tr.OkL.cons.1 h
    rcases List.mem_cons.1 hx with rfl | hx
    · simp only; omega
    · exact ih h'.2 _ x hx
end
section
open Go.RowKit
abbrev zeroS : Array Value := #[.int .i64 0, .int .i64 0, .int .i64 0, .int .i64 0, .int .i64 0, .int .i64 0, .slice none 0 0]
abbrev cellsS (X : Rn) (index count size : Int) (PA : Option Addr) (pn pc : Nat) : Array Value := #[.int .i64 X.lo, .int .i64 X.hi, .int .i64 X.tag, .int .i64 index, .int .i64 count, .int .i64 size, .slice PA pn pc]
theorem szState : (Tryd.prog.info? 37).map (·.size) = some 7 := by kernel_rfl
theorem state_one (X : Rn) (index count size : Int) (PA : Option Addr) (pn pc : Nat) : (cellsS X index count size PA pn pc).all (·.oneCell') = true := by simp [Value.oneCell']
theorem results_state {fn : Func} {p q : Tmp} (hf : fn.results = #[.cell p 37, .tmp q]) (tmps : Array Value) (w : World) (g : Nat) (X : Rn) (index count size : Int) (PA : Option Addr) (pn pc : Nat) (v : Value)
    (hp : tmps.getD p undef = .pointer (some ⟨g, 0, none⟩)) (hq : tmps.getD q undef = v) (hg : w.heap[g]? = some (.cells (cellsS X index count size PA pn pc) 37 (0, 0))) : (results fn tmps).run Tryd.prog w = .ok (.tuple #[claim1V X index count size PA pn pc, v]) w := by
  exact results_row2 hf tmps w g 37 _ (0, 0) (.struct (Tryd.prog.fieldsOf 37)) v hp hq hg (by kernel_rfl) rfl szState
set_option maxRecDepth 100000 in
set_option maxHeartbeats 2000000 in
theorem state_bad (w : World) (p : Option Addr) (L : List (Int × Int)) (at_ : Int) (x : Int) (h : Rep w p L) (hx : (L = [] ∧ x = 1) ∨ (L ≠ [] ∧ (at_ < 0 ∨ Tr.total L ≤ at_) ∧ x = 3)) (ha : -9223372036854775808 ≤ at_ ∧ at_ ≤ 9223372036854775807) :
    Calls Tryd.prog 26 #[.agg #[.pointer p], .int .i64 at_] w fun e w' => e = .returned (.tuple #[claim1V ⟨0, 0, 0⟩ 0 0 0 none 0 0, .int .i64 x]) ∧ Below w.heap.size w w' := by
  obtain ⟨w0, hW0⟩ : ∃ w0, World.alloc (World.alloc w (.cells #[.pointer p] 47)) (.cells zeroS 37) = w0 := ⟨_, rfl⟩
  have B0 : Below w.heap.size w w0 := hW0 ▸ Below.on (Below.new1 _ _) (Below.new1 _ _)
  have x2 : Boxed w0 w.heap.size 47 (.pointer p) := hW0 ▸ (Boxed.new w _ _).alloc _
  have x4 : w0.heap[w.heap.size + 1]? = some (.cells zeroS 37 (0, 0)) := by
    have := heap_alloc_new (w.alloc (.cells #[.pointer p] 47)) (.cells zeroS 37)
    rw [World.size_alloc] at this; exact hW0 ▸ this
  have l4 : w.heap.size + 1 < w0.heap.size := (Array.getElem?_eq_some_iff.1 x4).1
  have HW0 := Lib.hid hW0
  have hx' : (L = [] ∧ x = 1) ∨ (L ≠ [] ∧ (at_ < 0 ∨ wrap64 (at_ + 1) ≤ at_ ∨ Tr.total L < wrap64 (at_ + 1)) ∧ x = 3) := by
    rcases hx with h | ⟨h1, h2, h3⟩
    · exact .inl h
    · refine .inr ⟨h1, ?_, h3⟩
      by_cases hm : at_ = 9223372036854775807
      · subst hm; exact .inr (.inl (by unfold wrap64; decide))
      · rw [IntWalk.wrap64_in _ (by omega)]; omega
  have HR := Lib.hid (range_bad w0 p L at_ (wrap64 (at_ + 1)) x (h.below B0) hx')
  have hxx : x = 1 ∨ x = 3 := by rcases hx with ⟨_, h⟩ | ⟨_, _, h⟩; exact .inl h; exact .inr h
  have KX := Lib.hid hx
  clear hW0 h hx hx'
  have c2 := x2.cell
  rcases hxx with rfl | rfl
  all_goals
    go_enter Tryd.func26, Tryd.ntmps26
    go_upto_region 1 with (fail)
    change Code.wp _ _ _ _ (World.alloc (World.alloc w (.cells #[.pointer p] 47)) (.cells zeroS 37))
    rw [HW0.out]
    go_wp2_with (first
      | (go_at_call 27; refine HR.out.mono ?_; rintro e w1 ⟨rfl, b1⟩)
      | (refine wpList_store_row rfl 37 (.tmp 4) (.tmp 18) rfl (w.heap.size + 1) zeroS rfl rfl 37 zeroS (((Below.new1 w1 _).block _ (by have := b1.size; omega)).trans ((b1.block _ l4).trans x4)) szState rfl (state_one ⟨0, 0, 0⟩ 0 0 0 none 0 0) ?_))
    refine bodyPost_ret (results_state rfl _ _ (w.heap.size + 1) ⟨0, 0, 0⟩ 0 0 0 none 0 0 _ rfl rfl (setRow_heap _ _ _ _ _ _ (((Below.new1 w1 _).block _ (by have := b1.size; omega)).trans ((b1.block _ l4).trans x4)))) rfl ?_
    exact ⟨rfl, below_setRow (Below.on (Below.on B0 b1) (Below.new1 w1 _)) (by omega) _⟩
/-- What State returns if the map has the piece. -/
def StatePost (w : World) (R : List Rn) (T : Int) (X : Rn) (f t : Nat) (e : Ending) (w' : World) : Prop :=
  ∃ PA pn pc, e = .returned (.tuple #[claim1V X f R.length T PA pn pc, .int .i64 0]) ∧ OwnHs w' w.heap.size (.slice PA pn pc) (visitM sha (R.map lvM) f t) ∧ Below w.heap.size w w'
theorem toM_lt (lo hi : Int) (R : List Rn) : fromM lo R < toM lo hi R := by unfold toM; omega
theorem cut_first {R : List Rn} {f t : Nat} {X : Rn} (h : R[f]? = some X) (hft : f < t) : ∃ l, (R.drop f).take (t - f) = X :: l := by
  obtain ⟨hf, rfl⟩ := List.getElem?_eq_some_iff.1 h
  obtain ⟨k, hk⟩ : ∃ k, t - f = k + 1 := ⟨t - f - 1, by omega⟩
  rw [List.drop_eq_getElem_cons hf, hk, List.take_succ_cons]
  exact ⟨_, rfl⟩
set_option maxRecDepth 100000 in
set_option maxHeartbeats 2000000 in
theorem state_yes (w : World) (p : Option Addr) (L : List (Int × Int)) (at_ : Int) (h : Rep w p L) (g : Good L) (h0 : 0 ≤ at_) (h2 : at_ < Tr.total L) (hk : Kon w) (X : Rn) (hX : (lay 0 L)[fromM at_ (lay 0 L)]? = some X) :
    Calls Tryd.prog 26 #[.agg #[.pointer p], .int .i64 at_] w (StatePost w (lay 0 L) (Tr.total L) X (fromM at_ (lay 0 L)) (toM at_ (at_ + 1) (lay 0 L))) := by
  obtain ⟨w0, hW0⟩ : ∃ w0, World.alloc (World.alloc w (.cells #[.pointer p] 47)) (.cells zeroS 37) = w0 := ⟨_, rfl⟩
  have B0 : Below w.heap.size w w0 := hW0 ▸ Below.on (Below.new1 _ _) (Below.new1 _ _)
  have x2 : Boxed w0 w.heap.size 47 (.pointer p) := hW0 ▸ (Boxed.new w _ _).alloc _
  have x4 : w0.heap[w.heap.size + 1]? = some (.cells zeroS 37 (0, 0)) := by
    have := heap_alloc_new (w.alloc (.cells #[.pointer p] 47)) (.cells zeroS 37)
    rw [World.size_alloc] at this; exact hW0 ▸ this
  have l4 : w.heap.size + 1 < w0.heap.size := (Array.getElem?_eq_some_iff.1 x4).1
  have HW0 := Lib.hid hW0
  have t2 : Tr.total L ≤ 1099511627776 := g.2.2.2.1
  have HR := Lib.hid (range_yes w0 p L at_ (at_ + 1) (h.below B0) g h0 (by omega) (by omega) (hk.next B0))
  have hft := toM_lt at_ (at_ + 1) (lay 0 L)
  obtain ⟨f, hf⟩ : ∃ f, fromM at_ (lay 0 L) = f := ⟨_, rfl⟩
  obtain ⟨t, ht⟩ : ∃ t, toM at_ (at_ + 1) (lay 0 L) = t := ⟨_, rfl⟩
  rw [hf, ht] at HR hft ⊢
  rw [hf] at hX
  generalize lay 0 L = R at *
  generalize Tr.total L = T at *
  obtain ⟨l, hl⟩ := cut_first hX hft
  obtain ⟨n, hn⟩ : ∃ n, R.length = n := ⟨_, rfl⟩
  have HL := Lib.hid hl
  have HN := Lib.hid hn
  have c2 := x2.cell
  clear hW0 h hX hf ht hl g hk hn
  go_enter Tryd.func26, Tryd.ntmps26
  go_upto_region 1 with (fail)
  change Code.wp _ _ _ _ (World.alloc (World.alloc w (.cells #[.pointer p] 47)) (.cells zeroS 37))
  rw [HW0.out]
  go_upto_region 4 with (go_at_call 27; refine HR.out.mono ?_; rintro e w1 ⟨A, m, c, PA, pn, pc, rfl, hO, hP, b1⟩)
  rw [HN.out]
  rw [HL.out] at hO
  obtain ⟨w2, hW2⟩ : ∃ w2, World.alloc w1 (.cells #[.slice A m c, .int .i64 f, .int .i64 n, .int .i64 T, .slice PA pn pc] 43) = w2 := ⟨_, rfl⟩
  have x7 : BoxC w2 w1.heap.size A m c f n T PA pn pc := hW2 ▸ BoxC.new w1 A m c f n T PA pn pc
  have b2 : Below w1.heap.size w1 w2 := hW2 ▸ Below.new1 _ _
  change Code.wp _ _ _ _ (World.alloc w1 (.cells #[.slice A m c, .int .i64 (f : Int), .int .i64 (n : Int), .int .i64 T, .slice PA pn pc] 43))
  rw [hW2]
  obtain ⟨A', c', hv, hc', hR'⟩ := hO.runs
  obtain ⟨rfl, hm, rfl⟩ : A = A' ∧ m = (X :: l).length ∧ c = c' := by cases hv; exact ⟨rfl, rfl, rfl⟩
  have hm1 : 0 < m := by rw [hm]; simp
  obtain ⟨a, rfl⟩ : ∃ a, A = some a := by
    rcases hR' with e | ⟨a, e, _⟩
    · cases e
    · exact ⟨a, e⟩
  obtain ⟨hab, g0, g1, g2⟩ := (hR'.below b2).at_ (i := 0) (by simp)
  rw [show a.add (0 * 3) = a from by simp [Addr.add]] at g0 g1 g2
  simp only [List.getElem_cons_zero] at g0 g1 g2
  have c7 := x7.c0
  have c8 := x7.c1
  have c9 := x7.c2
  have c10 := x7.c3
  have c11 := x7.c4
  have lx := x7.lt
  have x4' := (b2.block _ (by have := b1.size; omega)).trans ((b1.block _ l4).trans x4)
  have HP := Lib.hid (hP.next b2)
  have B2 := Below.on (Below.on B0 b1) b2
  clear hW2 hO hR' hP hc' hv hm
  go_still_tail 13, (by kernel_rfl)
  change wpList _ _ _ _ _ w2.drew
  have Dd : Below w2.heap.size w2 w2.drew := Below.drawn w2 1 _
  replace x4' := (Dd.block _ (by have := b1.size; have := b2.size; omega)).trans x4'
  replace HP := Lib.hid (HP.out.next Dd)
  replace B2 := Below.on B2 Dd
  clear c7 c8 c9 c10 c11 g0 g1 g2 hab x7
  generalize w2.drew = wd at *
  go_wp2_with (refine wpList_store_row rfl 37 (.tmp 4) (.tmp 32) rfl (w.heap.size + 1) (cellsS X f n T PA pn pc) rfl rfl 37 zeroS x4' szState rfl (state_one X f n T PA pn pc) ?_)
  have g10 := But.row wd (w.heap.size + 1) (cellsS X f n T PA pn pc)
  refine bodyPost_ret (results_state rfl _ _ (w.heap.size + 1) X f n T PA pn pc _ rfl rfl (setRow_heap _ _ _ _ _ _ x4')) rfl ?_
  exact ⟨PA, pn, pc, by rw [HN.out]; rfl, (HP.out.but (.inl l4) g10).mono (by have := B0.size; omega), below_setRow B2 (by omega) _⟩
end
section
theorem lay_chain {L : List (Int × Int)} (hn : Norm L) : ∀ (k : Int) (i : Nat) (hi : i + 1 < (lay k L).length), (lay k L)[i + 1].lo = (lay k L)[i].hi ∧ (lay k L)[i + 1].tag ≠ (lay k L)[i].tag := by
  induction L with
  | nil => intro k i hi; simp [lay] at hi
  | cons y L ih =>
    intro k i hi
    cases L with
    | nil => simp [lay] at hi
    | cons z L =>
      cases i with
      | zero => exact ⟨rfl, fun h => hn.1 z rfl h.symm⟩
      | succ i => exact ih hn.2 (k + y.1) i (by simpa [lay] using hi)
theorem lay_zero {L : List (Int × Int)} (k : Int) (h : 0 < (lay k L).length) : (lay k L)[0].lo = k := by
  cases L with
  | nil => simp [lay] at h
  | cons y L => rfl
theorem lay_end {L : List (Int × Int)} : ∀ (k : Int) (i : Nat) (h : i < (lay k L).length), i + 1 = (lay k L).length → (lay k L)[i].hi = k + Tr.total L := by
  induction L with
  | nil => intro k i h; simp [lay] at h
  | cons y L ih =>
    intro k i h e
    rw [Tr.total_cons]
    cases i with
    | zero =>
      cases L with
      | nil => rw [Tr.total_nil]; simp [lay]
      | cons z L => simp [lay] at e
    | succ i =>
      have := ih (k + y.1) i (by simpa [lay] using h) (by simpa [lay] using e)
      show ((lay (k + y.1) L)[i]'(by simpa [lay] using h)).hi = _
      rw [this]; omega
theorem fromM_spec {lo : Int} {R : List Rn} (h : fromM lo R < R.length) : lo < R[fromM lo R].hi ∧ ∀ j (hj : j < R.length), j < fromM lo R → R[j].hi ≤ lo := by
  induction R with
  | nil => simp at h
  | cons x R ih =>
    by_cases c : lo < x.hi
    · have e : fromM lo (x :: R) = 0 := by simp only [fromM]; rw [if_pos c]
      simp only [e]
      exact ⟨c, fun j _ h => by omega⟩
    · have e : fromM lo (x :: R) = fromM lo R + 1 := by simp only [fromM]; rw [if_neg c]
      have h' : fromM lo R < R.length := by rw [e] at h; simpa using h
      obtain ⟨a, b⟩ := ih h'
      simp only [e]
      refine ⟨a, fun j hj hlt => ?_⟩
      cases j with
      | zero => simp only [List.getElem_cons_zero]; omega
      | succ j => exact b j (by simpa using hj) (by omega)
theorem cntM_spec (hi : Int) (R : List Rn) : (∀ j (hj : j < R.length), j < cntM hi R → R[j].lo < hi) ∧ ∀ (h : cntM hi R < R.length), hi ≤ R[cntM hi R].lo := by
  induction R with
  | nil => exact ⟨fun j hj => by simp at hj, fun h => by simp at h⟩
  | cons x R ih =>
    by_cases c : x.lo < hi
    · have e : cntM hi (x :: R) = cntM hi R + 1 := by simp only [cntM]; rw [if_pos c]
      simp only [e]
      refine ⟨fun j hj hlt => ?_, fun h => ih.2 (by simpa using h)⟩
      cases j with
      | zero => exact c
      | succ j => exact ih.1 j (by simpa using hj) (by omega)
    · have e : cntM hi (x :: R) = 0 := by simp only [cntM]; rw [if_neg c]
      simp only [e]
      exact ⟨fun j _ h => by omega, fun _ => by simp only [List.getElem_cons_zero]; omega⟩
/-- The runs of a range are sound. -/
theorem own_sound {L : List (Int × Int)} (g : Good L) {lo hi : Int} (h0 : 0 ≤ lo) (h1 : lo < hi) (h2 : hi ≤ Tr.total L) {R : List Rn} (hR : lay 0 L = R) :
    Sound lo hi ((R.drop (fromM lo R)).take (toM lo hi R - fromM lo R)) (fromM lo R) R.length (Tr.total L) := by
  have srt := lay_srt g.2.1 0
  have chn : ∀ (i : Nat) (hi : i + 1 < R.length), R[i + 1].lo = R[i].hi ∧ R[i + 1].tag ≠ R[i].tag := by subst hR; exact lay_chain g.2.2.1 0
  have hz : ∀ h : 0 < R.length, R[0].lo = 0 := by subst hR; exact fun h => lay_zero (L := L) 0 h
  have he : ∀ (i : Nat) (h : i < R.length), i + 1 = R.length → R[i].hi = 0 + Tr.total L := by subst hR; exact fun i h e => lay_end (L := L) 0 i h e
  have hfl := from_lay g (lo := lo) (by omega)
  have hlen : R.length = L.length := by rw [← hR]; exact lay_length 0 L
  have hN : (L.length : Int) ≤ 4096 := g.2.2.2.2
  have hok := okL_lay g.2.1 0 (Int.le_refl _)
  rw [hR] at srt hfl hok
  obtain ⟨f1, f2⟩ := fromM_spec hfl
  have htl := toM_le (hi := hi) hfl
  have hft := toM_lt lo hi R
  obtain ⟨f, hf⟩ : ∃ f, fromM lo R = f := ⟨_, rfl⟩
  have ht : toM lo hi R = f + 1 + cntM hi (R.drop (f + 1)) := by rw [← hf]; rfl
  obtain ⟨c1, c2⟩ := cntM_spec hi (R.drop (f + 1))
  obtain ⟨t, htt⟩ : ∃ t, toM lo hi R = t := ⟨_, rfl⟩
  rw [htt] at ht htl hft ⊢
  simp only [hf] at f1 f2 hfl hft ⊢
  have hlt : ((R.drop f).take (t - f)).length = t - f := by rw [List.length_take, List.length_drop]; omega
  have hget : ∀ i (h : i < ((R.drop f).take (t - f)).length), ((R.drop f).take (t - f))[i] = R[f + i]'(by rw [hlt] at h; omega) := fun i h => by
    rw [List.getElem_take, List.getElem_drop]
  have flo : R[f].lo ≤ lo := by
    cases f with
    | zero => have := hz hfl; omega
    | succ f =>
      have a := f2 f (by omega) (by omega)
      have b := (chn f hfl).1
      omega
  have f3 : f = 0 ∨ 0 < R[f].lo := by
    cases f with
    | zero => exact .inl rfl
    | succ f =>
      have b := (chn f hfl).1
      have c := hok _ (List.getElem_mem (show f < R.length by omega))
      right; omega
  have z1 : R[t - 1].lo < hi := by
    by_cases e : t = f + 1
    · subst e; simp only [Nat.add_sub_cancel]; omega
    · have := c1 (t - 1 - (f + 1)) (by rw [List.length_drop]; omega) (by omega)
      rw [List.getElem_drop] at this
      simpa only [show f + 1 + (t - 1 - (f + 1)) = t - 1 from by omega] using this
  have z2 : hi ≤ R[t - 1].hi ∧ (R[t - 1].hi = Tr.total L ↔ t = R.length) := by
    by_cases e : t = R.length
    · have := he (t - 1) (by omega) (by omega)
      omega
    · have hh : t < R.length := by omega
      have a := (chn (t - 1) (by omega)).1
      simp only [show t - 1 + 1 = t from by omega] at a
      have b := c2 (by rw [List.length_drop]; omega)
      rw [List.getElem_drop] at b
      simp only [← ht] at b
      have c := hok _ (List.getElem_mem hh)
      omega
  have hth := hok _ (List.getElem_mem (show t - 1 < R.length by omega))
  refine ⟨?_, ?_, fun hne => ?_⟩
  · rw [hlt]
    have := g.2.2.2.1
    exact ⟨h0, h1, h2, this, by omega, by omega, by omega, by omega, by omega⟩
  · intro i hi _
    rw [hget i hi]
    have hi' := hi
    rw [hlt] at hi'
    have o := hok _ (List.getElem_mem (show f + i < R.length by omega))
    refine ⟨o.2.1, o.2.2.2.1, o.2.2.2.2, fun y hy => ?_⟩
    unfold prevR at hy
    split at hy
    · cases hy
    · rw [List.getElem?_eq_getElem (by omega), Option.some.injEq, hget _ (by omega)] at hy
      subst hy
      have := chn (f + (i - 1)) (by omega)
      simp only [show f + (i - 1) + 1 = f + i from by omega] at this
      exact this
  · have hh : ((R.drop f).take (t - f)).head hne = R[f] := by rw [List.head_eq_getElem, hget]; rfl
    have hl : ((R.drop f).take (t - f)).getLast hne = R[t - 1] := by
      rw [List.getLast_eq_getElem, hget]
      simp only [hlt, show f + (t - f - 1) = t - 1 from by omega]
    rw [hh, hl, hlt]
    have hf0 := hok _ (List.getElem_mem hfl)
    have f4 : f = 0 → R[f].lo = 0 := by intro e; subst e; exact hz hfl
    exact ⟨by omega, by omega, by omega⟩
/-- What is accepted, by the reference's way. -/
theorem acceptM_fold {root : Bs} {lo hi : Int} {R : List Rn} {first count size : Int} {path : List Bs} (hs : Sound lo hi R first count size) : acceptM root lo hi R first count size path =
    (match foldM sha count.toNat first (R.map lvM) path with | some (h, u) => (sealM size count h == root) && decide (u = path.length) | none => false) := by
  unfold acceptM
  rw [soundB_yes hs, Bool.true_and]
  have hc : 0 < count.toNat := by have := hs.1; unfold Head at this; omega
  have hn : R.map lvM ≠ [] := by
    have := hs.1.2.2.2.2.1
    intro h; rw [List.map_eq_nil_iff] at h; rw [h] at this; exact this rfl
  have := rebuild_fold sha count.toNat count.toNat first (R.map lvM) path (Nat.le_refl _) hc hn
  cases e : foldM sha count.toNat first (R.map lvM) path with
  | none =>
    rw [e] at this
    simp only at this ⊢
    rw [this]
    simp [doneM]
  | some r =>
    obtain ⟨h, u⟩ := r
    rw [e] at this
    simp only at this ⊢
    rw [this.1]
    congr 1
    simp only [doneM, Bool.not_false, Bool.true_and]
    by_cases hu : u = path.length
    · rw [decide_eq_true hu, hu]; simp
    · rw [decide_eq_false hu]
      have : path.drop u ≠ [] := fun h => by
        have := congrArg List.length h
        simp at this; omega
      cases hd : path.drop u with
      | nil => exact absurd hd this
      | cons x l => rfl
theorem acceptM_unsound {root : Bs} {lo hi : Int} {R : List Rn} {first count size : Int} {path : List Bs} (hs : ¬ Sound lo hi R first count size) : acceptM root lo hi R first count size path = false := by
  unfold acceptM; rw [soundB_no hs, Bool.false_and]
/-- The runs of a range, and the outer hashes, lead to the root. -/
theorem own_fold {R : List Rn} {f t : Nat} (hft : f < t) (htl : t ≤ R.length) (rest : List Bs) :
    foldM sha R.length f (((R.drop f).take (t - f)).map lvM) (visitM sha (R.map lvM) f t ++ rest) = some (topM sha (R.map lvM), (visitM sha (R.map lvM) f t).length) := by
  have hl : (((R.drop f).take (t - f)).map lvM).length = t - f := by rw [List.length_map, List.length_take, List.length_drop]; omega
  have := fold_visit sha R.length (R.map lvM) f (((R.drop f).take (t - f)).map lvM) rest (by rw [List.length_map]; exact Nat.le_refl _) (by rw [List.length_map]; omega) (by intro h; rw [h] at hl; simp at hl; omega) (fun p h0 h1 h2 => by
    rw [hl] at h2
    rw [List.length_map] at h0
    rw [List.getElem?_map, List.getElem?_map, List.getElem?_take, if_pos (by omega), List.getElem?_drop]
    congr 2; omega)
  rw [hl, List.length_map, show ((f : Nat) : Int) + ((t - f : Nat) : Int) = (t : Int) from by omega] at this
  exact this
theorem own_accept {L : List (Int × Int)} (g : Good L) {lo hi : Int} (h0 : 0 ≤ lo) (h1 : lo < hi) (h2 : hi ≤ Tr.total L) {R : List Rn} (hR : lay 0 L = R) :
    acceptM (sealM (Tr.total L) R.length (topM sha (R.map lvM))) lo hi ((R.drop (fromM lo R)).take (toM lo hi R - fromM lo R)) (fromM lo R) R.length (Tr.total L) (visitM sha (R.map lvM) (fromM lo R) (toM lo hi R)) = true := by
  rw [acceptM_fold (own_sound g h0 h1 h2 hR)]
  have hfl := from_lay g (lo := lo) (by omega)
  rw [hR] at hfl
  have := own_fold (toM_lt lo hi R) (toM_le (hi := hi) hfl) []
  rw [List.append_nil] at this
  rw [Int.toNat_natCast, this]
  simp
/-- One piece lies in one run. -/
theorem toM_one {L : List (Int × Int)} (g : Good L) {at_ : Int} (h0 : 0 ≤ at_) (h2 : at_ < Tr.total L) {R : List Rn} (hR : lay 0 L = R) : toM at_ (at_ + 1) R = fromM at_ R + 1 := by
  have srt := lay_srt g.2.1 0
  have hfl := from_lay g (lo := at_) h2
  have hs := own_sound g h0 (show at_ < at_ + 1 by omega) (by omega) hR
  rw [hR] at srt hfl
  refine toM_at srt (i := fromM at_ R) (j := fromM at_ R) hfl (Nat.le_refl _) rfl ?_ (by have := (fromM_spec hfl).1; omega)
  have hne : (R.drop (fromM at_ R)).take (toM at_ (at_ + 1) R - fromM at_ R) ≠ [] := fun h => by
    have := hs.1.2.2.2.2.1
    rw [h] at this; exact this rfl
  have he := (hs.2.2 hne).1.2.1
  rw [List.head_eq_getElem, List.getElem_take, List.getElem_drop] at he
  simp only [Nat.add_zero] at he
  omega
end
end Go.Proofs.YtcocengpekndjaaDoor
