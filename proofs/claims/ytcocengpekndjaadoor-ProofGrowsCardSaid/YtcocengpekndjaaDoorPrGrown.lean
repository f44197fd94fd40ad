/- The reference's Pair, Grown, VerifyExtend; the program's both, VerifyExtend. -/
import Derived.Test.YtcocengpekndjaaDoorPrPair
namespace Go.Proofs.YtcocengpekndjaaDoor
open Go.RowKit
/-- What the reference's Grown returns. -/
def grownR (old : Bs) (m n : Nat) (whole : Bool) (path : List Bs) : Bs × Bs × Nat × Bool := match grownM sha old m n whole path with
  | some (a, b, u) => (a, b, u, true)
  | none => (old, old, 0, false)
abbrev grownV (R : Bs × Bs × Nat × Bool) : Value := .tuple #[hashV R.1, hashV R.2.1, .int .i64 (R.2.2.1 : Nat), .bool R.2.2.2]
theorem grownR_left {old : Bs} {m n : Nat} {whole : Bool} {path : List Bs} (h : 2 ≤ n) (h1 : m ≤ half n) {R : Bs × Bs × Nat × Bool} (hR : grownR old m (half n) whole path = R) :
    (R.2.2.2 = true → ∀ hu : R.2.2.1 < path.length, grownR old m n whole path = (R.1, joinM sha R.2.1 path[R.2.2.1], R.2.2.1 + 1, true)) ∧ (R.2.2.2 = false ∨ path.length ≤ R.2.2.1 → grownR old m n whole path = (old, old, 0, false)) := by
  subst hR
  unfold grownR
  rw [grownM_left sha h h1]
  cases e : grownM sha old m (half n) whole path with
  | none => exact ⟨fun h => by simp at h, fun _ => rfl⟩
  | some x =>
    obtain ⟨a, b, u⟩ := x
    refine ⟨fun _ hu => ?_, fun hh => ?_⟩
    · simp only at hu ⊢
      rw [List.getElem?_eq_getElem hu]
    · simp only at hh ⊢
      rw [List.getElem?_eq_none (by simpa using hh)]
theorem grownR_right {old : Bs} {m n : Nat} {whole : Bool} {path : List Bs} (h : 2 ≤ n) (h1 : ¬ m ≤ half n) (h2 : m ≠ n) {R : Bs × Bs × Nat × Bool} (hR : grownR old (m - half n) (n - half n) false path = R) :
    (R.2.2.2 = true → ∀ hu : R.2.2.1 < path.length, grownR old m n whole path = (joinM sha path[R.2.2.1] R.1, joinM sha path[R.2.2.1] R.2.1, R.2.2.1 + 1, true)) ∧ (R.2.2.2 = false ∨ path.length ≤ R.2.2.1 → grownR old m n whole path = (old, old, 0, false)) := by
  subst hR
  unfold grownR
  rw [grownM_right sha h h1 h2]
  cases e : grownM sha old (m - half n) (n - half n) false path with
  | none => exact ⟨fun h => by simp at h, fun _ => rfl⟩
  | some x =>
    obtain ⟨a, b, u⟩ := x
    refine ⟨fun _ hu => ?_, fun hh => ?_⟩
    · simp only at hu ⊢
      rw [List.getElem?_eq_getElem hu]
    · simp only at hh ⊢
      rw [List.getElem?_eq_none (by simpa using hh)]
theorem grownR_all {old : Bs} {m : Nat} {whole : Bool} {path : List Bs} : grownR old m m whole path = if whole then (old, old, 0, true) else match path with | [] => (old, old, 0, false) | x :: _ => (x, x, 1, true) := by
  unfold grownR
  rw [grownM_all sha rfl]
  cases whole <;> cases path <;> rfl
theorem grownR_32 {path : List Bs} (hp : H32 path) (k : Nat) : ∀ (old : Bs) (m n : Nat) (whole : Bool), n ≤ k → 1 ≤ m → m ≤ n → old.length = 32 → (grownR old m n whole path).1.length = 32 ∧ (grownR old m n whole path).2.1.length = 32 ∧ (grownR old m n whole path).2.2.1 ≤ path.length := by
  induction k with
  | zero => intro old m n whole h h0 h1; omega
  | succ k ih =>
    intro old m n whole h h0 h1 ho
    by_cases e : m = n
    · subst e
      rw [grownR_all]
      cases whole
      · cases path with
        | nil => simpa using ho
        | cons x path => have := hp x (by simp); simpa using this
      · simpa using ho
    · have n2 : 2 ≤ n := by omega
      have hr := half_range n2
      by_cases c : m ≤ half n
      · obtain ⟨i1, i2, i3⟩ := ih old m (half n) whole (by omega) h0 c ho
        obtain ⟨g1, g2⟩ := grownR_left (old := old) (whole := whole) (path := path) n2 c rfl
        by_cases hc : (grownR old m (half n) whole path).2.2.2 = false ∨ path.length ≤ (grownR old m (half n) whole path).2.2.1
        · rw [g2 hc]; exact ⟨ho, ho, Nat.zero_le _⟩
        · rw [g1 (by simp only [not_or, Bool.not_eq_false] at hc; exact hc.1) (by omega)]
          exact ⟨i1, sha_length _, by simp only; omega⟩
      · obtain ⟨i1, i2, i3⟩ := ih old (m - half n) (n - half n) false (by omega) (by omega) (by omega) ho
        obtain ⟨g1, g2⟩ := grownR_right (old := old) (whole := whole) (path := path) n2 c e rfl
        by_cases hc : (grownR old (m - half n) (n - half n) false path).2.2.2 = false ∨ path.length ≤ (grownR old (m - half n) (n - half n) false path).2.2.1
        · rw [g2 hc]; exact ⟨ho, ho, Nat.zero_le _⟩
        · rw [g1 (by simp only [not_or, Bool.not_eq_false] at hc; exact hc.1) (by omega)]
          exact ⟨sha_length _, sha_length _, by simp only; omega⟩
/-- What Grown does with lists of at most q strings. -/
def GrOk (q : Nat) : Prop := ∀ (old : Bs) (m n : Nat) (whole : Bool) (path : List Bs) (A : Option Addr) (k c : Nat) (w : World), n ≤ q → 1 ≤ m → m ≤ n → n ≤ 5000 → path.length = k → k ≤ c → k ≤ 5000 → old.length = 32 → Hs w A path →
    Calls Tryd.prog 81 #[wordsV, hashV old, .int .i64 m, .int .i64 n, .bool whole, .slice A k c] w fun e w' => e = .returned (grownV (grownR old m n whole path)) ∧ Below w.heap.size w w'
set_option maxRecDepth 100000 in
set_option maxHeartbeats 4000000 in
theorem gr_whole (old : Bs) (m : Nat) (path : List Bs) (A : Option Addr) (k c : Nat) (w : World) (_hm : m ≤ 5000) (ho : old.length = 32) (hs : Hs w A path) :
    Calls Tryd.prog 81 #[wordsV, hashV old, .int .i64 m, .int .i64 m, .bool true, .slice A k c] w fun e w' => e = .returned (grownV (grownR old m m true path)) ∧ Below w.heap.size w w' := by
  rw [grownR_all, if_pos rfl]
  obtain ⟨w0, hW0⟩ : ∃ w0, World.alloc (World.alloc (World.alloc (World.alloc w (.cells (ints .u32 wordsL) 27)) (.cells (cellsB old).toArray 30)) (.cells (ints .u8 (List.replicate 32 0)) 30)) (.cells (ints .u8 (List.replicate 32 0)) 30) = w0 := ⟨_, rfl⟩
  have B0 : Below w.heap.size w w0 := hW0 ▸ Below.on (Below.on (Below.on (Below.new1 _ _) (Below.new1 _ _)) (Below.new1 _ _)) (Below.new1 _ _)
  have y6 : BoxW w0 w.heap.size := hW0 ▸ (((BoxW.new w).next (Below.new1 _ _)).next (Below.new1 _ _)).next (Below.new1 _ _)
  have y7 : BoxH w0 (w.heap.size + 1) old := by
    have := ((BoxH.new (w.alloc (.cells (ints .u32 wordsL) 27)) old).next (Below.new1 _ (.cells (ints .u8 (List.replicate 32 0)) 30))).next (Below.new1 _ (.cells (ints .u8 (List.replicate 32 0)) 30))
    rw [World.size_alloc] at this; exact hW0 ▸ this
  have x12 : BoxA w0 (w.heap.size + 1 + 1) 30 .u8 (List.replicate 32 0) := by
    have := (BoxA.new ((w.alloc (.cells (ints .u32 wordsL) 27)).alloc (.cells (cellsB old).toArray 30)) 30 .u8 (List.replicate 32 0) _ rfl).next (Below.new1 _ (.cells (ints .u8 (List.replicate 32 0)) 30))
    rw [World.size_alloc, World.size_alloc] at this; exact hW0 ▸ this
  have x13 : BoxA w0 (w.heap.size + 1 + 1 + 1) 30 .u8 (List.replicate 32 0) := by
    have := BoxA.new (((w.alloc (.cells (ints .u32 wordsL) 27)).alloc (.cells (cellsB old).toArray 30)).alloc (.cells (ints .u8 (List.replicate 32 0)) 30)) 30 .u8 (List.replicate 32 0) _ rfl
    rw [World.size_alloc, World.size_alloc, World.size_alloc] at this; exact hW0 ▸ this
  have hs0 := hs.next B0
  have i0 := hs.inB
  have z0 : w.heap.size + 1 + 1 + 1 < w0.heap.size := x13.lt
  have G0 : GB w0 (w.heap.size + 1 + 1) (w.heap.size + 1 + 1 + 1) (fun _ => False) w0.drew := GB.next (d := fun _ => False) ⟨But2.refl _ _ _, ⟨_, x12, by simp⟩, ⟨_, x13, by simp⟩⟩ (Below.drawn w0 1 _)
  clear hs hs0 i0 y6 x12 x13
  have HO := Lib.hid hW0
  clear hW0
  go_enter Tryd.func81, Tryd.ntmps81
  go_upto_region 3 with (fail)
  change Code.wp _ _ _ _ (World.alloc (World.alloc (World.alloc (World.alloc w (.cells (ints .u32 wordsL) 27)) (.cells (cellsB old).toArray 30)) (.cells (ints .u8 (List.replicate 32 0)) 30)) (.cells (ints .u8 (List.replicate 32 0)) 30))
  rw [HO.out]
  clear HO
  refine wp_name fun a0 ha0 => ?_
  have e7 : a0.eval (.tmp 7) = .pointer (some ⟨(w.heap.size + 1), 0, none⟩) := by rw [ha0]; rfl
  have e12 : a0.eval (.tmp 12) = .pointer (some ⟨(w.heap.size + 1 + 1), 0, none⟩) := by rw [ha0]; rfl
  have e13 : a0.eval (.tmp 13) = .pointer (some ⟨(w.heap.size + 1 + 1 + 1), 0, none⟩) := by rw [ha0]; rfl
  have hz : a0.tmps.size = 120 := by rw [ha0]; rfl
  have HA0 := Lib.hid ha0
  clear ha0
  have SG : ∀ (d d' : Nat → Prop) (W W' : World), (GB w0 (w.heap.size + 1 + 1) (w.heap.size + 1 + 1 + 1)) d W → (∀ j, d j → d' j) → Below W.heap.size W W' → (GB w0 (w.heap.size + 1 + 1) (w.heap.size + 1 + 1 + 1)) d' W' := fun _ _ _ _ h _ b => GB.next h b
  refine wp_region_steps (Inv [29, 30, 14, 15] a0 (GB w0 (w.heap.size + 1 + 1) (w.heap.size + 1 + 1 + 1)) [(⟨some 0, 29, none, fun v _ => v = hashV old⟩ : Cl), ⟨some 1, 30, none, fun v _ => v = hashV old⟩, ⟨some 2, 12, none, fun _ W => BoxH W (w.heap.size + 1 + 1) old⟩, ⟨some 3, 13, none, fun _ W => BoxH W (w.heap.size + 1 + 1 + 1) old⟩, ⟨some 4, 14, none, fun v _ => v = .int .i64 0⟩, ⟨some 5, 15, none, fun v _ => v = .bool true⟩]) (by kernel_rfl) (by kernel_rfl) (Inv.start G0 ⟨nofun, nofun, nofun, nofun, nofun, nofun, trivial⟩) ?_ ?_
  · have St : ∀ xc ∈ [(⟨some 0, 29, none, fun v _ => v = hashV old⟩ : Cl), ⟨some 1, 30, none, fun v _ => v = hashV old⟩, ⟨some 2, 12, none, fun _ W => BoxH W (w.heap.size + 1 + 1) old⟩, ⟨some 3, 13, none, fun _ W => BoxH W (w.heap.size + 1 + 1 + 1) old⟩, ⟨some 4, 14, none, fun v _ => v = .int .i64 0⟩, ⟨some 5, 15, none, fun v _ => v = .bool true⟩], Lasts xc := AllC.mem ⟨lastsV0 _ _ _ _, lastsV0 _ _ _ _, lastsH _ _ _ _ _, lastsH _ _ _ _ _, lastsV0 _ _ _ _, lastsV0 _ _ _ _, trivial⟩
    clear HA0
    refine ⟨?_, ?_, ?_, ?_, ?_, ?_, trivial⟩
    · refine stepB rfl rfl (by decide) (by rw [hz]; decide) rfl rfl (by kernel_rfl) St SG fun d a W hF hG hH hn hcl hw => ?_
      have q7 := (hF.same 7 (by decide)).trans e7
      refine ⟨hashV old, W, ?_, Below.refl _ _, ?_⟩
      · exact exec_load rfl (by rw [q7]; exact BoxH.load_ (But2.box hG.1 y7 (by omega) (by omega)) ho)
      · rfl
    · refine stepB rfl rfl (by decide) (by rw [hz]; decide) rfl rfl (by kernel_rfl) St SG fun d a W hF hG hH hn hcl hw => ?_
      have q7 := (hF.same 7 (by decide)).trans e7
      refine ⟨hashV old, W, ?_, Below.refl _ _, ?_⟩
      · exact exec_load rfl (by rw [q7]; exact BoxH.load_ (But2.box hG.1 y7 (by omega) (by omega)) ho)
      · rfl
    · refine stepH (.tmp 12) (.tmp 29) rfl rfl rfl rfl (w.heap.size + 1 + 1) old ho (fun _ _ h => h) (AllC.mem ⟨.inr fun _ _ _ h => h, .inr fun _ _ _ h => h, .inl rfl, .inr fun _ _ _ h => BoxA.farRow h (by omega) _, .inr fun _ _ _ h => h, .inr fun _ _ _ h => h, trivial⟩) (fun d d' W h _ => GB.rowp h (by omega) _ ho) (fun d W h => h.2.1) fun d a W hF hG hH hn hcl hw => ?_
      have q12 := (hF.same 12 (by decide)).trans e12
      have q29 : a.eval (.tmp 29) = hashV old := hH.at_ (i := 0) rfl (hw 0 rfl) id
      exact ⟨q12, q29⟩
    · refine stepH (.tmp 13) (.tmp 30) rfl rfl rfl rfl (w.heap.size + 1 + 1 + 1) old ho (fun _ _ h => h) (AllC.mem ⟨.inr fun _ _ _ h => h, .inr fun _ _ _ h => h, .inr fun _ _ _ h => BoxA.farRow h (by omega) _, .inl rfl, .inr fun _ _ _ h => h, .inr fun _ _ _ h => h, trivial⟩) (fun d d' W h _ => GB.rowq h (by omega) _ ho) (fun d W h => h.2.2) fun d a W hF hG hH hn hcl hw => ?_
      have q13 := (hF.same 13 (by decide)).trans e13
      have q30 : a.eval (.tmp 30) = hashV old := hH.at_ (i := 1) rfl (hw 1 rfl) id
      exact ⟨q13, q30⟩
    · refine stepB rfl rfl (by decide) (by rw [hz]; decide) rfl rfl (by kernel_rfl) St SG fun d a W hF hG hH hn hcl hw => ?_
      have qc0 : a.eval (.const (.int .i64 0)) = .int .i64 0 := rfl
      refine ⟨.int .i64 0, W, ?_, Below.refl _ _, ?_⟩
      · clear hF hG hH hn hcl hw
        generalize a.eval = ρ at *
        go_simp
      · rfl
    · refine stepB rfl rfl (by decide) (by rw [hz]; decide) rfl rfl (by kernel_rfl) St SG fun d a W hF hG hH hn hcl hw => ?_
      have qk0 : a.eval (.const (.bool true)) = .bool true := rfl
      refine ⟨.bool true, W, ?_, Below.refl _ _, ?_⟩
      · clear hF hG hH hn hcl hw
        generalize a.eval = ρ at *
        go_simp
      · rfl
  · intro d a W ⟨hF, hB, hH⟩ hall
    have k14 : a.eval (.tmp 14) = .int .i64 0 := hH.at_ (i := 4) rfl (hall 4 (by decide)) id
    have k15 : a.eval (.tmp 15) = .bool true := hH.at_ (i := 5) rfl (hall 5 (by decide)) id
    have s2 : BoxH W (w.heap.size + 1 + 1) old := hH.at_ (i := 2) rfl (hall 2 (by decide)) id
    have s3 : BoxH W (w.heap.size + 1 + 1 + 1) old := hH.at_ (i := 3) rfl (hall 3 (by decide)) id
    clear hH hall
    rw [hF.shape (by rw [hz]; decide)]
    clear hF
    simp only [List.foldl]
    generalize a.eval (.tmp 29) = z29 at *
    generalize a.eval (.tmp 30) = z30 at *
    generalize a.eval (.tmp 14) = z14 at *
    generalize a.eval (.tmp 15) = z15 at *
    subst k14
    subst k15
    rw [HA0.out]
    simp only [Act.put, List.setIfInBounds_toArray, List.set_cons_zero, List.set_cons_succ]
    clear hz HA0 SG e7 e12 e13
    clear a a0
    go_wp2_with (fail)
    exact bodyPost_ret (v := .tuple #[hashV old, hashV old, .int .i64 0, .bool true]) (results_two rfl _ _ (w.heap.size + 1 + 1) (w.heap.size + 1 + 1 + 1) old old (.int .i64 0) (.bool true) rfl rfl rfl rfl s2 ho s3 ho) rfl ⟨rfl, But2.below hB.1 B0 (by omega) (by omega) (by omega)⟩
set_option maxRecDepth 100000 in
set_option maxHeartbeats 4000000 in
theorem gr_first (x : Bs) (old : Bs) (m : Nat) (path : List Bs) (A : Option Addr) (k c : Nat) (w : World) (_hm : m ≤ 5000) (hk : (x :: path).length = k) (hk5 : k ≤ 5000) (_ho : old.length = 32) (hs : Hs w A (x :: path)) :
    Calls Tryd.prog 81 #[wordsV, hashV old, .int .i64 m, .int .i64 m, .bool false, .slice A k c] w fun e w' => e = .returned (grownV (grownR old m m false (x :: path))) ∧ Below w.heap.size w w' := by
  have hx : x.length = 32 := hs.1 x (by simp)
  have hk0 : 0 < k := by rw [List.length_cons] at hk; omega
  have kn : ((k : Int) == 0) = false := by simp; omega
  rw [grownR_all, if_neg (by simp)]
  obtain ⟨ad, rfl⟩ : ∃ a, A = some a := by
    obtain ⟨_, h | ⟨a, e, _⟩⟩ := hs
    · cases h
    · exact ⟨a, e⟩
  obtain ⟨w0, hW0⟩ : ∃ w0, World.alloc (World.alloc (World.alloc (World.alloc w (.cells (ints .u32 wordsL) 27)) (.cells (cellsB old).toArray 30)) (.cells (ints .u8 (List.replicate 32 0)) 30)) (.cells (ints .u8 (List.replicate 32 0)) 30) = w0 := ⟨_, rfl⟩
  have B0 : Below w.heap.size w w0 := hW0 ▸ Below.on (Below.on (Below.on (Below.new1 _ _) (Below.new1 _ _)) (Below.new1 _ _)) (Below.new1 _ _)
  have y6 : BoxW w0 w.heap.size := hW0 ▸ (((BoxW.new w).next (Below.new1 _ _)).next (Below.new1 _ _)).next (Below.new1 _ _)
  have y7 : BoxH w0 (w.heap.size + 1) old := by
    have := ((BoxH.new (w.alloc (.cells (ints .u32 wordsL) 27)) old).next (Below.new1 _ (.cells (ints .u8 (List.replicate 32 0)) 30))).next (Below.new1 _ (.cells (ints .u8 (List.replicate 32 0)) 30))
    rw [World.size_alloc] at this; exact hW0 ▸ this
  have x12 : BoxA w0 (w.heap.size + 1 + 1) 30 .u8 (List.replicate 32 0) := by
    have := (BoxA.new ((w.alloc (.cells (ints .u32 wordsL) 27)).alloc (.cells (cellsB old).toArray 30)) 30 .u8 (List.replicate 32 0) _ rfl).next (Below.new1 _ (.cells (ints .u8 (List.replicate 32 0)) 30))
    rw [World.size_alloc, World.size_alloc] at this; exact hW0 ▸ this
  have x13 : BoxA w0 (w.heap.size + 1 + 1 + 1) 30 .u8 (List.replicate 32 0) := by
    have := BoxA.new (((w.alloc (.cells (ints .u32 wordsL) 27)).alloc (.cells (cellsB old).toArray 30)).alloc (.cells (ints .u8 (List.replicate 32 0)) 30)) 30 .u8 (List.replicate 32 0) _ rfl
    rw [World.size_alloc, World.size_alloc, World.size_alloc] at this; exact hW0 ▸ this
  have hs0 := hs.next B0
  have i0 := hs.inB
  have z0 : w.heap.size + 1 + 1 + 1 < w0.heap.size := x13.lt
  have G0 : GB w0 (w.heap.size + 1 + 1) (w.heap.size + 1 + 1 + 1) (fun _ => False) w0.drew := GB.next (d := fun _ => False) ⟨But2.refl _ _ _, ⟨_, x12, by simp⟩, ⟨_, x13, by simp⟩⟩ (Below.drawn w0 1 _)
  have hld : ∀ d W, (GB w0 (w.heap.size + 1 + 1) (w.heap.size + 1 + 1 + 1)) d W → (Instr.loadAt 30 (.pointer (some (ad.add (0 * 32))))).run Tryd.prog W = .ok (hashV x) W := fun d W hG => (hG.1.hs hs0 i0 (by omega) (by omega) (by omega)).load (i := 0) (by simp) _ 32 5 (by kernel_rfl) szHash
  clear hs hs0 i0 y6 y7 x12 x13 _ho hk
  have HO := Lib.hid hW0
  clear hW0
  go_enter Tryd.func81, Tryd.ntmps81
  go_upto_region 6 with (fail)
  change Code.wp _ _ _ _ (World.alloc (World.alloc (World.alloc (World.alloc w (.cells (ints .u32 wordsL) 27)) (.cells (cellsB old).toArray 30)) (.cells (ints .u8 (List.replicate 32 0)) 30)) (.cells (ints .u8 (List.replicate 32 0)) 30))
  rw [HO.out]
  clear HO
  refine wp_name fun a0 ha0 => ?_
  have e5 : a0.eval (.tmp 5) = .slice (some ad) k c := by rw [ha0]; rfl
  have e12 : a0.eval (.tmp 12) = .pointer (some ⟨(w.heap.size + 1 + 1), 0, none⟩) := by rw [ha0]; rfl
  have e13 : a0.eval (.tmp 13) = .pointer (some ⟨(w.heap.size + 1 + 1 + 1), 0, none⟩) := by rw [ha0]; rfl
  have hz : a0.tmps.size = 120 := by rw [ha0]; rfl
  have HA0 := Lib.hid ha0
  clear ha0
  have SG : ∀ (d d' : Nat → Prop) (W W' : World), (GB w0 (w.heap.size + 1 + 1) (w.heap.size + 1 + 1 + 1)) d W → (∀ j, d j → d' j) → Below W.heap.size W W' → (GB w0 (w.heap.size + 1 + 1) (w.heap.size + 1 + 1 + 1)) d' W' := fun _ _ _ _ h _ b => GB.next h b
  refine wp_region_steps (Inv [36, 37, 38, 39, 40, 41, 14, 15] a0 (GB w0 (w.heap.size + 1 + 1) (w.heap.size + 1 + 1 + 1)) [(⟨some 0, 36, none, fun v _ => v = .slice (some ad) k c⟩ : Cl), ⟨some 1, 37, none, fun v _ => v = .pointer (some (ad.add (0 * 32)))⟩, ⟨some 2, 38, none, fun v _ => v = hashV x⟩, ⟨some 3, 39, none, fun v _ => v = .slice (some ad) k c⟩, ⟨some 4, 40, none, fun v _ => v = .pointer (some (ad.add (0 * 32)))⟩, ⟨some 5, 41, none, fun v _ => v = hashV x⟩, ⟨some 6, 12, none, fun _ W => BoxH W (w.heap.size + 1 + 1) x⟩, ⟨some 7, 13, none, fun _ W => BoxH W (w.heap.size + 1 + 1 + 1) x⟩, ⟨some 8, 14, none, fun v _ => v = .int .i64 1⟩, ⟨some 9, 15, none, fun v _ => v = .bool true⟩]) (by kernel_rfl) (by kernel_rfl) (Inv.start G0 ⟨nofun, nofun, nofun, nofun, nofun, nofun, nofun, nofun, nofun, nofun, trivial⟩) ?_ ?_
  · have St : ∀ xc ∈ [(⟨some 0, 36, none, fun v _ => v = .slice (some ad) k c⟩ : Cl), ⟨some 1, 37, none, fun v _ => v = .pointer (some (ad.add (0 * 32)))⟩, ⟨some 2, 38, none, fun v _ => v = hashV x⟩, ⟨some 3, 39, none, fun v _ => v = .slice (some ad) k c⟩, ⟨some 4, 40, none, fun v _ => v = .pointer (some (ad.add (0 * 32)))⟩, ⟨some 5, 41, none, fun v _ => v = hashV x⟩, ⟨some 6, 12, none, fun _ W => BoxH W (w.heap.size + 1 + 1) x⟩, ⟨some 7, 13, none, fun _ W => BoxH W (w.heap.size + 1 + 1 + 1) x⟩, ⟨some 8, 14, none, fun v _ => v = .int .i64 1⟩, ⟨some 9, 15, none, fun v _ => v = .bool true⟩], Lasts xc := AllC.mem ⟨lastsV0 _ _ _ _, lastsV0 _ _ _ _, lastsV0 _ _ _ _, lastsV0 _ _ _ _, lastsV0 _ _ _ _, lastsV0 _ _ _ _, lastsH _ _ _ _ _, lastsH _ _ _ _ _, lastsV0 _ _ _ _, lastsV0 _ _ _ _, trivial⟩
    clear HA0
    refine ⟨?_, ?_, ?_, ?_, ?_, ?_, ?_, ?_, ?_, ?_, trivial⟩
    · refine stepB rfl rfl (by decide) (by rw [hz]; decide) rfl rfl (by kernel_rfl) St SG fun d a W hF hG hH hn hcl hw => ?_
      have q5 := (hF.same 5 (by decide)).trans e5
      refine ⟨.slice (some ad) k c, W, ?_, Below.refl _ _, ?_⟩
      · clear hF hG hH hn hcl hw
        generalize a.eval = ρ at *
        go_simp
      · rfl
    · refine stepB rfl rfl (by decide) (by rw [hz]; decide) rfl rfl (by kernel_rfl) St SG fun d a W hF hG hH hn hcl hw => ?_
      have q36 : a.eval (.tmp 36) = .slice (some ad) k c := hH.at_ (i := 0) rfl (hw 0 rfl) id
      have qc0 : a.eval (.const (.int .i64 0)) = .int .i64 0 := rfl
      refine ⟨.pointer (some (ad.add (0 * 32))), W, ?_, Below.refl _ _, ?_⟩
      · exact exec_indexH (i := 0) rfl q36 rfl hk0
      · rfl
    · refine stepB rfl rfl (by decide) (by rw [hz]; decide) rfl rfl (by kernel_rfl) St SG fun d a W hF hG hH hn hcl hw => ?_
      have q37 : a.eval (.tmp 37) = .pointer (some (ad.add (0 * 32))) := hH.at_ (i := 1) rfl (hw 1 rfl) id
      refine ⟨hashV x, W, ?_, Below.refl _ _, ?_⟩
      · exact exec_load rfl (by rw [q37]; exact hld _ _ hG)
      · rfl
    · refine stepB rfl rfl (by decide) (by rw [hz]; decide) rfl rfl (by kernel_rfl) St SG fun d a W hF hG hH hn hcl hw => ?_
      have q5 := (hF.same 5 (by decide)).trans e5
      refine ⟨.slice (some ad) k c, W, ?_, Below.refl _ _, ?_⟩
      · clear hF hG hH hn hcl hw
        generalize a.eval = ρ at *
        go_simp
      · rfl
    · refine stepB rfl rfl (by decide) (by rw [hz]; decide) rfl rfl (by kernel_rfl) St SG fun d a W hF hG hH hn hcl hw => ?_
      have q39 : a.eval (.tmp 39) = .slice (some ad) k c := hH.at_ (i := 3) rfl (hw 3 rfl) id
      have qc0 : a.eval (.const (.int .i64 0)) = .int .i64 0 := rfl
      refine ⟨.pointer (some (ad.add (0 * 32))), W, ?_, Below.refl _ _, ?_⟩
      · exact exec_indexH (i := 0) rfl q39 rfl hk0
      · rfl
    · refine stepB rfl rfl (by decide) (by rw [hz]; decide) rfl rfl (by kernel_rfl) St SG fun d a W hF hG hH hn hcl hw => ?_
      have q40 : a.eval (.tmp 40) = .pointer (some (ad.add (0 * 32))) := hH.at_ (i := 4) rfl (hw 4 rfl) id
      refine ⟨hashV x, W, ?_, Below.refl _ _, ?_⟩
      · exact exec_load rfl (by rw [q40]; exact hld _ _ hG)
      · rfl
    · refine stepH (.tmp 12) (.tmp 38) rfl rfl rfl rfl (w.heap.size + 1 + 1) x hx (fun _ _ h => h) (AllC.mem ⟨.inr fun _ _ _ h => h, .inr fun _ _ _ h => h, .inr fun _ _ _ h => h, .inr fun _ _ _ h => h, .inr fun _ _ _ h => h, .inr fun _ _ _ h => h, .inl rfl, .inr fun _ _ _ h => BoxA.farRow h (by omega) _, .inr fun _ _ _ h => h, .inr fun _ _ _ h => h, trivial⟩) (fun d d' W h _ => GB.rowp h (by omega) _ hx) (fun d W h => h.2.1) fun d a W hF hG hH hn hcl hw => ?_
      have q12 := (hF.same 12 (by decide)).trans e12
      have q38 : a.eval (.tmp 38) = hashV x := hH.at_ (i := 2) rfl (hw 2 rfl) id
      exact ⟨q12, q38⟩
    · refine stepH (.tmp 13) (.tmp 41) rfl rfl rfl rfl (w.heap.size + 1 + 1 + 1) x hx (fun _ _ h => h) (AllC.mem ⟨.inr fun _ _ _ h => h, .inr fun _ _ _ h => h, .inr fun _ _ _ h => h, .inr fun _ _ _ h => h, .inr fun _ _ _ h => h, .inr fun _ _ _ h => h, .inr fun _ _ _ h => BoxA.farRow h (by omega) _, .inl rfl, .inr fun _ _ _ h => h, .inr fun _ _ _ h => h, trivial⟩) (fun d d' W h _ => GB.rowq h (by omega) _ hx) (fun d W h => h.2.2) fun d a W hF hG hH hn hcl hw => ?_
      have q13 := (hF.same 13 (by decide)).trans e13
      have q41 : a.eval (.tmp 41) = hashV x := hH.at_ (i := 5) rfl (hw 5 rfl) id
      exact ⟨q13, q41⟩
    · refine stepB rfl rfl (by decide) (by rw [hz]; decide) rfl rfl (by kernel_rfl) St SG fun d a W hF hG hH hn hcl hw => ?_
      have qc1 : a.eval (.const (.int .i64 1)) = .int .i64 1 := rfl
      refine ⟨.int .i64 1, W, ?_, Below.refl _ _, ?_⟩
      · clear hF hG hH hn hcl hw
        generalize a.eval = ρ at *
        go_simp
      · rfl
    · refine stepB rfl rfl (by decide) (by rw [hz]; decide) rfl rfl (by kernel_rfl) St SG fun d a W hF hG hH hn hcl hw => ?_
      have qk0 : a.eval (.const (.bool true)) = .bool true := rfl
      refine ⟨.bool true, W, ?_, Below.refl _ _, ?_⟩
      · clear hF hG hH hn hcl hw
        generalize a.eval = ρ at *
        go_simp
      · rfl
  · intro d a W ⟨hF, hB, hH⟩ hall
    have k14 : a.eval (.tmp 14) = .int .i64 1 := hH.at_ (i := 8) rfl (hall 8 (by decide)) id
    have k15 : a.eval (.tmp 15) = .bool true := hH.at_ (i := 9) rfl (hall 9 (by decide)) id
    have s6 : BoxH W (w.heap.size + 1 + 1) x := hH.at_ (i := 6) rfl (hall 6 (by decide)) id
    have s7 : BoxH W (w.heap.size + 1 + 1 + 1) x := hH.at_ (i := 7) rfl (hall 7 (by decide)) id
    clear hH hall
    rw [hF.shape (by rw [hz]; decide)]
    clear hF
    simp only [List.foldl]
    generalize a.eval (.tmp 36) = z36 at *
    generalize a.eval (.tmp 37) = z37 at *
    generalize a.eval (.tmp 38) = z38 at *
    generalize a.eval (.tmp 39) = z39 at *
    generalize a.eval (.tmp 40) = z40 at *
    generalize a.eval (.tmp 41) = z41 at *
    generalize a.eval (.tmp 14) = z14 at *
    generalize a.eval (.tmp 15) = z15 at *
    subst k14
    subst k15
    rw [HA0.out]
    simp only [Act.put, List.setIfInBounds_toArray, List.set_cons_zero, List.set_cons_succ]
    clear hz HA0 SG e5 e12 e13
    clear a a0
    go_wp2_with (fail)
    exact bodyPost_ret (v := .tuple #[hashV x, hashV x, .int .i64 1, .bool true]) (results_two rfl _ _ (w.heap.size + 1 + 1) (w.heap.size + 1 + 1 + 1) x x (.int .i64 1) (.bool true) rfl rfl rfl rfl s6 hx s7 hx) rfl ⟨rfl, But2.below hB.1 B0 (by omega) (by omega) (by omega)⟩
set_option maxRecDepth 100000 in
set_option maxHeartbeats 4000000 in
theorem gr_none (old : Bs) (m : Nat) (A : Option Addr) (c : Nat) (w : World) (_hm : m ≤ 5000) (ho : old.length = 32) (hs : Hs w A []) :
    Calls Tryd.prog 81 #[wordsV, hashV old, .int .i64 m, .int .i64 m, .bool false, .slice A 0 c] w fun e w' => e = .returned (grownV (grownR old m m false [])) ∧ Below w.heap.size w w' := by
  rw [grownR_all, if_neg (by simp)]
  obtain ⟨w0, hW0⟩ : ∃ w0, World.alloc (World.alloc (World.alloc (World.alloc w (.cells (ints .u32 wordsL) 27)) (.cells (cellsB old).toArray 30)) (.cells (ints .u8 (List.replicate 32 0)) 30)) (.cells (ints .u8 (List.replicate 32 0)) 30) = w0 := ⟨_, rfl⟩
  have B0 : Below w.heap.size w w0 := hW0 ▸ Below.on (Below.on (Below.on (Below.new1 _ _) (Below.new1 _ _)) (Below.new1 _ _)) (Below.new1 _ _)
  have y6 : BoxW w0 w.heap.size := hW0 ▸ (((BoxW.new w).next (Below.new1 _ _)).next (Below.new1 _ _)).next (Below.new1 _ _)
  have y7 : BoxH w0 (w.heap.size + 1) old := by
    have := ((BoxH.new (w.alloc (.cells (ints .u32 wordsL) 27)) old).next (Below.new1 _ (.cells (ints .u8 (List.replicate 32 0)) 30))).next (Below.new1 _ (.cells (ints .u8 (List.replicate 32 0)) 30))
    rw [World.size_alloc] at this; exact hW0 ▸ this
  have x12 : BoxA w0 (w.heap.size + 1 + 1) 30 .u8 (List.replicate 32 0) := by
    have := (BoxA.new ((w.alloc (.cells (ints .u32 wordsL) 27)).alloc (.cells (cellsB old).toArray 30)) 30 .u8 (List.replicate 32 0) _ rfl).next (Below.new1 _ (.cells (ints .u8 (List.replicate 32 0)) 30))
    rw [World.size_alloc, World.size_alloc] at this; exact hW0 ▸ this
  have x13 : BoxA w0 (w.heap.size + 1 + 1 + 1) 30 .u8 (List.replicate 32 0) := by
    have := BoxA.new (((w.alloc (.cells (ints .u32 wordsL) 27)).alloc (.cells (cellsB old).toArray 30)).alloc (.cells (ints .u8 (List.replicate 32 0)) 30)) 30 .u8 (List.replicate 32 0) _ rfl
    rw [World.size_alloc, World.size_alloc, World.size_alloc] at this; exact hW0 ▸ this
  have hs0 := hs.next B0
  have i0 := hs.inB
  have z0 : w.heap.size + 1 + 1 + 1 < w0.heap.size := x13.lt
  have G0 : GB w0 (w.heap.size + 1 + 1) (w.heap.size + 1 + 1 + 1) (fun _ => False) w0.drew := GB.next (d := fun _ => False) ⟨But2.refl _ _ _, ⟨_, x12, by simp⟩, ⟨_, x13, by simp⟩⟩ (Below.drawn w0 1 _)
  clear hs hs0 i0 y6 x12 x13
  have HO := Lib.hid hW0
  clear hW0
  go_enter Tryd.func81, Tryd.ntmps81
  go_upto_region 5 with (fail)
  change Code.wp _ _ _ _ (World.alloc (World.alloc (World.alloc (World.alloc w (.cells (ints .u32 wordsL) 27)) (.cells (cellsB old).toArray 30)) (.cells (ints .u8 (List.replicate 32 0)) 30)) (.cells (ints .u8 (List.replicate 32 0)) 30))
  rw [HO.out]
  clear HO
  refine wp_name fun a0 ha0 => ?_
  have e7 : a0.eval (.tmp 7) = .pointer (some ⟨(w.heap.size + 1), 0, none⟩) := by rw [ha0]; rfl
  have e12 : a0.eval (.tmp 12) = .pointer (some ⟨(w.heap.size + 1 + 1), 0, none⟩) := by rw [ha0]; rfl
  have e13 : a0.eval (.tmp 13) = .pointer (some ⟨(w.heap.size + 1 + 1 + 1), 0, none⟩) := by rw [ha0]; rfl
  have hz : a0.tmps.size = 120 := by rw [ha0]; rfl
  have HA0 := Lib.hid ha0
  clear ha0
  have SG : ∀ (d d' : Nat → Prop) (W W' : World), (GB w0 (w.heap.size + 1 + 1) (w.heap.size + 1 + 1 + 1)) d W → (∀ j, d j → d' j) → Below W.heap.size W W' → (GB w0 (w.heap.size + 1 + 1) (w.heap.size + 1 + 1 + 1)) d' W' := fun _ _ _ _ h _ b => GB.next h b
  refine wp_region_steps (Inv [34, 35, 14, 15] a0 (GB w0 (w.heap.size + 1 + 1) (w.heap.size + 1 + 1 + 1)) [(⟨some 0, 34, none, fun v _ => v = hashV old⟩ : Cl), ⟨some 1, 35, none, fun v _ => v = hashV old⟩, ⟨some 2, 12, none, fun _ W => BoxH W (w.heap.size + 1 + 1) old⟩, ⟨some 3, 13, none, fun _ W => BoxH W (w.heap.size + 1 + 1 + 1) old⟩, ⟨some 4, 14, none, fun v _ => v = .int .i64 0⟩, ⟨some 5, 15, none, fun v _ => v = .bool false⟩]) (by kernel_rfl) (by kernel_rfl) (Inv.start G0 ⟨nofun, nofun, nofun, nofun, nofun, nofun, trivial⟩) ?_ ?_
  · have St : ∀ xc ∈ [(⟨some 0, 34, none, fun v _ => v = hashV old⟩ : Cl), ⟨some 1, 35, none, fun v _ => v = hashV old⟩, ⟨some 2, 12, none, fun _ W => BoxH W (w.heap.size + 1 + 1) old⟩, ⟨some 3, 13, none, fun _ W => BoxH W (w.heap.size + 1 + 1 + 1) old⟩, ⟨some 4, 14, none, fun v _ => v = .int .i64 0⟩, ⟨some 5, 15, none, fun v _ => v = .bool false⟩], Lasts xc := AllC.mem ⟨lastsV0 _ _ _ _, lastsV0 _ _ _ _, lastsH _ _ _ _ _, lastsH _ _ _ _ _, lastsV0 _ _ _ _, lastsV0 _ _ _ _, trivial⟩
    clear HA0
    refine ⟨?_, ?_, ?_, ?_, ?_, ?_, trivial⟩
    · refine stepB rfl rfl (by decide) (by rw [hz]; decide) rfl rfl (by kernel_rfl) St SG fun d a W hF hG hH hn hcl hw => ?_
      have q7 := (hF.same 7 (by decide)).trans e7
      refine ⟨hashV old, W, ?_, Below.refl _ _, ?_⟩
      · exact exec_load rfl (by rw [q7]; exact BoxH.load_ (But2.box hG.1 y7 (by omega) (by omega)) ho)
      · rfl
    · refine stepB rfl rfl (by decide) (by rw [hz]; decide) rfl rfl (by kernel_rfl) St SG fun d a W hF hG hH hn hcl hw => ?_
      have q7 := (hF.same 7 (by decide)).trans e7
      refine ⟨hashV old, W, ?_, Below.refl _ _, ?_⟩
      · exact exec_load rfl (by rw [q7]; exact BoxH.load_ (But2.box hG.1 y7 (by omega) (by omega)) ho)
      · rfl
    · refine stepH (.tmp 12) (.tmp 34) rfl rfl rfl rfl (w.heap.size + 1 + 1) old ho (fun _ _ h => h) (AllC.mem ⟨.inr fun _ _ _ h => h, .inr fun _ _ _ h => h, .inl rfl, .inr fun _ _ _ h => BoxA.farRow h (by omega) _, .inr fun _ _ _ h => h, .inr fun _ _ _ h => h, trivial⟩) (fun d d' W h _ => GB.rowp h (by omega) _ ho) (fun d W h => h.2.1) fun d a W hF hG hH hn hcl hw => ?_
      have q12 := (hF.same 12 (by decide)).trans e12
      have q34 : a.eval (.tmp 34) = hashV old := hH.at_ (i := 0) rfl (hw 0 rfl) id
      exact ⟨q12, q34⟩
    · refine stepH (.tmp 13) (.tmp 35) rfl rfl rfl rfl (w.heap.size + 1 + 1 + 1) old ho (fun _ _ h => h) (AllC.mem ⟨.inr fun _ _ _ h => h, .inr fun _ _ _ h => h, .inr fun _ _ _ h => BoxA.farRow h (by omega) _, .inl rfl, .inr fun _ _ _ h => h, .inr fun _ _ _ h => h, trivial⟩) (fun d d' W h _ => GB.rowq h (by omega) _ ho) (fun d W h => h.2.2) fun d a W hF hG hH hn hcl hw => ?_
      have q13 := (hF.same 13 (by decide)).trans e13
      have q35 : a.eval (.tmp 35) = hashV old := hH.at_ (i := 1) rfl (hw 1 rfl) id
      exact ⟨q13, q35⟩
    · refine stepB rfl rfl (by decide) (by rw [hz]; decide) rfl rfl (by kernel_rfl) St SG fun d a W hF hG hH hn hcl hw => ?_
      have qc0 : a.eval (.const (.int .i64 0)) = .int .i64 0 := rfl
      refine ⟨.int .i64 0, W, ?_, Below.refl _ _, ?_⟩
      · clear hF hG hH hn hcl hw
        generalize a.eval = ρ at *
        go_simp
      · rfl
    · refine stepB rfl rfl (by decide) (by rw [hz]; decide) rfl rfl (by kernel_rfl) St SG fun d a W hF hG hH hn hcl hw => ?_
      have qk0 : a.eval (.const (.bool false)) = .bool false := rfl
      refine ⟨.bool false, W, ?_, Below.refl _ _, ?_⟩
      · clear hF hG hH hn hcl hw
        generalize a.eval = ρ at *
        go_simp
      · rfl
  · intro d a W ⟨hF, hB, hH⟩ hall
    have k14 : a.eval (.tmp 14) = .int .i64 0 := hH.at_ (i := 4) rfl (hall 4 (by decide)) id
    have k15 : a.eval (.tmp 15) = .bool false := hH.at_ (i := 5) rfl (hall 5 (by decide)) id
    have s2 : BoxH W (w.heap.size + 1 + 1) old := hH.at_ (i := 2) rfl (hall 2 (by decide)) id
    have s3 : BoxH W (w.heap.size + 1 + 1 + 1) old := hH.at_ (i := 3) rfl (hall 3 (by decide)) id
    clear hH hall
    rw [hF.shape (by rw [hz]; decide)]
    clear hF
    simp only [List.foldl]
    generalize a.eval (.tmp 34) = z34 at *
    generalize a.eval (.tmp 35) = z35 at *
    generalize a.eval (.tmp 14) = z14 at *
    generalize a.eval (.tmp 15) = z15 at *
    subst k14
    subst k15
    rw [HA0.out]
    simp only [Act.put, List.setIfInBounds_toArray, List.set_cons_zero, List.set_cons_succ]
    clear hz HA0 SG e7 e12 e13
    clear a a0
    go_wp2_with (fail)
    exact bodyPost_ret (v := .tuple #[hashV old, hashV old, .int .i64 0, .bool false]) (results_two rfl _ _ (w.heap.size + 1 + 1) (w.heap.size + 1 + 1 + 1) old old (.int .i64 0) (.bool false) rfl rfl rfl rfl s2 ho s3 ho) rfl ⟨rfl, But2.below hB.1 B0 (by omega) (by omega) (by omega)⟩
end Go.Proofs.YtcocengpekndjaaDoor
