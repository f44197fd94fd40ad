/- The walk over ProofGrows. -/
import Derived.Test.YtcocengpekndjaaDoorPrShort
import Derived.Test.YtcocengpekndjaaDoorPrProve
import Derived.Test.YtcocengpekndjaaDoorPrExtend
import Derived.Test.YtcocengpekndjaaDoorPrVext
import Derived.Test.YtcocengpekndjaaDoorPrGrowsL
import Derived.Test.YtcocengpekndjaaDoorPrTexts
import Derived.Test.YtcocengpekndjaaDoorPrGTexts
import Derived.Test.YtcocengpekndjaaDoorPrClash
import Derived.Test.YtcocengpekndjaaDoorPrApart
import Derived.Test.YtcocengpekndjaaDoorPrOpen
import Derived.Test.YtcocengpekndjaaDoorPrAwake
import Derived.Test.YtcocengpekndjaaDoorPrSums
namespace Go.Proofs.YtcocengpekndjaaDoor
open Go.RowKit
set_option maxRecDepth 100000 in
set_option maxHeartbeats 4000000 in
theorem grows_skip (L : List Bs) (m : Int) (old : Bs) (A PA : Option Addr) (n c pn pc : Nat) (w : World) (hn : L.length = n) (hL : Strs w A L) (hk : Kon w)
    (hx : shortB L = false ∨ (shortB L = true ∧ (4096 < n ∨ (n ≤ 4096 ∧ (m < 1 ∨ (1 ≤ m ∧ ((n : Int) < m ∨ (m ≤ n ∧ 30 < pn)))))))) : Calls Tryd.prog 16 #[.slice A n c, .int .i64 m, hashV old, .slice PA pn pc] w fun e w' => e = .returned (.bool true) ∧ Below w.heap.size w w' := by
  obtain ⟨s, hs⟩ : ∃ s, shortB L = s := ⟨_, rfl⟩
  obtain ⟨w0, hW0⟩ : ∃ w0, w.alloc (.cells (cellsB old).toArray 30) = w0 := ⟨_, rfl⟩
  have B0 : Below w.heap.size w w0 := hW0 ▸ Below.new1 _ _
  have y6 : BoxH w0 w.heap.size old := hW0 ▸ BoxH.new w old
  have hk0 := hk.next B0
  have hL0 := hL.next B0
  have HO := Lib.hid hW0
  have HS := Lib.hid (short_any L A n c w0 hn hL0)
  rw [hs] at HS hx
  have HA := Lib.hid (fun W kon => awake_any W kon)
  have hx' : s = false ∨ (s = true ∧ (4096 : Int) < n) ∨ (s = true ∧ ¬ (4096 : Int) < n ∧ m < 1) ∨ (s = true ∧ ¬ (4096 : Int) < n ∧ ¬ m < 1 ∧ (n : Int) < m) ∨ (s = true ∧ ¬ (4096 : Int) < n ∧ ¬ m < 1 ∧ ¬ (n : Int) < m ∧ (30 : Int) < pn) := by
    cases s
    · exact .inl rfl
    · simp only [Bool.true_eq_false, false_or, true_and] at hx ⊢
      omega
  clear hL hn hx hs y6 hL0 hW0
  rcases hx' with rfl | ⟨rfl, j1⟩ | ⟨rfl, j1, j2⟩ | ⟨rfl, j1, j2, j3⟩ | ⟨rfl, j1, j2, j3, j4⟩
  all_goals
    go_enter Tryd.func16, Tryd.ntmps16
    go_upto_region 1 with (fail)
    change Code.wp _ _ _ _ (w.alloc (.cells (cellsB old).toArray 30))
    rw [HO.out]
    clear HO
    go_wp2_with (first
      | (go_at_call 30; refine HS.out.mono ?_; rintro e w1 ⟨rfl, b1⟩; have hk1 := hk0.next b1)
      | (go_at_call 17; refine (HA.out _ hk1).mono ?_; rintro e w7 ⟨rfl, b7⟩))
    go_ret
    exact ⟨rfl, Below.on (Below.on B0 b1) b7⟩
set_option maxRecDepth 100000 in
set_option maxHeartbeats 4000000 in
theorem grows_bad (L : List Bs) (m : Nat) (old : Bs) (path : List Bs) (A PA : Option Addr) (n c pn pc : Nat) (w : World) (hn : L.length = n) (hL : Strs w A L) (hc : n ≤ c) (hk : Kon w) (hsh : shortB L = true) (h4 : n ≤ 40) (hst : ∀ s ∈ L, s.length ≤ 4000) (hm : 1 ≤ m) (hmn : m ≤ n) (ho : old.length = 32) (hs : Hs w PA path) (hpn : path.length = pn) (hpc : pn ≤ pc) (hp30 : pn ≤ 30) (hE : (old == treeM sha (L.take m)) = false) (hV : vextM old (treeM sha L) m n path = false) : Calls Tryd.prog 16 #[.slice A n c, .int .i64 (m : Int), hashV old, .slice PA pn pc] w fun e w' => e = .returned (.bool true) ∧ Below w.heap.size w w' := by
  obtain ⟨ad, rfl⟩ : ∃ a, A = some a := by
    rcases hL with e | ⟨a, e, _⟩
    · rw [e] at hn; simp at hn; omega
    · exact ⟨a, e⟩
  obtain ⟨w0, hW0⟩ : ∃ w0, w.alloc (.cells (cellsB old).toArray 30) = w0 := ⟨_, rfl⟩
  have B0 : Below w.heap.size w w0 := hW0 ▸ Below.new1 _ _
  have y6 : BoxH w0 w.heap.size old := hW0 ▸ BoxH.new w old
  have hk0 := hk.next B0
  have hL0 := hL.next B0
  have HO := Lib.hid hW0
  have hs0 := hs.next B0
  have HS := Lib.hid (short_any L (some ad) n c w0 hn hL0)
  rw [hsh] at HS
  have HA := Lib.hid (fun W kon => awake_any W kon)
  have hin : ∀ s ∈ L, s.length ≤ 90000 := fun s hs => Nat.le_trans (hst s hs) (by decide)
  have hin2 : ∀ s ∈ L.take m, s.length ≤ 90000 := fun s hs => hin s (List.mem_of_mem_take hs)
  have htk : (L.take m).length = m := by rw [List.length_take]; omega
  have hr1 := fun W (h : Strs W (some ad) L) kon => root_any L (some ad) n c W hn h hin (by omega) kon
  have hr2 := fun W (h : Strs W (some ad) L) kon => root_any (L.take m) (some ad) m c W htk (h.take m) hin2 (by omega) kon
  have hex := fun W (h : Strs W (some ad) L) kon => extend_any L (some ad) n c m W hn h hin (by omega) hm hmn kon
  have ht1 := fun W (h : Strs W (some ad) L) => rtexts_any L (some ad) n c W hn (by omega) hc hin h
  have ht2 := fun W (h : Strs W (some ad) L) => rtexts_any (L.take m) (some ad) m c W htk (by omega) (by omega) hin2 (h.take m)
  have hgt := fun W (h : Hs W PA path) => rgtexts_any old m n true path PA pn pc W hm hmn (by omega) hpn hpc (by omega) ho h
  have h1l : (treeT sha L).length ≤ 100 := by have := treeT_len n L (by omega); omega
  have h2l : (treeT sha (L.take m)).length ≤ 100 := by have := treeT_len m (L.take m) (by omega); omega
  have h3l : (grownT sha old m n true path).length ≤ 100 := by have := grownT_len n old m n true path (Nat.le_refl _); omega
  have h1s := treeT_short n L (by omega) hin
  have h2s := treeT_short m (L.take m) (by omega) hin2
  have h3s := grownT_short n old m n true path (Nat.le_refl _) hm hmn ho hs.1
  have p1 := grows_own (L := L) hm (by omega) (by omega)
  have p2 := fun hd hv => @grows_other L m hm (by omega) (by omega) old path ho hs.1 hd hv
  have hx1 : (treeM sha L).length = 32 := treeM_length sha sha_length _
  have hx2 : (treeM sha (L.take m)).length = 32 := treeM_length sha sha_length _
  have hel := extendM_length n (L.map (leafM sha)) m true (by rw [List.length_map]; omega)
  rw [List.length_map] at hel
  rw [hn] at p1 p2 hel
  generalize extendM sha (L.map (leafM sha)) m true = V at *
  generalize treeM sha L = x at *
  generalize treeM sha (L.take m) = y at *
  generalize treeT sha L = T1 at *
  generalize treeT sha (L.take m) = T2 at *
  generalize grownT sha old m n true path = T3 at *
  have hv1 := fun A1 c1 W hc1 (h : Hs W A1 V) (kon : Kon W) => pvext_any y x m n V A1 _ c1 W rfl hc1 (by omega) hx2 hx1 h kon
  rw [p1] at hv1
  have hv2 := fun W (h : Hs W PA path) (kon : Kon W) => pvext_any old x m n path PA pn pc W hpn hpc (by omega) ho hx1 h kon
  rw [hV] at hv2
  have hq := fun W => eq_hash ho hx2 false hE W
  have hcl := fun A9 c9 W (hS : Strs W A9 (T1 ++ T2 ++ T3)) => rclash_any (T1 ++ T2 ++ T3) A9 _ c9 W rfl (by simp only [List.length_append]; omega) (fun s hs => (List.mem_append.1 hs).elim (fun hs => (List.mem_append.1 hs).elim (h1s s) (h2s s)) (h3s s)) hS
  have m1 : ¬ (4096 : Int) < n := by omega
  have m2 : ¬ (m : Int) < 1 := by omega
  have m3 : ¬ (n : Int) < m := by omega
  have m4 : ¬ (30 : Int) < pn := by omega
  have m5 : (0 : Int) ≤ m := by omega
  have m6 : (m : Int) ≤ c := by omega
  have mc : m ≤ c := by omega
  have R1 := Lib.hid hr1
  have R2 := Lib.hid hr2
  have HEX := Lib.hid hex
  have HT1 := Lib.hid ht1
  have HT2 := Lib.hid ht2
  have HGT := Lib.hid hgt
  have HV1 := Lib.hid hv1
  have HV2 := Lib.hid hv2
  have HCL := Lib.hid hcl
  have X1 := Lib.hid hx1
  have X2 := Lib.hid hx2
  have HOL := Lib.hid ho
  have L1 := Lib.hid h1l
  have L2 := Lib.hid h2l
  have L3 := Lib.hid h3l
  clear hsh hn h4 hst hin hin2 htk hr1 hr2 hex ht1 ht2 hgt h1l h2l h3l h1s h2s h3s p1 p2 hx1 hx2 hel hv1 hv2 hE hV hcl hL hs hk hW0 hpn ho hm hmn
  go_enter Tryd.func16, Tryd.ntmps16
  go_upto_region 1 with (fail)
  change Code.wp _ _ _ _ (w.alloc (.cells (cellsB old).toArray 30))
  rw [HO.out]
  clear HO
  go_upto_region 7 with (first
    | (go_at_call 30; refine HS.out.mono ?_; rintro e w1 ⟨rfl, b1⟩; have hk1 := hk0.next b1; have hL1 := hL0.next b1)
    | (go_at_call 31; refine (R2.out _ ((hL1.next b2).next b10) ((hk1.next b2).next b10)).mono ?_; rintro e w4 ⟨rfl, b4⟩)
    | (go_at_call 31; refine (R1.out _ hL1 hk1).mono ?_; rintro e w2 ⟨rfl, b2⟩)
    | (refine wpList_storeH rfl (.tmp 10) (.tmp 46) rfl w2.heap.size x rfl rfl (BoxA.new w2 _ _ (List.replicate 32 0) _ rfl) (by simp) X1.out ?_
       have y10 : BoxH (World.setRow (World.alloc w2 (.cells (ints .u8 (List.replicate 32 0)) 30)) w2.heap.size (ints .u8 (nums x))) w2.heap.size x := (BoxA.new w2 30 .u8 (List.replicate 32 0) _ rfl).setRow (l' := nums x)
       have b10 : Below w2.heap.size w2 (World.setRow (World.alloc w2 (.cells (ints .u8 (List.replicate 32 0)) 30)) w2.heap.size (ints .u8 (nums x))) := below_setRow (Below.new1 w2 _) (Nat.le_refl _) _
       change wpList _ _ _ _ _ (World.setRow (World.alloc w2 (.cells (ints .u8 (List.replicate 32 0)) 30)) w2.heap.size (ints .u8 (nums x)))
       generalize World.setRow (World.alloc w2 (.cells (ints .u8 (List.replicate 32 0)) 30)) w2.heap.size (ints .u8 (nums x)) = w3 at *)
    | (refine wpList_storeH rfl (.tmp 12) (.tmp 53) rfl w4.heap.size y rfl rfl (BoxA.new w4 _ _ (List.replicate 32 0) _ rfl) (by simp) X2.out ?_
       have y12 : BoxH (World.setRow (World.alloc w4 (.cells (ints .u8 (List.replicate 32 0)) 30)) w4.heap.size (ints .u8 (nums y))) w4.heap.size y := (BoxA.new w4 30 .u8 (List.replicate 32 0) _ rfl).setRow (l' := nums y)
       have b12 : Below w4.heap.size w4 (World.setRow (World.alloc w4 (.cells (ints .u8 (List.replicate 32 0)) 30)) w4.heap.size (ints .u8 (nums y))) := below_setRow (Below.new1 w4 _) (Nat.le_refl _) _
       change wpList _ _ _ _ _ (World.setRow (World.alloc w4 (.cells (ints .u8 (List.replicate 32 0)) 30)) w4.heap.size (ints .u8 (nums y)))
       generalize World.setRow (World.alloc w4 (.cells (ints .u8 (List.replicate 32 0)) 30)) w4.heap.size (ints .u8 (nums y)) = w5 at *)
    | (go_at_call 51; refine (HEX.out _ ((((hL1.next b2).next b10).next b4).next b12) ((((hk1.next b2).next b10).next b4).next b12)).mono ?_; rintro e w6 ⟨v, rfl, hO6, b6⟩; obtain ⟨VA, vc, rfl, hvc, hs6⟩ := hO6.toHs))
  have C2 := Below.on b1 b2
  have C3 := Below.on C2 b10
  have D4 := Below.on b4 b12
  have D6 := Below.on D4 b6
  have C6 := Below.on C3 D6
  have BB := Below.on B0 C6
  have hk6 := hk0.next C6
  have hL6 := hL0.next C6
  have hs7 := hs0.next C6
  have z6 : BoxH w6 w.heap.size old := BoxA.next y6 C6
  have z10 : BoxH w6 w2.heap.size x := BoxA.next y10 D6
  have z12 : BoxH w6 w4.heap.size y := BoxA.next y12 b6
  clear hk0 hL0 hk1 hL1 b1 b2 b10 b4 b12 b6 y6 y10 y12 C2 C3 D4 D6 C6 B0 HS R1 R2 HEX hs0 hO6
  generalize w2.heap.size = g10 at *
  generalize w4.heap.size = g12 at *
  have HVV := Lib.hid (HV1.out VA vc w6 hvc hs6 hk6)
  clear HV1 hvc hs6
  go_wp2_with (first
    | (refine wpList_load_if rfl 30 (.tmp 12) rfl (hashV y) (BoxH.load_ z12 X2.out) ?_)
    | (refine wpList_load_if rfl 30 (.tmp 10) rfl (hashV x) (BoxH.load_ z10 X1.out) ?_)
    | (go_at_call 36; refine (HV2.out _ hs8 hk8).mono ?_; rintro e w9 ⟨rfl, b9⟩; have hk9 := hk8.next b9)
    | (go_at_call 36; refine HVV.out.mono ?_; rintro e w8 ⟨rfl, b8⟩; have z128 : BoxH w8 g12 y := BoxA.next z12 b8; have z68 : BoxH w8 w.heap.size old := BoxA.next z6 b8; have z108 : BoxH w8 g10 x := BoxA.next z10 b8; have hs8 := hs7.next b8; have hk8 := hk6.next b8; clear z12 z6 z10 hs7 hk6)
    | (refine wpList_loadH rfl (.tmp 6) rfl w.heap.size old rfl z68 HOL.out ?_)
    | (refine wpList_loadH rfl (.tmp 12) rfl g12 y rfl z128 X2.out ?_)
    | (refine wpList_load_if rfl 30 (.tmp 6) rfl (hashV old) (BoxH.load_ z68 HOL.out) ?_)
    | (refine wpList_load_if rfl 30 (.tmp 10) rfl (hashV x) (BoxH.load_ z108 X1.out) ?_)
    | (go_at_call 17; refine (HA.out _ hk9).mono ?_; rintro e w10 ⟨rfl, b10⟩))
  go_ret
  exact ⟨rfl, Below.on (Below.on (Below.on BB b8) b9) b10⟩
set_option maxRecDepth 100000 in
set_option maxHeartbeats 4000000 in
theorem grows_clash (L : List Bs) (m : Nat) (old : Bs) (path : List Bs) (A PA : Option Addr) (n c pn pc : Nat) (w : World) (hn : L.length = n) (hL : Strs w A L) (hc : n ≤ c) (hk : Kon w) (hsh : shortB L = true) (h4 : n ≤ 40) (hst : ∀ s ∈ L, s.length ≤ 4000) (hm : 1 ≤ m) (hmn : m ≤ n) (ho : old.length = 32) (hs : Hs w PA path) (hpn : path.length = pn) (hpc : pn ≤ pc) (hp30 : pn ≤ 30) (hE : (old == treeM sha (L.take m)) = false) (hV : vextM old (treeM sha L) m n path = true) : Calls Tryd.prog 16 #[.slice A n c, .int .i64 (m : Int), hashV old, .slice PA pn pc] w fun e w' => e = .returned (.bool true) ∧ Below w.heap.size w w' := by
  obtain ⟨ad, rfl⟩ : ∃ a, A = some a := by
    rcases hL with e | ⟨a, e, _⟩
    · rw [e] at hn; simp at hn; omega
    · exact ⟨a, e⟩
  obtain ⟨w0, hW0⟩ : ∃ w0, w.alloc (.cells (cellsB old).toArray 30) = w0 := ⟨_, rfl⟩
  have B0 : Below w.heap.size w w0 := hW0 ▸ Below.new1 _ _
  have y6 : BoxH w0 w.heap.size old := hW0 ▸ BoxH.new w old
  have hk0 := hk.next B0
  have hL0 := hL.next B0
  have HO := Lib.hid hW0
  have hs0 := hs.next B0
  have HS := Lib.hid (short_any L (some ad) n c w0 hn hL0)
  rw [hsh] at HS
  have HA := Lib.hid (fun W kon => awake_any W kon)
  have hin : ∀ s ∈ L, s.length ≤ 90000 := fun s hs => Nat.le_trans (hst s hs) (by decide)
  have hin2 : ∀ s ∈ L.take m, s.length ≤ 90000 := fun s hs => hin s (List.mem_of_mem_take hs)
  have htk : (L.take m).length = m := by rw [List.length_take]; omega
  have hr1 := fun W (h : Strs W (some ad) L) kon => root_any L (some ad) n c W hn h hin (by omega) kon
  have hr2 := fun W (h : Strs W (some ad) L) kon => root_any (L.take m) (some ad) m c W htk (h.take m) hin2 (by omega) kon
  have hex := fun W (h : Strs W (some ad) L) kon => extend_any L (some ad) n c m W hn h hin (by omega) hm hmn kon
  have ht1 := fun W (h : Strs W (some ad) L) => rtexts_any L (some ad) n c W hn (by omega) hc hin h
  have ht2 := fun W (h : Strs W (some ad) L) => rtexts_any (L.take m) (some ad) m c W htk (by omega) (by omega) hin2 (h.take m)
  have hgt := fun W (h : Hs W PA path) => rgtexts_any old m n true path PA pn pc W hm hmn (by omega) hpn hpc (by omega) ho h
  have h1l : (treeT sha L).length ≤ 100 := by have := treeT_len n L (by omega); omega
  have h2l : (treeT sha (L.take m)).length ≤ 100 := by have := treeT_len m (L.take m) (by omega); omega
  have h3l : (grownT sha old m n true path).length ≤ 100 := by have := grownT_len n old m n true path (Nat.le_refl _); omega
  have h1s := treeT_short n L (by omega) hin
  have h2s := treeT_short m (L.take m) (by omega) hin2
  have h3s := grownT_short n old m n true path (Nat.le_refl _) hm hmn ho hs.1
  have p1 := grows_own (L := L) hm (by omega) (by omega)
  have p2 := fun hd hv => @grows_other L m hm (by omega) (by omega) old path ho hs.1 hd hv
  have hx1 : (treeM sha L).length = 32 := treeM_length sha sha_length _
  have hx2 : (treeM sha (L.take m)).length = 32 := treeM_length sha sha_length _
  have hel := extendM_length n (L.map (leafM sha)) m true (by rw [List.length_map]; omega)
  rw [List.length_map] at hel
  rw [hn] at p1 p2 hel
  generalize extendM sha (L.map (leafM sha)) m true = V at *
  generalize treeM sha L = x at *
  generalize treeM sha (L.take m) = y at *
  generalize treeT sha L = T1 at *
  generalize treeT sha (L.take m) = T2 at *
  generalize grownT sha old m n true path = T3 at *
  have hv1 := fun A1 c1 W hc1 (h : Hs W A1 V) (kon : Kon W) => pvext_any y x m n V A1 _ c1 W rfl hc1 (by omega) hx2 hx1 h kon
  rw [p1] at hv1
  have hv2 := fun W (h : Hs W PA path) (kon : Kon W) => pvext_any old x m n path PA pn pc W hpn hpc (by omega) ho hx1 h kon
  rw [hV] at hv2
  have hq := fun W => eq_hash ho hx2 false hE W
  have hcl := fun A9 c9 W (hS : Strs W A9 (T1 ++ T2 ++ T3)) => rclash_any (T1 ++ T2 ++ T3) A9 _ c9 W rfl (by simp only [List.length_append]; omega) (fun s hs => (List.mem_append.1 hs).elim (fun hs => (List.mem_append.1 hs).elim (h1s s) (h2s s)) (h3s s)) hS
  have P2 := clashB_yes (p2 (fun e => by rw [e] at hE; simp at hE) hV)
  have m1 : ¬ (4096 : Int) < n := by omega
  have m2 : ¬ (m : Int) < 1 := by omega
  have m3 : ¬ (n : Int) < m := by omega
  have m4 : ¬ (30 : Int) < pn := by omega
  have m5 : (0 : Int) ≤ m := by omega
  have m6 : (m : Int) ≤ c := by omega
  have mc : m ≤ c := by omega
  have R1 := Lib.hid hr1
  have R2 := Lib.hid hr2
  have HEX := Lib.hid hex
  have HT1 := Lib.hid ht1
  have HT2 := Lib.hid ht2
  have HGT := Lib.hid hgt
  have HV1 := Lib.hid hv1
  have HV2 := Lib.hid hv2
  have HCL := Lib.hid hcl
  have X1 := Lib.hid hx1
  have X2 := Lib.hid hx2
  have HOL := Lib.hid ho
  have L1 := Lib.hid h1l
  have L2 := Lib.hid h2l
  have L3 := Lib.hid h3l
  clear hsh hn h4 hst hin hin2 htk hr1 hr2 hex ht1 ht2 hgt h1l h2l h3l h1s h2s h3s p1 p2 hx1 hx2 hel hv1 hv2 hE hV hcl hL hs hk hW0 hpn ho hm hmn
  go_enter Tryd.func16, Tryd.ntmps16
  go_upto_region 1 with (fail)
  change Code.wp _ _ _ _ (w.alloc (.cells (cellsB old).toArray 30))
  rw [HO.out]
  clear HO
  go_upto_region 7 with (first
    | (go_at_call 30; refine HS.out.mono ?_; rintro e w1 ⟨rfl, b1⟩; have hk1 := hk0.next b1; have hL1 := hL0.next b1)
    | (go_at_call 31; refine (R2.out _ ((hL1.next b2).next b10) ((hk1.next b2).next b10)).mono ?_; rintro e w4 ⟨rfl, b4⟩)
    | (go_at_call 31; refine (R1.out _ hL1 hk1).mono ?_; rintro e w2 ⟨rfl, b2⟩)
    | (refine wpList_storeH rfl (.tmp 10) (.tmp 46) rfl w2.heap.size x rfl rfl (BoxA.new w2 _ _ (List.replicate 32 0) _ rfl) (by simp) X1.out ?_
       have y10 : BoxH (World.setRow (World.alloc w2 (.cells (ints .u8 (List.replicate 32 0)) 30)) w2.heap.size (ints .u8 (nums x))) w2.heap.size x := (BoxA.new w2 30 .u8 (List.replicate 32 0) _ rfl).setRow (l' := nums x)
       have b10 : Below w2.heap.size w2 (World.setRow (World.alloc w2 (.cells (ints .u8 (List.replicate 32 0)) 30)) w2.heap.size (ints .u8 (nums x))) := below_setRow (Below.new1 w2 _) (Nat.le_refl _) _
       change wpList _ _ _ _ _ (World.setRow (World.alloc w2 (.cells (ints .u8 (List.replicate 32 0)) 30)) w2.heap.size (ints .u8 (nums x)))
       generalize World.setRow (World.alloc w2 (.cells (ints .u8 (List.replicate 32 0)) 30)) w2.heap.size (ints .u8 (nums x)) = w3 at *)
    | (refine wpList_storeH rfl (.tmp 12) (.tmp 53) rfl w4.heap.size y rfl rfl (BoxA.new w4 _ _ (List.replicate 32 0) _ rfl) (by simp) X2.out ?_
       have y12 : BoxH (World.setRow (World.alloc w4 (.cells (ints .u8 (List.replicate 32 0)) 30)) w4.heap.size (ints .u8 (nums y))) w4.heap.size y := (BoxA.new w4 30 .u8 (List.replicate 32 0) _ rfl).setRow (l' := nums y)
       have b12 : Below w4.heap.size w4 (World.setRow (World.alloc w4 (.cells (ints .u8 (List.replicate 32 0)) 30)) w4.heap.size (ints .u8 (nums y))) := below_setRow (Below.new1 w4 _) (Nat.le_refl _) _
       change wpList _ _ _ _ _ (World.setRow (World.alloc w4 (.cells (ints .u8 (List.replicate 32 0)) 30)) w4.heap.size (ints .u8 (nums y)))
       generalize World.setRow (World.alloc w4 (.cells (ints .u8 (List.replicate 32 0)) 30)) w4.heap.size (ints .u8 (nums y)) = w5 at *)
    | (go_at_call 51; refine (HEX.out _ ((((hL1.next b2).next b10).next b4).next b12) ((((hk1.next b2).next b10).next b4).next b12)).mono ?_; rintro e w6 ⟨v, rfl, hO6, b6⟩; obtain ⟨VA, vc, rfl, hvc, hs6⟩ := hO6.toHs))
  have C2 := Below.on b1 b2
  have C3 := Below.on C2 b10
  have D4 := Below.on b4 b12
  have D6 := Below.on D4 b6
  have C6 := Below.on C3 D6
  have BB := Below.on B0 C6
  have hk6 := hk0.next C6
  have hL6 := hL0.next C6
  have hs7 := hs0.next C6
  have z6 : BoxH w6 w.heap.size old := BoxA.next y6 C6
  have z10 : BoxH w6 w2.heap.size x := BoxA.next y10 D6
  have z12 : BoxH w6 w4.heap.size y := BoxA.next y12 b6
  clear hk0 hL0 hk1 hL1 b1 b2 b10 b4 b12 b6 y6 y10 y12 C2 C3 D4 D6 C6 B0 HS R1 R2 HEX hs0 hO6
  generalize w2.heap.size = g10 at *
  generalize w4.heap.size = g12 at *
  have HVV := Lib.hid (HV1.out VA vc w6 hvc hs6 hk6)
  clear HV1 hvc hs6
  go_upto_region 9 with (first
    | (refine wpList_load_if rfl 30 (.tmp 12) rfl (hashV y) (BoxH.load_ z12 X2.out) ?_)
    | (refine wpList_load_if rfl 30 (.tmp 10) rfl (hashV x) (BoxH.load_ z10 X1.out) ?_)
    | (go_at_call 36; refine HVV.out.mono ?_; rintro e w8 ⟨rfl, b8⟩; have z128 : BoxH w8 g12 y := BoxA.next z12 b8; have z68 : BoxH w8 w.heap.size old := BoxA.next z6 b8; have z108 : BoxH w8 g10 x := BoxA.next z10 b8; have hs8 := hs7.next b8; have hL8 := hL6.next b8; have hk8 := hk6.next b8; clear z12 z6 z10 hs7 hk6))
  go_wp2_with (first
    | (refine wpList_loadH rfl (.tmp 6) rfl w.heap.size old rfl z68 HOL.out ?_)
    | (refine wpList_loadH rfl (.tmp 12) rfl g12 y rfl z128 X2.out ?_)
    | (refine wpList_load_if rfl 30 (.tmp 6) rfl (hashV old) (BoxH.load_ z68 HOL.out) ?_)
    | (refine wpList_load_if rfl 30 (.tmp 10) rfl (hashV x) (BoxH.load_ z108 X1.out) ?_)
    | (go_at_call 36; refine (HV2.out _ hs8 hk8).mono ?_; rintro e w9 ⟨rfl, b9⟩; have hk9 := hk8.next b9))
  go_at_call 18
  refine (constants_any _).mono ?_
  rintro e w10 ⟨rfl, b10⟩
  go_upto_region 12 with (refine wpList_newW rfl (.tmp 16) (.tmp 93) rfl rfl rfl ?_)
  have x16 := withW_box w10
  have bw := withW_below w10
  obtain ⟨w11, hW⟩ : ∃ w11, withW w10 = w11 := ⟨_, rfl⟩
  change Code.wp _ _ _ _ (withW w10)
  rw [hW] at x16 bw ⊢
  have b11 := Below.on (Below.on b9 b10) bw
  generalize w10.heap.size = g16 at *
  have hk11 := hk8.next b11
  have hL11 := hL8.next b11
  have hs11 := hs8.next b11
  have z611 : BoxH w11 w.heap.size old := BoxA.next z68 b11
  have BB11 := Below.on (Below.on BB b8) b11
  have hcl2 := fun A9 c9 W hS => HCL.out A9 c9 W hS
  rw [P2] at hcl2
  have HCC := Lib.hid hcl2
  clear hcl2 HCL P2 hW b8 b9 b10 bw b11 hk8 hL8 hs8 z68 z108 z128 hk9 hL6 HV2 HVV BB hq
  refine wp_name fun a0 ha0 => ?_
  have e0 : a0.eval (.tmp 0) = .slice (some ad) n c := by rw [ha0]; rfl
  have e1 : a0.eval (.tmp 1) = .int .i64 (m : Int) := by rw [ha0]; rfl
  have e3 : a0.eval (.tmp 3) = .slice PA pn pc := by rw [ha0]; rfl
  have e6 : a0.eval (.tmp 6) = .pointer (some ⟨w.heap.size, 0, none⟩) := by rw [ha0]; rfl
  have e9 : a0.eval (.tmp 9) = .int .i64 (n : Int) := by rw [ha0]; rfl
  have e16 : a0.eval (.tmp 16) = .pointer (some ⟨g16, 0, none⟩) := by rw [ha0]; rfl
  have hz : a0.tmps.size = 115 := by rw [ha0]; rfl
  have HA0 := Lib.hid ha0
  clear ha0
  have SG : ∀ (d d' : Nat → Prop) (W W' : World), (fun (_ : Nat → Prop) (W : World) => Below w11.heap.size w11 W) d W → (∀ j, d j → d' j) → Below W.heap.size W W' → (fun (_ : Nat → Prop) (W : World) => Below w11.heap.size w11 W) d' W' := fun _ _ _ _ h _ b => Below.next h b
  refine wp_region_guards (InvR [94, 95, 96, 97, 98, 99, 100, 101, 102, 103, 104, 105, 106, 107, 108, 109, 110, 111, 112, 113, 114, 8] a0 (fun (_ : Nat → Prop) (W : World) => Below w11.heap.size w11 W) [(⟨some 0, 94, none, fun v _ => v = wordsV⟩ : Cl), ⟨some 1, 95, none, fun v _ => v = wordsV⟩, ⟨some 2, 96, none, fun v _ => v = .slice (some ad) n c⟩, ⟨some 3, 97, some 9, fun v W => OwnStrs W w11.heap.size v T1⟩, ⟨some 4, 98, none, fun v _ => v = wordsV⟩, ⟨some 5, 99, none, fun v _ => v = .slice (some ad) n c⟩, ⟨some 6, 100, none, fun v _ => v = .int .i64 (m : Int)⟩, ⟨some 7, 101, none, fun v _ => v = .slice (some ad) m c⟩, ⟨some 8, 102, some 9, fun v W => OwnStrs W w11.heap.size v T2⟩, ⟨some 9, 103, some 16, fun v W => OwnStrs W w11.heap.size v (T1 ++ T2)⟩, ⟨some 10, 104, none, fun v _ => v = wordsV⟩, ⟨some 11, 105, none, fun v _ => v = hashV old⟩, ⟨some 12, 106, none, fun v _ => v = .int .i64 (m : Int)⟩, ⟨some 13, 107, none, fun v _ => v = .int .i64 (n : Int)⟩, ⟨some 14, 108, none, fun v _ => v = .slice PA pn pc⟩, ⟨some 15, 109, some 16, fun v W => OwnStrs W w11.heap.size v T3⟩, ⟨some 16, 110, none, fun v W => OwnStrs W w11.heap.size v (T1 ++ T2 ++ T3)⟩, ⟨some 17, 111, none, fun v _ => v = .bool true⟩, ⟨some 18, 112, none, fun v _ => v = .bool true⟩, ⟨some 19, 113, none, fun v _ => v = .bool true⟩, ⟨some 20, 114, none, fun v _ => v = .bool true⟩, ⟨some 21, 8, none, fun v _ => v = .bool true⟩] 97 109 3 15 9) (by kernel_rfl) (by kernel_rfl) ⟨(Inv.start (Below.refl _ _).drew ⟨nofun, nofun, nofun, nofun, nofun, nofun, nofun, nofun, nofun, nofun, nofun, nofun, nofun, nofun, nofun, nofun, nofun, nofun, nofun, nofun, nofun, nofun, trivial⟩), fun h => h.elim⟩ ?_ ?_
  · have St : ∀ xc ∈ [(⟨some 0, 94, none, fun v _ => v = wordsV⟩ : Cl), ⟨some 1, 95, none, fun v _ => v = wordsV⟩, ⟨some 2, 96, none, fun v _ => v = .slice (some ad) n c⟩, ⟨some 3, 97, some 9, fun v W => OwnStrs W w11.heap.size v T1⟩, ⟨some 4, 98, none, fun v _ => v = wordsV⟩, ⟨some 5, 99, none, fun v _ => v = .slice (some ad) n c⟩, ⟨some 6, 100, none, fun v _ => v = .int .i64 (m : Int)⟩, ⟨some 7, 101, none, fun v _ => v = .slice (some ad) m c⟩, ⟨some 8, 102, some 9, fun v W => OwnStrs W w11.heap.size v T2⟩, ⟨some 9, 103, some 16, fun v W => OwnStrs W w11.heap.size v (T1 ++ T2)⟩, ⟨some 10, 104, none, fun v _ => v = wordsV⟩, ⟨some 11, 105, none, fun v _ => v = hashV old⟩, ⟨some 12, 106, none, fun v _ => v = .int .i64 (m : Int)⟩, ⟨some 13, 107, none, fun v _ => v = .int .i64 (n : Int)⟩, ⟨some 14, 108, none, fun v _ => v = .slice PA pn pc⟩, ⟨some 15, 109, some 16, fun v W => OwnStrs W w11.heap.size v T3⟩, ⟨some 16, 110, none, fun v W => OwnStrs W w11.heap.size v (T1 ++ T2 ++ T3)⟩, ⟨some 17, 111, none, fun v _ => v = .bool true⟩, ⟨some 18, 112, none, fun v _ => v = .bool true⟩, ⟨some 19, 113, none, fun v _ => v = .bool true⟩, ⟨some 20, 114, none, fun v _ => v = .bool true⟩, ⟨some 21, 8, none, fun v _ => v = .bool true⟩], Lasts xc := AllC.mem ⟨lastsV0 _ _ _ _, lastsV0 _ _ _ _, lastsV0 _ _ _ _, (fun _ _ _ h b => h.next b), lastsV0 _ _ _ _, lastsV0 _ _ _ _, lastsV0 _ _ _ _, lastsV0 _ _ _ _, (fun _ _ _ h b => h.next b), (fun _ _ _ h b => h.next b), lastsV0 _ _ _ _, lastsV0 _ _ _ _, lastsV0 _ _ _ _, lastsV0 _ _ _ _, lastsV0 _ _ _ _, (fun _ _ _ h b => h.next b), (fun _ _ _ h b => h.next b), lastsV0 _ _ _ _, lastsV0 _ _ _ _, lastsV0 _ _ _ _, lastsV0 _ _ _ _, lastsV0 _ _ _ _, trivial⟩
    clear HA0
    refine ⟨?_, ?_, ?_, ?_, ?_, ?_, ?_, ?_, ?_, ?_, ?_, ?_, ?_, ?_, ?_, ?_, ?_, ?_, ?_, ?_, ?_, ?_, trivial⟩
    · refine StepG.of ?_
      refine stepR' (by decide) (by decide) (by decide) (by decide) ?_
      refine stepB rfl rfl (by decide) (by rw [hz]; decide) rfl rfl (by kernel_rfl) St SG fun d a W hF hG hH hn hcl hw => ?_
      have q16 := (hF.same 16 (by decide)).trans e16
      refine ⟨wordsV, W, ?_, Below.refl _ _, ?_⟩
      · exact exec_load rfl (by rw [q16]; exact BoxW.load (BoxA.next x16 hG))
      · rfl
    · refine StepG.of ?_
      refine stepR' (by decide) (by decide) (by decide) (by decide) ?_
      refine stepB rfl rfl (by decide) (by rw [hz]; decide) rfl rfl (by kernel_rfl) St SG fun d a W hF hG hH hn hcl hw => ?_
      have q16 := (hF.same 16 (by decide)).trans e16
      refine ⟨wordsV, W, ?_, Below.refl _ _, ?_⟩
      · exact exec_load rfl (by rw [q16]; exact BoxW.load (BoxA.next x16 hG))
      · rfl
    · refine StepG.of ?_
      refine stepR' (by decide) (by decide) (by decide) (by decide) ?_
      refine stepB rfl rfl (by decide) (by rw [hz]; decide) rfl rfl (by kernel_rfl) St SG fun d a W hF hG hH hn hcl hw => ?_
      have q0 := (hF.same 0 (by decide)).trans e0
      refine ⟨.slice (some ad) n c, W, ?_, Below.refl _ _, ?_⟩
      · clear hF hG hH hn hcl hw
        generalize a.eval = ρ at *
        go_simp
      · rfl
    · refine StepG.of ?_
      refine stepCR (u := 109) (m := 15) rfl rfl (by decide) (by rw [hz]; decide) rfl rfl (by kernel_rfl) St SG (by decide) (by decide) fun d a W hF hG hH hn hcl hw => ?_
      have q95 : a.eval (.tmp 95) = wordsV := hH.at_ (i := 1) rfl (hw 1 rfl) id
      have q96 : a.eval (.tmp 96) = .slice (some ad) n c := hH.at_ (i := 2) rfl (hw 2 rfl) id
      have qf : a.eval (.func 50) = .func (.func 50) #[] #[] := rfl
      refine ⟨50, #[wordsV, .slice (some ad) n c], ?_, ?_⟩
      · clear hF hG hH hn hcl hw
        generalize a.eval = ρ at *
        go_simp
      · refine (HT1.out W (hL11.next hG)).mono ?_; rintro e W' ⟨v, rfl, hO, b⟩
        refine ⟨v, rfl, b, hO.mono (by have := hG.size; omega), fun hm hx => hO.off_new (show OwnStrs W w11.heap.size (a.eval (.tmp 109)) T3 from hH.at_ (i := 15) rfl hm (fun h => hx (hcl 16 _ 9 rfl rfl h)))⟩
    · refine StepG.of ?_
      refine stepR' (by decide) (by decide) (by decide) (by decide) ?_
      refine stepB rfl rfl (by decide) (by rw [hz]; decide) rfl rfl (by kernel_rfl) St SG fun d a W hF hG hH hn hcl hw => ?_
      have q16 := (hF.same 16 (by decide)).trans e16
      refine ⟨wordsV, W, ?_, Below.refl _ _, ?_⟩
      · exact exec_load rfl (by rw [q16]; exact BoxW.load (BoxA.next x16 hG))
      · rfl
    · refine StepG.of ?_
      refine stepR' (by decide) (by decide) (by decide) (by decide) ?_
      refine stepB rfl rfl (by decide) (by rw [hz]; decide) rfl rfl (by kernel_rfl) St SG fun d a W hF hG hH hn hcl hw => ?_
      have q0 := (hF.same 0 (by decide)).trans e0
      refine ⟨.slice (some ad) n c, W, ?_, Below.refl _ _, ?_⟩
      · clear hF hG hH hn hcl hw
        generalize a.eval = ρ at *
        go_simp
      · rfl
    · refine StepG.of ?_
      refine stepR' (by decide) (by decide) (by decide) (by decide) ?_
      refine stepB rfl rfl (by decide) (by rw [hz]; decide) rfl rfl (by kernel_rfl) St SG fun d a W hF hG hH hn hcl hw => ?_
      have q1 := (hF.same 1 (by decide)).trans e1
      refine ⟨.int .i64 (m : Int), W, ?_, Below.refl _ _, ?_⟩
      · clear hF hG hH hn hcl hw
        generalize a.eval = ρ at *
        go_simp
      · rfl
    · refine StepG.of ?_
      refine stepR' (by decide) (by decide) (by decide) (by decide) ?_
      refine stepB rfl rfl (by decide) (by rw [hz]; decide) rfl rfl (by kernel_rfl) St SG fun d a W hF hG hH hn hcl hw => ?_
      have q99 : a.eval (.tmp 99) = .slice (some ad) n c := hH.at_ (i := 5) rfl (hw 5 rfl) id
      have q100 : a.eval (.tmp 100) = .int .i64 (m : Int) := hH.at_ (i := 6) rfl (hw 6 rfl) id
      refine ⟨.slice (some ad) m c, W, ?_, Below.refl _ _, ?_⟩
      · exact exec_sliceS_to rfl q99 q100 mc
      · rfl
    · refine StepG.of ?_
      refine stepR' (by decide) (by decide) (by decide) (by decide) ?_
      refine stepC rfl rfl (by decide) (by rw [hz]; decide) rfl rfl (by kernel_rfl) St SG fun d a W hF hG hH hn hcl hw => ?_
      have q98 : a.eval (.tmp 98) = wordsV := hH.at_ (i := 4) rfl (hw 4 rfl) id
      have q101 : a.eval (.tmp 101) = .slice (some ad) m c := hH.at_ (i := 7) rfl (hw 7 rfl) id
      have qf : a.eval (.func 50) = .func (.func 50) #[] #[] := rfl
      refine ⟨50, #[wordsV, .slice (some ad) m c], ?_, ?_⟩
      · clear hF hG hH hn hcl hw
        generalize a.eval = ρ at *
        go_simp
      · refine (HT2.out W (hL11.next hG)).mono ?_; rintro e W' ⟨v, rfl, hO, b⟩; exact ⟨v, rfl, b, hO.mono (by have := hG.size; omega)⟩
    · refine StepG.of ?_
      refine stepAR (s := 97) (u := 109) (i := 3) (m := 15) rfl rfl (by decide) (by rw [hz]; decide) rfl rfl (by kernel_rfl) w11.heap.size rfl (AllC.mem ⟨.inr (.inr (.inl fun _ _ _ h _ => h)), .inr (.inr (.inl fun _ _ _ h _ => h)), .inr (.inr (.inl fun _ _ _ h _ => h)), .inr (.inl rfl), .inr (.inr (.inl fun _ _ _ h _ => h)), .inr (.inr (.inl fun _ _ _ h _ => h)), .inr (.inr (.inl fun _ _ _ h _ => h)), .inr (.inr (.inl fun _ _ _ h _ => h)), .inr (.inl rfl), .inl rfl, .inr (.inr (.inl fun _ _ _ h _ => h)), .inr (.inr (.inl fun _ _ _ h _ => h)), .inr (.inr (.inl fun _ _ _ h _ => h)), .inr (.inr (.inl fun _ _ _ h _ => h)), .inr (.inr (.inl fun _ _ _ h _ => h)), .inr (.inr (.inr (.inr (.inl ⟨rfl, fun _ _ h => h, fun _ _ _ _ ho h hg => OwnStrs.off ho h hg⟩)))), .inr (.inr (.inr (.inr (.inr fun d hcl h => hcl 16 _ 9 rfl rfl h)))), .inr (.inr (.inl fun _ _ _ h _ => h)), .inr (.inr (.inl fun _ _ _ h _ => h)), .inr (.inr (.inl fun _ _ _ h _ => h)), .inr (.inr (.inl fun _ _ _ h _ => h)), .inr (.inr (.inl fun _ _ _ h _ => h)), trivial⟩) (fun _ _ _ _ h _ b => h.trans b) fun d a W hF hG hH hn hcl hw => ?_
      have q97 : OwnStrs W w11.heap.size (a.eval (.tmp 97)) T1 := hH.at_ (i := 3) rfl (hw 3 rfl) hn
      have q102 : OwnStrs W w11.heap.size (a.eval (.tmp 102)) T2 := hH.at_ (i := 8) rfl (hw 8 rfl) hn
      exact exec_append_strsG (.tmp 97) (.tmp 102) rfl w11.heap.size w11.heap.size W _ _ T1 T2 rfl rfl q97 q102 (by have := L1.out; omega) (by have := L2.out; omega) hG.size
    · refine StepG.of ?_
      refine stepR' (by decide) (by decide) (by decide) (by decide) ?_
      refine stepB rfl rfl (by decide) (by rw [hz]; decide) rfl rfl (by kernel_rfl) St SG fun d a W hF hG hH hn hcl hw => ?_
      have q16 := (hF.same 16 (by decide)).trans e16
      refine ⟨wordsV, W, ?_, Below.refl _ _, ?_⟩
      · exact exec_load rfl (by rw [q16]; exact BoxW.load (BoxA.next x16 hG))
      · rfl
    · refine StepG.of ?_
      refine stepR' (by decide) (by decide) (by decide) (by decide) ?_
      refine stepB rfl rfl (by decide) (by rw [hz]; decide) rfl rfl (by kernel_rfl) St SG fun d a W hF hG hH hn hcl hw => ?_
      have q6 := (hF.same 6 (by decide)).trans e6
      refine ⟨hashV old, W, ?_, Below.refl _ _, ?_⟩
      · exact exec_load rfl (by rw [q6]; exact BoxH.load_ (BoxA.next z611 hG) HOL.out)
      · rfl
    · refine StepG.of ?_
      refine stepR' (by decide) (by decide) (by decide) (by decide) ?_
      refine stepB rfl rfl (by decide) (by rw [hz]; decide) rfl rfl (by kernel_rfl) St SG fun d a W hF hG hH hn hcl hw => ?_
      have q1 := (hF.same 1 (by decide)).trans e1
      refine ⟨.int .i64 (m : Int), W, ?_, Below.refl _ _, ?_⟩
      · clear hF hG hH hn hcl hw
        generalize a.eval = ρ at *
        go_simp
      · rfl
    · refine StepG.of ?_
      refine stepR' (by decide) (by decide) (by decide) (by decide) ?_
      refine stepB rfl rfl (by decide) (by rw [hz]; decide) rfl rfl (by kernel_rfl) St SG fun d a W hF hG hH hn hcl hw => ?_
      have q9 := (hF.same 9 (by decide)).trans e9
      refine ⟨.int .i64 (n : Int), W, ?_, Below.refl _ _, ?_⟩
      · clear hF hG hH hn hcl hw
        generalize a.eval = ρ at *
        go_simp
      · rfl
    · refine StepG.of ?_
      refine stepR' (by decide) (by decide) (by decide) (by decide) ?_
      refine stepB rfl rfl (by decide) (by rw [hz]; decide) rfl rfl (by kernel_rfl) St SG fun d a W hF hG hH hn hcl hw => ?_
      have q3 := (hF.same 3 (by decide)).trans e3
      refine ⟨.slice PA pn pc, W, ?_, Below.refl _ _, ?_⟩
      · clear hF hG hH hn hcl hw
        generalize a.eval = ρ at *
        go_simp
      · rfl
    · refine StepG.of ?_
      refine stepFlipR ?_
      refine stepCR (u := 97) (m := 3) rfl rfl (by decide) (by rw [hz]; decide) rfl rfl (by kernel_rfl) St SG (by decide) (by decide) fun d a W hF hG hH hn hcl hw => ?_
      have q104 : a.eval (.tmp 104) = wordsV := hH.at_ (i := 10) rfl (hw 10 rfl) id
      have q105 : a.eval (.tmp 105) = hashV old := hH.at_ (i := 11) rfl (hw 11 rfl) id
      have q106 : a.eval (.tmp 106) = .int .i64 (m : Int) := hH.at_ (i := 12) rfl (hw 12 rfl) id
      have q107 : a.eval (.tmp 107) = .int .i64 (n : Int) := hH.at_ (i := 13) rfl (hw 13 rfl) id
      have q108 : a.eval (.tmp 108) = .slice PA pn pc := hH.at_ (i := 14) rfl (hw 14 rfl) id
      have qf : a.eval (.func 53) = .func (.func 53) #[] #[] := rfl
      have qk0 : a.eval (.const (.bool true)) = .bool true := rfl
      refine ⟨53, #[wordsV, hashV old, .int .i64 (m : Int), .int .i64 (n : Int), .bool true, .slice PA pn pc], ?_, ?_⟩
      · clear hF hG hH hn hcl hw
        generalize a.eval = ρ at *
        go_simp
      · refine (HGT.out W (hs11.next hG)).mono ?_; rintro e W' ⟨v, rfl, hO, b⟩
        refine ⟨v, rfl, b, hO.mono (by have := hG.size; omega), fun hm hx => hO.off_new (show OwnStrs W w11.heap.size (a.eval (.tmp 97)) T1 from hH.at_ (i := 3) rfl hm (fun h => hx h))⟩
    · refine StepG.of ?_
      refine stepR' (by decide) (by decide) (by decide) (by decide) ?_
      refine stepA2 rfl rfl (by decide) (by rw [hz]; decide) rfl rfl (by kernel_rfl) w11.heap.size (AllC.mem ⟨.inr (.inr (.inl fun _ _ _ h _ => h)), .inr (.inr (.inl fun _ _ _ h _ => h)), .inr (.inr (.inl fun _ _ _ h _ => h)), .inr (.inr (.inr fun d hcl hw => hw 9 rfl)), .inr (.inr (.inl fun _ _ _ h _ => h)), .inr (.inr (.inl fun _ _ _ h _ => h)), .inr (.inr (.inl fun _ _ _ h _ => h)), .inr (.inr (.inl fun _ _ _ h _ => h)), .inr (.inr (.inr fun d hcl hw => hw 9 rfl)), .inr (.inl rfl), .inr (.inr (.inl fun _ _ _ h _ => h)), .inr (.inr (.inl fun _ _ _ h _ => h)), .inr (.inr (.inl fun _ _ _ h _ => h)), .inr (.inr (.inl fun _ _ _ h _ => h)), .inr (.inr (.inl fun _ _ _ h _ => h)), .inr (.inl rfl), .inl rfl, .inr (.inr (.inl fun _ _ _ h _ => h)), .inr (.inr (.inl fun _ _ _ h _ => h)), .inr (.inr (.inl fun _ _ _ h _ => h)), .inr (.inr (.inl fun _ _ _ h _ => h)), .inr (.inr (.inl fun _ _ _ h _ => h)), trivial⟩) (fun _ _ _ _ h _ b => h.trans b) fun d a W hF hG hH hn hcl hw => ?_
      have q103 : OwnStrs W w11.heap.size (a.eval (.tmp 103)) (T1 ++ T2) := hH.at_ (i := 9) rfl (hw 9 rfl) hn
      have q109 : OwnStrs W w11.heap.size (a.eval (.tmp 109)) T3 := hH.at_ (i := 15) rfl (hw 15 rfl) hn
      exact exec_append_strs2 (.tmp 103) (.tmp 109) rfl w11.heap.size w11.heap.size W _ _ (T1 ++ T2) T3 rfl rfl q103 q109 (by rw [List.length_append]; have := L1.out; have := L2.out; omega) (by have := L3.out; omega) hG.size
    · refine StepG.of ?_
      refine stepR' (by decide) (by decide) (by decide) (by decide) ?_
      refine stepC rfl rfl (by decide) (by rw [hz]; decide) rfl rfl (by kernel_rfl) St SG fun d a W hF hG hH hn hcl hw => ?_
      have q94 : a.eval (.tmp 94) = wordsV := hH.at_ (i := 0) rfl (hw 0 rfl) id
      have q110 : OwnStrs W w11.heap.size (a.eval (.tmp 110)) (T1 ++ T2 ++ T3) := hH.at_ (i := 16) rfl (hw 16 rfl) id
      have qf : a.eval (.func 46) = .func (.func 46) #[] #[] := rfl
      obtain ⟨A9, c9, q110, hS9, _⟩ := q110.slice
      refine ⟨46, #[wordsV, .slice A9 (T1 ++ T2 ++ T3).length c9], ?_, ?_⟩
      · clear hF hG hH hn hcl hw
        generalize a.eval = ρ at *
        go_simp
      · refine (HCC.out A9 c9 W hS9).mono ?_; rintro e W' ⟨rfl, b⟩; exact ⟨_, rfl, b, rfl⟩
    · refine StepG.of ?_
      refine stepR' (by decide) (by decide) (by decide) (by decide) ?_
      refine stepB rfl rfl (by decide) (by rw [hz]; decide) rfl rfl (by kernel_rfl) St SG fun d a W hF hG hH hn hcl hw => ?_
      have q111 : a.eval (.tmp 111) = .bool true := hH.at_ (i := 17) rfl (hw 17 rfl) id
      refine ⟨.bool true, W, ?_, Below.refl _ _, ?_⟩
      · clear hF hG hH hn hcl hw
        generalize a.eval = ρ at *
        go_simp
      · rfl
    · refine StepG.on rfl (fun d a W hI hw => yielded_of rfl (hI.1.2.2.at_ (i := 18) rfl (hw 18 rfl) id)) ?_
      refine stepR' (by decide) (by decide) (by decide) (by decide) ?_
      refine stepC rfl rfl (by decide) (by rw [hz]; decide) rfl rfl (by kernel_rfl) St SG fun d a W hF hG hH hn hcl hw => ?_
      have qf : a.eval (.func 17) = .func (.func 17) #[] #[] := rfl
      refine ⟨17, #[], ?_, ?_⟩
      · clear hF hG hH hn hcl hw
        generalize a.eval = ρ at *
        go_simp
      · refine (HA.out W (hk11.next hG)).mono ?_; rintro e W' ⟨rfl, b⟩; exact ⟨_, rfl, b, rfl⟩
    · refine StepG.of ?_
      refine stepR' (by decide) (by decide) (by decide) (by decide) ?_
      refine stepB rfl rfl (by decide) (by rw [hz]; decide) rfl rfl (by kernel_rfl) St SG fun d a W hF hG hH hn hcl hw => ?_
      have q112 : a.eval (.tmp 112) = .bool true := hH.at_ (i := 18) rfl (hw 18 rfl) id
      have q113 : a.eval (.tmp 113) = .bool true := hH.at_ (i := 19) rfl (hw 19 rfl) id
      have qk1 : a.eval (.const (.bool false)) = .bool false := rfl
      refine ⟨.bool true, W, ?_, Below.refl _ _, ?_⟩
      · clear hF hG hH hn hcl hw
        generalize a.eval = ρ at *
        go_simp
      · rfl
    · refine StepG.of ?_
      refine stepR' (by decide) (by decide) (by decide) (by decide) ?_
      refine stepB rfl rfl (by decide) (by rw [hz]; decide) rfl rfl (by kernel_rfl) St SG fun d a W hF hG hH hn hcl hw => ?_
      have q114 : a.eval (.tmp 114) = .bool true := hH.at_ (i := 20) rfl (hw 20 rfl) id
      refine ⟨.bool true, W, ?_, Below.refl _ _, ?_⟩
      · clear hF hG hH hn hcl hw
        generalize a.eval = ρ at *
        go_simp
      · rfl
  · intro d a W ⟨⟨hF, hB, hH⟩, hJ⟩ hall
    have k8 : a.eval (.tmp 8) = .bool true := hH.at_ (i := 21) rfl (hall 21 (by decide)) id
    clear hH hall hJ
    rw [hF.shape (by rw [hz]; decide)]
    clear hF
    simp only [List.foldl]
    generalize a.eval (.tmp 94) = z94 at *
    generalize a.eval (.tmp 95) = z95 at *
    generalize a.eval (.tmp 96) = z96 at *
    generalize a.eval (.tmp 97) = z97 at *
    generalize a.eval (.tmp 98) = z98 at *
    generalize a.eval (.tmp 99) = z99 at *
    generalize a.eval (.tmp 100) = z100 at *
    generalize a.eval (.tmp 101) = z101 at *
    generalize a.eval (.tmp 102) = z102 at *
    generalize a.eval (.tmp 103) = z103 at *
    generalize a.eval (.tmp 104) = z104 at *
    generalize a.eval (.tmp 105) = z105 at *
    generalize a.eval (.tmp 106) = z106 at *
    generalize a.eval (.tmp 107) = z107 at *
    generalize a.eval (.tmp 108) = z108 at *
    generalize a.eval (.tmp 109) = z109 at *
    generalize a.eval (.tmp 110) = z110 at *
    generalize a.eval (.tmp 111) = z111 at *
    generalize a.eval (.tmp 112) = z112 at *
    generalize a.eval (.tmp 113) = z113 at *
    generalize a.eval (.tmp 114) = z114 at *
    generalize a.eval (.tmp 8) = z8 at *
    subst k8
    rw [HA0.out]
    simp only [Act.put, List.setIfInBounds_toArray, List.set_cons_zero, List.set_cons_succ]
    clear hz HA0 SG e0 e1 e3 e6 e9 e16
    clear a a0
    go_wp2_with (fail)
    go_ret
    exact ⟨rfl, Below.on BB11 hB⟩
set_option maxRecDepth 100000 in
set_option maxHeartbeats 4000000 in
theorem grows_same (L : List Bs) (m : Nat) (old : Bs) (path : List Bs) (A PA : Option Addr) (n c pn pc : Nat) (w : World) (hn : L.length = n) (hL : Strs w A L) (hc : n ≤ c) (hk : Kon w) (hsh : shortB L = true) (h4 : n ≤ 40) (hst : ∀ s ∈ L, s.length ≤ 4000) (hm : 1 ≤ m) (hmn : m ≤ n) (ho : old.length = 32) (hs : Hs w PA path) (hpn : path.length = pn) (hpc : pn ≤ pc) (hp30 : pn ≤ 30) (hE : (old == treeM sha (L.take m)) = true) : Calls Tryd.prog 16 #[.slice A n c, .int .i64 (m : Int), hashV old, .slice PA pn pc] w fun e w' => e = .returned (.bool true) ∧ Below w.heap.size w w' := by
  obtain ⟨ad, rfl⟩ : ∃ a, A = some a := by
    rcases hL with e | ⟨a, e, _⟩
    · rw [e] at hn; simp at hn; omega
    · exact ⟨a, e⟩
  obtain ⟨w0, hW0⟩ : ∃ w0, w.alloc (.cells (cellsB old).toArray 30) = w0 := ⟨_, rfl⟩
  have B0 : Below w.heap.size w w0 := hW0 ▸ Below.new1 _ _
  have y6 : BoxH w0 w.heap.size old := hW0 ▸ BoxH.new w old
  have hk0 := hk.next B0
  have hL0 := hL.next B0
  have HO := Lib.hid hW0
  have hs0 := hs.next B0
  have HS := Lib.hid (short_any L (some ad) n c w0 hn hL0)
  rw [hsh] at HS
  have HA := Lib.hid (fun W kon => awake_any W kon)
  have hin : ∀ s ∈ L, s.length ≤ 90000 := fun s hs => Nat.le_trans (hst s hs) (by decide)
  have hin2 : ∀ s ∈ L.take m, s.length ≤ 90000 := fun s hs => hin s (List.mem_of_mem_take hs)
  have htk : (L.take m).length = m := by rw [List.length_take]; omega
  have hr1 := fun W (h : Strs W (some ad) L) kon => root_any L (some ad) n c W hn h hin (by omega) kon
  have hr2 := fun W (h : Strs W (some ad) L) kon => root_any (L.take m) (some ad) m c W htk (h.take m) hin2 (by omega) kon
  have hex := fun W (h : Strs W (some ad) L) kon => extend_any L (some ad) n c m W hn h hin (by omega) hm hmn kon
  have ht1 := fun W (h : Strs W (some ad) L) => rtexts_any L (some ad) n c W hn (by omega) hc hin h
  have ht2 := fun W (h : Strs W (some ad) L) => rtexts_any (L.take m) (some ad) m c W htk (by omega) (by omega) hin2 (h.take m)
  have hgt := fun W (h : Hs W PA path) => rgtexts_any old m n true path PA pn pc W hm hmn (by omega) hpn hpc (by omega) ho h
  have h1l : (treeT sha L).length ≤ 100 := by have := treeT_len n L (by omega); omega
  have h2l : (treeT sha (L.take m)).length ≤ 100 := by have := treeT_len m (L.take m) (by omega); omega
  have h3l : (grownT sha old m n true path).length ≤ 100 := by have := grownT_len n old m n true path (Nat.le_refl _); omega
  have h1s := treeT_short n L (by omega) hin
  have h2s := treeT_short m (L.take m) (by omega) hin2
  have h3s := grownT_short n old m n true path (Nat.le_refl _) hm hmn ho hs.1
  have p1 := grows_own (L := L) hm (by omega) (by omega)
  have p2 := fun hd hv => @grows_other L m hm (by omega) (by omega) old path ho hs.1 hd hv
  have hx1 : (treeM sha L).length = 32 := treeM_length sha sha_length _
  have hx2 : (treeM sha (L.take m)).length = 32 := treeM_length sha sha_length _
  have hel := extendM_length n (L.map (leafM sha)) m true (by rw [List.length_map]; omega)
  rw [List.length_map] at hel
  rw [hn] at p1 p2 hel
  generalize extendM sha (L.map (leafM sha)) m true = V at *
  generalize treeM sha L = x at *
  generalize treeM sha (L.take m) = y at *
  generalize treeT sha L = T1 at *
  generalize treeT sha (L.take m) = T2 at *
  generalize grownT sha old m n true path = T3 at *
  have hv1 := fun A1 c1 W hc1 (h : Hs W A1 V) (kon : Kon W) => pvext_any y x m n V A1 _ c1 W rfl hc1 (by omega) hx2 hx1 h kon
  rw [p1] at hv1
  have hv2 := fun W (h : Hs W PA path) (kon : Kon W) => pvext_any old x m n path PA pn pc W hpn hpc (by omega) ho hx1 h kon
  obtain ⟨bv, hbv⟩ : ∃ bv, vextM old x m n path = bv := ⟨_, rfl⟩
  rw [hbv] at hv2
  have hq := fun W => eq_hash ho hx2 true hE W
  have hcl := fun A9 c9 W (hS : Strs W A9 (T1 ++ T2 ++ T3)) => rclash_any (T1 ++ T2 ++ T3) A9 _ c9 W rfl (by simp only [List.length_append]; omega) (fun s hs => (List.mem_append.1 hs).elim (fun hs => (List.mem_append.1 hs).elim (h1s s) (h2s s)) (h3s s)) hS
  have m1 : ¬ (4096 : Int) < n := by omega
  have m2 : ¬ (m : Int) < 1 := by omega
  have m3 : ¬ (n : Int) < m := by omega
  have m4 : ¬ (30 : Int) < pn := by omega
  have m5 : (0 : Int) ≤ m := by omega
  have m6 : (m : Int) ≤ c := by omega
  have mc : m ≤ c := by omega
  have R1 := Lib.hid hr1
  have R2 := Lib.hid hr2
  have HEX := Lib.hid hex
  have HT1 := Lib.hid ht1
  have HT2 := Lib.hid ht2
  have HGT := Lib.hid hgt
  have HV1 := Lib.hid hv1
  have HV2 := Lib.hid hv2
  have HCL := Lib.hid hcl
  have X1 := Lib.hid hx1
  have X2 := Lib.hid hx2
  have HOL := Lib.hid ho
  have L1 := Lib.hid h1l
  have L2 := Lib.hid h2l
  have L3 := Lib.hid h3l
  clear hsh hn h4 hst hin hin2 htk hr1 hr2 hex ht1 ht2 hgt h1l h2l h3l h1s h2s h3s p1 p2 hx1 hx2 hel hv1 hv2 hE hbv hcl hL hs hk hW0 hpn ho hm hmn
  go_enter Tryd.func16, Tryd.ntmps16
  go_upto_region 1 with (fail)
  change Code.wp _ _ _ _ (w.alloc (.cells (cellsB old).toArray 30))
  rw [HO.out]
  clear HO
  go_upto_region 7 with (first
    | (go_at_call 30; refine HS.out.mono ?_; rintro e w1 ⟨rfl, b1⟩; have hk1 := hk0.next b1; have hL1 := hL0.next b1)
    | (go_at_call 31; refine (R2.out _ ((hL1.next b2).next b10) ((hk1.next b2).next b10)).mono ?_; rintro e w4 ⟨rfl, b4⟩)
    | (go_at_call 31; refine (R1.out _ hL1 hk1).mono ?_; rintro e w2 ⟨rfl, b2⟩)
    | (refine wpList_storeH rfl (.tmp 10) (.tmp 46) rfl w2.heap.size x rfl rfl (BoxA.new w2 _ _ (List.replicate 32 0) _ rfl) (by simp) X1.out ?_
       have y10 : BoxH (World.setRow (World.alloc w2 (.cells (ints .u8 (List.replicate 32 0)) 30)) w2.heap.size (ints .u8 (nums x))) w2.heap.size x := (BoxA.new w2 30 .u8 (List.replicate 32 0) _ rfl).setRow (l' := nums x)
       have b10 : Below w2.heap.size w2 (World.setRow (World.alloc w2 (.cells (ints .u8 (List.replicate 32 0)) 30)) w2.heap.size (ints .u8 (nums x))) := below_setRow (Below.new1 w2 _) (Nat.le_refl _) _
       change wpList _ _ _ _ _ (World.setRow (World.alloc w2 (.cells (ints .u8 (List.replicate 32 0)) 30)) w2.heap.size (ints .u8 (nums x)))
       generalize World.setRow (World.alloc w2 (.cells (ints .u8 (List.replicate 32 0)) 30)) w2.heap.size (ints .u8 (nums x)) = w3 at *)
    | (refine wpList_storeH rfl (.tmp 12) (.tmp 53) rfl w4.heap.size y rfl rfl (BoxA.new w4 _ _ (List.replicate 32 0) _ rfl) (by simp) X2.out ?_
       have y12 : BoxH (World.setRow (World.alloc w4 (.cells (ints .u8 (List.replicate 32 0)) 30)) w4.heap.size (ints .u8 (nums y))) w4.heap.size y := (BoxA.new w4 30 .u8 (List.replicate 32 0) _ rfl).setRow (l' := nums y)
       have b12 : Below w4.heap.size w4 (World.setRow (World.alloc w4 (.cells (ints .u8 (List.replicate 32 0)) 30)) w4.heap.size (ints .u8 (nums y))) := below_setRow (Below.new1 w4 _) (Nat.le_refl _) _
       change wpList _ _ _ _ _ (World.setRow (World.alloc w4 (.cells (ints .u8 (List.replicate 32 0)) 30)) w4.heap.size (ints .u8 (nums y)))
       generalize World.setRow (World.alloc w4 (.cells (ints .u8 (List.replicate 32 0)) 30)) w4.heap.size (ints .u8 (nums y)) = w5 at *)
    | (go_at_call 51; refine (HEX.out _ ((((hL1.next b2).next b10).next b4).next b12) ((((hk1.next b2).next b10).next b4).next b12)).mono ?_; rintro e w6 ⟨v, rfl, hO6, b6⟩; obtain ⟨VA, vc, rfl, hvc, hs6⟩ := hO6.toHs))
  have C2 := Below.on b1 b2
  have C3 := Below.on C2 b10
  have D4 := Below.on b4 b12
  have D6 := Below.on D4 b6
  have C6 := Below.on C3 D6
  have BB := Below.on B0 C6
  have hk6 := hk0.next C6
  have hL6 := hL0.next C6
  have hs7 := hs0.next C6
  have z6 : BoxH w6 w.heap.size old := BoxA.next y6 C6
  have z10 : BoxH w6 w2.heap.size x := BoxA.next y10 D6
  have z12 : BoxH w6 w4.heap.size y := BoxA.next y12 b6
  clear hk0 hL0 hk1 hL1 b1 b2 b10 b4 b12 b6 y6 y10 y12 C2 C3 D4 D6 C6 B0 HS R1 R2 HEX hs0 hO6
  generalize w2.heap.size = g10 at *
  generalize w4.heap.size = g12 at *
  have HVV := Lib.hid (HV1.out VA vc w6 hvc hs6 hk6)
  clear HV1 hvc hs6
  go_upto_region 9 with (first
    | (refine wpList_load_if rfl 30 (.tmp 12) rfl (hashV y) (BoxH.load_ z12 X2.out) ?_)
    | (refine wpList_load_if rfl 30 (.tmp 10) rfl (hashV x) (BoxH.load_ z10 X1.out) ?_)
    | (go_at_call 36; refine HVV.out.mono ?_; rintro e w8 ⟨rfl, b8⟩; have z128 : BoxH w8 g12 y := BoxA.next z12 b8; have z68 : BoxH w8 w.heap.size old := BoxA.next z6 b8; have z108 : BoxH w8 g10 x := BoxA.next z10 b8; have hs8 := hs7.next b8; have hL8 := hL6.next b8; have hk8 := hk6.next b8; clear z12 z6 z10 hs7 hk6))
  go_wp2_with (first
    | ((with_reducible refine wpList_loadH (o := ⟨some 80, _, _, _, _, _⟩) ?_ (.tmp 6) ?_ w.heap.size old ?_ z68 HOL.out ?_); rfl; rfl; rfl)
    | ((with_reducible refine wpList_loadH (o := ⟨some 81, _, _, _, _, _⟩) ?_ (.tmp 12) ?_ g12 y ?_ z128 X2.out ?_); rfl; rfl; rfl)
    | (go_at_call 17; refine (HA.out _ hk8).mono ?_; rintro e w10 ⟨rfl, b10⟩))
  go_ret
  exact ⟨rfl, Below.on (Below.on BB b8) b10⟩
theorem grows_in (L : List Bs) (m : Nat) (old : Bs) (path : List Bs) (A PA : Option Addr) (n c pn pc : Nat) (w : World) (hn : L.length = n) (hL : Strs w A L) (hc : n ≤ c) (hk : Kon w) (hsh : shortB L = true) (h4 : n ≤ 40) (hst : ∀ s ∈ L, s.length ≤ 4000) (hm : 1 ≤ m) (hmn : m ≤ n) (ho : old.length = 32) (hs : Hs w PA path) (hpn : path.length = pn) (hpc : pn ≤ pc) (hp30 : pn ≤ 30) : Calls Tryd.prog 16 #[.slice A n c, .int .i64 (m : Int), hashV old, .slice PA pn pc] w fun e w' => e = .returned (.bool true) ∧ Below w.heap.size w w' := by
  cases hE : (old == treeM sha (L.take m)) with
  | true => exact grows_same L m old path A PA n c pn pc w hn hL hc hk hsh h4 hst hm hmn ho hs hpn hpc hp30 hE
  | false =>
    cases hV : vextM old (treeM sha L) m n path with
    | true => exact grows_clash L m old path A PA n c pn pc w hn hL hc hk hsh h4 hst hm hmn ho hs hpn hpc hp30 hE hV
    | false => exact grows_bad L m old path A PA n c pn pc w hn hL hc hk hsh h4 hst hm hmn ho hs hpn hpc hp30 hE hV
theorem proofGrows_any (L : List Bs) (m : Int) (old : Bs) (path : List Bs) (A PA : Option Addr) (c pc : Nat) (w : World) (hc : L.length ≤ c) (hL : Strs w A L) (hk : Kon w) (ho : old.length = 32) (hs : Hs w PA path) (hpc : path.length ≤ pc) :
    Calls Tryd.prog 16 #[.slice A L.length c, .int .i64 m, hashV old, .slice PA path.length pc] w fun e w' => e = .returned (.bool true) ∧ Below w.heap.size w w' := by
  cases hsh : shortB L with
  | false => exact grows_skip L m old A PA _ c _ pc w rfl hL hk (.inl hsh)
  | true =>
    rcases shortB_len hsh with ⟨h4, hst⟩ | h4
    · by_cases hx : m < 1 ∨ (1 ≤ m ∧ ((L.length : Int) < m ∨ (m ≤ L.length ∧ 30 < path.length)))
      · exact grows_skip L m old A PA _ c _ pc w rfl hL hk (.inr ⟨hsh, .inr ⟨by omega, hx⟩⟩)
      · obtain ⟨k, rfl⟩ := Int.eq_ofNat_of_zero_le (show 0 ≤ m by omega)
        exact grows_in L k old path A PA _ c _ pc w rfl hL hc hk hsh h4 hst (by omega) (by omega) ho hs rfl hpc (by omega)
    · exact grows_skip L m old A PA _ c _ pc w rfl hL hk (.inr ⟨hsh, .inl (by omega)⟩)
end Go.Proofs.YtcocengpekndjaaDoor
