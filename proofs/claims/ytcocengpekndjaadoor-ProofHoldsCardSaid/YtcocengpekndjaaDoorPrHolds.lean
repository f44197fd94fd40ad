/- The walk over ProofHolds. -/
import Derived.Test.YtcocengpekndjaaDoorPrShort
import Derived.Test.YtcocengpekndjaaDoorPrProve
import Derived.Test.YtcocengpekndjaaDoorPrVer
import Derived.Test.YtcocengpekndjaaDoorPrHoldsL
import Derived.Test.YtcocengpekndjaaDoorPrTexts
import Derived.Test.YtcocengpekndjaaDoorPrFTexts
import Derived.Test.YtcocengpekndjaaDoorPrClash
import Derived.Test.YtcocengpekndjaaDoorPrFresh
import Derived.Test.YtcocengpekndjaaDoorPrOpen
import Derived.Test.YtcocengpekndjaaDoorPrAwake
import Derived.Test.YtcocengpekndjaaDoorPrSums
namespace Go.Proofs.YtcocengpekndjaaDoor
open Go.RowKit
theorem OwnHs.empty (w : World) : OwnHs (w.alloc (.cells #[] 30)) w.heap.size (.slice (some ⟨w.heap.size, 0, none⟩) 0 0) [] :=
  ⟨H32.nil, rfl, .inr ⟨w.heap.size, 0, #[], rfl, Nat.le_refl _, heap_alloc_new w _, Nat.le_refl _, Nat.zero_le _, rfl, rfl⟩⟩
set_option maxRecDepth 100000 in
set_option maxHeartbeats 4000000 in
theorem holds_skip (L : List Bs) (i : Int) (other : Bs) (at_ : Int) (b : UInt8) (A : Option Addr) (n c : Nat) (w : World) (hn : L.length = n) (hL : Strs w A L) (hk : Kon w)
    (hx : shortB L = false ∨ (shortB L = true ∧ (4096 < n ∨ (n ≤ 4096 ∧ (i < 0 ∨ (0 ≤ i ∧ ((n : Int) ≤ i ∨ (i < n ∧ (600 < other.length ∨ (other.length ≤ 600 ∧ at_ < 0)))))))))) : Calls Tryd.prog 14 #[.slice A n c, .int .i64 i, .string ⟨other.toArray⟩, .int .i64 at_, .int .u8 (b.toNat : Int)] w fun e w' => e = .returned (.bool true) ∧ Below w.heap.size w w' := by
  obtain ⟨s, hs⟩ : ∃ s, shortB L = s := ⟨_, rfl⟩
  have HS := Lib.hid (short_any L A n c w hn hL)
  rw [hs] at HS hx
  have HA := Lib.hid (fun W kon => awake_any W kon)
  have hsz := bs_size other
  have hx' : s = false ∨ (s = true ∧ (4096 : Int) < n) ∨ (s = true ∧ ¬ (4096 : Int) < n ∧ i < 0) ∨ (s = true ∧ ¬ (4096 : Int) < n ∧ ¬ i < 0 ∧ (n : Int) ≤ i) ∨ (s = true ∧ ¬ (4096 : Int) < n ∧ ¬ i < 0 ∧ ¬ (n : Int) ≤ i ∧ (600 : Int) < other.length) ∨ (s = true ∧ ¬ (4096 : Int) < n ∧ ¬ i < 0 ∧ ¬ (n : Int) ≤ i ∧ ¬ (600 : Int) < other.length ∧ at_ < 0) := by
    cases s
    · exact .inl rfl
    · simp only [Bool.true_eq_false, false_or, true_and] at hx ⊢
      omega
  clear hL hn hx hs
  rcases hx' with rfl | ⟨rfl, j1⟩ | ⟨rfl, j1, j2⟩ | ⟨rfl, j1, j2, j3⟩ | ⟨rfl, j1, j2, j3, j4⟩ | ⟨rfl, j1, j2, j3, j4, j5⟩
  all_goals
    go_enter Tryd.func14, Tryd.ntmps14
    go_wp2_with (first
      | (go_at_call 30; refine HS.out.mono ?_; rintro e w1 ⟨rfl, b1⟩; have hk1 := hk.next b1)
      | (go_at_call 17; refine (HA.out _ hk1).mono ?_; rintro e w7 ⟨rfl, b7⟩))
    go_ret
    exact ⟨rfl, Below.on b1 b7⟩
set_option maxRecDepth 100000 in
set_option maxHeartbeats 4000000 in
theorem holds_in (L : List Bs) (i : Nat) (other : Bs) (at_ : Nat) (b : UInt8) (A : Option Addr) (n c : Nat) (w : World) (hn : L.length = n) (hL : Strs w A L) (hc : n ≤ c) (hk : Kon w) (hsh : shortB L = true) (h4 : n ≤ 40) (hst : ∀ s ∈ L, s.length ≤ 4000) (hi : i < n) (ho : other.length ≤ 600) (ha : (at_ : Int) ≤ 9223372036854775807) : Calls Tryd.prog 14 #[.slice A n c, .int .i64 (i : Int), .string ⟨other.toArray⟩, .int .i64 (at_ : Int), .int .u8 (b.toNat : Int)] w fun e w' => e = .returned (.bool true) ∧ Below w.heap.size w w' := by
  have HS := Lib.hid (short_any L A n c w hn hL)
  rw [hsh] at HS
  have HA := Lib.hid (fun W kon => awake_any W kon)
  have hsz := bs_size other
  have hin : ∀ s ∈ L, s.length ≤ 90000 := fun s hs => Nat.le_trans (hst s hs) (by decide)
  have hiL : i < L.length := by omega
  obtain ⟨ad, rfl⟩ : ∃ a, A = some a := by
    rcases hL with e | ⟨a, e, _⟩
    · rw [e] at hiL; cases hiL
    · exact ⟨a, e⟩
  have hrt := fun W (h : Strs W (some ad) L) kon => root_any L (some ad) n c W hn h hin (by omega) kon
  have hpr := fun W (h : Strs W (some ad) L) kon => prove_any L (some ad) n c i W hn h hin (by omega) hi kon
  have htt := fun W (h : Strs W (some ad) L) => rtexts_any L (some ad) n c W hn (by omega) hc hin h
  have tlen : (treeT sha L).length ≤ 100 := by have := treeT_len n L (by omega); omega
  have n40 : n ≤ 40 := h4
  have tsh := treeT_short n L (by omega) hin
  have hvl := visitM_length n (L.map (leafM sha)) i ((i : Int) + 1) (by rw [List.length_map]; omega)
  rw [List.length_map, hn] at hvl
  have h4096 : L.length ≤ 4096 := by omega
  have p1 := holds_own hiL h4096
  have p2 := holds_more hiL h4096 (treeM sha L)
  have p3 := fun h0 => holds_less hiL h4096 h0
  have p4 := fun ho hv h32 => @holds_other L i hiL h4096 other ho hv h32
  have p5 := fun V' hd h32 hv => @holds_turned L i hiL h4096 V' hd h32 hv
  have hx32 : (treeM sha L).length = 32 := treeM_length sha sha_length _
  have hXl := hin _ (List.getElem_mem hiL)
  have hcell := fun W (h : Strs W (some ad) L) => h.cell hiL
  rw [hn] at p1 p2 p3 p4 p5
  generalize visitM sha (L.map (leafM sha)) i ((i : Int) + 1) = V at *
  generalize treeM sha L = x at *
  generalize treeT sha L = TT at *
  generalize L[i] = X at *
  have hv := fun (s : Bs) (hs : s.length ≤ 90000) (V' : List Bs) (hV' : V'.length ≤ 5000) (A1 : Option Addr) (c1 : Nat) W (hc1 : V'.length ≤ c1) (h : Hs W A1 V') (kon : Kon W) => pver_any x s i n V' A1 _ c1 W rfl hc1 hV' hs hx32 h kon
  have hft := fun (s : Bs) (hs : s.length ≤ 90000) (V' : List Bs) (hV' : V'.length ≤ 5000) (K A1 : Option Addr) (c1 : Nat) W (hc1 : V'.length ≤ c1) (hS : Strs W K [s]) (h : Hs W A1 V') => rftexts_any n i [s] V' K A1 1 1 _ c1 W (by omega) (by omega) (by omega) (by omega) rfl (Nat.le_refl _) (by omega) rfl hc1 hV' (by simpa using hs) hS h
  have k0 : (0 : Int) ≤ (i : Int) := by omega
  have k1 : (i : Int) < (n : Int) := by omega
  have m1 : ¬ (4096 : Int) < n := by omega
  have m2 : ¬ (i : Int) < 0 := by omega
  have m3 : ¬ (n : Int) ≤ i := by omega
  have m4 : ¬ (600 : Int) < other.length := by omega
  have m5 : ¬ (at_ : Int) < 0 := by omega
  have vl : V.length ≤ 100 := by omega
  have HRT := Lib.hid hrt
  have HPR := Lib.hid hpr
  have HTT := Lib.hid htt
  have TL := Lib.hid tlen
  have TS := Lib.hid tsh
  have P1 := Lib.hid p1
  have P2 := Lib.hid p2
  have P3 := Lib.hid p3
  have P4 := Lib.hid p4
  have P5 := Lib.hid p5
  have HX := Lib.hid hx32
  have HXL := Lib.hid hXl
  have HC := Lib.hid hcell
  have HV := Lib.hid hv
  have HFT := Lib.hid hft
  have HN := Lib.hid hn
  have HO := Lib.hid ho
  clear hsh hn h4 hst hin hiL hrt hpr htt tlen tsh hvl h4096 p1 p2 p3 p4 p5 hx32 hXl hcell hv hft ho
  go_enter Tryd.func14, Tryd.ntmps14
  go_upto_region 6 with (first
    | (go_at_call 30; refine HS.out.mono ?_; rintro e w1 ⟨rfl, b1⟩; have hk1 := hk.next b1; have hL1 := hL.next b1)
    | (go_at_call 31; refine (HRT.out _ hL1 hk1).mono ?_; rintro e w2 ⟨rfl, b2⟩)
    | (refine wpList_storeH rfl (.tmp 12) (.tmp 51) rfl w2.heap.size x rfl rfl (BoxA.new w2 _ _ (List.replicate 32 0) _ rfl) (by simp) HX.out ?_
       have y12 : BoxH (World.setRow (World.alloc w2 (.cells (ints .u8 (List.replicate 32 0)) 30)) w2.heap.size (ints .u8 (nums x))) w2.heap.size x := (BoxA.new w2 30 .u8 (List.replicate 32 0) _ rfl).setRow (l' := nums x)
       have b3 : Below w2.heap.size w2 (World.setRow (World.alloc w2 (.cells (ints .u8 (List.replicate 32 0)) 30)) w2.heap.size (ints .u8 (nums x))) := below_setRow (Below.new1 w2 _) (Nat.le_refl _) _
       change wpList _ _ _ _ _ (World.setRow (World.alloc w2 (.cells (ints .u8 (List.replicate 32 0)) 30)) w2.heap.size (ints .u8 (nums x)))
       generalize World.setRow (World.alloc w2 (.cells (ints .u8 (List.replicate 32 0)) 30)) w2.heap.size (ints .u8 (nums x)) = w3 at *)
    | (go_at_call 32; refine (HPR.out _ ((hL1.next b2).next b3) ((hk1.next b2).next b3)).mono ?_; rintro e w4 ⟨v, rfl, hO4, b4⟩; obtain ⟨VA, vc, rfl, hvc, hs4⟩ := hO4.toHs))
  have BB := Below.on (Below.on (Below.on b1 b2) b3) b4
  have hk4 := ((hk1.next b2).next b3).next b4
  have hL4 := ((hL1.next b2).next b3).next b4
  have z12 : BoxH w4 w2.heap.size x := BoxA.next y12 b4
  generalize w2.heap.size = g12 at *
  obtain ⟨vn, hvn⟩ : ∃ k, V.length = k := ⟨_, rfl⟩
  rw [hvn] at hvc hO4 ⊢
  have vnl : vn ≤ 100 := by omega
  have HVN := Lib.hid hvn
  clear hk1 hL1 hk hL b1 b2 b3 b4 y12 HS HRT HPR hvn
  have hv1 := fun W (h : Hs W VA V) (kon : Kon W) => HV.out X HXL.out V (by omega) VA vc W (by rw [HVN.out]; exact hvc) h kon
  rw [P1.out, HVN.out] at hv1
  have HV1 := Lib.hid hv1
  have hv2 := fun A9 c9 W hc9 (h : Hs W A9 (V ++ [x])) (kon : Kon W) => HV.out X HXL.out (V ++ [x]) (by rw [List.length_append]; simp; omega) A9 c9 W hc9 h kon
  rw [P2.out] at hv2
  have HV2 := Lib.hid hv2
  clear hv1 hv2 P1 P2
  refine wp_name fun a0 ha0 => ?_
  have e0 : a0.eval (.tmp 0) = .slice (some ad) n c := by rw [ha0]; rfl
  have e1 : a0.eval (.tmp 1) = .int .i64 (i : Int) := by rw [ha0]; rfl
  have e11 : a0.eval (.tmp 11) = .int .i64 (n : Int) := by rw [ha0]; rfl
  have e12 : a0.eval (.tmp 12) = .pointer (some ⟨g12, 0, none⟩) := by rw [ha0]; rfl
  have e13 : a0.eval (.tmp 13) = .int .i64 0 := by rw [ha0]; rfl
  have e14 : a0.eval (.tmp 14) = .slice VA vn vc := by rw [ha0]; rfl
  have e15 : a0.eval (.tmp 15) = .int .i64 0 := by rw [ha0]; rfl
  have hz : a0.tmps.size = 191 := by rw [ha0]; rfl
  have HA0 := Lib.hid ha0
  clear ha0
  have SG : ∀ (d d' : Nat → Prop) (W W' : World), (fun (_ : Nat → Prop) (W : World) => Below w4.heap.size w4 W) d W → (∀ j, d j → d' j) → Below W.heap.size W W' → (fun (_ : Nat → Prop) (W : World) => Below w4.heap.size w4 W) d' W' := fun _ _ _ _ h _ b => Below.next h b
  refine wp_region_guards (Inv [59, 60, 61, 62, 63, 64, 65, 66, 67, 68, 69, 70, 71, 72, 73, 74, 75, 76, 77, 78, 79, 80, 81, 82, 83, 84, 85, 86, 87, 88, 89, 90, 91, 92] a0 (fun (_ : Nat → Prop) (W : World) => Below w4.heap.size w4 W) [(⟨some 0, 59, none, fun v _ => v = .int .i64 0⟩ : Cl), ⟨some 1, 60, none, fun v _ => v = .bool false⟩, ⟨some 2, 61, none, fun v _ => v = .bool false⟩, ⟨some 3, 62, none, fun v _ => v = .int .i64 0⟩, ⟨some 4, 63, none, fun v _ => v = .bool false⟩, ⟨some 5, 64, none, fun v _ => v = .bool false⟩, ⟨some 6, 65, none, fun v _ => v = .bool false⟩, ⟨some 7, 66, none, fun v _ => v = hashV x⟩, ⟨some 8, 67, none, fun v _ => v = .slice (some ad) n c⟩, ⟨some 9, 68, none, fun v _ => v = .int .i64 (i : Int)⟩, ⟨some 10, 69, none, fun v _ => v = .pointer (some (ad.add i))⟩, ⟨some 11, 70, none, fun v _ => v = .string ⟨X.toArray⟩⟩, ⟨some 12, 71, none, fun v _ => v = .int .i64 (i : Int)⟩, ⟨some 13, 72, none, fun v _ => v = .int .i64 (n : Int)⟩, ⟨some 14, 73, none, fun v _ => v = .slice VA vn vc⟩, ⟨some 15, 74, none, fun v _ => v = .bool true⟩, ⟨some 16, 75, none, fun v _ => v = .bool false⟩, ⟨some 17, 76, none, fun v _ => v = .bool false⟩, ⟨some 18, 77, none, fun v _ => v = .bool false⟩, ⟨some 19, 78, none, fun v _ => v = hashV x⟩, ⟨some 20, 79, none, fun v _ => v = .slice (some ad) n c⟩, ⟨some 21, 80, none, fun v _ => v = .int .i64 (i : Int)⟩, ⟨some 22, 81, none, fun v _ => v = .pointer (some (ad.add i))⟩, ⟨some 23, 82, none, fun v _ => v = .string ⟨X.toArray⟩⟩, ⟨some 24, 83, none, fun v _ => v = .int .i64 (i : Int)⟩, ⟨some 25, 84, none, fun v _ => v = .int .i64 (n : Int)⟩, ⟨some 26, 85, some 28, fun v W => ∃ g, v = .slice (some ⟨g, 0, none⟩) 0 0 ∧ OwnHs W w4.heap.size (.slice (some ⟨g, 0, none⟩) 0 0) []⟩, ⟨some 27, 86, none, fun v _ => v = .slice VA vn vc⟩, ⟨some 28, 87, some 31, fun v W => OwnHs W w4.heap.size v V⟩, ⟨some 29, 88, none, fun v _ => v = hashV x⟩, ⟨some 30, 89, some 31, fun v W => OwnHs W w4.heap.size v [x]⟩, ⟨some 31, 90, none, fun v W => OwnHs W w4.heap.size v (V ++ [x])⟩, ⟨some 32, 91, none, fun v _ => v = .bool false⟩, ⟨some 33, 92, none, fun v _ => v = .bool false⟩]) (by kernel_rfl) (by kernel_rfl) (Inv.start (Below.refl _ _).drew ⟨nofun, nofun, nofun, nofun, nofun, nofun, nofun, nofun, nofun, nofun, nofun, nofun, nofun, nofun, nofun, nofun, nofun, nofun, nofun, nofun, nofun, nofun, nofun, nofun, nofun, nofun, nofun, nofun, nofun, nofun, nofun, nofun, nofun, nofun, trivial⟩) ?_ ?_
  · have St : ∀ xc ∈ [(⟨some 0, 59, none, fun v _ => v = .int .i64 0⟩ : Cl), ⟨some 1, 60, none, fun v _ => v = .bool false⟩, ⟨some 2, 61, none, fun v _ => v = .bool false⟩, ⟨some 3, 62, none, fun v _ => v = .int .i64 0⟩, ⟨some 4, 63, none, fun v _ => v = .bool false⟩, ⟨some 5, 64, none, fun v _ => v = .bool false⟩, ⟨some 6, 65, none, fun v _ => v = .bool false⟩, ⟨some 7, 66, none, fun v _ => v = hashV x⟩, ⟨some 8, 67, none, fun v _ => v = .slice (some ad) n c⟩, ⟨some 9, 68, none, fun v _ => v = .int .i64 (i : Int)⟩, ⟨some 10, 69, none, fun v _ => v = .pointer (some (ad.add i))⟩, ⟨some 11, 70, none, fun v _ => v = .string ⟨X.toArray⟩⟩, ⟨some 12, 71, none, fun v _ => v = .int .i64 (i : Int)⟩, ⟨some 13, 72, none, fun v _ => v = .int .i64 (n : Int)⟩, ⟨some 14, 73, none, fun v _ => v = .slice VA vn vc⟩, ⟨some 15, 74, none, fun v _ => v = .bool true⟩, ⟨some 16, 75, none, fun v _ => v = .bool false⟩, ⟨some 17, 76, none, fun v _ => v = .bool false⟩, ⟨some 18, 77, none, fun v _ => v = .bool false⟩, ⟨some 19, 78, none, fun v _ => v = hashV x⟩, ⟨some 20, 79, none, fun v _ => v = .slice (some ad) n c⟩, ⟨some 21, 80, none, fun v _ => v = .int .i64 (i : Int)⟩, ⟨some 22, 81, none, fun v _ => v = .pointer (some (ad.add i))⟩, ⟨some 23, 82, none, fun v _ => v = .string ⟨X.toArray⟩⟩, ⟨some 24, 83, none, fun v _ => v = .int .i64 (i : Int)⟩, ⟨some 25, 84, none, fun v _ => v = .int .i64 (n : Int)⟩, ⟨some 26, 85, some 28, fun v W => ∃ g, v = .slice (some ⟨g, 0, none⟩) 0 0 ∧ OwnHs W w4.heap.size (.slice (some ⟨g, 0, none⟩) 0 0) []⟩, ⟨some 27, 86, none, fun v _ => v = .slice VA vn vc⟩, ⟨some 28, 87, some 31, fun v W => OwnHs W w4.heap.size v V⟩, ⟨some 29, 88, none, fun v _ => v = hashV x⟩, ⟨some 30, 89, some 31, fun v W => OwnHs W w4.heap.size v [x]⟩, ⟨some 31, 90, none, fun v W => OwnHs W w4.heap.size v (V ++ [x])⟩, ⟨some 32, 91, none, fun v _ => v = .bool false⟩, ⟨some 33, 92, none, fun v _ => v = .bool false⟩], Lasts xc := AllC.mem ⟨lastsV0 _ _ _ _, lastsV0 _ _ _ _, lastsV0 _ _ _ _, lastsV0 _ _ _ _, lastsV0 _ _ _ _, lastsV0 _ _ _ _, lastsV0 _ _ _ _, lastsV0 _ _ _ _, lastsV0 _ _ _ _, lastsV0 _ _ _ _, lastsV0 _ _ _ _, lastsV0 _ _ _ _, lastsV0 _ _ _ _, lastsV0 _ _ _ _, lastsV0 _ _ _ _, lastsV0 _ _ _ _, lastsV0 _ _ _ _, lastsV0 _ _ _ _, lastsV0 _ _ _ _, lastsV0 _ _ _ _, lastsV0 _ _ _ _, lastsV0 _ _ _ _, lastsV0 _ _ _ _, lastsV0 _ _ _ _, lastsV0 _ _ _ _, lastsV0 _ _ _ _, (fun _ _ _ h b => by obtain ⟨g, e, h1⟩ := h; exact ⟨g, e, h1.next b⟩), lastsV0 _ _ _ _, (fun _ _ _ h b => h.next b), lastsV0 _ _ _ _, (fun _ _ _ h b => h.next b), (fun _ _ _ h b => h.next b), lastsV0 _ _ _ _, lastsV0 _ _ _ _, trivial⟩
    clear HA0
    refine ⟨?_, ?_, ?_, ?_, ?_, ?_, ?_, ?_, ?_, ?_, ?_, ?_, ?_, ?_, ?_, ?_, ?_, ?_, ?_, ?_, ?_, ?_, ?_, ?_, ?_, ?_, ?_, ?_, ?_, ?_, ?_, ?_, ?_, ?_, trivial⟩
    · refine StepG.of ?_
      refine stepB rfl rfl (by decide) (by rw [hz]; decide) rfl rfl (by kernel_rfl) St SG fun d a W hF hG hH hn hcl hw => ?_
      have q13 := (hF.same 13 (by decide)).trans e13
      refine ⟨.int .i64 0, W, ?_, Below.refl _ _, ?_⟩
      · clear hF hG hH hn hcl hw
        generalize a.eval = ρ at *
        go_simp
      · rfl
    · refine StepG.of ?_
      refine stepB rfl rfl (by decide) (by rw [hz]; decide) rfl rfl (by kernel_rfl) St SG fun d a W hF hG hH hn hcl hw => ?_
      have q59 : a.eval (.tmp 59) = .int .i64 0 := hH.at_ (i := 0) rfl (hw 0 rfl) id
      have qc0 : a.eval (.const (.int .i64 0)) = .int .i64 0 := rfl
      refine ⟨.bool false, W, ?_, Below.refl _ _, ?_⟩
      · clear hF hG hH hn hcl hw
        generalize a.eval = ρ at *
        go_simp
      · rfl
    · refine StepG.of ?_
      refine stepB rfl rfl (by decide) (by rw [hz]; decide) rfl rfl (by kernel_rfl) St SG fun d a W hF hG hH hn hcl hw => ?_
      have q60 : a.eval (.tmp 60) = .bool false := hH.at_ (i := 1) rfl (hw 1 rfl) id
      refine ⟨.bool false, W, ?_, Below.refl _ _, ?_⟩
      · clear hF hG hH hn hcl hw
        generalize a.eval = ρ at *
        go_simp
      · rfl
    · refine StepG.on rfl (fun d a W hI hw => yielded_of rfl (hI.2.2.at_ (i := 2) rfl (hw 2 rfl) id)) ?_
      refine stepB rfl rfl (by decide) (by rw [hz]; decide) rfl rfl (by kernel_rfl) St SG fun d a W hF hG hH hn hcl hw => ?_
      have q15 := (hF.same 15 (by decide)).trans e15
      refine ⟨.int .i64 0, W, ?_, Below.refl _ _, ?_⟩
      · clear hF hG hH hn hcl hw
        generalize a.eval = ρ at *
        go_simp
      · rfl
    · refine StepG.on rfl (fun d a W hI hw => yielded_of rfl (hI.2.2.at_ (i := 2) rfl (hw 2 rfl) id)) ?_
      refine stepB rfl rfl (by decide) (by rw [hz]; decide) rfl rfl (by kernel_rfl) St SG fun d a W hF hG hH hn hcl hw => ?_
      have q62 : a.eval (.tmp 62) = .int .i64 0 := hH.at_ (i := 3) rfl (hw 3 rfl) id
      have qc0 : a.eval (.const (.int .i64 0)) = .int .i64 0 := rfl
      refine ⟨.bool false, W, ?_, Below.refl _ _, ?_⟩
      · clear hF hG hH hn hcl hw
        generalize a.eval = ρ at *
        go_simp
      · rfl
    · refine StepG.of ?_
      refine stepB rfl rfl (by decide) (by rw [hz]; decide) rfl rfl (by kernel_rfl) St SG fun d a W hF hG hH hn hcl hw => ?_
      have q61 : a.eval (.tmp 61) = .bool false := hH.at_ (i := 2) rfl (hw 2 rfl) id
      have q63 : a.eval (.tmp 63) = .bool false := hH.at_ (i := 4) rfl (hw 4 rfl) id
      have qk0 : a.eval (.const (.bool true)) = .bool true := rfl
      refine ⟨.bool false, W, ?_, Below.refl _ _, ?_⟩
      · clear hF hG hH hn hcl hw
        generalize a.eval = ρ at *
        go_simp
      · rfl
    · refine StepG.of ?_
      refine stepB rfl rfl (by decide) (by rw [hz]; decide) rfl rfl (by kernel_rfl) St SG fun d a W hF hG hH hn hcl hw => ?_
      have q64 : a.eval (.tmp 64) = .bool false := hH.at_ (i := 5) rfl (hw 5 rfl) id
      refine ⟨.bool false, W, ?_, Below.refl _ _, ?_⟩
      · clear hF hG hH hn hcl hw
        generalize a.eval = ρ at *
        go_simp
      · rfl
    · refine StepG.on rfl (fun d a W hI hw => yielded_of rfl (hI.2.2.at_ (i := 6) rfl (hw 6 rfl) id)) ?_
      refine stepB rfl rfl (by decide) (by rw [hz]; decide) rfl rfl (by kernel_rfl) St SG fun d a W hF hG hH hn hcl hw => ?_
      have q12 := (hF.same 12 (by decide)).trans e12
      refine ⟨hashV x, W, ?_, Below.refl _ _, ?_⟩
      · exact exec_load rfl (by rw [q12]; exact BoxH.load_ (BoxA.next z12 hG) HX.out)
      · rfl
    · refine StepG.on rfl (fun d a W hI hw => yielded_of rfl (hI.2.2.at_ (i := 6) rfl (hw 6 rfl) id)) ?_
      refine stepB rfl rfl (by decide) (by rw [hz]; decide) rfl rfl (by kernel_rfl) St SG fun d a W hF hG hH hn hcl hw => ?_
      have q0 := (hF.same 0 (by decide)).trans e0
      refine ⟨.slice (some ad) n c, W, ?_, Below.refl _ _, ?_⟩
      · clear hF hG hH hn hcl hw
        generalize a.eval = ρ at *
        go_simp
      · rfl
    · refine StepG.on rfl (fun d a W hI hw => yielded_of rfl (hI.2.2.at_ (i := 6) rfl (hw 6 rfl) id)) ?_
      refine stepB rfl rfl (by decide) (by rw [hz]; decide) rfl rfl (by kernel_rfl) St SG fun d a W hF hG hH hn hcl hw => ?_
      have q1 := (hF.same 1 (by decide)).trans e1
      refine ⟨.int .i64 (i : Int), W, ?_, Below.refl _ _, ?_⟩
      · clear hF hG hH hn hcl hw
        generalize a.eval = ρ at *
        go_simp
      · rfl
    · refine StepG.on rfl (fun d a W hI hw => yielded_of rfl (hI.2.2.at_ (i := 6) rfl (hw 6 rfl) id)) ?_
      refine stepB rfl rfl (by decide) (by rw [hz]; decide) rfl rfl (by kernel_rfl) St SG fun d a W hF hG hH hn hcl hw => ?_
      have q67 : a.eval (.tmp 67) = .slice (some ad) n c := hH.at_ (i := 8) rfl (hw 8 rfl) id
      have q68 : a.eval (.tmp 68) = .int .i64 (i : Int) := hH.at_ (i := 9) rfl (hw 9 rfl) id
      refine ⟨.pointer (some (ad.add i)), W, ?_, Below.refl _ _, ?_⟩
      · exact exec_indexS rfl q67 q68 hi
      · rfl
    · refine StepG.on rfl (fun d a W hI hw => yielded_of rfl (hI.2.2.at_ (i := 6) rfl (hw 6 rfl) id)) ?_
      refine stepB rfl rfl (by decide) (by rw [hz]; decide) rfl rfl (by kernel_rfl) St SG fun d a W hF hG hH hn hcl hw => ?_
      have q69 : a.eval (.tmp 69) = .pointer (some (ad.add i)) := hH.at_ (i := 10) rfl (hw 10 rfl) id
      have qc_ := HC.out W (hL4.next hG)
      refine ⟨.string ⟨X.toArray⟩, W, ?_, Below.refl _ _, ?_⟩
      · clear hF hG hH hn hcl hw
        generalize a.eval = ρ at *
        go_simp
      · rfl
    · refine StepG.on rfl (fun d a W hI hw => yielded_of rfl (hI.2.2.at_ (i := 6) rfl (hw 6 rfl) id)) ?_
      refine stepB rfl rfl (by decide) (by rw [hz]; decide) rfl rfl (by kernel_rfl) St SG fun d a W hF hG hH hn hcl hw => ?_
      have q1 := (hF.same 1 (by decide)).trans e1
      refine ⟨.int .i64 (i : Int), W, ?_, Below.refl _ _, ?_⟩
      · clear hF hG hH hn hcl hw
        generalize a.eval = ρ at *
        go_simp
      · rfl
    · refine StepG.on rfl (fun d a W hI hw => yielded_of rfl (hI.2.2.at_ (i := 6) rfl (hw 6 rfl) id)) ?_
      refine stepB rfl rfl (by decide) (by rw [hz]; decide) rfl rfl (by kernel_rfl) St SG fun d a W hF hG hH hn hcl hw => ?_
      have q11 := (hF.same 11 (by decide)).trans e11
      refine ⟨.int .i64 (n : Int), W, ?_, Below.refl _ _, ?_⟩
      · clear hF hG hH hn hcl hw
        generalize a.eval = ρ at *
        go_simp
      · rfl
    · refine StepG.on rfl (fun d a W hI hw => yielded_of rfl (hI.2.2.at_ (i := 6) rfl (hw 6 rfl) id)) ?_
      refine stepB rfl rfl (by decide) (by rw [hz]; decide) rfl rfl (by kernel_rfl) St SG fun d a W hF hG hH hn hcl hw => ?_
      have q14 := (hF.same 14 (by decide)).trans e14
      refine ⟨.slice VA vn vc, W, ?_, Below.refl _ _, ?_⟩
      · clear hF hG hH hn hcl hw
        generalize a.eval = ρ at *
        go_simp
      · rfl
    · refine StepG.on rfl (fun d a W hI hw => yielded_of rfl (hI.2.2.at_ (i := 6) rfl (hw 6 rfl) id)) ?_
      refine stepC rfl rfl (by decide) (by rw [hz]; decide) rfl rfl (by kernel_rfl) St SG fun d a W hF hG hH hn hcl hw => ?_
      have q66 : a.eval (.tmp 66) = hashV x := hH.at_ (i := 7) rfl (hw 7 rfl) id
      have q70 : a.eval (.tmp 70) = .string ⟨X.toArray⟩ := hH.at_ (i := 11) rfl (hw 11 rfl) id
      have q71 : a.eval (.tmp 71) = .int .i64 (i : Int) := hH.at_ (i := 12) rfl (hw 12 rfl) id
      have q72 : a.eval (.tmp 72) = .int .i64 (n : Int) := hH.at_ (i := 13) rfl (hw 13 rfl) id
      have q73 : a.eval (.tmp 73) = .slice VA vn vc := hH.at_ (i := 14) rfl (hw 14 rfl) id
      have qf : a.eval (.func 28) = .func (.func 28) #[] #[] := rfl
      refine ⟨28, #[hashV x, .string ⟨X.toArray⟩, .int .i64 (i : Int), .int .i64 (n : Int), .slice VA vn vc], ?_, ?_⟩
      · clear hF hG hH hn hcl hw
        generalize a.eval = ρ at *
        go_simp
      · refine (HV1.out W (hs4.next hG) (hk4.next hG)).mono ?_; rintro e W' ⟨rfl, b⟩; exact ⟨_, rfl, b, rfl⟩
    · refine StepG.on rfl (fun d a W hI hw => yielded_of rfl (hI.2.2.at_ (i := 6) rfl (hw 6 rfl) id)) ?_
      refine stepB rfl rfl (by decide) (by rw [hz]; decide) rfl rfl (by kernel_rfl) St SG fun d a W hF hG hH hn hcl hw => ?_
      have q74 : a.eval (.tmp 74) = .bool true := hH.at_ (i := 15) rfl (hw 15 rfl) id
      refine ⟨.bool false, W, ?_, Below.refl _ _, ?_⟩
      · clear hF hG hH hn hcl hw
        generalize a.eval = ρ at *
        go_simp
      · rfl
    · refine StepG.of ?_
      refine stepB rfl rfl (by decide) (by rw [hz]; decide) rfl rfl (by kernel_rfl) St SG fun d a W hF hG hH hn hcl hw => ?_
      have q65 : a.eval (.tmp 65) = .bool false := hH.at_ (i := 6) rfl (hw 6 rfl) id
      have q75 : a.eval (.tmp 75) = .bool false := hH.at_ (i := 16) rfl (hw 16 rfl) id
      have qk0 : a.eval (.const (.bool true)) = .bool true := rfl
      refine ⟨.bool false, W, ?_, Below.refl _ _, ?_⟩
      · clear hF hG hH hn hcl hw
        generalize a.eval = ρ at *
        go_simp
      · rfl
    · refine StepG.of ?_
      refine stepB rfl rfl (by decide) (by rw [hz]; decide) rfl rfl (by kernel_rfl) St SG fun d a W hF hG hH hn hcl hw => ?_
      have q76 : a.eval (.tmp 76) = .bool false := hH.at_ (i := 17) rfl (hw 17 rfl) id
      refine ⟨.bool false, W, ?_, Below.refl _ _, ?_⟩
      · clear hF hG hH hn hcl hw
        generalize a.eval = ρ at *
        go_simp
      · rfl
    · refine StepG.on rfl (fun d a W hI hw => yielded_of rfl (hI.2.2.at_ (i := 18) rfl (hw 18 rfl) id)) ?_
      refine stepB rfl rfl (by decide) (by rw [hz]; decide) rfl rfl (by kernel_rfl) St SG fun d a W hF hG hH hn hcl hw => ?_
      have q12 := (hF.same 12 (by decide)).trans e12
      refine ⟨hashV x, W, ?_, Below.refl _ _, ?_⟩
      · exact exec_load rfl (by rw [q12]; exact BoxH.load_ (BoxA.next z12 hG) HX.out)
      · rfl
    · refine StepG.on rfl (fun d a W hI hw => yielded_of rfl (hI.2.2.at_ (i := 18) rfl (hw 18 rfl) id)) ?_
      refine stepB rfl rfl (by decide) (by rw [hz]; decide) rfl rfl (by kernel_rfl) St SG fun d a W hF hG hH hn hcl hw => ?_
      have q0 := (hF.same 0 (by decide)).trans e0
      refine ⟨.slice (some ad) n c, W, ?_, Below.refl _ _, ?_⟩
      · clear hF hG hH hn hcl hw
        generalize a.eval = ρ at *
        go_simp
      · rfl
    · refine StepG.on rfl (fun d a W hI hw => yielded_of rfl (hI.2.2.at_ (i := 18) rfl (hw 18 rfl) id)) ?_
      refine stepB rfl rfl (by decide) (by rw [hz]; decide) rfl rfl (by kernel_rfl) St SG fun d a W hF hG hH hn hcl hw => ?_
      have q1 := (hF.same 1 (by decide)).trans e1
      refine ⟨.int .i64 (i : Int), W, ?_, Below.refl _ _, ?_⟩
      · clear hF hG hH hn hcl hw
        generalize a.eval = ρ at *
        go_simp
      · rfl
    · refine StepG.on rfl (fun d a W hI hw => yielded_of rfl (hI.2.2.at_ (i := 18) rfl (hw 18 rfl) id)) ?_
      refine stepB rfl rfl (by decide) (by rw [hz]; decide) rfl rfl (by kernel_rfl) St SG fun d a W hF hG hH hn hcl hw => ?_
      have q79 : a.eval (.tmp 79) = .slice (some ad) n c := hH.at_ (i := 20) rfl (hw 20 rfl) id
      have q80 : a.eval (.tmp 80) = .int .i64 (i : Int) := hH.at_ (i := 21) rfl (hw 21 rfl) id
      refine ⟨.pointer (some (ad.add i)), W, ?_, Below.refl _ _, ?_⟩
      · exact exec_indexS rfl q79 q80 hi
      · rfl
    · refine StepG.on rfl (fun d a W hI hw => yielded_of rfl (hI.2.2.at_ (i := 18) rfl (hw 18 rfl) id)) ?_
      refine stepB rfl rfl (by decide) (by rw [hz]; decide) rfl rfl (by kernel_rfl) St SG fun d a W hF hG hH hn hcl hw => ?_
      have q81 : a.eval (.tmp 81) = .pointer (some (ad.add i)) := hH.at_ (i := 22) rfl (hw 22 rfl) id
      have qc_ := HC.out W (hL4.next hG)
      refine ⟨.string ⟨X.toArray⟩, W, ?_, Below.refl _ _, ?_⟩
      · clear hF hG hH hn hcl hw
        generalize a.eval = ρ at *
        go_simp
      · rfl
    · refine StepG.on rfl (fun d a W hI hw => yielded_of rfl (hI.2.2.at_ (i := 18) rfl (hw 18 rfl) id)) ?_
      refine stepB rfl rfl (by decide) (by rw [hz]; decide) rfl rfl (by kernel_rfl) St SG fun d a W hF hG hH hn hcl hw => ?_
      have q1 := (hF.same 1 (by decide)).trans e1
      refine ⟨.int .i64 (i : Int), W, ?_, Below.refl _ _, ?_⟩
      · clear hF hG hH hn hcl hw
        generalize a.eval = ρ at *
        go_simp
      · rfl
    · refine StepG.on rfl (fun d a W hI hw => yielded_of rfl (hI.2.2.at_ (i := 18) rfl (hw 18 rfl) id)) ?_
      refine stepB rfl rfl (by decide) (by rw [hz]; decide) rfl rfl (by kernel_rfl) St SG fun d a W hF hG hH hn hcl hw => ?_
      have q11 := (hF.same 11 (by decide)).trans e11
      refine ⟨.int .i64 (n : Int), W, ?_, Below.refl _ _, ?_⟩
      · clear hF hG hH hn hcl hw
        generalize a.eval = ρ at *
        go_simp
      · rfl
    · refine StepG.on rfl (fun d a W hI hw => yielded_of rfl (hI.2.2.at_ (i := 18) rfl (hw 18 rfl) id)) ?_
      refine stepB rfl rfl (by decide) (by rw [hz]; decide) rfl rfl (by kernel_rfl) St SG fun d a W hF hG hH hn hcl hw => ?_
      refine ⟨.slice (some ⟨W.heap.size, 0, none⟩) 0 0, W.alloc (.cells #[] 30), ?_, Below.new1 W _, ?_⟩
      · clear hF hG hH hn hcl hw
        generalize a.eval = ρ at *
        go_simp
      · exact ⟨_, rfl, (OwnHs.empty W).mono hG.size⟩
    · refine StepG.on rfl (fun d a W hI hw => yielded_of rfl (hI.2.2.at_ (i := 18) rfl (hw 18 rfl) id)) ?_
      refine stepB rfl rfl (by decide) (by rw [hz]; decide) rfl rfl (by kernel_rfl) St SG fun d a W hF hG hH hn hcl hw => ?_
      have q14 := (hF.same 14 (by decide)).trans e14
      refine ⟨.slice VA vn vc, W, ?_, Below.refl _ _, ?_⟩
      · clear hF hG hH hn hcl hw
        generalize a.eval = ρ at *
        go_simp
      · rfl
    · refine StepG.on rfl (fun d a W hI hw => yielded_of rfl (hI.2.2.at_ (i := 18) rfl (hw 18 rfl) id)) ?_
      refine stepB rfl rfl (by decide) (by rw [hz]; decide) rfl rfl (by kernel_rfl) St SG fun d a W hF hG hH hn hcl hw => ?_
      have q85 : ∃ g, a.eval (.tmp 85) = .slice (some ⟨g, 0, none⟩) 0 0 ∧ OwnHs W w4.heap.size (.slice (some ⟨g, 0, none⟩) 0 0) [] := hH.at_ (i := 26) rfl (hw 26 rfl) hn
      have q86 : a.eval (.tmp 86) = .slice VA vn vc := hH.at_ (i := 27) rfl (hw 27 rfl) id
      obtain ⟨g, q85, h85⟩ := q85
      exact exec_append_fresh (.tmp 85) (.tmp 86) rfl w4.heap.size _ g W _ V q85 q86 h85 (hO4.next hG) (by have := HVN.out; omega) hG.size
    · refine StepG.on rfl (fun d a W hI hw => yielded_of rfl (hI.2.2.at_ (i := 18) rfl (hw 18 rfl) id)) ?_
      refine stepB rfl rfl (by decide) (by rw [hz]; decide) rfl rfl (by kernel_rfl) St SG fun d a W hF hG hH hn hcl hw => ?_
      have q12 := (hF.same 12 (by decide)).trans e12
      refine ⟨hashV x, W, ?_, Below.refl _ _, ?_⟩
      · exact exec_load rfl (by rw [q12]; exact BoxH.load_ (BoxA.next z12 hG) HX.out)
      · rfl
    · refine StepG.on rfl (fun d a W hI hw => yielded_of rfl (hI.2.2.at_ (i := 18) rfl (hw 18 rfl) id)) ?_
      refine stepB rfl rfl (by decide) (by rw [hz]; decide) rfl rfl (by kernel_rfl) St SG fun d a W hF hG hH hn hcl hw => ?_
      have q88 : a.eval (.tmp 88) = hashV x := hH.at_ (i := 29) rfl (hw 29 rfl) id
      refine ⟨.slice (some ⟨W.heap.size, 0, none⟩) 1 1, W.alloc (.cells (cellsB x).toArray 30), ?_, Below.new1 W _, ?_⟩
      · exact exec_buildH (.tmp 88) rfl x q88 HX.out
      · exact OwnHs.one W _ HX.out hG.size
    · refine StepG.on rfl (fun d a W hI hw => yielded_of rfl (hI.2.2.at_ (i := 18) rfl (hw 18 rfl) id)) ?_
      refine stepA2 rfl rfl (by decide) (by rw [hz]; decide) rfl rfl (by kernel_rfl) w4.heap.size (AllC.mem ⟨.inr (.inr (.inl fun _ _ _ h _ => h)), .inr (.inr (.inl fun _ _ _ h _ => h)), .inr (.inr (.inl fun _ _ _ h _ => h)), .inr (.inr (.inl fun _ _ _ h _ => h)), .inr (.inr (.inl fun _ _ _ h _ => h)), .inr (.inr (.inl fun _ _ _ h _ => h)), .inr (.inr (.inl fun _ _ _ h _ => h)), .inr (.inr (.inl fun _ _ _ h _ => h)), .inr (.inr (.inl fun _ _ _ h _ => h)), .inr (.inr (.inl fun _ _ _ h _ => h)), .inr (.inr (.inl fun _ _ _ h _ => h)), .inr (.inr (.inl fun _ _ _ h _ => h)), .inr (.inr (.inl fun _ _ _ h _ => h)), .inr (.inr (.inl fun _ _ _ h _ => h)), .inr (.inr (.inl fun _ _ _ h _ => h)), .inr (.inr (.inl fun _ _ _ h _ => h)), .inr (.inr (.inl fun _ _ _ h _ => h)), .inr (.inr (.inl fun _ _ _ h _ => h)), .inr (.inr (.inl fun _ _ _ h _ => h)), .inr (.inr (.inl fun _ _ _ h _ => h)), .inr (.inr (.inl fun _ _ _ h _ => h)), .inr (.inr (.inl fun _ _ _ h _ => h)), .inr (.inr (.inl fun _ _ _ h _ => h)), .inr (.inr (.inl fun _ _ _ h _ => h)), .inr (.inr (.inl fun _ _ _ h _ => h)), .inr (.inr (.inl fun _ _ _ h _ => h)), .inr (.inr (.inr fun d hcl hw => hw 28 rfl)), .inr (.inr (.inl fun _ _ _ h _ => h)), .inr (.inl rfl), .inr (.inr (.inl fun _ _ _ h _ => h)), .inr (.inl rfl), .inl rfl, .inr (.inr (.inl fun _ _ _ h _ => h)), .inr (.inr (.inl fun _ _ _ h _ => h)), trivial⟩) (fun _ _ _ _ h _ b => h.trans b) fun d a W hF hG hH hn hcl hw => ?_
      have q87 : OwnHs W w4.heap.size (a.eval (.tmp 87)) V := hH.at_ (i := 28) rfl (hw 28 rfl) hn
      have q89 : OwnHs W w4.heap.size (a.eval (.tmp 89)) [x] := hH.at_ (i := 30) rfl (hw 30 rfl) hn
      exact exec_append_hs2 (.tmp 87) (.tmp 89) rfl w4.heap.size w4.heap.size W _ _ V [x] rfl rfl q87 q89 (by have := HVN.out; omega) (by simp) hG.size
    · refine StepG.on rfl (fun d a W hI hw => yielded_of rfl (hI.2.2.at_ (i := 18) rfl (hw 18 rfl) id)) ?_
      refine stepC rfl rfl (by decide) (by rw [hz]; decide) rfl rfl (by kernel_rfl) St SG fun d a W hF hG hH hn hcl hw => ?_
      have q78 : a.eval (.tmp 78) = hashV x := hH.at_ (i := 19) rfl (hw 19 rfl) id
      have q82 : a.eval (.tmp 82) = .string ⟨X.toArray⟩ := hH.at_ (i := 23) rfl (hw 23 rfl) id
      have q83 : a.eval (.tmp 83) = .int .i64 (i : Int) := hH.at_ (i := 24) rfl (hw 24 rfl) id
      have q84 : a.eval (.tmp 84) = .int .i64 (n : Int) := hH.at_ (i := 25) rfl (hw 25 rfl) id
      have q90 : OwnHs W w4.heap.size (a.eval (.tmp 90)) (V ++ [x]) := hH.at_ (i := 31) rfl (hw 31 rfl) id
      have qf : a.eval (.func 28) = .func (.func 28) #[] #[] := rfl
      obtain ⟨A9, c9, q90, hc9, hs9⟩ := q90.toHs
      refine ⟨28, #[hashV x, .string ⟨X.toArray⟩, .int .i64 (i : Int), .int .i64 (n : Int), .slice A9 (V ++ [x]).length c9], ?_, ?_⟩
      · clear hF hG hH hn hcl hw
        generalize a.eval = ρ at *
        go_simp
      · refine (HV2.out A9 c9 W hc9 hs9 (hk4.next hG)).mono ?_; rintro e W' ⟨rfl, b⟩; exact ⟨_, rfl, b, rfl⟩
    · refine StepG.of ?_
      refine stepB rfl rfl (by decide) (by rw [hz]; decide) rfl rfl (by kernel_rfl) St SG fun d a W hF hG hH hn hcl hw => ?_
      have q77 : a.eval (.tmp 77) = .bool false := hH.at_ (i := 18) rfl (hw 18 rfl) id
      have q91 : a.eval (.tmp 91) = .bool false := hH.at_ (i := 32) rfl (hw 32 rfl) id
      have qk0 : a.eval (.const (.bool true)) = .bool true := rfl
      refine ⟨.bool false, W, ?_, Below.refl _ _, ?_⟩
      · clear hF hG hH hn hcl hw
        generalize a.eval = ρ at *
        go_simp
      · rfl
  · intro d a W ⟨hF, hB, hH⟩ hall
    have k92 : a.eval (.tmp 92) = .bool false := hH.at_ (i := 33) rfl (hall 33 (by decide)) id
    clear hH hall
    rw [hF.shape (by rw [hz]; decide)]
    clear hF
    simp only [List.foldl]
    generalize a.eval (.tmp 59) = z59 at *
    generalize a.eval (.tmp 60) = z60 at *
    generalize a.eval (.tmp 61) = z61 at *
    generalize a.eval (.tmp 62) = z62 at *
    generalize a.eval (.tmp 63) = z63 at *
    generalize a.eval (.tmp 64) = z64 at *
    generalize a.eval (.tmp 65) = z65 at *
    generalize a.eval (.tmp 66) = z66 at *
    generalize a.eval (.tmp 67) = z67 at *
    generalize a.eval (.tmp 68) = z68 at *
    generalize a.eval (.tmp 69) = z69 at *
    generalize a.eval (.tmp 70) = z70 at *
    generalize a.eval (.tmp 71) = z71 at *
    generalize a.eval (.tmp 72) = z72 at *
    generalize a.eval (.tmp 73) = z73 at *
    generalize a.eval (.tmp 74) = z74 at *
    generalize a.eval (.tmp 75) = z75 at *
    generalize a.eval (.tmp 76) = z76 at *
    generalize a.eval (.tmp 77) = z77 at *
    generalize a.eval (.tmp 78) = z78 at *
    generalize a.eval (.tmp 79) = z79 at *
    generalize a.eval (.tmp 80) = z80 at *
    generalize a.eval (.tmp 81) = z81 at *
    generalize a.eval (.tmp 82) = z82 at *
    generalize a.eval (.tmp 83) = z83 at *
    generalize a.eval (.tmp 84) = z84 at *
    generalize a.eval (.tmp 85) = z85 at *
    generalize a.eval (.tmp 86) = z86 at *
    generalize a.eval (.tmp 87) = z87 at *
    generalize a.eval (.tmp 88) = z88 at *
    generalize a.eval (.tmp 89) = z89 at *
    generalize a.eval (.tmp 90) = z90 at *
    generalize a.eval (.tmp 91) = z91 at *
    generalize a.eval (.tmp 92) = z92 at *
    subst k92
    rw [HA0.out]
    simp only [Act.put, List.setIfInBounds_toArray, List.set_cons_zero, List.set_cons_succ]
    clear hz HA0 SG e0 e1 e11 e12 e13 e14 e15
    clear a a0
    have hk5 := hk4.next hB
    have hL5 := hL4.next hB
    have hs5 := hs4.next hB
    have hO5 := hO4.next hB
    have bx5 : BoxH W g12 x := BoxA.next z12 hB
    have BB5 := Below.on BB hB
    clear hk4 hL4 hs4 hO4 z12 BB hB HV1 HV2
    generalize W = w5 at *
    go_upto_region 9 with (first
      | (go_at_call 18; refine (constants_any _).mono ?_; rintro e w6 ⟨rfl, b6⟩)
      | (refine wpList_newW rfl (.tmp 16) (.tmp 93) rfl rfl rfl ?_))
    have x16 := withW_box w6
    have bw := withW_below w6
    obtain ⟨w7, hW⟩ : ∃ w7, withW w6 = w7 := ⟨_, rfl⟩
    change Code.wp _ _ _ _ (withW w6)
    rw [hW] at x16 bw ⊢
    have b7 := Below.on b6 bw
    generalize w6.heap.size = g16 at *
    have hk7 := hk5.next b7
    have hL7 := hL5.next b7
    have hs7 := hs5.next b7
    have hO7 := hO5.next b7
    have bx7 : BoxH w7 g12 x := BoxA.next bx5 b7
    have BB7 := Below.on BB5 b7
    clear hW b6 bw b7 hk5 hL5 hs5 hO5 bx5 BB5
    dsimp only [Act.put]
    go_cut [123] from 94 to 122 (fun u W => u = .bool false ∧ Below w7.heap.size w7 W)
    case first =>
      have hvo := fun W (h : Hs W VA V) (kon : Kon W) => HV.out other (by have := HO.out; omega) V (by omega) VA vc W (by rw [HVN.out]; exact hvc) h kon
      obtain ⟨bv, hbv⟩ : ∃ bv, verM x other i n V = bv := ⟨_, rfl⟩
      rw [hbv, HVN.out] at hvo
      have HVO := Lib.hid hvo
      have HBV := Lib.hid hbv
      clear hvo hbv
      by_cases e : other = X
      · have HE := Lib.hid e
        clear e
        refine wp_name fun a0 ha0 => ?_
        have e0 : a0.eval (.tmp 0) = .slice (some ad) n c := by rw [ha0]; rfl
        have e1 : a0.eval (.tmp 1) = .int .i64 (i : Int) := by rw [ha0]; rfl
        have e2 : a0.eval (.tmp 2) = .string ⟨other.toArray⟩ := by rw [ha0]; rfl
        have e11 : a0.eval (.tmp 11) = .int .i64 (n : Int) := by rw [ha0]; rfl
        have e12 : a0.eval (.tmp 12) = .pointer (some ⟨g12, 0, none⟩) := by rw [ha0]; rfl
        have e14 : a0.eval (.tmp 14) = .slice VA vn vc := by rw [ha0]; rfl
        have e16 : a0.eval (.tmp 16) = .pointer (some ⟨g16, 0, none⟩) := by rw [ha0]; rfl
        have hz : a0.tmps.size = 191 := by rw [ha0]; rfl
        have HA0 := Lib.hid ha0
        clear ha0
        have SG : ∀ (d d' : Nat → Prop) (W W' : World), (fun (_ : Nat → Prop) (W : World) => Below w7.heap.size w7 W) d W → (∀ j, d j → d' j) → Below W.heap.size W W' → (fun (_ : Nat → Prop) (W : World) => Below w7.heap.size w7 W) d' W' := fun _ _ _ _ h _ b => Below.next h b
        refine wp_region_guards (Inv [94, 95, 96, 97, 98, 99, 100, 101, 102, 103, 104, 105, 106, 107, 108, 109, 110, 111, 112, 113, 114, 115, 116, 117, 118, 119, 120, 121, 122, 123] a0 (fun (_ : Nat → Prop) (W : World) => Below w7.heap.size w7 W) [(⟨some 0, 94, none, fun v _ => v = .string ⟨other.toArray⟩⟩ : Cl), ⟨some 1, 95, none, fun v _ => v = .slice (some ad) n c⟩, ⟨some 2, 96, none, fun v _ => v = .int .i64 (i : Int)⟩, ⟨some 3, 97, none, fun v _ => v = .pointer (some (ad.add i))⟩, ⟨some 4, 98, none, fun v _ => v = .string ⟨X.toArray⟩⟩, ⟨some 5, 99, none, fun v _ => v = .bool false⟩, ⟨some 6, 100, none, fun v _ => v = .bool false⟩, ⟨some 7, 101, none, fun v _ => v = undef⟩, ⟨some 8, 102, none, fun v _ => v = undef⟩, ⟨some 9, 103, none, fun v _ => v = undef⟩, ⟨some 10, 104, none, fun v _ => v = undef⟩, ⟨some 11, 105, none, fun v _ => v = undef⟩, ⟨some 12, 106, none, fun v _ => v = undef⟩, ⟨some 13, 107, none, fun v _ => v = .bool false⟩, ⟨some 14, 108, none, fun v _ => v = .bool false⟩, ⟨some 15, 109, none, fun v _ => v = undef⟩, ⟨some 16, 110, none, fun v _ => v = undef⟩, ⟨some 17, 111, none, fun v _ => v = undef⟩, ⟨some 18, 112, none, fun v _ => v = undef⟩, ⟨some 19, 113, none, fun v _ => v = undef⟩, ⟨some 20, 114, none, fun v _ => v = undef⟩, ⟨some 21, 115, none, fun v _ => v = undef⟩, ⟨some 22, 116, none, fun v _ => v = undef⟩, ⟨some 23, 117, none, fun v _ => v = undef⟩, ⟨some 24, 118, none, fun v _ => v = undef⟩, ⟨some 25, 119, none, fun v _ => v = undef⟩, ⟨some 26, 120, none, fun v _ => v = undef⟩, ⟨some 27, 121, none, fun v _ => v = undef⟩, ⟨some 28, 122, none, fun v _ => v = undef⟩, ⟨some 29, 123, none, fun v _ => v = .bool false⟩]) (by kernel_rfl) (by kernel_rfl) (Inv.start (Below.refl _ _).drew ⟨nofun, nofun, nofun, nofun, nofun, nofun, nofun, nofun, nofun, nofun, nofun, nofun, nofun, nofun, nofun, nofun, nofun, nofun, nofun, nofun, nofun, nofun, nofun, nofun, nofun, nofun, nofun, nofun, nofun, nofun, trivial⟩) ?_ ?_
        · have St : ∀ xc ∈ [(⟨some 0, 94, none, fun v _ => v = .string ⟨other.toArray⟩⟩ : Cl), ⟨some 1, 95, none, fun v _ => v = .slice (some ad) n c⟩, ⟨some 2, 96, none, fun v _ => v = .int .i64 (i : Int)⟩, ⟨some 3, 97, none, fun v _ => v = .pointer (some (ad.add i))⟩, ⟨some 4, 98, none, fun v _ => v = .string ⟨X.toArray⟩⟩, ⟨some 5, 99, none, fun v _ => v = .bool false⟩, ⟨some 6, 100, none, fun v _ => v = .bool false⟩, ⟨some 7, 101, none, fun v _ => v = undef⟩, ⟨some 8, 102, none, fun v _ => v = undef⟩, ⟨some 9, 103, none, fun v _ => v = undef⟩, ⟨some 10, 104, none, fun v _ => v = undef⟩, ⟨some 11, 105, none, fun v _ => v = undef⟩, ⟨some 12, 106, none, fun v _ => v = undef⟩, ⟨some 13, 107, none, fun v _ => v = .bool false⟩, ⟨some 14, 108, none, fun v _ => v = .bool false⟩, ⟨some 15, 109, none, fun v _ => v = undef⟩, ⟨some 16, 110, none, fun v _ => v = undef⟩, ⟨some 17, 111, none, fun v _ => v = undef⟩, ⟨some 18, 112, none, fun v _ => v = undef⟩, ⟨some 19, 113, none, fun v _ => v = undef⟩, ⟨some 20, 114, none, fun v _ => v = undef⟩, ⟨some 21, 115, none, fun v _ => v = undef⟩, ⟨some 22, 116, none, fun v _ => v = undef⟩, ⟨some 23, 117, none, fun v _ => v = undef⟩, ⟨some 24, 118, none, fun v _ => v = undef⟩, ⟨some 25, 119, none, fun v _ => v = undef⟩, ⟨some 26, 120, none, fun v _ => v = undef⟩, ⟨some 27, 121, none, fun v _ => v = undef⟩, ⟨some 28, 122, none, fun v _ => v = undef⟩, ⟨some 29, 123, none, fun v _ => v = .bool false⟩], Lasts xc := AllC.mem ⟨lastsV0 _ _ _ _, lastsV0 _ _ _ _, lastsV0 _ _ _ _, lastsV0 _ _ _ _, lastsV0 _ _ _ _, lastsV0 _ _ _ _, lastsV0 _ _ _ _, lastsV0 _ _ _ _, lastsV0 _ _ _ _, lastsV0 _ _ _ _, lastsV0 _ _ _ _, lastsV0 _ _ _ _, lastsV0 _ _ _ _, lastsV0 _ _ _ _, lastsV0 _ _ _ _, lastsV0 _ _ _ _, lastsV0 _ _ _ _, lastsV0 _ _ _ _, lastsV0 _ _ _ _, lastsV0 _ _ _ _, lastsV0 _ _ _ _, lastsV0 _ _ _ _, lastsV0 _ _ _ _, lastsV0 _ _ _ _, lastsV0 _ _ _ _, lastsV0 _ _ _ _, lastsV0 _ _ _ _, lastsV0 _ _ _ _, lastsV0 _ _ _ _, lastsV0 _ _ _ _, trivial⟩
          clear HA0
          refine ⟨?_, ?_, ?_, ?_, ?_, ?_, ?_, ?_, ?_, ?_, ?_, ?_, ?_, ?_, ?_, ?_, ?_, ?_, ?_, ?_, ?_, ?_, ?_, ?_, ?_, ?_, ?_, ?_, ?_, ?_, trivial⟩
          · refine StepG.of ?_
            refine stepB rfl rfl (by decide) (by rw [hz]; decide) rfl rfl (by kernel_rfl) St SG fun d a W hF hG hH hn hcl hw => ?_
            have q2 := (hF.same 2 (by decide)).trans e2
            refine ⟨.string ⟨other.toArray⟩, W, ?_, Below.refl _ _, ?_⟩
            · clear hF hG hH hn hcl hw
              generalize a.eval = ρ at *
              go_simp
            · rfl
          · refine StepG.of ?_
            refine stepB rfl rfl (by decide) (by rw [hz]; decide) rfl rfl (by kernel_rfl) St SG fun d a W hF hG hH hn hcl hw => ?_
            have q0 := (hF.same 0 (by decide)).trans e0
            refine ⟨.slice (some ad) n c, W, ?_, Below.refl _ _, ?_⟩
            · clear hF hG hH hn hcl hw
              generalize a.eval = ρ at *
              go_simp
            · rfl
          · refine StepG.of ?_
            refine stepB rfl rfl (by decide) (by rw [hz]; decide) rfl rfl (by kernel_rfl) St SG fun d a W hF hG hH hn hcl hw => ?_
            have q1 := (hF.same 1 (by decide)).trans e1
            refine ⟨.int .i64 (i : Int), W, ?_, Below.refl _ _, ?_⟩
            · clear hF hG hH hn hcl hw
              generalize a.eval = ρ at *
              go_simp
            · rfl
          · refine StepG.of ?_
            refine stepB rfl rfl (by decide) (by rw [hz]; decide) rfl rfl (by kernel_rfl) St SG fun d a W hF hG hH hn hcl hw => ?_
            have q95 : a.eval (.tmp 95) = .slice (some ad) n c := hH.at_ (i := 1) rfl (hw 1 rfl) id
            have q96 : a.eval (.tmp 96) = .int .i64 (i : Int) := hH.at_ (i := 2) rfl (hw 2 rfl) id
            refine ⟨.pointer (some (ad.add i)), W, ?_, Below.refl _ _, ?_⟩
            · exact exec_indexS rfl q95 q96 hi
            · rfl
          · refine StepG.of ?_
            refine stepB rfl rfl (by decide) (by rw [hz]; decide) rfl rfl (by kernel_rfl) St SG fun d a W hF hG hH hn hcl hw => ?_
            have q97 : a.eval (.tmp 97) = .pointer (some (ad.add i)) := hH.at_ (i := 3) rfl (hw 3 rfl) id
            have qc_ := HC.out W (hL7.next hG)
            refine ⟨.string ⟨X.toArray⟩, W, ?_, Below.refl _ _, ?_⟩
            · clear hF hG hH hn hcl hw
              generalize a.eval = ρ at *
              go_simp
            · rfl
          · refine StepG.of ?_
            refine stepB rfl rfl (by decide) (by rw [hz]; decide) rfl rfl (by kernel_rfl) St SG fun d a W hF hG hH hn hcl hw => ?_
            have q94 : a.eval (.tmp 94) = .string ⟨other.toArray⟩ := hH.at_ (i := 0) rfl (hw 0 rfl) id
            have q98 : a.eval (.tmp 98) = .string ⟨X.toArray⟩ := hH.at_ (i := 4) rfl (hw 4 rfl) id
            have e_ := HE.out
            refine ⟨.bool false, W, ?_, Below.refl _ _, ?_⟩
            · clear hF hG hH hn hcl hw
              generalize a.eval = ρ at *
              go_simp
            · rfl
          · refine StepG.of ?_
            refine stepB rfl rfl (by decide) (by rw [hz]; decide) rfl rfl (by kernel_rfl) St SG fun d a W hF hG hH hn hcl hw => ?_
            have q99 : a.eval (.tmp 99) = .bool false := hH.at_ (i := 5) rfl (hw 5 rfl) id
            refine ⟨.bool false, W, ?_, Below.refl _ _, ?_⟩
            · clear hF hG hH hn hcl hw
              generalize a.eval = ρ at *
              go_simp
            · rfl
          · exact step_off rfl rfl (by decide) (by rw [hz]; decide) rfl rfl (by kernel_rfl) (fun _ => rfl) SG (fun d a W hI hw => yielded_of rfl (hI.2.2.at_ (i := 6) rfl (hw 6 rfl) id))
          · exact step_off rfl rfl (by decide) (by rw [hz]; decide) rfl rfl (by kernel_rfl) (fun _ => rfl) SG (fun d a W hI hw => yielded_of rfl (hI.2.2.at_ (i := 6) rfl (hw 6 rfl) id))
          · exact step_off rfl rfl (by decide) (by rw [hz]; decide) rfl rfl (by kernel_rfl) (fun _ => rfl) SG (fun d a W hI hw => yielded_of rfl (hI.2.2.at_ (i := 6) rfl (hw 6 rfl) id))
          · exact step_off rfl rfl (by decide) (by rw [hz]; decide) rfl rfl (by kernel_rfl) (fun _ => rfl) SG (fun d a W hI hw => yielded_of rfl (hI.2.2.at_ (i := 6) rfl (hw 6 rfl) id))
          · exact step_off rfl rfl (by decide) (by rw [hz]; decide) rfl rfl (by kernel_rfl) (fun _ => rfl) SG (fun d a W hI hw => yielded_of rfl (hI.2.2.at_ (i := 6) rfl (hw 6 rfl) id))
          · exact step_off rfl rfl (by decide) (by rw [hz]; decide) rfl rfl (by kernel_rfl) (fun _ => rfl) SG (fun d a W hI hw => yielded_of rfl (hI.2.2.at_ (i := 6) rfl (hw 6 rfl) id))
          · refine StepG.of ?_
            refine stepB rfl rfl (by decide) (by rw [hz]; decide) rfl rfl (by kernel_rfl) St SG fun d a W hF hG hH hn hcl hw => ?_
            have q100 : a.eval (.tmp 100) = .bool false := hH.at_ (i := 6) rfl (hw 6 rfl) id
            have q106 : a.eval (.tmp 106) = undef := hH.at_ (i := 12) rfl (hw 12 rfl) id
            have qk1 : a.eval (.const (.bool false)) = .bool false := rfl
            refine ⟨.bool false, W, ?_, Below.refl _ _, ?_⟩
            · clear hF hG hH hn hcl hw
              generalize a.eval = ρ at *
              go_simp
            · rfl
          · refine StepG.of ?_
            refine stepB rfl rfl (by decide) (by rw [hz]; decide) rfl rfl (by kernel_rfl) St SG fun d a W hF hG hH hn hcl hw => ?_
            have q107 : a.eval (.tmp 107) = .bool false := hH.at_ (i := 13) rfl (hw 13 rfl) id
            refine ⟨.bool false, W, ?_, Below.refl _ _, ?_⟩
            · clear hF hG hH hn hcl hw
              generalize a.eval = ρ at *
              go_simp
            · rfl
          · exact step_off rfl rfl (by decide) (by rw [hz]; decide) rfl rfl (by kernel_rfl) (fun _ => rfl) SG (fun d a W hI hw => yielded_of rfl (hI.2.2.at_ (i := 14) rfl (hw 14 rfl) id))
          · exact step_off rfl rfl (by decide) (by rw [hz]; decide) rfl rfl (by kernel_rfl) (fun _ => rfl) SG (fun d a W hI hw => yielded_of rfl (hI.2.2.at_ (i := 14) rfl (hw 14 rfl) id))
          · exact step_off rfl rfl (by decide) (by rw [hz]; decide) rfl rfl (by kernel_rfl) (fun _ => rfl) SG (fun d a W hI hw => yielded_of rfl (hI.2.2.at_ (i := 14) rfl (hw 14 rfl) id))
          · exact step_off rfl rfl (by decide) (by rw [hz]; decide) rfl rfl (by kernel_rfl) (fun _ => rfl) SG (fun d a W hI hw => yielded_of rfl (hI.2.2.at_ (i := 14) rfl (hw 14 rfl) id))
          · exact step_off rfl rfl (by decide) (by rw [hz]; decide) rfl rfl (by kernel_rfl) (fun _ => rfl) SG (fun d a W hI hw => yielded_of rfl (hI.2.2.at_ (i := 14) rfl (hw 14 rfl) id))
          · exact step_off rfl rfl (by decide) (by rw [hz]; decide) rfl rfl (by kernel_rfl) (fun _ => rfl) SG (fun d a W hI hw => yielded_of rfl (hI.2.2.at_ (i := 14) rfl (hw 14 rfl) id))
          · exact step_off rfl rfl (by decide) (by rw [hz]; decide) rfl rfl (by kernel_rfl) (fun _ => rfl) SG (fun d a W hI hw => yielded_of rfl (hI.2.2.at_ (i := 14) rfl (hw 14 rfl) id))
          · exact step_off rfl rfl (by decide) (by rw [hz]; decide) rfl rfl (by kernel_rfl) (fun _ => rfl) SG (fun d a W hI hw => yielded_of rfl (hI.2.2.at_ (i := 14) rfl (hw 14 rfl) id))
          · exact step_off rfl rfl (by decide) (by rw [hz]; decide) rfl rfl (by kernel_rfl) (fun _ => rfl) SG (fun d a W hI hw => yielded_of rfl (hI.2.2.at_ (i := 14) rfl (hw 14 rfl) id))
          · exact step_off rfl rfl (by decide) (by rw [hz]; decide) rfl rfl (by kernel_rfl) (fun _ => rfl) SG (fun d a W hI hw => yielded_of rfl (hI.2.2.at_ (i := 14) rfl (hw 14 rfl) id))
          · exact step_off rfl rfl (by decide) (by rw [hz]; decide) rfl rfl (by kernel_rfl) (fun _ => rfl) SG (fun d a W hI hw => yielded_of rfl (hI.2.2.at_ (i := 14) rfl (hw 14 rfl) id))
          · exact step_off rfl rfl (by decide) (by rw [hz]; decide) rfl rfl (by kernel_rfl) (fun _ => rfl) SG (fun d a W hI hw => yielded_of rfl (hI.2.2.at_ (i := 14) rfl (hw 14 rfl) id))
          · exact step_off rfl rfl (by decide) (by rw [hz]; decide) rfl rfl (by kernel_rfl) (fun _ => rfl) SG (fun d a W hI hw => yielded_of rfl (hI.2.2.at_ (i := 14) rfl (hw 14 rfl) id))
          · exact step_off rfl rfl (by decide) (by rw [hz]; decide) rfl rfl (by kernel_rfl) (fun _ => rfl) SG (fun d a W hI hw => yielded_of rfl (hI.2.2.at_ (i := 14) rfl (hw 14 rfl) id))
          · refine StepG.of ?_
            refine stepB rfl rfl (by decide) (by rw [hz]; decide) rfl rfl (by kernel_rfl) St SG fun d a W hF hG hH hn hcl hw => ?_
            have q108 : a.eval (.tmp 108) = .bool false := hH.at_ (i := 14) rfl (hw 14 rfl) id
            have q122 : a.eval (.tmp 122) = undef := hH.at_ (i := 28) rfl (hw 28 rfl) id
            have qk1 : a.eval (.const (.bool false)) = .bool false := rfl
            refine ⟨.bool false, W, ?_, Below.refl _ _, ?_⟩
            · clear hF hG hH hn hcl hw
              generalize a.eval = ρ at *
              go_simp
            · rfl
        · intro d a W ⟨hF, hB, hH⟩ hall
          have k123 : a.eval (.tmp 123) = .bool false := hH.at_ (i := 29) rfl (hall 29 (by decide)) id
          clear hH hall
          rw [hF.shape (by rw [hz]; decide)]
          clear hF
          simp only [List.foldl]
          generalize a.eval (.tmp 94) = z94 at *
          generalize a.eval (.tmp 95) = z95 at *
          generalize a.eval (.tmp 96) = z96 at *
          generalize a.eval (.tmp 97) = z97 at *
          generalize a.eval (.tmp 98) = z98 at *
          generalize a.eval (.tmp 99) = z99 at *
          generalize a.eval (.tmp 100) = z100 at *
          generalize a.eval (.tmp 101) = z101 at *
          generalize a.eval (.tmp 102) = z102 at *
          generalize a.eval (.tmp 103) = z103 at *
          generalize a.eval (.tmp 104) = z104 at *
          generalize a.eval (.tmp 105) = z105 at *
          generalize a.eval (.tmp 106) = z106 at *
          generalize a.eval (.tmp 107) = z107 at *
          generalize a.eval (.tmp 108) = z108 at *
          generalize a.eval (.tmp 109) = z109 at *
          generalize a.eval (.tmp 110) = z110 at *
          generalize a.eval (.tmp 111) = z111 at *
          generalize a.eval (.tmp 112) = z112 at *
          generalize a.eval (.tmp 113) = z113 at *
          generalize a.eval (.tmp 114) = z114 at *
          generalize a.eval (.tmp 115) = z115 at *
          generalize a.eval (.tmp 116) = z116 at *
          generalize a.eval (.tmp 117) = z117 at *
          generalize a.eval (.tmp 118) = z118 at *
          generalize a.eval (.tmp 119) = z119 at *
          generalize a.eval (.tmp 120) = z120 at *
          generalize a.eval (.tmp 121) = z121 at *
          generalize a.eval (.tmp 122) = z122 at *
          generalize a.eval (.tmp 123) = z123 at *
          subst k123
          rw [HA0.out]
          simp only [Act.put, List.setIfInBounds_toArray, List.set_cons_zero, List.set_cons_succ]
          clear hz HA0 SG e0 e1 e2 e11 e12 e14 e16
          clear a a0
          go_wp2_with (fail)
          go_meet
          exact ⟨rfl, hB⟩
      · have HE := Lib.hid e
        clear e
        cases bv
        · refine wp_name fun a0 ha0 => ?_
          have e0 : a0.eval (.tmp 0) = .slice (some ad) n c := by rw [ha0]; rfl
          have e1 : a0.eval (.tmp 1) = .int .i64 (i : Int) := by rw [ha0]; rfl
          have e2 : a0.eval (.tmp 2) = .string ⟨other.toArray⟩ := by rw [ha0]; rfl
          have e11 : a0.eval (.tmp 11) = .int .i64 (n : Int) := by rw [ha0]; rfl
          have e12 : a0.eval (.tmp 12) = .pointer (some ⟨g12, 0, none⟩) := by rw [ha0]; rfl
          have e14 : a0.eval (.tmp 14) = .slice VA vn vc := by rw [ha0]; rfl
          have e16 : a0.eval (.tmp 16) = .pointer (some ⟨g16, 0, none⟩) := by rw [ha0]; rfl
          have hz : a0.tmps.size = 191 := by rw [ha0]; rfl
          have HA0 := Lib.hid ha0
          clear ha0
          have SG : ∀ (d d' : Nat → Prop) (W W' : World), (fun (_ : Nat → Prop) (W : World) => Below w7.heap.size w7 W) d W → (∀ j, d j → d' j) → Below W.heap.size W W' → (fun (_ : Nat → Prop) (W : World) => Below w7.heap.size w7 W) d' W' := fun _ _ _ _ h _ b => Below.next h b
          refine wp_region_guards (Inv [94, 95, 96, 97, 98, 99, 100, 101, 102, 103, 104, 105, 106, 107, 108, 109, 110, 111, 112, 113, 114, 115, 116, 117, 118, 119, 120, 121, 122, 123] a0 (fun (_ : Nat → Prop) (W : World) => Below w7.heap.size w7 W) [(⟨some 0, 94, none, fun v _ => v = .string ⟨other.toArray⟩⟩ : Cl), ⟨some 1, 95, none, fun v _ => v = .slice (some ad) n c⟩, ⟨some 2, 96, none, fun v _ => v = .int .i64 (i : Int)⟩, ⟨some 3, 97, none, fun v _ => v = .pointer (some (ad.add i))⟩, ⟨some 4, 98, none, fun v _ => v = .string ⟨X.toArray⟩⟩, ⟨some 5, 99, none, fun v _ => v = .bool true⟩, ⟨some 6, 100, none, fun v _ => v = .bool true⟩, ⟨some 7, 101, none, fun v _ => v = hashV x⟩, ⟨some 8, 102, none, fun v _ => v = .string ⟨other.toArray⟩⟩, ⟨some 9, 103, none, fun v _ => v = .int .i64 (i : Int)⟩, ⟨some 10, 104, none, fun v _ => v = .int .i64 (n : Int)⟩, ⟨some 11, 105, none, fun v _ => v = .slice VA vn vc⟩, ⟨some 12, 106, none, fun v _ => v = .bool false⟩, ⟨some 13, 107, none, fun v _ => v = .bool false⟩, ⟨some 14, 108, none, fun v _ => v = .bool false⟩, ⟨some 15, 109, none, fun v _ => v = undef⟩, ⟨some 16, 110, none, fun v _ => v = undef⟩, ⟨some 17, 111, none, fun v _ => v = undef⟩, ⟨some 18, 112, none, fun v _ => v = undef⟩, ⟨some 19, 113, none, fun v _ => v = undef⟩, ⟨some 20, 114, none, fun v _ => v = undef⟩, ⟨some 21, 115, none, fun v _ => v = undef⟩, ⟨some 22, 116, none, fun v _ => v = undef⟩, ⟨some 23, 117, none, fun v _ => v = undef⟩, ⟨some 24, 118, none, fun v _ => v = undef⟩, ⟨some 25, 119, none, fun v _ => v = undef⟩, ⟨some 26, 120, none, fun v _ => v = undef⟩, ⟨some 27, 121, none, fun v _ => v = undef⟩, ⟨some 28, 122, none, fun v _ => v = undef⟩, ⟨some 29, 123, none, fun v _ => v = .bool false⟩]) (by kernel_rfl) (by kernel_rfl) (Inv.start (Below.refl _ _).drew ⟨nofun, nofun, nofun, nofun, nofun, nofun, nofun, nofun, nofun, nofun, nofun, nofun, nofun, nofun, nofun, nofun, nofun, nofun, nofun, nofun, nofun, nofun, nofun, nofun, nofun, nofun, nofun, nofun, nofun, nofun, trivial⟩) ?_ ?_
          · have St : ∀ xc ∈ [(⟨some 0, 94, none, fun v _ => v = .string ⟨other.toArray⟩⟩ : Cl), ⟨some 1, 95, none, fun v _ => v = .slice (some ad) n c⟩, ⟨some 2, 96, none, fun v _ => v = .int .i64 (i : Int)⟩, ⟨some 3, 97, none, fun v _ => v = .pointer (some (ad.add i))⟩, ⟨some 4, 98, none, fun v _ => v = .string ⟨X.toArray⟩⟩, ⟨some 5, 99, none, fun v _ => v = .bool true⟩, ⟨some 6, 100, none, fun v _ => v = .bool true⟩, ⟨some 7, 101, none, fun v _ => v = hashV x⟩, ⟨some 8, 102, none, fun v _ => v = .string ⟨other.toArray⟩⟩, ⟨some 9, 103, none, fun v _ => v = .int .i64 (i : Int)⟩, ⟨some 10, 104, none, fun v _ => v = .int .i64 (n : Int)⟩, ⟨some 11, 105, none, fun v _ => v = .slice VA vn vc⟩, ⟨some 12, 106, none, fun v _ => v = .bool false⟩, ⟨some 13, 107, none, fun v _ => v = .bool false⟩, ⟨some 14, 108, none, fun v _ => v = .bool false⟩, ⟨some 15, 109, none, fun v _ => v = undef⟩, ⟨some 16, 110, none, fun v _ => v = undef⟩, ⟨some 17, 111, none, fun v _ => v = undef⟩, ⟨some 18, 112, none, fun v _ => v = undef⟩, ⟨some 19, 113, none, fun v _ => v = undef⟩, ⟨some 20, 114, none, fun v _ => v = undef⟩, ⟨some 21, 115, none, fun v _ => v = undef⟩, ⟨some 22, 116, none, fun v _ => v = undef⟩, ⟨some 23, 117, none, fun v _ => v = undef⟩, ⟨some 24, 118, none, fun v _ => v = undef⟩, ⟨some 25, 119, none, fun v _ => v = undef⟩, ⟨some 26, 120, none, fun v _ => v = undef⟩, ⟨some 27, 121, none, fun v _ => v = undef⟩, ⟨some 28, 122, none, fun v _ => v = undef⟩, ⟨some 29, 123, none, fun v _ => v = .bool false⟩], Lasts xc := AllC.mem ⟨lastsV0 _ _ _ _, lastsV0 _ _ _ _, lastsV0 _ _ _ _, lastsV0 _ _ _ _, lastsV0 _ _ _ _, lastsV0 _ _ _ _, lastsV0 _ _ _ _, lastsV0 _ _ _ _, lastsV0 _ _ _ _, lastsV0 _ _ _ _, lastsV0 _ _ _ _, lastsV0 _ _ _ _, lastsV0 _ _ _ _, lastsV0 _ _ _ _, lastsV0 _ _ _ _, lastsV0 _ _ _ _, lastsV0 _ _ _ _, lastsV0 _ _ _ _, lastsV0 _ _ _ _, lastsV0 _ _ _ _, lastsV0 _ _ _ _, lastsV0 _ _ _ _, lastsV0 _ _ _ _, lastsV0 _ _ _ _, lastsV0 _ _ _ _, lastsV0 _ _ _ _, lastsV0 _ _ _ _, lastsV0 _ _ _ _, lastsV0 _ _ _ _, lastsV0 _ _ _ _, trivial⟩
            clear HA0
            refine ⟨?_, ?_, ?_, ?_, ?_, ?_, ?_, ?_, ?_, ?_, ?_, ?_, ?_, ?_, ?_, ?_, ?_, ?_, ?_, ?_, ?_, ?_, ?_, ?_, ?_, ?_, ?_, ?_, ?_, ?_, trivial⟩
            · refine StepG.of ?_
              refine stepB rfl rfl (by decide) (by rw [hz]; decide) rfl rfl (by kernel_rfl) St SG fun d a W hF hG hH hn hcl hw => ?_
              have q2 := (hF.same 2 (by decide)).trans e2
              refine ⟨.string ⟨other.toArray⟩, W, ?_, Below.refl _ _, ?_⟩
              · clear hF hG hH hn hcl hw
                generalize a.eval = ρ at *
                go_simp
              · rfl
            · refine StepG.of ?_
              refine stepB rfl rfl (by decide) (by rw [hz]; decide) rfl rfl (by kernel_rfl) St SG fun d a W hF hG hH hn hcl hw => ?_
              have q0 := (hF.same 0 (by decide)).trans e0
              refine ⟨.slice (some ad) n c, W, ?_, Below.refl _ _, ?_⟩
              · clear hF hG hH hn hcl hw
                generalize a.eval = ρ at *
                go_simp
              · rfl
            · refine StepG.of ?_
              refine stepB rfl rfl (by decide) (by rw [hz]; decide) rfl rfl (by kernel_rfl) St SG fun d a W hF hG hH hn hcl hw => ?_
              have q1 := (hF.same 1 (by decide)).trans e1
              refine ⟨.int .i64 (i : Int), W, ?_, Below.refl _ _, ?_⟩
              · clear hF hG hH hn hcl hw
                generalize a.eval = ρ at *
                go_simp
              · rfl
            · refine StepG.of ?_
              refine stepB rfl rfl (by decide) (by rw [hz]; decide) rfl rfl (by kernel_rfl) St SG fun d a W hF hG hH hn hcl hw => ?_
              have q95 : a.eval (.tmp 95) = .slice (some ad) n c := hH.at_ (i := 1) rfl (hw 1 rfl) id
              have q96 : a.eval (.tmp 96) = .int .i64 (i : Int) := hH.at_ (i := 2) rfl (hw 2 rfl) id
              refine ⟨.pointer (some (ad.add i)), W, ?_, Below.refl _ _, ?_⟩
              · exact exec_indexS rfl q95 q96 hi
              · rfl
            · refine StepG.of ?_
              refine stepB rfl rfl (by decide) (by rw [hz]; decide) rfl rfl (by kernel_rfl) St SG fun d a W hF hG hH hn hcl hw => ?_
              have q97 : a.eval (.tmp 97) = .pointer (some (ad.add i)) := hH.at_ (i := 3) rfl (hw 3 rfl) id
              have qc_ := HC.out W (hL7.next hG)
              refine ⟨.string ⟨X.toArray⟩, W, ?_, Below.refl _ _, ?_⟩
              · clear hF hG hH hn hcl hw
                generalize a.eval = ρ at *
                go_simp
              · rfl
            · refine StepG.of ?_
              refine stepB rfl rfl (by decide) (by rw [hz]; decide) rfl rfl (by kernel_rfl) St SG fun d a W hF hG hH hn hcl hw => ?_
              have q94 : a.eval (.tmp 94) = .string ⟨other.toArray⟩ := hH.at_ (i := 0) rfl (hw 0 rfl) id
              have q98 : a.eval (.tmp 98) = .string ⟨X.toArray⟩ := hH.at_ (i := 4) rfl (hw 4 rfl) id
              have e_ := HE.out
              refine ⟨.bool true, W, ?_, Below.refl _ _, ?_⟩
              · clear hF hG hH hn hcl hw
                generalize a.eval = ρ at *
                go_simp
              · rfl
            · refine StepG.of ?_
              refine stepB rfl rfl (by decide) (by rw [hz]; decide) rfl rfl (by kernel_rfl) St SG fun d a W hF hG hH hn hcl hw => ?_
              have q99 : a.eval (.tmp 99) = .bool true := hH.at_ (i := 5) rfl (hw 5 rfl) id
              refine ⟨.bool true, W, ?_, Below.refl _ _, ?_⟩
              · clear hF hG hH hn hcl hw
                generalize a.eval = ρ at *
                go_simp
              · rfl
            · refine StepG.on rfl (fun d a W hI hw => yielded_of rfl (hI.2.2.at_ (i := 6) rfl (hw 6 rfl) id)) ?_
              refine stepB rfl rfl (by decide) (by rw [hz]; decide) rfl rfl (by kernel_rfl) St SG fun d a W hF hG hH hn hcl hw => ?_
              have q12 := (hF.same 12 (by decide)).trans e12
              refine ⟨hashV x, W, ?_, Below.refl _ _, ?_⟩
              · exact exec_load rfl (by rw [q12]; exact BoxH.load_ (BoxA.next bx7 hG) HX.out)
              · rfl
            · refine StepG.on rfl (fun d a W hI hw => yielded_of rfl (hI.2.2.at_ (i := 6) rfl (hw 6 rfl) id)) ?_
              refine stepB rfl rfl (by decide) (by rw [hz]; decide) rfl rfl (by kernel_rfl) St SG fun d a W hF hG hH hn hcl hw => ?_
              have q2 := (hF.same 2 (by decide)).trans e2
              refine ⟨.string ⟨other.toArray⟩, W, ?_, Below.refl _ _, ?_⟩
              · clear hF hG hH hn hcl hw
                generalize a.eval = ρ at *
                go_simp
              · rfl
            · refine StepG.on rfl (fun d a W hI hw => yielded_of rfl (hI.2.2.at_ (i := 6) rfl (hw 6 rfl) id)) ?_
              refine stepB rfl rfl (by decide) (by rw [hz]; decide) rfl rfl (by kernel_rfl) St SG fun d a W hF hG hH hn hcl hw => ?_
              have q1 := (hF.same 1 (by decide)).trans e1
              refine ⟨.int .i64 (i : Int), W, ?_, Below.refl _ _, ?_⟩
              · clear hF hG hH hn hcl hw
                generalize a.eval = ρ at *
                go_simp
              · rfl
            · refine StepG.on rfl (fun d a W hI hw => yielded_of rfl (hI.2.2.at_ (i := 6) rfl (hw 6 rfl) id)) ?_
              refine stepB rfl rfl (by decide) (by rw [hz]; decide) rfl rfl (by kernel_rfl) St SG fun d a W hF hG hH hn hcl hw => ?_
              have q11 := (hF.same 11 (by decide)).trans e11
              refine ⟨.int .i64 (n : Int), W, ?_, Below.refl _ _, ?_⟩
              · clear hF hG hH hn hcl hw
                generalize a.eval = ρ at *
                go_simp
              · rfl
            · refine StepG.on rfl (fun d a W hI hw => yielded_of rfl (hI.2.2.at_ (i := 6) rfl (hw 6 rfl) id)) ?_
              refine stepB rfl rfl (by decide) (by rw [hz]; decide) rfl rfl (by kernel_rfl) St SG fun d a W hF hG hH hn hcl hw => ?_
              have q14 := (hF.same 14 (by decide)).trans e14
              refine ⟨.slice VA vn vc, W, ?_, Below.refl _ _, ?_⟩
              · clear hF hG hH hn hcl hw
                generalize a.eval = ρ at *
                go_simp
              · rfl
            · refine StepG.on rfl (fun d a W hI hw => yielded_of rfl (hI.2.2.at_ (i := 6) rfl (hw 6 rfl) id)) ?_
              refine stepC rfl rfl (by decide) (by rw [hz]; decide) rfl rfl (by kernel_rfl) St SG fun d a W hF hG hH hn hcl hw => ?_
              have q101 : a.eval (.tmp 101) = hashV x := hH.at_ (i := 7) rfl (hw 7 rfl) id
              have q102 : a.eval (.tmp 102) = .string ⟨other.toArray⟩ := hH.at_ (i := 8) rfl (hw 8 rfl) id
              have q103 : a.eval (.tmp 103) = .int .i64 (i : Int) := hH.at_ (i := 9) rfl (hw 9 rfl) id
              have q104 : a.eval (.tmp 104) = .int .i64 (n : Int) := hH.at_ (i := 10) rfl (hw 10 rfl) id
              have q105 : a.eval (.tmp 105) = .slice VA vn vc := hH.at_ (i := 11) rfl (hw 11 rfl) id
              have qf : a.eval (.func 28) = .func (.func 28) #[] #[] := rfl
              refine ⟨28, #[hashV x, .string ⟨other.toArray⟩, .int .i64 (i : Int), .int .i64 (n : Int), .slice VA vn vc], ?_, ?_⟩
              · clear hF hG hH hn hcl hw
                generalize a.eval = ρ at *
                go_simp
              · refine (HVO.out W (hs7.next hG) (hk7.next hG)).mono ?_; rintro e W' ⟨rfl, b⟩; exact ⟨_, rfl, b, rfl⟩
            · refine StepG.of ?_
              refine stepB rfl rfl (by decide) (by rw [hz]; decide) rfl rfl (by kernel_rfl) St SG fun d a W hF hG hH hn hcl hw => ?_
              have q100 : a.eval (.tmp 100) = .bool true := hH.at_ (i := 6) rfl (hw 6 rfl) id
              have q106 : a.eval (.tmp 106) = .bool false := hH.at_ (i := 12) rfl (hw 12 rfl) id
              have qk1 : a.eval (.const (.bool false)) = .bool false := rfl
              refine ⟨.bool false, W, ?_, Below.refl _ _, ?_⟩
              · clear hF hG hH hn hcl hw
                generalize a.eval = ρ at *
                go_simp
              · rfl
            · refine StepG.of ?_
              refine stepB rfl rfl (by decide) (by rw [hz]; decide) rfl rfl (by kernel_rfl) St SG fun d a W hF hG hH hn hcl hw => ?_
              have q107 : a.eval (.tmp 107) = .bool false := hH.at_ (i := 13) rfl (hw 13 rfl) id
              refine ⟨.bool false, W, ?_, Below.refl _ _, ?_⟩
              · clear hF hG hH hn hcl hw
                generalize a.eval = ρ at *
                go_simp
              · rfl
            · exact step_off rfl rfl (by decide) (by rw [hz]; decide) rfl rfl (by kernel_rfl) (fun _ => rfl) SG (fun d a W hI hw => yielded_of rfl (hI.2.2.at_ (i := 14) rfl (hw 14 rfl) id))
            · exact step_off rfl rfl (by decide) (by rw [hz]; decide) rfl rfl (by kernel_rfl) (fun _ => rfl) SG (fun d a W hI hw => yielded_of rfl (hI.2.2.at_ (i := 14) rfl (hw 14 rfl) id))
            · exact step_off rfl rfl (by decide) (by rw [hz]; decide) rfl rfl (by kernel_rfl) (fun _ => rfl) SG (fun d a W hI hw => yielded_of rfl (hI.2.2.at_ (i := 14) rfl (hw 14 rfl) id))
            · exact step_off rfl rfl (by decide) (by rw [hz]; decide) rfl rfl (by kernel_rfl) (fun _ => rfl) SG (fun d a W hI hw => yielded_of rfl (hI.2.2.at_ (i := 14) rfl (hw 14 rfl) id))
            · exact step_off rfl rfl (by decide) (by rw [hz]; decide) rfl rfl (by kernel_rfl) (fun _ => rfl) SG (fun d a W hI hw => yielded_of rfl (hI.2.2.at_ (i := 14) rfl (hw 14 rfl) id))
            · exact step_off rfl rfl (by decide) (by rw [hz]; decide) rfl rfl (by kernel_rfl) (fun _ => rfl) SG (fun d a W hI hw => yielded_of rfl (hI.2.2.at_ (i := 14) rfl (hw 14 rfl) id))
            · exact step_off rfl rfl (by decide) (by rw [hz]; decide) rfl rfl (by kernel_rfl) (fun _ => rfl) SG (fun d a W hI hw => yielded_of rfl (hI.2.2.at_ (i := 14) rfl (hw 14 rfl) id))
            · exact step_off rfl rfl (by decide) (by rw [hz]; decide) rfl rfl (by kernel_rfl) (fun _ => rfl) SG (fun d a W hI hw => yielded_of rfl (hI.2.2.at_ (i := 14) rfl (hw 14 rfl) id))
            · exact step_off rfl rfl (by decide) (by rw [hz]; decide) rfl rfl (by kernel_rfl) (fun _ => rfl) SG (fun d a W hI hw => yielded_of rfl (hI.2.2.at_ (i := 14) rfl (hw 14 rfl) id))
            · exact step_off rfl rfl (by decide) (by rw [hz]; decide) rfl rfl (by kernel_rfl) (fun _ => rfl) SG (fun d a W hI hw => yielded_of rfl (hI.2.2.at_ (i := 14) rfl (hw 14 rfl) id))
            · exact step_off rfl rfl (by decide) (by rw [hz]; decide) rfl rfl (by kernel_rfl) (fun _ => rfl) SG (fun d a W hI hw => yielded_of rfl (hI.2.2.at_ (i := 14) rfl (hw 14 rfl) id))
            · exact step_off rfl rfl (by decide) (by rw [hz]; decide) rfl rfl (by kernel_rfl) (fun _ => rfl) SG (fun d a W hI hw => yielded_of rfl (hI.2.2.at_ (i := 14) rfl (hw 14 rfl) id))
            · exact step_off rfl rfl (by decide) (by rw [hz]; decide) rfl rfl (by kernel_rfl) (fun _ => rfl) SG (fun d a W hI hw => yielded_of rfl (hI.2.2.at_ (i := 14) rfl (hw 14 rfl) id))
            · exact step_off rfl rfl (by decide) (by rw [hz]; decide) rfl rfl (by kernel_rfl) (fun _ => rfl) SG (fun d a W hI hw => yielded_of rfl (hI.2.2.at_ (i := 14) rfl (hw 14 rfl) id))
            · refine StepG.of ?_
              refine stepB rfl rfl (by decide) (by rw [hz]; decide) rfl rfl (by kernel_rfl) St SG fun d a W hF hG hH hn hcl hw => ?_
              have q108 : a.eval (.tmp 108) = .bool false := hH.at_ (i := 14) rfl (hw 14 rfl) id
              have q122 : a.eval (.tmp 122) = undef := hH.at_ (i := 28) rfl (hw 28 rfl) id
              have qk1 : a.eval (.const (.bool false)) = .bool false := rfl
              refine ⟨.bool false, W, ?_, Below.refl _ _, ?_⟩
              · clear hF hG hH hn hcl hw
                generalize a.eval = ρ at *
                go_simp
              · rfl
          · intro d a W ⟨hF, hB, hH⟩ hall
            have k123 : a.eval (.tmp 123) = .bool false := hH.at_ (i := 29) rfl (hall 29 (by decide)) id
            clear hH hall
            rw [hF.shape (by rw [hz]; decide)]
            clear hF
            simp only [List.foldl]
            generalize a.eval (.tmp 94) = z94 at *
            generalize a.eval (.tmp 95) = z95 at *
            generalize a.eval (.tmp 96) = z96 at *
            generalize a.eval (.tmp 97) = z97 at *
            generalize a.eval (.tmp 98) = z98 at *
            generalize a.eval (.tmp 99) = z99 at *
            generalize a.eval (.tmp 100) = z100 at *
            generalize a.eval (.tmp 101) = z101 at *
            generalize a.eval (.tmp 102) = z102 at *
            generalize a.eval (.tmp 103) = z103 at *
            generalize a.eval (.tmp 104) = z104 at *
            generalize a.eval (.tmp 105) = z105 at *
            generalize a.eval (.tmp 106) = z106 at *
            generalize a.eval (.tmp 107) = z107 at *
            generalize a.eval (.tmp 108) = z108 at *
            generalize a.eval (.tmp 109) = z109 at *
            generalize a.eval (.tmp 110) = z110 at *
            generalize a.eval (.tmp 111) = z111 at *
            generalize a.eval (.tmp 112) = z112 at *
            generalize a.eval (.tmp 113) = z113 at *
            generalize a.eval (.tmp 114) = z114 at *
            generalize a.eval (.tmp 115) = z115 at *
            generalize a.eval (.tmp 116) = z116 at *
            generalize a.eval (.tmp 117) = z117 at *
            generalize a.eval (.tmp 118) = z118 at *
            generalize a.eval (.tmp 119) = z119 at *
            generalize a.eval (.tmp 120) = z120 at *
            generalize a.eval (.tmp 121) = z121 at *
            generalize a.eval (.tmp 122) = z122 at *
            generalize a.eval (.tmp 123) = z123 at *
            subst k123
            rw [HA0.out]
            simp only [Act.put, List.setIfInBounds_toArray, List.set_cons_zero, List.set_cons_succ]
            clear hz HA0 SG e0 e1 e2 e11 e12 e14 e16
            clear a a0
            go_wp2_with (fail)
            go_meet
            exact ⟨rfl, hB⟩
        · have h32 : H32 V := hs7.1
          have hcl := clashB_yes (P4.out HE.out HBV.out h32)
          have fl : (foldT sha n i [other] V).length ≤ 100 := by have := foldT_len n n i [other] V (Nat.le_refl _); omega
          have fs := foldT_short n n i [other] V (Nat.le_refl _) (by simpa using (show other.length ≤ 90000 by have := HO.out; omega)) h32
          have hf1 := fun K W (hS : Strs W K [other]) (h : Hs W VA V) => HFT.out other (by have := HO.out; omega) V (by omega) K VA vc W (by rw [HVN.out]; exact hvc) hS h
          rw [HVN.out] at hf1
          generalize foldT sha n i [other] V = FT at *
          have HF1 := Lib.hid hf1
          have FL := Lib.hid fl
          have hcl' := fun A9 c9 W (hS : Strs W A9 (TT ++ FT)) => rclash_any (TT ++ FT) A9 _ c9 W rfl (by rw [List.length_append]; have := TL.out; omega) (fun s hs => (List.mem_append.1 hs).elim (TS.out s) (fs s)) hS
          rw [hcl] at hcl'
          have HCL := Lib.hid hcl'
          clear hcl fl fs hf1 hcl' h32
          refine wp_name fun a0 ha0 => ?_
          have e0 : a0.eval (.tmp 0) = .slice (some ad) n c := by rw [ha0]; rfl
          have e1 : a0.eval (.tmp 1) = .int .i64 (i : Int) := by rw [ha0]; rfl
          have e2 : a0.eval (.tmp 2) = .string ⟨other.toArray⟩ := by rw [ha0]; rfl
          have e11 : a0.eval (.tmp 11) = .int .i64 (n : Int) := by rw [ha0]; rfl
          have e12 : a0.eval (.tmp 12) = .pointer (some ⟨g12, 0, none⟩) := by rw [ha0]; rfl
          have e14 : a0.eval (.tmp 14) = .slice VA vn vc := by rw [ha0]; rfl
          have e16 : a0.eval (.tmp 16) = .pointer (some ⟨g16, 0, none⟩) := by rw [ha0]; rfl
          have hz : a0.tmps.size = 191 := by rw [ha0]; rfl
          have HA0 := Lib.hid ha0
          clear ha0
          have SG : ∀ (d d' : Nat → Prop) (W W' : World), (fun (_ : Nat → Prop) (W : World) => Below w7.heap.size w7 W) d W → (∀ j, d j → d' j) → Below W.heap.size W W' → (fun (_ : Nat → Prop) (W : World) => Below w7.heap.size w7 W) d' W' := fun _ _ _ _ h _ b => Below.next h b
          refine wp_region_guards (Inv [94, 95, 96, 97, 98, 99, 100, 101, 102, 103, 104, 105, 106, 107, 108, 109, 110, 111, 112, 113, 114, 115, 116, 117, 118, 119, 120, 121, 122, 123] a0 (fun (_ : Nat → Prop) (W : World) => Below w7.heap.size w7 W) [(⟨some 0, 94, none, fun v _ => v = .string ⟨other.toArray⟩⟩ : Cl), ⟨some 1, 95, none, fun v _ => v = .slice (some ad) n c⟩, ⟨some 2, 96, none, fun v _ => v = .int .i64 (i : Int)⟩, ⟨some 3, 97, none, fun v _ => v = .pointer (some (ad.add i))⟩, ⟨some 4, 98, none, fun v _ => v = .string ⟨X.toArray⟩⟩, ⟨some 5, 99, none, fun v _ => v = .bool true⟩, ⟨some 6, 100, none, fun v _ => v = .bool true⟩, ⟨some 7, 101, none, fun v _ => v = hashV x⟩, ⟨some 8, 102, none, fun v _ => v = .string ⟨other.toArray⟩⟩, ⟨some 9, 103, none, fun v _ => v = .int .i64 (i : Int)⟩, ⟨some 10, 104, none, fun v _ => v = .int .i64 (n : Int)⟩, ⟨some 11, 105, none, fun v _ => v = .slice VA vn vc⟩, ⟨some 12, 106, none, fun v _ => v = .bool true⟩, ⟨some 13, 107, none, fun v _ => v = .bool true⟩, ⟨some 14, 108, none, fun v _ => v = .bool true⟩, ⟨some 15, 109, none, fun v _ => v = wordsV⟩, ⟨some 16, 110, none, fun v _ => v = wordsV⟩, ⟨some 17, 111, none, fun v _ => v = .slice (some ad) n c⟩, ⟨some 18, 112, some 26, fun v W => OwnStrs W w7.heap.size v TT⟩, ⟨some 19, 113, none, fun v _ => v = wordsV⟩, ⟨some 20, 114, none, fun v _ => v = .int .i64 (n : Int)⟩, ⟨some 21, 115, none, fun v _ => v = .int .i64 (i : Int)⟩, ⟨some 22, 116, none, fun v _ => v = .string ⟨other.toArray⟩⟩, ⟨some 23, 117, some 25, fun v W => ∃ g, v = .slice (some ⟨g, 0, none⟩) 1 1 ∧ Strs W (some ⟨g, 0, none⟩) [other]⟩, ⟨some 24, 118, none, fun v _ => v = .slice VA vn vc⟩, ⟨some 25, 119, some 26, fun v W => OwnStrs W w7.heap.size v FT⟩, ⟨some 26, 120, none, fun v W => OwnStrs W w7.heap.size v (TT ++ FT)⟩, ⟨some 27, 121, none, fun v _ => v = .bool true⟩, ⟨some 28, 122, none, fun v _ => v = .bool false⟩, ⟨some 29, 123, none, fun v _ => v = .bool false⟩]) (by kernel_rfl) (by kernel_rfl) (Inv.start (Below.refl _ _).drew ⟨nofun, nofun, nofun, nofun, nofun, nofun, nofun, nofun, nofun, nofun, nofun, nofun, nofun, nofun, nofun, nofun, nofun, nofun, nofun, nofun, nofun, nofun, nofun, nofun, nofun, nofun, nofun, nofun, nofun, nofun, trivial⟩) ?_ ?_
          · have St : ∀ xc ∈ [(⟨some 0, 94, none, fun v _ => v = .string ⟨other.toArray⟩⟩ : Cl), ⟨some 1, 95, none, fun v _ => v = .slice (some ad) n c⟩, ⟨some 2, 96, none, fun v _ => v = .int .i64 (i : Int)⟩, ⟨some 3, 97, none, fun v _ => v = .pointer (some (ad.add i))⟩, ⟨some 4, 98, none, fun v _ => v = .string ⟨X.toArray⟩⟩, ⟨some 5, 99, none, fun v _ => v = .bool true⟩, ⟨some 6, 100, none, fun v _ => v = .bool true⟩, ⟨some 7, 101, none, fun v _ => v = hashV x⟩, ⟨some 8, 102, none, fun v _ => v = .string ⟨other.toArray⟩⟩, ⟨some 9, 103, none, fun v _ => v = .int .i64 (i : Int)⟩, ⟨some 10, 104, none, fun v _ => v = .int .i64 (n : Int)⟩, ⟨some 11, 105, none, fun v _ => v = .slice VA vn vc⟩, ⟨some 12, 106, none, fun v _ => v = .bool true⟩, ⟨some 13, 107, none, fun v _ => v = .bool true⟩, ⟨some 14, 108, none, fun v _ => v = .bool true⟩, ⟨some 15, 109, none, fun v _ => v = wordsV⟩, ⟨some 16, 110, none, fun v _ => v = wordsV⟩, ⟨some 17, 111, none, fun v _ => v = .slice (some ad) n c⟩, ⟨some 18, 112, some 26, fun v W => OwnStrs W w7.heap.size v TT⟩, ⟨some 19, 113, none, fun v _ => v = wordsV⟩, ⟨some 20, 114, none, fun v _ => v = .int .i64 (n : Int)⟩, ⟨some 21, 115, none, fun v _ => v = .int .i64 (i : Int)⟩, ⟨some 22, 116, none, fun v _ => v = .string ⟨other.toArray⟩⟩, ⟨some 23, 117, some 25, fun v W => ∃ g, v = .slice (some ⟨g, 0, none⟩) 1 1 ∧ Strs W (some ⟨g, 0, none⟩) [other]⟩, ⟨some 24, 118, none, fun v _ => v = .slice VA vn vc⟩, ⟨some 25, 119, some 26, fun v W => OwnStrs W w7.heap.size v FT⟩, ⟨some 26, 120, none, fun v W => OwnStrs W w7.heap.size v (TT ++ FT)⟩, ⟨some 27, 121, none, fun v _ => v = .bool true⟩, ⟨some 28, 122, none, fun v _ => v = .bool false⟩, ⟨some 29, 123, none, fun v _ => v = .bool false⟩], Lasts xc := AllC.mem ⟨lastsV0 _ _ _ _, lastsV0 _ _ _ _, lastsV0 _ _ _ _, lastsV0 _ _ _ _, lastsV0 _ _ _ _, lastsV0 _ _ _ _, lastsV0 _ _ _ _, lastsV0 _ _ _ _, lastsV0 _ _ _ _, lastsV0 _ _ _ _, lastsV0 _ _ _ _, lastsV0 _ _ _ _, lastsV0 _ _ _ _, lastsV0 _ _ _ _, lastsV0 _ _ _ _, lastsV0 _ _ _ _, lastsV0 _ _ _ _, lastsV0 _ _ _ _, (fun _ _ _ h b => h.next b), lastsV0 _ _ _ _, lastsV0 _ _ _ _, lastsV0 _ _ _ _, lastsV0 _ _ _ _, (fun _ _ _ h b => by obtain ⟨g, e, h1⟩ := h; exact ⟨g, e, h1.next b⟩), lastsV0 _ _ _ _, (fun _ _ _ h b => h.next b), (fun _ _ _ h b => h.next b), lastsV0 _ _ _ _, lastsV0 _ _ _ _, lastsV0 _ _ _ _, trivial⟩
            clear HA0
            refine ⟨?_, ?_, ?_, ?_, ?_, ?_, ?_, ?_, ?_, ?_, ?_, ?_, ?_, ?_, ?_, ?_, ?_, ?_, ?_, ?_, ?_, ?_, ?_, ?_, ?_, ?_, ?_, ?_, ?_, ?_, trivial⟩
            · refine StepG.of ?_
              refine stepB rfl rfl (by decide) (by rw [hz]; decide) rfl rfl (by kernel_rfl) St SG fun d a W hF hG hH hn hcl hw => ?_
              have q2 := (hF.same 2 (by decide)).trans e2
              refine ⟨.string ⟨other.toArray⟩, W, ?_, Below.refl _ _, ?_⟩
              · clear hF hG hH hn hcl hw
                generalize a.eval = ρ at *
                go_simp
              · rfl
            · refine StepG.of ?_
              refine stepB rfl rfl (by decide) (by rw [hz]; decide) rfl rfl (by kernel_rfl) St SG fun d a W hF hG hH hn hcl hw => ?_
              have q0 := (hF.same 0 (by decide)).trans e0
              refine ⟨.slice (some ad) n c, W, ?_, Below.refl _ _, ?_⟩
              · clear hF hG hH hn hcl hw
                generalize a.eval = ρ at *
                go_simp
              · rfl
            · refine StepG.of ?_
              refine stepB rfl rfl (by decide) (by rw [hz]; decide) rfl rfl (by kernel_rfl) St SG fun d a W hF hG hH hn hcl hw => ?_
              have q1 := (hF.same 1 (by decide)).trans e1
              refine ⟨.int .i64 (i : Int), W, ?_, Below.refl _ _, ?_⟩
              · clear hF hG hH hn hcl hw
                generalize a.eval = ρ at *
                go_simp
              · rfl
            · refine StepG.of ?_
              refine stepB rfl rfl (by decide) (by rw [hz]; decide) rfl rfl (by kernel_rfl) St SG fun d a W hF hG hH hn hcl hw => ?_
              have q95 : a.eval (.tmp 95) = .slice (some ad) n c := hH.at_ (i := 1) rfl (hw 1 rfl) id
              have q96 : a.eval (.tmp 96) = .int .i64 (i : Int) := hH.at_ (i := 2) rfl (hw 2 rfl) id
              refine ⟨.pointer (some (ad.add i)), W, ?_, Below.refl _ _, ?_⟩
              · exact exec_indexS rfl q95 q96 hi
              · rfl
            · refine StepG.of ?_
              refine stepB rfl rfl (by decide) (by rw [hz]; decide) rfl rfl (by kernel_rfl) St SG fun d a W hF hG hH hn hcl hw => ?_
              have q97 : a.eval (.tmp 97) = .pointer (some (ad.add i)) := hH.at_ (i := 3) rfl (hw 3 rfl) id
              have qc_ := HC.out W (hL7.next hG)
              refine ⟨.string ⟨X.toArray⟩, W, ?_, Below.refl _ _, ?_⟩
              · clear hF hG hH hn hcl hw
                generalize a.eval = ρ at *
                go_simp
              · rfl
            · refine StepG.of ?_
              refine stepB rfl rfl (by decide) (by rw [hz]; decide) rfl rfl (by kernel_rfl) St SG fun d a W hF hG hH hn hcl hw => ?_
              have q94 : a.eval (.tmp 94) = .string ⟨other.toArray⟩ := hH.at_ (i := 0) rfl (hw 0 rfl) id
              have q98 : a.eval (.tmp 98) = .string ⟨X.toArray⟩ := hH.at_ (i := 4) rfl (hw 4 rfl) id
              have e_ := HE.out
              refine ⟨.bool true, W, ?_, Below.refl _ _, ?_⟩
              · clear hF hG hH hn hcl hw
                generalize a.eval = ρ at *
                go_simp
              · rfl
            · refine StepG.of ?_
              refine stepB rfl rfl (by decide) (by rw [hz]; decide) rfl rfl (by kernel_rfl) St SG fun d a W hF hG hH hn hcl hw => ?_
              have q99 : a.eval (.tmp 99) = .bool true := hH.at_ (i := 5) rfl (hw 5 rfl) id
              refine ⟨.bool true, W, ?_, Below.refl _ _, ?_⟩
              · clear hF hG hH hn hcl hw
                generalize a.eval = ρ at *
                go_simp
              · rfl
            · refine StepG.on rfl (fun d a W hI hw => yielded_of rfl (hI.2.2.at_ (i := 6) rfl (hw 6 rfl) id)) ?_
              refine stepB rfl rfl (by decide) (by rw [hz]; decide) rfl rfl (by kernel_rfl) St SG fun d a W hF hG hH hn hcl hw => ?_
              have q12 := (hF.same 12 (by decide)).trans e12
              refine ⟨hashV x, W, ?_, Below.refl _ _, ?_⟩
              · exact exec_load rfl (by rw [q12]; exact BoxH.load_ (BoxA.next bx7 hG) HX.out)
              · rfl
            · refine StepG.on rfl (fun d a W hI hw => yielded_of rfl (hI.2.2.at_ (i := 6) rfl (hw 6 rfl) id)) ?_
              refine stepB rfl rfl (by decide) (by rw [hz]; decide) rfl rfl (by kernel_rfl) St SG fun d a W hF hG hH hn hcl hw => ?_
              have q2 := (hF.same 2 (by decide)).trans e2
              refine ⟨.string ⟨other.toArray⟩, W, ?_, Below.refl _ _, ?_⟩
              · clear hF hG hH hn hcl hw
                generalize a.eval = ρ at *
                go_simp
              · rfl
            · refine StepG.on rfl (fun d a W hI hw => yielded_of rfl (hI.2.2.at_ (i := 6) rfl (hw 6 rfl) id)) ?_
              refine stepB rfl rfl (by decide) (by rw [hz]; decide) rfl rfl (by kernel_rfl) St SG fun d a W hF hG hH hn hcl hw => ?_
              have q1 := (hF.same 1 (by decide)).trans e1
              refine ⟨.int .i64 (i : Int), W, ?_, Below.refl _ _, ?_⟩
              · clear hF hG hH hn hcl hw
                generalize a.eval = ρ at *
                go_simp
              · rfl
            · refine StepG.on rfl (fun d a W hI hw => yielded_of rfl (hI.2.2.at_ (i := 6) rfl (hw 6 rfl) id)) ?_
              refine stepB rfl rfl (by decide) (by rw [hz]; decide) rfl rfl (by kernel_rfl) St SG fun d a W hF hG hH hn hcl hw => ?_
              have q11 := (hF.same 11 (by decide)).trans e11
              refine ⟨.int .i64 (n : Int), W, ?_, Below.refl _ _, ?_⟩
              · clear hF hG hH hn hcl hw
                generalize a.eval = ρ at *
                go_simp
              · rfl
            · refine StepG.on rfl (fun d a W hI hw => yielded_of rfl (hI.2.2.at_ (i := 6) rfl (hw 6 rfl) id)) ?_
              refine stepB rfl rfl (by decide) (by rw [hz]; decide) rfl rfl (by kernel_rfl) St SG fun d a W hF hG hH hn hcl hw => ?_
              have q14 := (hF.same 14 (by decide)).trans e14
              refine ⟨.slice VA vn vc, W, ?_, Below.refl _ _, ?_⟩
              · clear hF hG hH hn hcl hw
                generalize a.eval = ρ at *
                go_simp
              · rfl
            · refine StepG.on rfl (fun d a W hI hw => yielded_of rfl (hI.2.2.at_ (i := 6) rfl (hw 6 rfl) id)) ?_
              refine stepC rfl rfl (by decide) (by rw [hz]; decide) rfl rfl (by kernel_rfl) St SG fun d a W hF hG hH hn hcl hw => ?_
              have q101 : a.eval (.tmp 101) = hashV x := hH.at_ (i := 7) rfl (hw 7 rfl) id
              have q102 : a.eval (.tmp 102) = .string ⟨other.toArray⟩ := hH.at_ (i := 8) rfl (hw 8 rfl) id
              have q103 : a.eval (.tmp 103) = .int .i64 (i : Int) := hH.at_ (i := 9) rfl (hw 9 rfl) id
              have q104 : a.eval (.tmp 104) = .int .i64 (n : Int) := hH.at_ (i := 10) rfl (hw 10 rfl) id
              have q105 : a.eval (.tmp 105) = .slice VA vn vc := hH.at_ (i := 11) rfl (hw 11 rfl) id
              have qf : a.eval (.func 28) = .func (.func 28) #[] #[] := rfl
              refine ⟨28, #[hashV x, .string ⟨other.toArray⟩, .int .i64 (i : Int), .int .i64 (n : Int), .slice VA vn vc], ?_, ?_⟩
              · clear hF hG hH hn hcl hw
                generalize a.eval = ρ at *
                go_simp
              · refine (HVO.out W (hs7.next hG) (hk7.next hG)).mono ?_; rintro e W' ⟨rfl, b⟩; exact ⟨_, rfl, b, rfl⟩
            · refine StepG.of ?_
              refine stepB rfl rfl (by decide) (by rw [hz]; decide) rfl rfl (by kernel_rfl) St SG fun d a W hF hG hH hn hcl hw => ?_
              have q100 : a.eval (.tmp 100) = .bool true := hH.at_ (i := 6) rfl (hw 6 rfl) id
              have q106 : a.eval (.tmp 106) = .bool true := hH.at_ (i := 12) rfl (hw 12 rfl) id
              have qk1 : a.eval (.const (.bool false)) = .bool false := rfl
              refine ⟨.bool true, W, ?_, Below.refl _ _, ?_⟩
              · clear hF hG hH hn hcl hw
                generalize a.eval = ρ at *
                go_simp
              · rfl
            · refine StepG.of ?_
              refine stepB rfl rfl (by decide) (by rw [hz]; decide) rfl rfl (by kernel_rfl) St SG fun d a W hF hG hH hn hcl hw => ?_
              have q107 : a.eval (.tmp 107) = .bool true := hH.at_ (i := 13) rfl (hw 13 rfl) id
              refine ⟨.bool true, W, ?_, Below.refl _ _, ?_⟩
              · clear hF hG hH hn hcl hw
                generalize a.eval = ρ at *
                go_simp
              · rfl
            · refine StepG.on rfl (fun d a W hI hw => yielded_of rfl (hI.2.2.at_ (i := 14) rfl (hw 14 rfl) id)) ?_
              refine stepB rfl rfl (by decide) (by rw [hz]; decide) rfl rfl (by kernel_rfl) St SG fun d a W hF hG hH hn hcl hw => ?_
              have q16 := (hF.same 16 (by decide)).trans e16
              refine ⟨wordsV, W, ?_, Below.refl _ _, ?_⟩
              · exact exec_load rfl (by rw [q16]; exact BoxW.load (BoxA.next x16 hG))
              · rfl
            · refine StepG.on rfl (fun d a W hI hw => yielded_of rfl (hI.2.2.at_ (i := 14) rfl (hw 14 rfl) id)) ?_
              refine stepB rfl rfl (by decide) (by rw [hz]; decide) rfl rfl (by kernel_rfl) St SG fun d a W hF hG hH hn hcl hw => ?_
              have q16 := (hF.same 16 (by decide)).trans e16
              refine ⟨wordsV, W, ?_, Below.refl _ _, ?_⟩
              · exact exec_load rfl (by rw [q16]; exact BoxW.load (BoxA.next x16 hG))
              · rfl
            · refine StepG.on rfl (fun d a W hI hw => yielded_of rfl (hI.2.2.at_ (i := 14) rfl (hw 14 rfl) id)) ?_
              refine stepB rfl rfl (by decide) (by rw [hz]; decide) rfl rfl (by kernel_rfl) St SG fun d a W hF hG hH hn hcl hw => ?_
              have q0 := (hF.same 0 (by decide)).trans e0
              refine ⟨.slice (some ad) n c, W, ?_, Below.refl _ _, ?_⟩
              · clear hF hG hH hn hcl hw
                generalize a.eval = ρ at *
                go_simp
              · rfl
            · refine StepG.on rfl (fun d a W hI hw => yielded_of rfl (hI.2.2.at_ (i := 14) rfl (hw 14 rfl) id)) ?_
              refine stepC rfl rfl (by decide) (by rw [hz]; decide) rfl rfl (by kernel_rfl) St SG fun d a W hF hG hH hn hcl hw => ?_
              have q110 : a.eval (.tmp 110) = wordsV := hH.at_ (i := 16) rfl (hw 16 rfl) id
              have q111 : a.eval (.tmp 111) = .slice (some ad) n c := hH.at_ (i := 17) rfl (hw 17 rfl) id
              have qf : a.eval (.func 50) = .func (.func 50) #[] #[] := rfl
              refine ⟨50, #[wordsV, .slice (some ad) n c], ?_, ?_⟩
              · clear hF hG hH hn hcl hw
                generalize a.eval = ρ at *
                go_simp
              · refine (HTT.out W (hL7.next hG)).mono ?_; rintro e W' ⟨v, rfl, hO, b⟩; exact ⟨v, rfl, b, hO.mono (by have := hG.size; omega)⟩
            · refine StepG.on rfl (fun d a W hI hw => yielded_of rfl (hI.2.2.at_ (i := 14) rfl (hw 14 rfl) id)) ?_
              refine stepB rfl rfl (by decide) (by rw [hz]; decide) rfl rfl (by kernel_rfl) St SG fun d a W hF hG hH hn hcl hw => ?_
              have q16 := (hF.same 16 (by decide)).trans e16
              refine ⟨wordsV, W, ?_, Below.refl _ _, ?_⟩
              · exact exec_load rfl (by rw [q16]; exact BoxW.load (BoxA.next x16 hG))
              · rfl
            · refine StepG.on rfl (fun d a W hI hw => yielded_of rfl (hI.2.2.at_ (i := 14) rfl (hw 14 rfl) id)) ?_
              refine stepB rfl rfl (by decide) (by rw [hz]; decide) rfl rfl (by kernel_rfl) St SG fun d a W hF hG hH hn hcl hw => ?_
              have q11 := (hF.same 11 (by decide)).trans e11
              refine ⟨.int .i64 (n : Int), W, ?_, Below.refl _ _, ?_⟩
              · clear hF hG hH hn hcl hw
                generalize a.eval = ρ at *
                go_simp
              · rfl
            · refine StepG.on rfl (fun d a W hI hw => yielded_of rfl (hI.2.2.at_ (i := 14) rfl (hw 14 rfl) id)) ?_
              refine stepB rfl rfl (by decide) (by rw [hz]; decide) rfl rfl (by kernel_rfl) St SG fun d a W hF hG hH hn hcl hw => ?_
              have q1 := (hF.same 1 (by decide)).trans e1
              refine ⟨.int .i64 (i : Int), W, ?_, Below.refl _ _, ?_⟩
              · clear hF hG hH hn hcl hw
                generalize a.eval = ρ at *
                go_simp
              · rfl
            · refine StepG.on rfl (fun d a W hI hw => yielded_of rfl (hI.2.2.at_ (i := 14) rfl (hw 14 rfl) id)) ?_
              refine stepB rfl rfl (by decide) (by rw [hz]; decide) rfl rfl (by kernel_rfl) St SG fun d a W hF hG hH hn hcl hw => ?_
              have q2 := (hF.same 2 (by decide)).trans e2
              refine ⟨.string ⟨other.toArray⟩, W, ?_, Below.refl _ _, ?_⟩
              · clear hF hG hH hn hcl hw
                generalize a.eval = ρ at *
                go_simp
              · rfl
            · refine StepG.on rfl (fun d a W hI hw => yielded_of rfl (hI.2.2.at_ (i := 14) rfl (hw 14 rfl) id)) ?_
              refine stepB rfl rfl (by decide) (by rw [hz]; decide) rfl rfl (by kernel_rfl) St SG fun d a W hF hG hH hn hcl hw => ?_
              have q116 : a.eval (.tmp 116) = .string ⟨other.toArray⟩ := hH.at_ (i := 22) rfl (hw 22 rfl) id
              refine ⟨.slice (some ⟨W.heap.size, 0, none⟩) 1 1, W.alloc (.cells #[.string ⟨other.toArray⟩] 9), ?_, Below.new1 W _, ?_⟩
              · clear hF hG hH hn hcl hw
                generalize a.eval = ρ at *
                go_simp
              · exact ⟨_, rfl, strs_one W other⟩
            · refine StepG.on rfl (fun d a W hI hw => yielded_of rfl (hI.2.2.at_ (i := 14) rfl (hw 14 rfl) id)) ?_
              refine stepB rfl rfl (by decide) (by rw [hz]; decide) rfl rfl (by kernel_rfl) St SG fun d a W hF hG hH hn hcl hw => ?_
              have q14 := (hF.same 14 (by decide)).trans e14
              refine ⟨.slice VA vn vc, W, ?_, Below.refl _ _, ?_⟩
              · clear hF hG hH hn hcl hw
                generalize a.eval = ρ at *
                go_simp
              · rfl
            · refine StepG.on rfl (fun d a W hI hw => yielded_of rfl (hI.2.2.at_ (i := 14) rfl (hw 14 rfl) id)) ?_
              refine stepC rfl rfl (by decide) (by rw [hz]; decide) rfl rfl (by kernel_rfl) St SG fun d a W hF hG hH hn hcl hw => ?_
              have q113 : a.eval (.tmp 113) = wordsV := hH.at_ (i := 19) rfl (hw 19 rfl) id
              have q114 : a.eval (.tmp 114) = .int .i64 (n : Int) := hH.at_ (i := 20) rfl (hw 20 rfl) id
              have q115 : a.eval (.tmp 115) = .int .i64 (i : Int) := hH.at_ (i := 21) rfl (hw 21 rfl) id
              have q117 : ∃ g, a.eval (.tmp 117) = .slice (some ⟨g, 0, none⟩) 1 1 ∧ Strs W (some ⟨g, 0, none⟩) [other] := hH.at_ (i := 23) rfl (hw 23 rfl) hn
              have q118 : a.eval (.tmp 118) = .slice VA vn vc := hH.at_ (i := 24) rfl (hw 24 rfl) id
              have qf : a.eval (.func 45) = .func (.func 45) #[] #[] := rfl
              obtain ⟨g, q117, h117⟩ := q117
              refine ⟨45, #[wordsV, .int .i64 (n : Int), .int .i64 (i : Int), .slice (some ⟨g, 0, none⟩) 1 1, .slice VA vn vc], ?_, ?_⟩
              · clear hF hG hH hn hcl hw
                generalize a.eval = ρ at *
                go_simp
              · refine (HF1.out (some ⟨g, 0, none⟩) W h117 (hs7.next hG)).mono ?_; rintro e W' ⟨v, rfl, hO, b⟩; exact ⟨v, rfl, b, hO.mono (by have := hG.size; omega)⟩
            · refine StepG.on rfl (fun d a W hI hw => yielded_of rfl (hI.2.2.at_ (i := 14) rfl (hw 14 rfl) id)) ?_
              refine stepA2 rfl rfl (by decide) (by rw [hz]; decide) rfl rfl (by kernel_rfl) w7.heap.size (AllC.mem ⟨.inr (.inr (.inl fun _ _ _ h _ => h)), .inr (.inr (.inl fun _ _ _ h _ => h)), .inr (.inr (.inl fun _ _ _ h _ => h)), .inr (.inr (.inl fun _ _ _ h _ => h)), .inr (.inr (.inl fun _ _ _ h _ => h)), .inr (.inr (.inl fun _ _ _ h _ => h)), .inr (.inr (.inl fun _ _ _ h _ => h)), .inr (.inr (.inl fun _ _ _ h _ => h)), .inr (.inr (.inl fun _ _ _ h _ => h)), .inr (.inr (.inl fun _ _ _ h _ => h)), .inr (.inr (.inl fun _ _ _ h _ => h)), .inr (.inr (.inl fun _ _ _ h _ => h)), .inr (.inr (.inl fun _ _ _ h _ => h)), .inr (.inr (.inl fun _ _ _ h _ => h)), .inr (.inr (.inl fun _ _ _ h _ => h)), .inr (.inr (.inl fun _ _ _ h _ => h)), .inr (.inr (.inl fun _ _ _ h _ => h)), .inr (.inr (.inl fun _ _ _ h _ => h)), .inr (.inl rfl), .inr (.inr (.inl fun _ _ _ h _ => h)), .inr (.inr (.inl fun _ _ _ h _ => h)), .inr (.inr (.inl fun _ _ _ h _ => h)), .inr (.inr (.inl fun _ _ _ h _ => h)), .inr (.inr (.inr fun d hcl hw => hw 25 rfl)), .inr (.inr (.inl fun _ _ _ h _ => h)), .inr (.inl rfl), .inl rfl, .inr (.inr (.inl fun _ _ _ h _ => h)), .inr (.inr (.inl fun _ _ _ h _ => h)), .inr (.inr (.inl fun _ _ _ h _ => h)), trivial⟩) (fun _ _ _ _ h _ b => h.trans b) fun d a W hF hG hH hn hcl hw => ?_
              have q112 : OwnStrs W w7.heap.size (a.eval (.tmp 112)) TT := hH.at_ (i := 18) rfl (hw 18 rfl) hn
              have q119 : OwnStrs W w7.heap.size (a.eval (.tmp 119)) FT := hH.at_ (i := 25) rfl (hw 25 rfl) hn
              exact exec_append_strs2 (.tmp 112) (.tmp 119) rfl w7.heap.size w7.heap.size W _ _ TT FT rfl rfl q112 q119 (by have := TL.out; omega) (by have := FL.out; omega) hG.size
            · refine StepG.on rfl (fun d a W hI hw => yielded_of rfl (hI.2.2.at_ (i := 14) rfl (hw 14 rfl) id)) ?_
              refine stepC rfl rfl (by decide) (by rw [hz]; decide) rfl rfl (by kernel_rfl) St SG fun d a W hF hG hH hn hcl hw => ?_
              have q109 : a.eval (.tmp 109) = wordsV := hH.at_ (i := 15) rfl (hw 15 rfl) id
              have q120 : OwnStrs W w7.heap.size (a.eval (.tmp 120)) (TT ++ FT) := hH.at_ (i := 26) rfl (hw 26 rfl) id
              have qf : a.eval (.func 46) = .func (.func 46) #[] #[] := rfl
              obtain ⟨A9, c9, q120, hS9, _⟩ := q120.slice
              refine ⟨46, #[wordsV, .slice A9 (TT ++ FT).length c9], ?_, ?_⟩
              · clear hF hG hH hn hcl hw
                generalize a.eval = ρ at *
                go_simp
              · refine (HCL.out A9 c9 W hS9).mono ?_; rintro e W' ⟨rfl, b⟩; exact ⟨_, rfl, b, rfl⟩
            · refine StepG.on rfl (fun d a W hI hw => yielded_of rfl (hI.2.2.at_ (i := 14) rfl (hw 14 rfl) id)) ?_
              refine stepB rfl rfl (by decide) (by rw [hz]; decide) rfl rfl (by kernel_rfl) St SG fun d a W hF hG hH hn hcl hw => ?_
              have q121 : a.eval (.tmp 121) = .bool true := hH.at_ (i := 27) rfl (hw 27 rfl) id
              refine ⟨.bool false, W, ?_, Below.refl _ _, ?_⟩
              · clear hF hG hH hn hcl hw
                generalize a.eval = ρ at *
                go_simp
              · rfl
            · refine StepG.of ?_
              refine stepB rfl rfl (by decide) (by rw [hz]; decide) rfl rfl (by kernel_rfl) St SG fun d a W hF hG hH hn hcl hw => ?_
              have q108 : a.eval (.tmp 108) = .bool true := hH.at_ (i := 14) rfl (hw 14 rfl) id
              have q122 : a.eval (.tmp 122) = .bool false := hH.at_ (i := 28) rfl (hw 28 rfl) id
              have qk1 : a.eval (.const (.bool false)) = .bool false := rfl
              refine ⟨.bool false, W, ?_, Below.refl _ _, ?_⟩
              · clear hF hG hH hn hcl hw
                generalize a.eval = ρ at *
                go_simp
              · rfl
          · intro d a W ⟨hF, hB, hH⟩ hall
            have k123 : a.eval (.tmp 123) = .bool false := hH.at_ (i := 29) rfl (hall 29 (by decide)) id
            clear hH hall
            rw [hF.shape (by rw [hz]; decide)]
            clear hF
            simp only [List.foldl]
            generalize a.eval (.tmp 94) = z94 at *
            generalize a.eval (.tmp 95) = z95 at *
            generalize a.eval (.tmp 96) = z96 at *
            generalize a.eval (.tmp 97) = z97 at *
            generalize a.eval (.tmp 98) = z98 at *
            generalize a.eval (.tmp 99) = z99 at *
            generalize a.eval (.tmp 100) = z100 at *
            generalize a.eval (.tmp 101) = z101 at *
            generalize a.eval (.tmp 102) = z102 at *
            generalize a.eval (.tmp 103) = z103 at *
            generalize a.eval (.tmp 104) = z104 at *
            generalize a.eval (.tmp 105) = z105 at *
            generalize a.eval (.tmp 106) = z106 at *
            generalize a.eval (.tmp 107) = z107 at *
            generalize a.eval (.tmp 108) = z108 at *
            generalize a.eval (.tmp 109) = z109 at *
            generalize a.eval (.tmp 110) = z110 at *
            generalize a.eval (.tmp 111) = z111 at *
            generalize a.eval (.tmp 112) = z112 at *
            generalize a.eval (.tmp 113) = z113 at *
            generalize a.eval (.tmp 114) = z114 at *
            generalize a.eval (.tmp 115) = z115 at *
            generalize a.eval (.tmp 116) = z116 at *
            generalize a.eval (.tmp 117) = z117 at *
            generalize a.eval (.tmp 118) = z118 at *
            generalize a.eval (.tmp 119) = z119 at *
            generalize a.eval (.tmp 120) = z120 at *
            generalize a.eval (.tmp 121) = z121 at *
            generalize a.eval (.tmp 122) = z122 at *
            generalize a.eval (.tmp 123) = z123 at *
            subst k123
            rw [HA0.out]
            simp only [Act.put, List.setIfInBounds_toArray, List.set_cons_zero, List.set_cons_succ]
            clear hz HA0 SG e0 e1 e2 e11 e12 e14 e16
            clear a a0
            go_wp2_with (fail)
            go_meet
            exact ⟨rfl, hB⟩
    case rest =>
      obtain ⟨rfl, b8⟩ := hcut
      have hk8 := hk7.next b8
      have hL8 := hL7.next b8
      have hs8 := hs7.next b8
      have hO8 := hO7.next b8
      have bx8 : BoxH wc g12 x := BoxA.next bx7 b8
      have cw8 : BoxW wc g16 := BoxA.next x16 b8
      have BB8 := Below.on BB7 b8
      clear hk7 hL7 hs7 hO7 bx7 x16 BB7 b8 P4
      by_cases v0 : vn = 0
      · have v1 : ((vn : Int) == 0) = true := by simp; omega
        clear v0
        go_wp2_with (go_at_call 17; refine (HA.out _ hk8).mono ?_; rintro e w11 ⟨rfl, b11⟩)
        go_ret
        exact ⟨rfl, Below.on BB8 b11⟩
      have v1 : ((vn : Int) == 0) = false := by simp; omega
      have hw : IntKind.i64.wrap ((vn : Int) - 1) = (vn - 1 : Nat) := by rw [IntWalk.i64_in _ (by omega)]; omega
      have hv3 := fun W (h : Hs W VA (V.take (vn - 1))) (kon : Kon W) => HV.out X HXL.out (V.take (vn - 1)) (by rw [List.length_take]; omega) VA vc W (by rw [List.length_take]; omega) h kon
      have h3 := P3.out (by rw [HVN.out]; omega)
      rw [HVN.out] at h3
      rw [h3, List.length_take, HVN.out, Nat.min_eq_left (by omega)] at hv3
      have HV3 := Lib.hid hv3
      have WV := Lib.hid hw
      have kc : vn - 1 ≤ vc := by omega
      clear hv3 h3 hw P3
      go_upto_region 13 with (fail)
      refine wp_name fun a0 ha0 => ?_
      have e0 : a0.eval (.tmp 0) = .slice (some ad) n c := by rw [ha0]; rfl
      have e1 : a0.eval (.tmp 1) = .int .i64 (i : Int) := by rw [ha0]; rfl
      have e11 : a0.eval (.tmp 11) = .int .i64 (n : Int) := by rw [ha0]; rfl
      have e12 : a0.eval (.tmp 12) = .pointer (some ⟨g12, 0, none⟩) := by rw [ha0]; rfl
      have e14 : a0.eval (.tmp 14) = .slice VA vn vc := by rw [ha0]; rfl
      have hz : a0.tmps.size = 191 := by rw [ha0]; rfl
      have HA0 := Lib.hid ha0
      clear ha0
      have SG : ∀ (d d' : Nat → Prop) (W W' : World), (fun (_ : Nat → Prop) (W : World) => Below wc.heap.size wc W) d W → (∀ j, d j → d' j) → Below W.heap.size W W' → (fun (_ : Nat → Prop) (W : World) => Below wc.heap.size wc W) d' W' := fun _ _ _ _ h _ b => Below.next h b
      refine wp_region_steps (Inv [128, 129, 130, 131, 132, 133, 134, 135, 136, 137, 138, 139, 140] a0 (fun (_ : Nat → Prop) (W : World) => Below wc.heap.size wc W) [(⟨some 0, 128, none, fun v _ => v = hashV x⟩ : Cl), ⟨some 1, 129, none, fun v _ => v = .slice (some ad) n c⟩, ⟨some 2, 130, none, fun v _ => v = .int .i64 (i : Int)⟩, ⟨some 3, 131, none, fun v _ => v = .pointer (some (ad.add i))⟩, ⟨some 4, 132, none, fun v _ => v = .string ⟨X.toArray⟩⟩, ⟨some 5, 133, none, fun v _ => v = .int .i64 (i : Int)⟩, ⟨some 6, 134, none, fun v _ => v = .int .i64 (n : Int)⟩, ⟨some 7, 135, none, fun v _ => v = .slice VA vn vc⟩, ⟨some 8, 136, none, fun v _ => v = .slice VA vn vc⟩, ⟨some 9, 137, none, fun v _ => v = .int .i64 (vn : Int)⟩, ⟨some 10, 138, none, fun v _ => v = .int .i64 ((vn - 1 : Nat) : Int)⟩, ⟨some 11, 139, none, fun v _ => v = .slice VA (vn - 1) vc⟩, ⟨some 12, 140, none, fun v _ => v = .bool false⟩]) (by kernel_rfl) (by kernel_rfl) (Inv.start (Below.refl _ _).drew ⟨nofun, nofun, nofun, nofun, nofun, nofun, nofun, nofun, nofun, nofun, nofun, nofun, nofun, trivial⟩) ?_ ?_
      · have St : ∀ xc ∈ [(⟨some 0, 128, none, fun v _ => v = hashV x⟩ : Cl), ⟨some 1, 129, none, fun v _ => v = .slice (some ad) n c⟩, ⟨some 2, 130, none, fun v _ => v = .int .i64 (i : Int)⟩, ⟨some 3, 131, none, fun v _ => v = .pointer (some (ad.add i))⟩, ⟨some 4, 132, none, fun v _ => v = .string ⟨X.toArray⟩⟩, ⟨some 5, 133, none, fun v _ => v = .int .i64 (i : Int)⟩, ⟨some 6, 134, none, fun v _ => v = .int .i64 (n : Int)⟩, ⟨some 7, 135, none, fun v _ => v = .slice VA vn vc⟩, ⟨some 8, 136, none, fun v _ => v = .slice VA vn vc⟩, ⟨some 9, 137, none, fun v _ => v = .int .i64 (vn : Int)⟩, ⟨some 10, 138, none, fun v _ => v = .int .i64 ((vn - 1 : Nat) : Int)⟩, ⟨some 11, 139, none, fun v _ => v = .slice VA (vn - 1) vc⟩, ⟨some 12, 140, none, fun v _ => v = .bool false⟩], Lasts xc := AllC.mem ⟨lastsV0 _ _ _ _, lastsV0 _ _ _ _, lastsV0 _ _ _ _, lastsV0 _ _ _ _, lastsV0 _ _ _ _, lastsV0 _ _ _ _, lastsV0 _ _ _ _, lastsV0 _ _ _ _, lastsV0 _ _ _ _, lastsV0 _ _ _ _, lastsV0 _ _ _ _, lastsV0 _ _ _ _, lastsV0 _ _ _ _, trivial⟩
        clear HA0
        refine ⟨?_, ?_, ?_, ?_, ?_, ?_, ?_, ?_, ?_, ?_, ?_, ?_, ?_, trivial⟩
        · refine stepB rfl rfl (by decide) (by rw [hz]; decide) rfl rfl (by kernel_rfl) St SG fun d a W hF hG hH hn hcl hw => ?_
          have q12 := (hF.same 12 (by decide)).trans e12
          refine ⟨hashV x, W, ?_, Below.refl _ _, ?_⟩
          · exact exec_load rfl (by rw [q12]; exact BoxH.load_ (BoxA.next bx8 hG) HX.out)
          · rfl
        · refine stepB rfl rfl (by decide) (by rw [hz]; decide) rfl rfl (by kernel_rfl) St SG fun d a W hF hG hH hn hcl hw => ?_
          have q0 := (hF.same 0 (by decide)).trans e0
          refine ⟨.slice (some ad) n c, W, ?_, Below.refl _ _, ?_⟩
          · clear hF hG hH hn hcl hw
            generalize a.eval = ρ at *
            go_simp
          · rfl
        · refine stepB rfl rfl (by decide) (by rw [hz]; decide) rfl rfl (by kernel_rfl) St SG fun d a W hF hG hH hn hcl hw => ?_
          have q1 := (hF.same 1 (by decide)).trans e1
          refine ⟨.int .i64 (i : Int), W, ?_, Below.refl _ _, ?_⟩
          · clear hF hG hH hn hcl hw
            generalize a.eval = ρ at *
            go_simp
          · rfl
        · refine stepB rfl rfl (by decide) (by rw [hz]; decide) rfl rfl (by kernel_rfl) St SG fun d a W hF hG hH hn hcl hw => ?_
          have q129 : a.eval (.tmp 129) = .slice (some ad) n c := hH.at_ (i := 1) rfl (hw 1 rfl) id
          have q130 : a.eval (.tmp 130) = .int .i64 (i : Int) := hH.at_ (i := 2) rfl (hw 2 rfl) id
          refine ⟨.pointer (some (ad.add i)), W, ?_, Below.refl _ _, ?_⟩
          · exact exec_indexS rfl q129 q130 hi
          · rfl
        · refine stepB rfl rfl (by decide) (by rw [hz]; decide) rfl rfl (by kernel_rfl) St SG fun d a W hF hG hH hn hcl hw => ?_
          have q131 : a.eval (.tmp 131) = .pointer (some (ad.add i)) := hH.at_ (i := 3) rfl (hw 3 rfl) id
          have qc_ := HC.out W (hL8.next hG)
          refine ⟨.string ⟨X.toArray⟩, W, ?_, Below.refl _ _, ?_⟩
          · clear hF hG hH hn hcl hw
            generalize a.eval = ρ at *
            go_simp
          · rfl
        · refine stepB rfl rfl (by decide) (by rw [hz]; decide) rfl rfl (by kernel_rfl) St SG fun d a W hF hG hH hn hcl hw => ?_
          have q1 := (hF.same 1 (by decide)).trans e1
          refine ⟨.int .i64 (i : Int), W, ?_, Below.refl _ _, ?_⟩
          · clear hF hG hH hn hcl hw
            generalize a.eval = ρ at *
            go_simp
          · rfl
        · refine stepB rfl rfl (by decide) (by rw [hz]; decide) rfl rfl (by kernel_rfl) St SG fun d a W hF hG hH hn hcl hw => ?_
          have q11 := (hF.same 11 (by decide)).trans e11
          refine ⟨.int .i64 (n : Int), W, ?_, Below.refl _ _, ?_⟩
          · clear hF hG hH hn hcl hw
            generalize a.eval = ρ at *
            go_simp
          · rfl
        · refine stepB rfl rfl (by decide) (by rw [hz]; decide) rfl rfl (by kernel_rfl) St SG fun d a W hF hG hH hn hcl hw => ?_
          have q14 := (hF.same 14 (by decide)).trans e14
          refine ⟨.slice VA vn vc, W, ?_, Below.refl _ _, ?_⟩
          · clear hF hG hH hn hcl hw
            generalize a.eval = ρ at *
            go_simp
          · rfl
        · refine stepB rfl rfl (by decide) (by rw [hz]; decide) rfl rfl (by kernel_rfl) St SG fun d a W hF hG hH hn hcl hw => ?_
          have q14 := (hF.same 14 (by decide)).trans e14
          refine ⟨.slice VA vn vc, W, ?_, Below.refl _ _, ?_⟩
          · clear hF hG hH hn hcl hw
            generalize a.eval = ρ at *
            go_simp
          · rfl
        · refine stepB rfl rfl (by decide) (by rw [hz]; decide) rfl rfl (by kernel_rfl) St SG fun d a W hF hG hH hn hcl hw => ?_
          have q136 : a.eval (.tmp 136) = .slice VA vn vc := hH.at_ (i := 8) rfl (hw 8 rfl) id
          refine ⟨.int .i64 (vn : Int), W, ?_, Below.refl _ _, ?_⟩
          · clear hF hG hH hn hcl hw
            generalize a.eval = ρ at *
            go_simp
          · rfl
        · refine stepB rfl rfl (by decide) (by rw [hz]; decide) rfl rfl (by kernel_rfl) St SG fun d a W hF hG hH hn hcl hw => ?_
          have q137 : a.eval (.tmp 137) = .int .i64 (vn : Int) := hH.at_ (i := 9) rfl (hw 9 rfl) id
          have qc1 : a.eval (.const (.int .i64 1)) = .int .i64 1 := rfl
          have qw_ := WV.out
          refine ⟨.int .i64 ((vn - 1 : Nat) : Int), W, ?_, Below.refl _ _, ?_⟩
          · clear hF hG hH hn hcl hw
            generalize a.eval = ρ at *
            go_simp
          · rfl
        · refine stepB rfl rfl (by decide) (by rw [hz]; decide) rfl rfl (by kernel_rfl) St SG fun d a W hF hG hH hn hcl hw => ?_
          have q135 : a.eval (.tmp 135) = .slice VA vn vc := hH.at_ (i := 7) rfl (hw 7 rfl) id
          have q138 : a.eval (.tmp 138) = .int .i64 ((vn - 1 : Nat) : Int) := hH.at_ (i := 10) rfl (hw 10 rfl) id
          refine ⟨.slice VA (vn - 1) vc, W, ?_, Below.refl _ _, ?_⟩
          · exact exec_sliceH_to rfl q135 q138 kc
          · rfl
        · refine stepC rfl rfl (by decide) (by rw [hz]; decide) rfl rfl (by kernel_rfl) St SG fun d a W hF hG hH hn hcl hw => ?_
          have q128 : a.eval (.tmp 128) = hashV x := hH.at_ (i := 0) rfl (hw 0 rfl) id
          have q132 : a.eval (.tmp 132) = .string ⟨X.toArray⟩ := hH.at_ (i := 4) rfl (hw 4 rfl) id
          have q133 : a.eval (.tmp 133) = .int .i64 (i : Int) := hH.at_ (i := 5) rfl (hw 5 rfl) id
          have q134 : a.eval (.tmp 134) = .int .i64 (n : Int) := hH.at_ (i := 6) rfl (hw 6 rfl) id
          have q139 : a.eval (.tmp 139) = .slice VA (vn - 1) vc := hH.at_ (i := 11) rfl (hw 11 rfl) id
          have qf : a.eval (.func 28) = .func (.func 28) #[] #[] := rfl
          refine ⟨28, #[hashV x, .string ⟨X.toArray⟩, .int .i64 (i : Int), .int .i64 (n : Int), .slice VA (vn - 1) vc], ?_, ?_⟩
          · clear hF hG hH hn hcl hw
            generalize a.eval = ρ at *
            go_simp
          · refine (HV3.out W ((hs8.next hG).to_ _) (hk8.next hG)).mono ?_; rintro e W' ⟨rfl, b⟩; exact ⟨_, rfl, b, rfl⟩
      · intro d a W ⟨hF, hB, hH⟩ hall
        have k140 : a.eval (.tmp 140) = .bool false := hH.at_ (i := 12) rfl (hall 12 (by decide)) id
        clear hH hall
        rw [hF.shape (by rw [hz]; decide)]
        clear hF
        simp only [List.foldl]
        generalize a.eval (.tmp 128) = z128 at *
        generalize a.eval (.tmp 129) = z129 at *
        generalize a.eval (.tmp 130) = z130 at *
        generalize a.eval (.tmp 131) = z131 at *
        generalize a.eval (.tmp 132) = z132 at *
        generalize a.eval (.tmp 133) = z133 at *
        generalize a.eval (.tmp 134) = z134 at *
        generalize a.eval (.tmp 135) = z135 at *
        generalize a.eval (.tmp 136) = z136 at *
        generalize a.eval (.tmp 137) = z137 at *
        generalize a.eval (.tmp 138) = z138 at *
        generalize a.eval (.tmp 139) = z139 at *
        generalize a.eval (.tmp 140) = z140 at *
        subst k140
        rw [HA0.out]
        simp only [Act.put, List.setIfInBounds_toArray, List.set_cons_zero, List.set_cons_succ]
        clear hz HA0 SG e0 e1 e11 e12 e14
        clear a a0
        have hk9 := hk8.next hB
        have hL9 := hL8.next hB
        have hs9 := hs8.next hB
        have hO9 := hO8.next hB
        have bx9 : BoxH W g12 x := BoxA.next bx8 hB
        have cw9 : BoxW W g16 := BoxA.next cw8 hB
        have BB9 := Below.on BB8 hB
        clear hk8 hL8 hs8 hO8 bx8 cw8 BB8 hB HV3
        generalize W = w9 at *
        go_upto_region 16 with (first
          | (at_builtin; refine wpList_append_hs rfl (.tmp 141) (.tmp 142) rfl w9.heap.size _ _ _ [] V rfl rfl (OwnHs.empty w9) (hO9.next (Below.new1 w9 _)) (by simp) (by have := HVN.out; omega) (by rw [World.size_alloc]; omega) ?_
             intro v w10 hT b10; rw [List.nil_append] at hT; have B10 := (Below.new1 w9 (.cells #[] 30)).trans b10
             obtain ⟨gt, tc, hgt, rfl⟩ : ∃ g cap, w9.heap.size ≤ g ∧ v = .slice (some ⟨g, 0, none⟩) V.length cap := by
               rcases hT.2.2 with ⟨_, e⟩ | ⟨g, cap, _, e, hg, _⟩
               · exact absurd (HVN.out ▸ e) v0
               · exact ⟨g, cap, hg, e⟩))
        rw [HVN.out] at hT ⊢
        obtain ⟨j, hj⟩ : ∃ j, at_ % vn = j := ⟨_, rfl⟩
        obtain ⟨p, hp⟩ : ∃ p, at_ % 32 = p := ⟨_, rfl⟩
        have jl : j < vn := by rw [← hj]; exact Nat.mod_lt _ (by omega)
        have pl : p < 32 := by rw [← hp]; exact Nat.mod_lt _ (by decide)
        have jV : j < V.length := by rw [HVN.out]; exact jl
        have hVj : V[j].length = 32 := hT.1 _ (List.getElem_mem jV)
        have hcl : (cellsH V)[j * 32 + p]? = some (.int .u8 ((V[j][p]).toNat : Int)) := cellsH_at hT.1 jV (cellsB_get (by omega))
        have hT2 := hT.2
        rw [HVN.out] at hT2
        have hcc : w10.cell? ⟨gt, j * 32 + p, none⟩ = some (.int .u8 ((V[j][p]).toNat : Int)) := by
          rw [hT2.cellAt (j * 32 + p) (by omega)]; exact hcl
        have hfz : ∀ W, Below w10.heap.size w10 W → W.frozen? ⟨gt, j * 32 + p, none⟩ = false := fun W h => by
          have := (hT.next h).2
          rw [HVN.out] at this
          exact this.frozenAt _
        have hne : b ≠ 0 → turnB V j p (V[j][p] ^^^ b) ≠ V := fun hb => turnB_ne hT.1 jV pl (xor_ne hb)
        have htn := fun W (h : Below w10.heap.size w10 W) => (hT.next h).turn jV pl (V[j][p] ^^^ b)
        have hxb := bits_xor_u8 V[j][p] b
        generalize V[j][p] = xb at *
        have HTN := Lib.hid htn
        have HNE := Lib.hid hne
        have r1 : ((at_ : Int) % (vn : Int)) = (j : Int) := by rw [← hj]; rfl
        have r2 : ((at_ : Int) % 32) = (p : Int) := by rw [← hp]; rfl
        have r3 : ((at_ : Int).tmod (vn : Int)) = (j : Int) := by rw [← hj]; rfl
        have r4 : ((at_ : Int).tmod 32) = (p : Int) := by rw [← hp]; rfl
        have r5 : ((vn : Int) == 0) = false := v1
        have p0 : (0 : Int) ≤ (p : Int) := by omega
        have p1 : (p : Int) < 32 := by omega
        have j0 : (0 : Int) ≤ (j : Int) := by omega
        have j1 : (j : Int) < (vn : Int) := by omega
        have vnz : ¬ (vn : Int) = 0 := by omega
        have IXH : ∀ (ev : Operand → Value) (o : Oper) (W : World) (x y : Operand), o.op = .indexAddr 35 x y → ev x = .slice (some ⟨gt, 0, none⟩) vn tc → ev y = .int .i64 (j : Int) → (execOp ev o).run Tryd.prog W = .ok (.value (.pointer (some ⟨gt, j * 32, none⟩))) W := fun _ _ W _ _ ho hx hy => by
          have e := exec_indexH (W := W) (i := j) ho hx hy jl
          rw [Addr.add_mid, Nat.zero_add] at e; exact e
        clear hj hp hVj hcl hT2 hne htn jV b10
        refine wp_name fun a0 ha0 => ?_
        have e3 : a0.eval (.tmp 3) = .int .i64 (at_ : Int) := by rw [ha0]; rfl
        have e4 : a0.eval (.tmp 4) = .int .u8 (b.toNat : Int) := by rw [ha0]; rfl
        have e14 : a0.eval (.tmp 14) = .slice VA vn vc := by rw [ha0]; rfl
        have e17 : a0.eval (.tmp 17) = .slice (some ⟨gt, 0, none⟩) vn tc := by rw [ha0]; rfl
        have hz : a0.tmps.size = 191 := by rw [ha0]; rfl
        have HA0 := Lib.hid ha0
        clear ha0
        have SG : ∀ (d d' : Nat → Prop) (W W' : World), (fun (_ : Nat → Prop) (W : World) => Below w10.heap.size w10 W) d W → (∀ j, d j → d' j) → Below W.heap.size W W' → (fun (_ : Nat → Prop) (W : World) => Below w10.heap.size w10 W) d' W' := fun _ _ _ _ h _ b => Below.next h b
        refine wp_region_lastlyR 14 _ (Inv [144, 145, 146, 147, 148, 149, 150, 151, 152, 153, 154, 155, 156, 157] a0 (fun (_ : Nat → Prop) (W : World) => Below w10.heap.size w10 W) [(⟨some 0, 144, none, fun v _ => v = .slice (some ⟨gt, 0, none⟩) vn tc⟩ : Cl), ⟨some 1, 145, none, fun v _ => v = .int .i64 (at_ : Int)⟩, ⟨some 2, 146, none, fun v _ => v = .slice VA vn vc⟩, ⟨some 3, 147, none, fun v _ => v = .int .i64 (vn : Int)⟩, ⟨some 4, 148, none, fun v _ => v = .int .i64 (j : Int)⟩, ⟨some 5, 149, none, fun v _ => v = .int .i64 (at_ : Int)⟩, ⟨some 6, 150, none, fun v _ => v = .int .i64 (p : Int)⟩, ⟨some 7, 151, none, fun v _ => v = .pointer (some ⟨gt, j * 32, none⟩)⟩, ⟨some 8, 152, none, fun v _ => v = .pointer (some ⟨gt, j * 32 + p, none⟩)⟩, ⟨some 9, 153, none, fun v _ => v = .int .u8 (xb.toNat : Int)⟩, ⟨some 10, 154, none, fun v _ => v = .int .u8 (b.toNat : Int)⟩, ⟨some 11, 155, none, fun v _ => v = .int .u8 ((xb ^^^ b).toNat : Int)⟩, ⟨some 12, 156, none, fun v _ => v = .pointer (some ⟨gt, j * 32, none⟩)⟩, ⟨some 13, 157, none, fun v _ => v = .pointer (some ⟨gt, j * 32 + p, none⟩)⟩]) (by kernel_rfl) (by kernel_rfl) rfl rfl (fun d hcl hw j hj => ?_) rfl (Inv.start (Below.refl _ _).drew ⟨nofun, nofun, nofun, nofun, nofun, nofun, nofun, nofun, nofun, nofun, nofun, nofun, nofun, nofun, trivial⟩) ?_ ?_
        · have r11 := hw 11 rfl
          have r13 := hw 13 rfl
          have r6 := hcl 13 _ 6 rfl rfl r13
          have r12 := hcl 13 _ 12 rfl rfl r13
          have r0 := hcl 12 _ 0 rfl rfl r12
          have r4 := hcl 12 _ 4 rfl rfl r12
          have r1 := hcl 4 _ 1 rfl rfl r4
          have r3 := hcl 4 _ 3 rfl rfl r4
          have r2 := hcl 3 _ 2 rfl rfl r3
          have r5 := hcl 6 _ 5 rfl rfl r6
          have r9 := hcl 11 _ 9 rfl rfl r11
          have r10 := hcl 11 _ 10 rfl rfl r11
          have r8 := hcl 9 _ 8 rfl rfl r9
          have r7 := hcl 8 _ 7 rfl rfl r8
          match j, hj with
          | 0, _ => exact r0
          | 1, _ => exact r1
          | 2, _ => exact r2
          | 3, _ => exact r3
          | 4, _ => exact r4
          | 5, _ => exact r5
          | 6, _ => exact r6
          | 7, _ => exact r7
          | 8, _ => exact r8
          | 9, _ => exact r9
          | 10, _ => exact r10
          | 11, _ => exact r11
          | 12, _ => exact r12
          | 13, _ => exact r13
          | j + 14, h => exact absurd h (by omega)
        · have St : ∀ xc ∈ [(⟨some 0, 144, none, fun v _ => v = .slice (some ⟨gt, 0, none⟩) vn tc⟩ : Cl), ⟨some 1, 145, none, fun v _ => v = .int .i64 (at_ : Int)⟩, ⟨some 2, 146, none, fun v _ => v = .slice VA vn vc⟩, ⟨some 3, 147, none, fun v _ => v = .int .i64 (vn : Int)⟩, ⟨some 4, 148, none, fun v _ => v = .int .i64 (j : Int)⟩, ⟨some 5, 149, none, fun v _ => v = .int .i64 (at_ : Int)⟩, ⟨some 6, 150, none, fun v _ => v = .int .i64 (p : Int)⟩, ⟨some 7, 151, none, fun v _ => v = .pointer (some ⟨gt, j * 32, none⟩)⟩, ⟨some 8, 152, none, fun v _ => v = .pointer (some ⟨gt, j * 32 + p, none⟩)⟩, ⟨some 9, 153, none, fun v _ => v = .int .u8 (xb.toNat : Int)⟩, ⟨some 10, 154, none, fun v _ => v = .int .u8 (b.toNat : Int)⟩, ⟨some 11, 155, none, fun v _ => v = .int .u8 ((xb ^^^ b).toNat : Int)⟩, ⟨some 12, 156, none, fun v _ => v = .pointer (some ⟨gt, j * 32, none⟩)⟩, ⟨some 13, 157, none, fun v _ => v = .pointer (some ⟨gt, j * 32 + p, none⟩)⟩], Lasts xc := AllC.mem ⟨lastsV0 _ _ _ _, lastsV0 _ _ _ _, lastsV0 _ _ _ _, lastsV0 _ _ _ _, lastsV0 _ _ _ _, lastsV0 _ _ _ _, lastsV0 _ _ _ _, lastsV0 _ _ _ _, lastsV0 _ _ _ _, lastsV0 _ _ _ _, lastsV0 _ _ _ _, lastsV0 _ _ _ _, lastsV0 _ _ _ _, lastsV0 _ _ _ _, trivial⟩
          clear HA0
          refine ⟨?_, ?_, ?_, ?_, ?_, ?_, ?_, ?_, ?_, ?_, ?_, ?_, ?_, ?_, trivial⟩
          · refine stepB rfl rfl (by decide) (by rw [hz]; decide) rfl rfl (by kernel_rfl) St SG fun d a W hF hG hH hn hcl hw => ?_
            have q17 := (hF.same 17 (by decide)).trans e17
            refine ⟨.slice (some ⟨gt, 0, none⟩) vn tc, W, ?_, Below.refl _ _, ?_⟩
            · clear hF hG hH hn hcl hw
              generalize a.eval = ρ at *
              go_simp
            · rfl
          · refine stepB rfl rfl (by decide) (by rw [hz]; decide) rfl rfl (by kernel_rfl) St SG fun d a W hF hG hH hn hcl hw => ?_
            have q3 := (hF.same 3 (by decide)).trans e3
            refine ⟨.int .i64 (at_ : Int), W, ?_, Below.refl _ _, ?_⟩
            · clear hF hG hH hn hcl hw
              generalize a.eval = ρ at *
              go_simp
            · rfl
          · refine stepB rfl rfl (by decide) (by rw [hz]; decide) rfl rfl (by kernel_rfl) St SG fun d a W hF hG hH hn hcl hw => ?_
            have q14 := (hF.same 14 (by decide)).trans e14
            refine ⟨.slice VA vn vc, W, ?_, Below.refl _ _, ?_⟩
            · clear hF hG hH hn hcl hw
              generalize a.eval = ρ at *
              go_simp
            · rfl
          · refine stepB rfl rfl (by decide) (by rw [hz]; decide) rfl rfl (by kernel_rfl) St SG fun d a W hF hG hH hn hcl hw => ?_
            have q146 : a.eval (.tmp 146) = .slice VA vn vc := hH.at_ (i := 2) rfl (hw 2 rfl) id
            refine ⟨.int .i64 (vn : Int), W, ?_, Below.refl _ _, ?_⟩
            · clear hF hG hH hn hcl hw
              generalize a.eval = ρ at *
              go_simp
            · rfl
          · refine stepB rfl rfl (by decide) (by rw [hz]; decide) rfl rfl (by kernel_rfl) St SG fun d a W hF hG hH hn hcl hw => ?_
            have q145 : a.eval (.tmp 145) = .int .i64 (at_ : Int) := hH.at_ (i := 1) rfl (hw 1 rfl) id
            have q147 : a.eval (.tmp 147) = .int .i64 (vn : Int) := hH.at_ (i := 3) rfl (hw 3 rfl) id
            refine ⟨.int .i64 (j : Int), W, ?_, Below.refl _ _, ?_⟩
            · clear hF hG hH hn hcl hw
              generalize a.eval = ρ at *
              go_simp
            · rfl
          · refine stepB rfl rfl (by decide) (by rw [hz]; decide) rfl rfl (by kernel_rfl) St SG fun d a W hF hG hH hn hcl hw => ?_
            have q3 := (hF.same 3 (by decide)).trans e3
            refine ⟨.int .i64 (at_ : Int), W, ?_, Below.refl _ _, ?_⟩
            · clear hF hG hH hn hcl hw
              generalize a.eval = ρ at *
              go_simp
            · rfl
          · refine stepB rfl rfl (by decide) (by rw [hz]; decide) rfl rfl (by kernel_rfl) St SG fun d a W hF hG hH hn hcl hw => ?_
            have q149 : a.eval (.tmp 149) = .int .i64 (at_ : Int) := hH.at_ (i := 5) rfl (hw 5 rfl) id
            have qc32 : a.eval (.const (.int .i64 32)) = .int .i64 32 := rfl
            refine ⟨.int .i64 (p : Int), W, ?_, Below.refl _ _, ?_⟩
            · clear hF hG hH hn hcl hw
              generalize a.eval = ρ at *
              go_simp
            · rfl
          · refine stepB rfl rfl (by decide) (by rw [hz]; decide) rfl rfl (by kernel_rfl) St SG fun d a W hF hG hH hn hcl hw => ?_
            have q144 : a.eval (.tmp 144) = .slice (some ⟨gt, 0, none⟩) vn tc := hH.at_ (i := 0) rfl (hw 0 rfl) id
            have q148 : a.eval (.tmp 148) = .int .i64 (j : Int) := hH.at_ (i := 4) rfl (hw 4 rfl) id
            refine ⟨.pointer (some ⟨gt, j * 32, none⟩), W, ?_, Below.refl _ _, ?_⟩
            · exact IXH _ _ W _ _ rfl q144 q148
            · rfl
          · refine stepB rfl rfl (by decide) (by rw [hz]; decide) rfl rfl (by kernel_rfl) St SG fun d a W hF hG hH hn hcl hw => ?_
            have q150 : a.eval (.tmp 150) = .int .i64 (p : Int) := hH.at_ (i := 6) rfl (hw 6 rfl) id
            have q151 : a.eval (.tmp 151) = .pointer (some ⟨gt, j * 32, none⟩) := hH.at_ (i := 7) rfl (hw 7 rfl) id
            refine ⟨.pointer (some ⟨gt, j * 32 + p, none⟩), W, ?_, Below.refl _ _, ?_⟩
            · clear hF hG hH hn hcl hw
              generalize a.eval = ρ at *
              go_simp
            · rfl
          · refine stepB rfl rfl (by decide) (by rw [hz]; decide) rfl rfl (by kernel_rfl) St SG fun d a W hF hG hH hn hcl hw => ?_
            have q152 : a.eval (.tmp 152) = .pointer (some ⟨gt, j * 32 + p, none⟩) := hH.at_ (i := 8) rfl (hw 8 rfl) id
            have qc_ := cell_kept hG hcc
            refine ⟨.int .u8 (xb.toNat : Int), W, ?_, Below.refl _ _, ?_⟩
            · clear hF hG hH hn hcl hw
              generalize a.eval = ρ at *
              go_simp
            · rfl
          · refine stepB rfl rfl (by decide) (by rw [hz]; decide) rfl rfl (by kernel_rfl) St SG fun d a W hF hG hH hn hcl hw => ?_
            have q4 := (hF.same 4 (by decide)).trans e4
            refine ⟨.int .u8 (b.toNat : Int), W, ?_, Below.refl _ _, ?_⟩
            · clear hF hG hH hn hcl hw
              generalize a.eval = ρ at *
              go_simp
            · rfl
          · refine stepB rfl rfl (by decide) (by rw [hz]; decide) rfl rfl (by kernel_rfl) St SG fun d a W hF hG hH hn hcl hw => ?_
            have q153 : a.eval (.tmp 153) = .int .u8 (xb.toNat : Int) := hH.at_ (i := 9) rfl (hw 9 rfl) id
            have q154 : a.eval (.tmp 154) = .int .u8 (b.toNat : Int) := hH.at_ (i := 10) rfl (hw 10 rfl) id
            have qx_ := hxb
            refine ⟨.int .u8 ((xb ^^^ b).toNat : Int), W, ?_, Below.refl _ _, ?_⟩
            · clear hF hG hH hn hcl hw
              generalize a.eval = ρ at *
              go_simp
            · rfl
          · refine stepB rfl rfl (by decide) (by rw [hz]; decide) rfl rfl (by kernel_rfl) St SG fun d a W hF hG hH hn hcl hw => ?_
            have q144 : a.eval (.tmp 144) = .slice (some ⟨gt, 0, none⟩) vn tc := hH.at_ (i := 0) rfl (hw 0 rfl) id
            have q148 : a.eval (.tmp 148) = .int .i64 (j : Int) := hH.at_ (i := 4) rfl (hw 4 rfl) id
            refine ⟨.pointer (some ⟨gt, j * 32, none⟩), W, ?_, Below.refl _ _, ?_⟩
            · exact IXH _ _ W _ _ rfl q144 q148
            · rfl
          · refine stepB rfl rfl (by decide) (by rw [hz]; decide) rfl rfl (by kernel_rfl) St SG fun d a W hF hG hH hn hcl hw => ?_
            have q150 : a.eval (.tmp 150) = .int .i64 (p : Int) := hH.at_ (i := 6) rfl (hw 6 rfl) id
            have q156 : a.eval (.tmp 156) = .pointer (some ⟨gt, j * 32, none⟩) := hH.at_ (i := 12) rfl (hw 12 rfl) id
            refine ⟨.pointer (some ⟨gt, j * 32 + p, none⟩), W, ?_, Below.refl _ _, ?_⟩
            · clear hF hG hH hn hcl hw
              generalize a.eval = ρ at *
              go_simp
            · rfl
        · intro d a W ⟨hF, hB, hH⟩ hall
          have k155 : a.eval (.tmp 155) = .int .u8 ((xb ^^^ b).toNat : Int) := hH.at_ (i := 11) rfl (hall 11 (by decide)) id
          have k157 : a.eval (.tmp 157) = .pointer (some ⟨gt, j * 32 + p, none⟩) := hH.at_ (i := 13) rfl (hall 13 (by decide)) id
          clear hH hall
          rw [hF.shape (by rw [hz]; decide)]
          clear hF
          simp only [List.foldl]
          generalize a.eval (.tmp 144) = z144 at *
          generalize a.eval (.tmp 145) = z145 at *
          generalize a.eval (.tmp 146) = z146 at *
          generalize a.eval (.tmp 147) = z147 at *
          generalize a.eval (.tmp 148) = z148 at *
          generalize a.eval (.tmp 149) = z149 at *
          generalize a.eval (.tmp 150) = z150 at *
          generalize a.eval (.tmp 151) = z151 at *
          generalize a.eval (.tmp 152) = z152 at *
          generalize a.eval (.tmp 153) = z153 at *
          generalize a.eval (.tmp 154) = z154 at *
          generalize a.eval (.tmp 155) = z155 at *
          generalize a.eval (.tmp 156) = z156 at *
          generalize a.eval (.tmp 157) = z157 at *
          subst k155
          subst k157
          rw [HA0.out]
          simp only [Act.put, List.setIfInBounds_toArray, List.set_cons_zero, List.set_cons_succ]
          clear hz HA0 SG e3 e4 e14 e17
          clear a a0
          have cc := cell_kept hB hcc
          have cf := hfz W hB
          refine wp_skips (w' := W.setCell ⟨gt, j * 32 + p, none⟩ (.int .u8 ((xb ^^^ b).toNat : Int))) (by go_simp) ?_
          dsimp only [Act.put]
          have hT9 := HTN.out W hB
          have B11 := (Below.on B10 hB).setCell (p := ⟨gt, j * 32 + p, none⟩) hgt (.int .u8 ((xb ^^^ b).toNat : Int))
          generalize W.setCell ⟨gt, j * 32 + p, none⟩ (.int .u8 ((xb ^^^ b).toNat : Int)) = w11 at *
          have hk11 := hk9.next B11
          have hL11 := hL9.next B11
          have bx11 : BoxH w11 g12 x := BoxA.next bx9 B11
          have cw11 : BoxW w11 g16 := BoxA.next cw9 B11
          have BB11 := Below.on BB9 B11
          have hTl := turnB_length V j p (xb ^^^ b)
          rw [HVN.out] at hTl
          generalize turnB V j p (xb ^^^ b) = V2 at *
          have HTL := Lib.hid hTl
          have hs11 : Hs w11 (some ⟨gt, 0, none⟩) V2 := by
            obtain ⟨A1, c1, e, _, h⟩ := hT9.toHs
            simp only [Value.slice.injEq] at e
            rw [← e.1] at h
            exact h
          have tcl : vn ≤ tc := by
            obtain ⟨A1, c1, e, hh, _⟩ := hT9.toHs
            simp only [Value.slice.injEq] at e
            rw [HTL.out, ← e.2.2] at hh
            exact hh
          clear cc cf hT9 B11 B10 hk9 hL9 hs9 hO9 bx9 cw9 BB9 hcc hfz HTN hT hB hTl hxb r1 r2 r3 r4 r5
          go_upto_region 17 with (fail)
          go_cut [189] from 158 to 188 (fun u W => u = .bool false ∧ Below w11.heap.size w11 W)
          case first =>
            have hvo := fun W (h : Hs W (some ⟨gt, 0, none⟩) V2) (kon : Kon W) => HV.out X HXL.out V2 (by rw [HTL.out]; omega) (some ⟨gt, 0, none⟩) tc W (by rw [HTL.out]; exact tcl) h kon
            obtain ⟨bv, hbv⟩ : ∃ bv, verM x X i n V2 = bv := ⟨_, rfl⟩
            rw [hbv, HTL.out] at hvo
            have HVO := Lib.hid hvo
            have HBV := Lib.hid hbv
            clear hvo hbv
            by_cases e : b = 0
            · have e1 : ((b.toNat : Int) != 0) = false := by rw [e]; rfl
              clear e
              refine wp_name fun a0 ha0 => ?_
              have e0 : a0.eval (.tmp 0) = .slice (some ad) n c := by rw [ha0]; rfl
              have e1 : a0.eval (.tmp 1) = .int .i64 (i : Int) := by rw [ha0]; rfl
              have e4 : a0.eval (.tmp 4) = .int .u8 (b.toNat : Int) := by rw [ha0]; rfl
              have e11 : a0.eval (.tmp 11) = .int .i64 (n : Int) := by rw [ha0]; rfl
              have e12 : a0.eval (.tmp 12) = .pointer (some ⟨g12, 0, none⟩) := by rw [ha0]; rfl
              have e16 : a0.eval (.tmp 16) = .pointer (some ⟨g16, 0, none⟩) := by rw [ha0]; rfl
              have e17 : a0.eval (.tmp 17) = .slice (some ⟨gt, 0, none⟩) vn tc := by rw [ha0]; rfl
              have hz : a0.tmps.size = 191 := by rw [ha0]; rfl
              have HA0 := Lib.hid ha0
              clear ha0
              have SG : ∀ (d d' : Nat → Prop) (W W' : World), (fun (_ : Nat → Prop) (W : World) => Below w11.heap.size w11 W) d W → (∀ j, d j → d' j) → Below W.heap.size W W' → (fun (_ : Nat → Prop) (W : World) => Below w11.heap.size w11 W) d' W' := fun _ _ _ _ h _ b => Below.next h b
              refine wp_region_guards (Inv [158, 159, 160, 161, 162, 163, 164, 165, 166, 167, 168, 169, 170, 171, 172, 173, 174, 175, 176, 177, 178, 179, 180, 181, 182, 183, 184, 185, 186, 187, 188, 189] a0 (fun (_ : Nat → Prop) (W : World) => Below w11.heap.size w11 W) [(⟨some 0, 158, none, fun v _ => v = .int .u8 (b.toNat : Int)⟩ : Cl), ⟨some 1, 159, none, fun v _ => v = .bool false⟩, ⟨some 2, 160, none, fun v _ => v = .bool false⟩, ⟨some 3, 161, none, fun v _ => v = undef⟩, ⟨some 4, 162, none, fun v _ => v = undef⟩, ⟨some 5, 163, none, fun v _ => v = undef⟩, ⟨some 6, 164, none, fun v _ => v = undef⟩, ⟨some 7, 165, none, fun v _ => v = undef⟩, ⟨some 8, 166, none, fun v _ => v = undef⟩, ⟨some 9, 167, none, fun v _ => v = undef⟩, ⟨some 10, 168, none, fun v _ => v = undef⟩, ⟨some 11, 169, none, fun v _ => v = undef⟩, ⟨some 12, 170, none, fun v _ => v = .bool false⟩, ⟨some 13, 171, none, fun v _ => v = .bool false⟩, ⟨some 14, 172, none, fun v _ => v = undef⟩, ⟨some 15, 173, none, fun v _ => v = undef⟩, ⟨some 16, 174, none, fun v _ => v = undef⟩, ⟨some 17, 175, none, fun v _ => v = undef⟩, ⟨some 18, 176, none, fun v _ => v = undef⟩, ⟨some 19, 177, none, fun v _ => v = undef⟩, ⟨some 20, 178, none, fun v _ => v = undef⟩, ⟨some 21, 179, none, fun v _ => v = undef⟩, ⟨some 22, 180, none, fun v _ => v = undef⟩, ⟨some 23, 181, none, fun v _ => v = undef⟩, ⟨some 24, 182, none, fun v _ => v = undef⟩, ⟨some 25, 183, none, fun v _ => v = undef⟩, ⟨some 26, 184, none, fun v _ => v = undef⟩, ⟨some 27, 185, none, fun v _ => v = undef⟩, ⟨some 28, 186, none, fun v _ => v = undef⟩, ⟨some 29, 187, none, fun v _ => v = undef⟩, ⟨some 30, 188, none, fun v _ => v = undef⟩, ⟨some 31, 189, none, fun v _ => v = .bool false⟩]) (by kernel_rfl) (by kernel_rfl) (Inv.start (Below.refl _ _).drew ⟨nofun, nofun, nofun, nofun, nofun, nofun, nofun, nofun, nofun, nofun, nofun, nofun, nofun, nofun, nofun, nofun, nofun, nofun, nofun, nofun, nofun, nofun, nofun, nofun, nofun, nofun, nofun, nofun, nofun, nofun, nofun, nofun, trivial⟩) ?_ ?_
              · have St : ∀ xc ∈ [(⟨some 0, 158, none, fun v _ => v = .int .u8 (b.toNat : Int)⟩ : Cl), ⟨some 1, 159, none, fun v _ => v = .bool false⟩, ⟨some 2, 160, none, fun v _ => v = .bool false⟩, ⟨some 3, 161, none, fun v _ => v = undef⟩, ⟨some 4, 162, none, fun v _ => v = undef⟩, ⟨some 5, 163, none, fun v _ => v = undef⟩, ⟨some 6, 164, none, fun v _ => v = undef⟩, ⟨some 7, 165, none, fun v _ => v = undef⟩, ⟨some 8, 166, none, fun v _ => v = undef⟩, ⟨some 9, 167, none, fun v _ => v = undef⟩, ⟨some 10, 168, none, fun v _ => v = undef⟩, ⟨some 11, 169, none, fun v _ => v = undef⟩, ⟨some 12, 170, none, fun v _ => v = .bool false⟩, ⟨some 13, 171, none, fun v _ => v = .bool false⟩, ⟨some 14, 172, none, fun v _ => v = undef⟩, ⟨some 15, 173, none, fun v _ => v = undef⟩, ⟨some 16, 174, none, fun v _ => v = undef⟩, ⟨some 17, 175, none, fun v _ => v = undef⟩, ⟨some 18, 176, none, fun v _ => v = undef⟩, ⟨some 19, 177, none, fun v _ => v = undef⟩, ⟨some 20, 178, none, fun v _ => v = undef⟩, ⟨some 21, 179, none, fun v _ => v = undef⟩, ⟨some 22, 180, none, fun v _ => v = undef⟩, ⟨some 23, 181, none, fun v _ => v = undef⟩, ⟨some 24, 182, none, fun v _ => v = undef⟩, ⟨some 25, 183, none, fun v _ => v = undef⟩, ⟨some 26, 184, none, fun v _ => v = undef⟩, ⟨some 27, 185, none, fun v _ => v = undef⟩, ⟨some 28, 186, none, fun v _ => v = undef⟩, ⟨some 29, 187, none, fun v _ => v = undef⟩, ⟨some 30, 188, none, fun v _ => v = undef⟩, ⟨some 31, 189, none, fun v _ => v = .bool false⟩], Lasts xc := AllC.mem ⟨lastsV0 _ _ _ _, lastsV0 _ _ _ _, lastsV0 _ _ _ _, lastsV0 _ _ _ _, lastsV0 _ _ _ _, lastsV0 _ _ _ _, lastsV0 _ _ _ _, lastsV0 _ _ _ _, lastsV0 _ _ _ _, lastsV0 _ _ _ _, lastsV0 _ _ _ _, lastsV0 _ _ _ _, lastsV0 _ _ _ _, lastsV0 _ _ _ _, lastsV0 _ _ _ _, lastsV0 _ _ _ _, lastsV0 _ _ _ _, lastsV0 _ _ _ _, lastsV0 _ _ _ _, lastsV0 _ _ _ _, lastsV0 _ _ _ _, lastsV0 _ _ _ _, lastsV0 _ _ _ _, lastsV0 _ _ _ _, lastsV0 _ _ _ _, lastsV0 _ _ _ _, lastsV0 _ _ _ _, lastsV0 _ _ _ _, lastsV0 _ _ _ _, lastsV0 _ _ _ _, lastsV0 _ _ _ _, lastsV0 _ _ _ _, trivial⟩
                clear HA0
                refine ⟨?_, ?_, ?_, ?_, ?_, ?_, ?_, ?_, ?_, ?_, ?_, ?_, ?_, ?_, ?_, ?_, ?_, ?_, ?_, ?_, ?_, ?_, ?_, ?_, ?_, ?_, ?_, ?_, ?_, ?_, ?_, ?_, trivial⟩
                · refine StepG.of ?_
                  refine stepB rfl rfl (by decide) (by rw [hz]; decide) rfl rfl (by kernel_rfl) St SG fun d a W hF hG hH hn hcl hw => ?_
                  have q4 := (hF.same 4 (by decide)).trans e4
                  refine ⟨.int .u8 (b.toNat : Int), W, ?_, Below.refl _ _, ?_⟩
                  · clear hF hG hH hn hcl hw
                    generalize a.eval = ρ at *
                    go_simp
                  · rfl
                · refine StepG.of ?_
                  refine stepB rfl rfl (by decide) (by rw [hz]; decide) rfl rfl (by kernel_rfl) St SG fun d a W hF hG hH hn hcl hw => ?_
                  have q158 : a.eval (.tmp 158) = .int .u8 (b.toNat : Int) := hH.at_ (i := 0) rfl (hw 0 rfl) id
                  have qk_ : a.eval (.const (.int .u8 0)) = .int .u8 0 := rfl
                  refine ⟨.bool false, W, ?_, Below.refl _ _, ?_⟩
                  · clear hF hG hH hn hcl hw
                    generalize a.eval = ρ at *
                    go_simp
                  · rfl
                · refine StepG.of ?_
                  refine stepB rfl rfl (by decide) (by rw [hz]; decide) rfl rfl (by kernel_rfl) St SG fun d a W hF hG hH hn hcl hw => ?_
                  have q159 : a.eval (.tmp 159) = .bool false := hH.at_ (i := 1) rfl (hw 1 rfl) id
                  refine ⟨.bool false, W, ?_, Below.refl _ _, ?_⟩
                  · clear hF hG hH hn hcl hw
                    generalize a.eval = ρ at *
                    go_simp
                  · rfl
                · exact step_off rfl rfl (by decide) (by rw [hz]; decide) rfl rfl (by kernel_rfl) (fun _ => rfl) SG (fun d a W hI hw => yielded_of rfl (hI.2.2.at_ (i := 2) rfl (hw 2 rfl) id))
                · exact step_off rfl rfl (by decide) (by rw [hz]; decide) rfl rfl (by kernel_rfl) (fun _ => rfl) SG (fun d a W hI hw => yielded_of rfl (hI.2.2.at_ (i := 2) rfl (hw 2 rfl) id))
                · exact step_off rfl rfl (by decide) (by rw [hz]; decide) rfl rfl (by kernel_rfl) (fun _ => rfl) SG (fun d a W hI hw => yielded_of rfl (hI.2.2.at_ (i := 2) rfl (hw 2 rfl) id))
                · exact step_off rfl rfl (by decide) (by rw [hz]; decide) rfl rfl (by kernel_rfl) (fun _ => rfl) SG (fun d a W hI hw => yielded_of rfl (hI.2.2.at_ (i := 2) rfl (hw 2 rfl) id))
                · exact step_off rfl rfl (by decide) (by rw [hz]; decide) rfl rfl (by kernel_rfl) (fun _ => rfl) SG (fun d a W hI hw => yielded_of rfl (hI.2.2.at_ (i := 2) rfl (hw 2 rfl) id))
                · exact step_off rfl rfl (by decide) (by rw [hz]; decide) rfl rfl (by kernel_rfl) (fun _ => rfl) SG (fun d a W hI hw => yielded_of rfl (hI.2.2.at_ (i := 2) rfl (hw 2 rfl) id))
                · exact step_off rfl rfl (by decide) (by rw [hz]; decide) rfl rfl (by kernel_rfl) (fun _ => rfl) SG (fun d a W hI hw => yielded_of rfl (hI.2.2.at_ (i := 2) rfl (hw 2 rfl) id))
                · exact step_off rfl rfl (by decide) (by rw [hz]; decide) rfl rfl (by kernel_rfl) (fun _ => rfl) SG (fun d a W hI hw => yielded_of rfl (hI.2.2.at_ (i := 2) rfl (hw 2 rfl) id))
                · exact step_off rfl rfl (by decide) (by rw [hz]; decide) rfl rfl (by kernel_rfl) (fun _ => rfl) SG (fun d a W hI hw => yielded_of rfl (hI.2.2.at_ (i := 2) rfl (hw 2 rfl) id))
                · refine StepG.of ?_
                  refine stepB rfl rfl (by decide) (by rw [hz]; decide) rfl rfl (by kernel_rfl) St SG fun d a W hF hG hH hn hcl hw => ?_
                  have q160 : a.eval (.tmp 160) = .bool false := hH.at_ (i := 2) rfl (hw 2 rfl) id
                  have q169 : a.eval (.tmp 169) = undef := hH.at_ (i := 11) rfl (hw 11 rfl) id
                  have qk1 : a.eval (.const (.bool false)) = .bool false := rfl
                  refine ⟨.bool false, W, ?_, Below.refl _ _, ?_⟩
                  · clear hF hG hH hn hcl hw
                    generalize a.eval = ρ at *
                    go_simp
                  · rfl
                · refine StepG.of ?_
                  refine stepB rfl rfl (by decide) (by rw [hz]; decide) rfl rfl (by kernel_rfl) St SG fun d a W hF hG hH hn hcl hw => ?_
                  have q170 : a.eval (.tmp 170) = .bool false := hH.at_ (i := 12) rfl (hw 12 rfl) id
                  refine ⟨.bool false, W, ?_, Below.refl _ _, ?_⟩
                  · clear hF hG hH hn hcl hw
                    generalize a.eval = ρ at *
                    go_simp
                  · rfl
                · exact step_off rfl rfl (by decide) (by rw [hz]; decide) rfl rfl (by kernel_rfl) (fun _ => rfl) SG (fun d a W hI hw => yielded_of rfl (hI.2.2.at_ (i := 13) rfl (hw 13 rfl) id))
                · exact step_off rfl rfl (by decide) (by rw [hz]; decide) rfl rfl (by kernel_rfl) (fun _ => rfl) SG (fun d a W hI hw => yielded_of rfl (hI.2.2.at_ (i := 13) rfl (hw 13 rfl) id))
                · exact step_off rfl rfl (by decide) (by rw [hz]; decide) rfl rfl (by kernel_rfl) (fun _ => rfl) SG (fun d a W hI hw => yielded_of rfl (hI.2.2.at_ (i := 13) rfl (hw 13 rfl) id))
                · exact step_off rfl rfl (by decide) (by rw [hz]; decide) rfl rfl (by kernel_rfl) (fun _ => rfl) SG (fun d a W hI hw => yielded_of rfl (hI.2.2.at_ (i := 13) rfl (hw 13 rfl) id))
                · exact step_off rfl rfl (by decide) (by rw [hz]; decide) rfl rfl (by kernel_rfl) (fun _ => rfl) SG (fun d a W hI hw => yielded_of rfl (hI.2.2.at_ (i := 13) rfl (hw 13 rfl) id))
                · exact step_off rfl rfl (by decide) (by rw [hz]; decide) rfl rfl (by kernel_rfl) (fun _ => rfl) SG (fun d a W hI hw => yielded_of rfl (hI.2.2.at_ (i := 13) rfl (hw 13 rfl) id))
                · exact step_off rfl rfl (by decide) (by rw [hz]; decide) rfl rfl (by kernel_rfl) (fun _ => rfl) SG (fun d a W hI hw => yielded_of rfl (hI.2.2.at_ (i := 13) rfl (hw 13 rfl) id))
                · exact step_off rfl rfl (by decide) (by rw [hz]; decide) rfl rfl (by kernel_rfl) (fun _ => rfl) SG (fun d a W hI hw => yielded_of rfl (hI.2.2.at_ (i := 13) rfl (hw 13 rfl) id))
                · exact step_off rfl rfl (by decide) (by rw [hz]; decide) rfl rfl (by kernel_rfl) (fun _ => rfl) SG (fun d a W hI hw => yielded_of rfl (hI.2.2.at_ (i := 13) rfl (hw 13 rfl) id))
                · exact step_off rfl rfl (by decide) (by rw [hz]; decide) rfl rfl (by kernel_rfl) (fun _ => rfl) SG (fun d a W hI hw => yielded_of rfl (hI.2.2.at_ (i := 13) rfl (hw 13 rfl) id))
                · exact step_off rfl rfl (by decide) (by rw [hz]; decide) rfl rfl (by kernel_rfl) (fun _ => rfl) SG (fun d a W hI hw => yielded_of rfl (hI.2.2.at_ (i := 13) rfl (hw 13 rfl) id))
                · exact step_off rfl rfl (by decide) (by rw [hz]; decide) rfl rfl (by kernel_rfl) (fun _ => rfl) SG (fun d a W hI hw => yielded_of rfl (hI.2.2.at_ (i := 13) rfl (hw 13 rfl) id))
                · exact step_off rfl rfl (by decide) (by rw [hz]; decide) rfl rfl (by kernel_rfl) (fun _ => rfl) SG (fun d a W hI hw => yielded_of rfl (hI.2.2.at_ (i := 13) rfl (hw 13 rfl) id))
                · exact step_off rfl rfl (by decide) (by rw [hz]; decide) rfl rfl (by kernel_rfl) (fun _ => rfl) SG (fun d a W hI hw => yielded_of rfl (hI.2.2.at_ (i := 13) rfl (hw 13 rfl) id))
                · exact step_off rfl rfl (by decide) (by rw [hz]; decide) rfl rfl (by kernel_rfl) (fun _ => rfl) SG (fun d a W hI hw => yielded_of rfl (hI.2.2.at_ (i := 13) rfl (hw 13 rfl) id))
                · exact step_off rfl rfl (by decide) (by rw [hz]; decide) rfl rfl (by kernel_rfl) (fun _ => rfl) SG (fun d a W hI hw => yielded_of rfl (hI.2.2.at_ (i := 13) rfl (hw 13 rfl) id))
                · exact step_off rfl rfl (by decide) (by rw [hz]; decide) rfl rfl (by kernel_rfl) (fun _ => rfl) SG (fun d a W hI hw => yielded_of rfl (hI.2.2.at_ (i := 13) rfl (hw 13 rfl) id))
                · refine StepG.of ?_
                  refine stepB rfl rfl (by decide) (by rw [hz]; decide) rfl rfl (by kernel_rfl) St SG fun d a W hF hG hH hn hcl hw => ?_
                  have q171 : a.eval (.tmp 171) = .bool false := hH.at_ (i := 13) rfl (hw 13 rfl) id
                  have q188 : a.eval (.tmp 188) = undef := hH.at_ (i := 30) rfl (hw 30 rfl) id
                  have qk1 : a.eval (.const (.bool false)) = .bool false := rfl
                  refine ⟨.bool false, W, ?_, Below.refl _ _, ?_⟩
                  · clear hF hG hH hn hcl hw
                    generalize a.eval = ρ at *
                    go_simp
                  · rfl
              · intro d a W ⟨hF, hB, hH⟩ hall
                have k189 : a.eval (.tmp 189) = .bool false := hH.at_ (i := 31) rfl (hall 31 (by decide)) id
                clear hH hall
                rw [hF.shape (by rw [hz]; decide)]
                clear hF
                simp only [List.foldl]
                generalize a.eval (.tmp 158) = z158 at *
                generalize a.eval (.tmp 159) = z159 at *
                generalize a.eval (.tmp 160) = z160 at *
                generalize a.eval (.tmp 161) = z161 at *
                generalize a.eval (.tmp 162) = z162 at *
                generalize a.eval (.tmp 163) = z163 at *
                generalize a.eval (.tmp 164) = z164 at *
                generalize a.eval (.tmp 165) = z165 at *
                generalize a.eval (.tmp 166) = z166 at *
                generalize a.eval (.tmp 167) = z167 at *
                generalize a.eval (.tmp 168) = z168 at *
                generalize a.eval (.tmp 169) = z169 at *
                generalize a.eval (.tmp 170) = z170 at *
                generalize a.eval (.tmp 171) = z171 at *
                generalize a.eval (.tmp 172) = z172 at *
                generalize a.eval (.tmp 173) = z173 at *
                generalize a.eval (.tmp 174) = z174 at *
                generalize a.eval (.tmp 175) = z175 at *
                generalize a.eval (.tmp 176) = z176 at *
                generalize a.eval (.tmp 177) = z177 at *
                generalize a.eval (.tmp 178) = z178 at *
                generalize a.eval (.tmp 179) = z179 at *
                generalize a.eval (.tmp 180) = z180 at *
                generalize a.eval (.tmp 181) = z181 at *
                generalize a.eval (.tmp 182) = z182 at *
                generalize a.eval (.tmp 183) = z183 at *
                generalize a.eval (.tmp 184) = z184 at *
                generalize a.eval (.tmp 185) = z185 at *
                generalize a.eval (.tmp 186) = z186 at *
                generalize a.eval (.tmp 187) = z187 at *
                generalize a.eval (.tmp 188) = z188 at *
                generalize a.eval (.tmp 189) = z189 at *
                subst k189
                rw [HA0.out]
                simp only [Act.put, List.setIfInBounds_toArray, List.set_cons_zero, List.set_cons_succ]
                clear hz HA0 SG e0 e1 e4 e11 e12 e16 e17
                clear a a0
                go_wp2_with (fail)
                go_meet
                exact ⟨rfl, hB⟩
            · have e1 : ((b.toNat : Int) != 0) = true := by
                rw [bne_iff_ne]; intro h
                exact e (UInt8.toNat_inj.1 (by simpa using h))
              have HE := Lib.hid e
              clear e
              cases bv
              · refine wp_name fun a0 ha0 => ?_
                have e0 : a0.eval (.tmp 0) = .slice (some ad) n c := by rw [ha0]; rfl
                have e1 : a0.eval (.tmp 1) = .int .i64 (i : Int) := by rw [ha0]; rfl
                have e4 : a0.eval (.tmp 4) = .int .u8 (b.toNat : Int) := by rw [ha0]; rfl
                have e11 : a0.eval (.tmp 11) = .int .i64 (n : Int) := by rw [ha0]; rfl
                have e12 : a0.eval (.tmp 12) = .pointer (some ⟨g12, 0, none⟩) := by rw [ha0]; rfl
                have e16 : a0.eval (.tmp 16) = .pointer (some ⟨g16, 0, none⟩) := by rw [ha0]; rfl
                have e17 : a0.eval (.tmp 17) = .slice (some ⟨gt, 0, none⟩) vn tc := by rw [ha0]; rfl
                have hz : a0.tmps.size = 191 := by rw [ha0]; rfl
                have HA0 := Lib.hid ha0
                clear ha0
                have SG : ∀ (d d' : Nat → Prop) (W W' : World), (fun (_ : Nat → Prop) (W : World) => Below w11.heap.size w11 W) d W → (∀ j, d j → d' j) → Below W.heap.size W W' → (fun (_ : Nat → Prop) (W : World) => Below w11.heap.size w11 W) d' W' := fun _ _ _ _ h _ b => Below.next h b
                refine wp_region_guards (Inv [158, 159, 160, 161, 162, 163, 164, 165, 166, 167, 168, 169, 170, 171, 172, 173, 174, 175, 176, 177, 178, 179, 180, 181, 182, 183, 184, 185, 186, 187, 188, 189] a0 (fun (_ : Nat → Prop) (W : World) => Below w11.heap.size w11 W) [(⟨some 0, 158, none, fun v _ => v = .int .u8 (b.toNat : Int)⟩ : Cl), ⟨some 1, 159, none, fun v _ => v = .bool true⟩, ⟨some 2, 160, none, fun v _ => v = .bool true⟩, ⟨some 3, 161, none, fun v _ => v = hashV x⟩, ⟨some 4, 162, none, fun v _ => v = .slice (some ad) n c⟩, ⟨some 5, 163, none, fun v _ => v = .int .i64 (i : Int)⟩, ⟨some 6, 164, none, fun v _ => v = .pointer (some (ad.add i))⟩, ⟨some 7, 165, none, fun v _ => v = .string ⟨X.toArray⟩⟩, ⟨some 8, 166, none, fun v _ => v = .int .i64 (i : Int)⟩, ⟨some 9, 167, none, fun v _ => v = .int .i64 (n : Int)⟩, ⟨some 10, 168, none, fun v _ => v = .slice (some ⟨gt, 0, none⟩) vn tc⟩, ⟨some 11, 169, none, fun v _ => v = .bool false⟩, ⟨some 12, 170, none, fun v _ => v = .bool false⟩, ⟨some 13, 171, none, fun v _ => v = .bool false⟩, ⟨some 14, 172, none, fun v _ => v = undef⟩, ⟨some 15, 173, none, fun v _ => v = undef⟩, ⟨some 16, 174, none, fun v _ => v = undef⟩, ⟨some 17, 175, none, fun v _ => v = undef⟩, ⟨some 18, 176, none, fun v _ => v = undef⟩, ⟨some 19, 177, none, fun v _ => v = undef⟩, ⟨some 20, 178, none, fun v _ => v = undef⟩, ⟨some 21, 179, none, fun v _ => v = undef⟩, ⟨some 22, 180, none, fun v _ => v = undef⟩, ⟨some 23, 181, none, fun v _ => v = undef⟩, ⟨some 24, 182, none, fun v _ => v = undef⟩, ⟨some 25, 183, none, fun v _ => v = undef⟩, ⟨some 26, 184, none, fun v _ => v = undef⟩, ⟨some 27, 185, none, fun v _ => v = undef⟩, ⟨some 28, 186, none, fun v _ => v = undef⟩, ⟨some 29, 187, none, fun v _ => v = undef⟩, ⟨some 30, 188, none, fun v _ => v = undef⟩, ⟨some 31, 189, none, fun v _ => v = .bool false⟩]) (by kernel_rfl) (by kernel_rfl) (Inv.start (Below.refl _ _).drew ⟨nofun, nofun, nofun, nofun, nofun, nofun, nofun, nofun, nofun, nofun, nofun, nofun, nofun, nofun, nofun, nofun, nofun, nofun, nofun, nofun, nofun, nofun, nofun, nofun, nofun, nofun, nofun, nofun, nofun, nofun, nofun, nofun, trivial⟩) ?_ ?_
                · have St : ∀ xc ∈ [(⟨some 0, 158, none, fun v _ => v = .int .u8 (b.toNat : Int)⟩ : Cl), ⟨some 1, 159, none, fun v _ => v = .bool true⟩, ⟨some 2, 160, none, fun v _ => v = .bool true⟩, ⟨some 3, 161, none, fun v _ => v = hashV x⟩, ⟨some 4, 162, none, fun v _ => v = .slice (some ad) n c⟩, ⟨some 5, 163, none, fun v _ => v = .int .i64 (i : Int)⟩, ⟨some 6, 164, none, fun v _ => v = .pointer (some (ad.add i))⟩, ⟨some 7, 165, none, fun v _ => v = .string ⟨X.toArray⟩⟩, ⟨some 8, 166, none, fun v _ => v = .int .i64 (i : Int)⟩, ⟨some 9, 167, none, fun v _ => v = .int .i64 (n : Int)⟩, ⟨some 10, 168, none, fun v _ => v = .slice (some ⟨gt, 0, none⟩) vn tc⟩, ⟨some 11, 169, none, fun v _ => v = .bool false⟩, ⟨some 12, 170, none, fun v _ => v = .bool false⟩, ⟨some 13, 171, none, fun v _ => v = .bool false⟩, ⟨some 14, 172, none, fun v _ => v = undef⟩, ⟨some 15, 173, none, fun v _ => v = undef⟩, ⟨some 16, 174, none, fun v _ => v = undef⟩, ⟨some 17, 175, none, fun v _ => v = undef⟩, ⟨some 18, 176, none, fun v _ => v = undef⟩, ⟨some 19, 177, none, fun v _ => v = undef⟩, ⟨some 20, 178, none, fun v _ => v = undef⟩, ⟨some 21, 179, none, fun v _ => v = undef⟩, ⟨some 22, 180, none, fun v _ => v = undef⟩, ⟨some 23, 181, none, fun v _ => v = undef⟩, ⟨some 24, 182, none, fun v _ => v = undef⟩, ⟨some 25, 183, none, fun v _ => v = undef⟩, ⟨some 26, 184, none, fun v _ => v = undef⟩, ⟨some 27, 185, none, fun v _ => v = undef⟩, ⟨some 28, 186, none, fun v _ => v = undef⟩, ⟨some 29, 187, none, fun v _ => v = undef⟩, ⟨some 30, 188, none, fun v _ => v = undef⟩, ⟨some 31, 189, none, fun v _ => v = .bool false⟩], Lasts xc := AllC.mem ⟨lastsV0 _ _ _ _, lastsV0 _ _ _ _, lastsV0 _ _ _ _, lastsV0 _ _ _ _, lastsV0 _ _ _ _, lastsV0 _ _ _ _, lastsV0 _ _ _ _, lastsV0 _ _ _ _, lastsV0 _ _ _ _, lastsV0 _ _ _ _, lastsV0 _ _ _ _, lastsV0 _ _ _ _, lastsV0 _ _ _ _, lastsV0 _ _ _ _, lastsV0 _ _ _ _, lastsV0 _ _ _ _, lastsV0 _ _ _ _, lastsV0 _ _ _ _, lastsV0 _ _ _ _, lastsV0 _ _ _ _, lastsV0 _ _ _ _, lastsV0 _ _ _ _, lastsV0 _ _ _ _, lastsV0 _ _ _ _, lastsV0 _ _ _ _, lastsV0 _ _ _ _, lastsV0 _ _ _ _, lastsV0 _ _ _ _, lastsV0 _ _ _ _, lastsV0 _ _ _ _, lastsV0 _ _ _ _, lastsV0 _ _ _ _, trivial⟩
                  clear HA0
                  refine ⟨?_, ?_, ?_, ?_, ?_, ?_, ?_, ?_, ?_, ?_, ?_, ?_, ?_, ?_, ?_, ?_, ?_, ?_, ?_, ?_, ?_, ?_, ?_, ?_, ?_, ?_, ?_, ?_, ?_, ?_, ?_, ?_, trivial⟩
                  · refine StepG.of ?_
                    refine stepB rfl rfl (by decide) (by rw [hz]; decide) rfl rfl (by kernel_rfl) St SG fun d a W hF hG hH hn hcl hw => ?_
                    have q4 := (hF.same 4 (by decide)).trans e4
                    refine ⟨.int .u8 (b.toNat : Int), W, ?_, Below.refl _ _, ?_⟩
                    · clear hF hG hH hn hcl hw
                      generalize a.eval = ρ at *
                      go_simp
                    · rfl
                  · refine StepG.of ?_
                    refine stepB rfl rfl (by decide) (by rw [hz]; decide) rfl rfl (by kernel_rfl) St SG fun d a W hF hG hH hn hcl hw => ?_
                    have q158 : a.eval (.tmp 158) = .int .u8 (b.toNat : Int) := hH.at_ (i := 0) rfl (hw 0 rfl) id
                    have qk_ : a.eval (.const (.int .u8 0)) = .int .u8 0 := rfl
                    refine ⟨.bool true, W, ?_, Below.refl _ _, ?_⟩
                    · clear hF hG hH hn hcl hw
                      generalize a.eval = ρ at *
                      go_simp
                    · rfl
                  · refine StepG.of ?_
                    refine stepB rfl rfl (by decide) (by rw [hz]; decide) rfl rfl (by kernel_rfl) St SG fun d a W hF hG hH hn hcl hw => ?_
                    have q159 : a.eval (.tmp 159) = .bool true := hH.at_ (i := 1) rfl (hw 1 rfl) id
                    refine ⟨.bool true, W, ?_, Below.refl _ _, ?_⟩
                    · clear hF hG hH hn hcl hw
                      generalize a.eval = ρ at *
                      go_simp
                    · rfl
                  · refine StepG.on rfl (fun d a W hI hw => yielded_of rfl (hI.2.2.at_ (i := 2) rfl (hw 2 rfl) id)) ?_
                    refine stepB rfl rfl (by decide) (by rw [hz]; decide) rfl rfl (by kernel_rfl) St SG fun d a W hF hG hH hn hcl hw => ?_
                    have q12 := (hF.same 12 (by decide)).trans e12
                    refine ⟨hashV x, W, ?_, Below.refl _ _, ?_⟩
                    · exact exec_load rfl (by rw [q12]; exact BoxH.load_ (BoxA.next bx11 hG) HX.out)
                    · rfl
                  · refine StepG.on rfl (fun d a W hI hw => yielded_of rfl (hI.2.2.at_ (i := 2) rfl (hw 2 rfl) id)) ?_
                    refine stepB rfl rfl (by decide) (by rw [hz]; decide) rfl rfl (by kernel_rfl) St SG fun d a W hF hG hH hn hcl hw => ?_
                    have q0 := (hF.same 0 (by decide)).trans e0
                    refine ⟨.slice (some ad) n c, W, ?_, Below.refl _ _, ?_⟩
                    · clear hF hG hH hn hcl hw
                      generalize a.eval = ρ at *
                      go_simp
                    · rfl
                  · refine StepG.on rfl (fun d a W hI hw => yielded_of rfl (hI.2.2.at_ (i := 2) rfl (hw 2 rfl) id)) ?_
                    refine stepB rfl rfl (by decide) (by rw [hz]; decide) rfl rfl (by kernel_rfl) St SG fun d a W hF hG hH hn hcl hw => ?_
                    have q1 := (hF.same 1 (by decide)).trans e1
                    refine ⟨.int .i64 (i : Int), W, ?_, Below.refl _ _, ?_⟩
                    · clear hF hG hH hn hcl hw
                      generalize a.eval = ρ at *
                      go_simp
                    · rfl
                  · refine StepG.on rfl (fun d a W hI hw => yielded_of rfl (hI.2.2.at_ (i := 2) rfl (hw 2 rfl) id)) ?_
                    refine stepB rfl rfl (by decide) (by rw [hz]; decide) rfl rfl (by kernel_rfl) St SG fun d a W hF hG hH hn hcl hw => ?_
                    have q162 : a.eval (.tmp 162) = .slice (some ad) n c := hH.at_ (i := 4) rfl (hw 4 rfl) id
                    have q163 : a.eval (.tmp 163) = .int .i64 (i : Int) := hH.at_ (i := 5) rfl (hw 5 rfl) id
                    refine ⟨.pointer (some (ad.add i)), W, ?_, Below.refl _ _, ?_⟩
                    · exact exec_indexS rfl q162 q163 hi
                    · rfl
                  · refine StepG.on rfl (fun d a W hI hw => yielded_of rfl (hI.2.2.at_ (i := 2) rfl (hw 2 rfl) id)) ?_
                    refine stepB rfl rfl (by decide) (by rw [hz]; decide) rfl rfl (by kernel_rfl) St SG fun d a W hF hG hH hn hcl hw => ?_
                    have q164 : a.eval (.tmp 164) = .pointer (some (ad.add i)) := hH.at_ (i := 6) rfl (hw 6 rfl) id
                    have qc_ := HC.out W (hL11.next hG)
                    refine ⟨.string ⟨X.toArray⟩, W, ?_, Below.refl _ _, ?_⟩
                    · clear hF hG hH hn hcl hw
                      generalize a.eval = ρ at *
                      go_simp
                    · rfl
                  · refine StepG.on rfl (fun d a W hI hw => yielded_of rfl (hI.2.2.at_ (i := 2) rfl (hw 2 rfl) id)) ?_
                    refine stepB rfl rfl (by decide) (by rw [hz]; decide) rfl rfl (by kernel_rfl) St SG fun d a W hF hG hH hn hcl hw => ?_
                    have q1 := (hF.same 1 (by decide)).trans e1
                    refine ⟨.int .i64 (i : Int), W, ?_, Below.refl _ _, ?_⟩
                    · clear hF hG hH hn hcl hw
                      generalize a.eval = ρ at *
                      go_simp
                    · rfl
                  · refine StepG.on rfl (fun d a W hI hw => yielded_of rfl (hI.2.2.at_ (i := 2) rfl (hw 2 rfl) id)) ?_
                    refine stepB rfl rfl (by decide) (by rw [hz]; decide) rfl rfl (by kernel_rfl) St SG fun d a W hF hG hH hn hcl hw => ?_
                    have q11 := (hF.same 11 (by decide)).trans e11
                    refine ⟨.int .i64 (n : Int), W, ?_, Below.refl _ _, ?_⟩
                    · clear hF hG hH hn hcl hw
                      generalize a.eval = ρ at *
                      go_simp
                    · rfl
                  · refine StepG.on rfl (fun d a W hI hw => yielded_of rfl (hI.2.2.at_ (i := 2) rfl (hw 2 rfl) id)) ?_
                    refine stepB rfl rfl (by decide) (by rw [hz]; decide) rfl rfl (by kernel_rfl) St SG fun d a W hF hG hH hn hcl hw => ?_
                    have q17 := (hF.same 17 (by decide)).trans e17
                    refine ⟨.slice (some ⟨gt, 0, none⟩) vn tc, W, ?_, Below.refl _ _, ?_⟩
                    · clear hF hG hH hn hcl hw
                      generalize a.eval = ρ at *
                      go_simp
                    · rfl
                  · refine StepG.on rfl (fun d a W hI hw => yielded_of rfl (hI.2.2.at_ (i := 2) rfl (hw 2 rfl) id)) ?_
                    refine stepC rfl rfl (by decide) (by rw [hz]; decide) rfl rfl (by kernel_rfl) St SG fun d a W hF hG hH hn hcl hw => ?_
                    have q161 : a.eval (.tmp 161) = hashV x := hH.at_ (i := 3) rfl (hw 3 rfl) id
                    have q165 : a.eval (.tmp 165) = .string ⟨X.toArray⟩ := hH.at_ (i := 7) rfl (hw 7 rfl) id
                    have q166 : a.eval (.tmp 166) = .int .i64 (i : Int) := hH.at_ (i := 8) rfl (hw 8 rfl) id
                    have q167 : a.eval (.tmp 167) = .int .i64 (n : Int) := hH.at_ (i := 9) rfl (hw 9 rfl) id
                    have q168 : a.eval (.tmp 168) = .slice (some ⟨gt, 0, none⟩) vn tc := hH.at_ (i := 10) rfl (hw 10 rfl) id
                    have qf : a.eval (.func 28) = .func (.func 28) #[] #[] := rfl
                    refine ⟨28, #[hashV x, .string ⟨X.toArray⟩, .int .i64 (i : Int), .int .i64 (n : Int), .slice (some ⟨gt, 0, none⟩) vn tc], ?_, ?_⟩
                    · clear hF hG hH hn hcl hw
                      generalize a.eval = ρ at *
                      go_simp
                    · refine (HVO.out W (hs11.next hG) (hk11.next hG)).mono ?_; rintro e W' ⟨rfl, b⟩; exact ⟨_, rfl, b, rfl⟩
                  · refine StepG.of ?_
                    refine stepB rfl rfl (by decide) (by rw [hz]; decide) rfl rfl (by kernel_rfl) St SG fun d a W hF hG hH hn hcl hw => ?_
                    have q160 : a.eval (.tmp 160) = .bool true := hH.at_ (i := 2) rfl (hw 2 rfl) id
                    have q169 : a.eval (.tmp 169) = .bool false := hH.at_ (i := 11) rfl (hw 11 rfl) id
                    have qk1 : a.eval (.const (.bool false)) = .bool false := rfl
                    refine ⟨.bool false, W, ?_, Below.refl _ _, ?_⟩
                    · clear hF hG hH hn hcl hw
                      generalize a.eval = ρ at *
                      go_simp
                    · rfl
                  · refine StepG.of ?_
                    refine stepB rfl rfl (by decide) (by rw [hz]; decide) rfl rfl (by kernel_rfl) St SG fun d a W hF hG hH hn hcl hw => ?_
                    have q170 : a.eval (.tmp 170) = .bool false := hH.at_ (i := 12) rfl (hw 12 rfl) id
                    refine ⟨.bool false, W, ?_, Below.refl _ _, ?_⟩
                    · clear hF hG hH hn hcl hw
                      generalize a.eval = ρ at *
                      go_simp
                    · rfl
                  · exact step_off rfl rfl (by decide) (by rw [hz]; decide) rfl rfl (by kernel_rfl) (fun _ => rfl) SG (fun d a W hI hw => yielded_of rfl (hI.2.2.at_ (i := 13) rfl (hw 13 rfl) id))
                  · exact step_off rfl rfl (by decide) (by rw [hz]; decide) rfl rfl (by kernel_rfl) (fun _ => rfl) SG (fun d a W hI hw => yielded_of rfl (hI.2.2.at_ (i := 13) rfl (hw 13 rfl) id))
                  · exact step_off rfl rfl (by decide) (by rw [hz]; decide) rfl rfl (by kernel_rfl) (fun _ => rfl) SG (fun d a W hI hw => yielded_of rfl (hI.2.2.at_ (i := 13) rfl (hw 13 rfl) id))
                  · exact step_off rfl rfl (by decide) (by rw [hz]; decide) rfl rfl (by kernel_rfl) (fun _ => rfl) SG (fun d a W hI hw => yielded_of rfl (hI.2.2.at_ (i := 13) rfl (hw 13 rfl) id))
                  · exact step_off rfl rfl (by decide) (by rw [hz]; decide) rfl rfl (by kernel_rfl) (fun _ => rfl) SG (fun d a W hI hw => yielded_of rfl (hI.2.2.at_ (i := 13) rfl (hw 13 rfl) id))
                  · exact step_off rfl rfl (by decide) (by rw [hz]; decide) rfl rfl (by kernel_rfl) (fun _ => rfl) SG (fun d a W hI hw => yielded_of rfl (hI.2.2.at_ (i := 13) rfl (hw 13 rfl) id))
                  · exact step_off rfl rfl (by decide) (by rw [hz]; decide) rfl rfl (by kernel_rfl) (fun _ => rfl) SG (fun d a W hI hw => yielded_of rfl (hI.2.2.at_ (i := 13) rfl (hw 13 rfl) id))
                  · exact step_off rfl rfl (by decide) (by rw [hz]; decide) rfl rfl (by kernel_rfl) (fun _ => rfl) SG (fun d a W hI hw => yielded_of rfl (hI.2.2.at_ (i := 13) rfl (hw 13 rfl) id))
                  · exact step_off rfl rfl (by decide) (by rw [hz]; decide) rfl rfl (by kernel_rfl) (fun _ => rfl) SG (fun d a W hI hw => yielded_of rfl (hI.2.2.at_ (i := 13) rfl (hw 13 rfl) id))
                  · exact step_off rfl rfl (by decide) (by rw [hz]; decide) rfl rfl (by kernel_rfl) (fun _ => rfl) SG (fun d a W hI hw => yielded_of rfl (hI.2.2.at_ (i := 13) rfl (hw 13 rfl) id))
                  · exact step_off rfl rfl (by decide) (by rw [hz]; decide) rfl rfl (by kernel_rfl) (fun _ => rfl) SG (fun d a W hI hw => yielded_of rfl (hI.2.2.at_ (i := 13) rfl (hw 13 rfl) id))
                  · exact step_off rfl rfl (by decide) (by rw [hz]; decide) rfl rfl (by kernel_rfl) (fun _ => rfl) SG (fun d a W hI hw => yielded_of rfl (hI.2.2.at_ (i := 13) rfl (hw 13 rfl) id))
                  · exact step_off rfl rfl (by decide) (by rw [hz]; decide) rfl rfl (by kernel_rfl) (fun _ => rfl) SG (fun d a W hI hw => yielded_of rfl (hI.2.2.at_ (i := 13) rfl (hw 13 rfl) id))
                  · exact step_off rfl rfl (by decide) (by rw [hz]; decide) rfl rfl (by kernel_rfl) (fun _ => rfl) SG (fun d a W hI hw => yielded_of rfl (hI.2.2.at_ (i := 13) rfl (hw 13 rfl) id))
                  · exact step_off rfl rfl (by decide) (by rw [hz]; decide) rfl rfl (by kernel_rfl) (fun _ => rfl) SG (fun d a W hI hw => yielded_of rfl (hI.2.2.at_ (i := 13) rfl (hw 13 rfl) id))
                  · exact step_off rfl rfl (by decide) (by rw [hz]; decide) rfl rfl (by kernel_rfl) (fun _ => rfl) SG (fun d a W hI hw => yielded_of rfl (hI.2.2.at_ (i := 13) rfl (hw 13 rfl) id))
                  · exact step_off rfl rfl (by decide) (by rw [hz]; decide) rfl rfl (by kernel_rfl) (fun _ => rfl) SG (fun d a W hI hw => yielded_of rfl (hI.2.2.at_ (i := 13) rfl (hw 13 rfl) id))
                  · refine StepG.of ?_
                    refine stepB rfl rfl (by decide) (by rw [hz]; decide) rfl rfl (by kernel_rfl) St SG fun d a W hF hG hH hn hcl hw => ?_
                    have q171 : a.eval (.tmp 171) = .bool false := hH.at_ (i := 13) rfl (hw 13 rfl) id
                    have q188 : a.eval (.tmp 188) = undef := hH.at_ (i := 30) rfl (hw 30 rfl) id
                    have qk1 : a.eval (.const (.bool false)) = .bool false := rfl
                    refine ⟨.bool false, W, ?_, Below.refl _ _, ?_⟩
                    · clear hF hG hH hn hcl hw
                      generalize a.eval = ρ at *
                      go_simp
                    · rfl
                · intro d a W ⟨hF, hB, hH⟩ hall
                  have k189 : a.eval (.tmp 189) = .bool false := hH.at_ (i := 31) rfl (hall 31 (by decide)) id
                  clear hH hall
                  rw [hF.shape (by rw [hz]; decide)]
                  clear hF
                  simp only [List.foldl]
                  generalize a.eval (.tmp 158) = z158 at *
                  generalize a.eval (.tmp 159) = z159 at *
                  generalize a.eval (.tmp 160) = z160 at *
                  generalize a.eval (.tmp 161) = z161 at *
                  generalize a.eval (.tmp 162) = z162 at *
                  generalize a.eval (.tmp 163) = z163 at *
                  generalize a.eval (.tmp 164) = z164 at *
                  generalize a.eval (.tmp 165) = z165 at *
                  generalize a.eval (.tmp 166) = z166 at *
                  generalize a.eval (.tmp 167) = z167 at *
                  generalize a.eval (.tmp 168) = z168 at *
                  generalize a.eval (.tmp 169) = z169 at *
                  generalize a.eval (.tmp 170) = z170 at *
                  generalize a.eval (.tmp 171) = z171 at *
                  generalize a.eval (.tmp 172) = z172 at *
                  generalize a.eval (.tmp 173) = z173 at *
                  generalize a.eval (.tmp 174) = z174 at *
                  generalize a.eval (.tmp 175) = z175 at *
                  generalize a.eval (.tmp 176) = z176 at *
                  generalize a.eval (.tmp 177) = z177 at *
                  generalize a.eval (.tmp 178) = z178 at *
                  generalize a.eval (.tmp 179) = z179 at *
                  generalize a.eval (.tmp 180) = z180 at *
                  generalize a.eval (.tmp 181) = z181 at *
                  generalize a.eval (.tmp 182) = z182 at *
                  generalize a.eval (.tmp 183) = z183 at *
                  generalize a.eval (.tmp 184) = z184 at *
                  generalize a.eval (.tmp 185) = z185 at *
                  generalize a.eval (.tmp 186) = z186 at *
                  generalize a.eval (.tmp 187) = z187 at *
                  generalize a.eval (.tmp 188) = z188 at *
                  generalize a.eval (.tmp 189) = z189 at *
                  subst k189
                  rw [HA0.out]
                  simp only [Act.put, List.setIfInBounds_toArray, List.set_cons_zero, List.set_cons_succ]
                  clear hz HA0 SG e0 e1 e4 e11 e12 e16 e17
                  clear a a0
                  go_wp2_with (fail)
                  go_meet
                  exact ⟨rfl, hB⟩
              · have h32 : H32 V2 := hs11.1
                have hcl := clashB_yes (P5.out V2 (HNE.out HE.out) h32 HBV.out)
                have fl : (foldT sha n i [X] V2).length ≤ 100 := by have := foldT_len n n i [X] V2 (Nat.le_refl _); omega
                have fs := foldT_short n n i [X] V2 (Nat.le_refl _) (by simpa using HXL.out) h32
                have hf1 := fun K W (hS : Strs W K [X]) (h : Hs W (some ⟨gt, 0, none⟩) V2) => HFT.out X HXL.out V2 (by rw [HTL.out]; omega) K (some ⟨gt, 0, none⟩) tc W (by rw [HTL.out]; exact tcl) hS h
                rw [HTL.out] at hf1
                generalize foldT sha n i [X] V2 = FT at *
                have HF1 := Lib.hid hf1
                have FL := Lib.hid fl
                have hcl' := fun A9 c9 W (hS : Strs W A9 (TT ++ FT)) => rclash_any (TT ++ FT) A9 _ c9 W rfl (by rw [List.length_append]; have := TL.out; omega) (fun s hs => (List.mem_append.1 hs).elim (TS.out s) (fs s)) hS
                rw [hcl] at hcl'
                have HCL := Lib.hid hcl'
                clear hcl fl fs hf1 hcl' h32
                refine wp_name fun a0 ha0 => ?_
                have e0 : a0.eval (.tmp 0) = .slice (some ad) n c := by rw [ha0]; rfl
                have e1 : a0.eval (.tmp 1) = .int .i64 (i : Int) := by rw [ha0]; rfl
                have e4 : a0.eval (.tmp 4) = .int .u8 (b.toNat : Int) := by rw [ha0]; rfl
                have e11 : a0.eval (.tmp 11) = .int .i64 (n : Int) := by rw [ha0]; rfl
                have e12 : a0.eval (.tmp 12) = .pointer (some ⟨g12, 0, none⟩) := by rw [ha0]; rfl
                have e16 : a0.eval (.tmp 16) = .pointer (some ⟨g16, 0, none⟩) := by rw [ha0]; rfl
                have e17 : a0.eval (.tmp 17) = .slice (some ⟨gt, 0, none⟩) vn tc := by rw [ha0]; rfl
                have hz : a0.tmps.size = 191 := by rw [ha0]; rfl
                have HA0 := Lib.hid ha0
                clear ha0
                have SG : ∀ (d d' : Nat → Prop) (W W' : World), (fun (_ : Nat → Prop) (W : World) => Below w11.heap.size w11 W) d W → (∀ j, d j → d' j) → Below W.heap.size W W' → (fun (_ : Nat → Prop) (W : World) => Below w11.heap.size w11 W) d' W' := fun _ _ _ _ h _ b => Below.next h b
                refine wp_region_guards (Inv [158, 159, 160, 161, 162, 163, 164, 165, 166, 167, 168, 169, 170, 171, 172, 173, 174, 175, 176, 177, 178, 179, 180, 181, 182, 183, 184, 185, 186, 187, 188, 189] a0 (fun (_ : Nat → Prop) (W : World) => Below w11.heap.size w11 W) [(⟨some 0, 158, none, fun v _ => v = .int .u8 (b.toNat : Int)⟩ : Cl), ⟨some 1, 159, none, fun v _ => v = .bool true⟩, ⟨some 2, 160, none, fun v _ => v = .bool true⟩, ⟨some 3, 161, none, fun v _ => v = hashV x⟩, ⟨some 4, 162, none, fun v _ => v = .slice (some ad) n c⟩, ⟨some 5, 163, none, fun v _ => v = .int .i64 (i : Int)⟩, ⟨some 6, 164, none, fun v _ => v = .pointer (some (ad.add i))⟩, ⟨some 7, 165, none, fun v _ => v = .string ⟨X.toArray⟩⟩, ⟨some 8, 166, none, fun v _ => v = .int .i64 (i : Int)⟩, ⟨some 9, 167, none, fun v _ => v = .int .i64 (n : Int)⟩, ⟨some 10, 168, none, fun v _ => v = .slice (some ⟨gt, 0, none⟩) vn tc⟩, ⟨some 11, 169, none, fun v _ => v = .bool true⟩, ⟨some 12, 170, none, fun v _ => v = .bool true⟩, ⟨some 13, 171, none, fun v _ => v = .bool true⟩, ⟨some 14, 172, none, fun v _ => v = wordsV⟩, ⟨some 15, 173, none, fun v _ => v = wordsV⟩, ⟨some 16, 174, none, fun v _ => v = .slice (some ad) n c⟩, ⟨some 17, 175, some 28, fun v W => OwnStrs W w11.heap.size v TT⟩, ⟨some 18, 176, none, fun v _ => v = wordsV⟩, ⟨some 19, 177, none, fun v _ => v = .int .i64 (n : Int)⟩, ⟨some 20, 178, none, fun v _ => v = .int .i64 (i : Int)⟩, ⟨some 21, 179, none, fun v _ => v = .slice (some ad) n c⟩, ⟨some 22, 180, none, fun v _ => v = .int .i64 (i : Int)⟩, ⟨some 23, 181, none, fun v _ => v = .pointer (some (ad.add i))⟩, ⟨some 24, 182, none, fun v _ => v = .string ⟨X.toArray⟩⟩, ⟨some 25, 183, some 27, fun v W => ∃ g, v = .slice (some ⟨g, 0, none⟩) 1 1 ∧ Strs W (some ⟨g, 0, none⟩) [X]⟩, ⟨some 26, 184, none, fun v _ => v = .slice (some ⟨gt, 0, none⟩) vn tc⟩, ⟨some 27, 185, some 28, fun v W => OwnStrs W w11.heap.size v FT⟩, ⟨some 28, 186, none, fun v W => OwnStrs W w11.heap.size v (TT ++ FT)⟩, ⟨some 29, 187, none, fun v _ => v = .bool true⟩, ⟨some 30, 188, none, fun v _ => v = .bool false⟩, ⟨some 31, 189, none, fun v _ => v = .bool false⟩]) (by kernel_rfl) (by kernel_rfl) (Inv.start (Below.refl _ _).drew ⟨nofun, nofun, nofun, nofun, nofun, nofun, nofun, nofun, nofun, nofun, nofun, nofun, nofun, nofun, nofun, nofun, nofun, nofun, nofun, nofun, nofun, nofun, nofun, nofun, nofun, nofun, nofun, nofun, nofun, nofun, nofun, nofun, trivial⟩) ?_ ?_
                · have St : ∀ xc ∈ [(⟨some 0, 158, none, fun v _ => v = .int .u8 (b.toNat : Int)⟩ : Cl), ⟨some 1, 159, none, fun v _ => v = .bool true⟩, ⟨some 2, 160, none, fun v _ => v = .bool true⟩, ⟨some 3, 161, none, fun v _ => v = hashV x⟩, ⟨some 4, 162, none, fun v _ => v = .slice (some ad) n c⟩, ⟨some 5, 163, none, fun v _ => v = .int .i64 (i : Int)⟩, ⟨some 6, 164, none, fun v _ => v = .pointer (some (ad.add i))⟩, ⟨some 7, 165, none, fun v _ => v = .string ⟨X.toArray⟩⟩, ⟨some 8, 166, none, fun v _ => v = .int .i64 (i : Int)⟩, ⟨some 9, 167, none, fun v _ => v = .int .i64 (n : Int)⟩, ⟨some 10, 168, none, fun v _ => v = .slice (some ⟨gt, 0, none⟩) vn tc⟩, ⟨some 11, 169, none, fun v _ => v = .bool true⟩, ⟨some 12, 170, none, fun v _ => v = .bool true⟩, ⟨some 13, 171, none, fun v _ => v = .bool true⟩, ⟨some 14, 172, none, fun v _ => v = wordsV⟩, ⟨some 15, 173, none, fun v _ => v = wordsV⟩, ⟨some 16, 174, none, fun v _ => v = .slice (some ad) n c⟩, ⟨some 17, 175, some 28, fun v W => OwnStrs W w11.heap.size v TT⟩, ⟨some 18, 176, none, fun v _ => v = wordsV⟩, ⟨some 19, 177, none, fun v _ => v = .int .i64 (n : Int)⟩, ⟨some 20, 178, none, fun v _ => v = .int .i64 (i : Int)⟩, ⟨some 21, 179, none, fun v _ => v = .slice (some ad) n c⟩, ⟨some 22, 180, none, fun v _ => v = .int .i64 (i : Int)⟩, ⟨some 23, 181, none, fun v _ => v = .pointer (some (ad.add i))⟩, ⟨some 24, 182, none, fun v _ => v = .string ⟨X.toArray⟩⟩, ⟨some 25, 183, some 27, fun v W => ∃ g, v = .slice (some ⟨g, 0, none⟩) 1 1 ∧ Strs W (some ⟨g, 0, none⟩) [X]⟩, ⟨some 26, 184, none, fun v _ => v = .slice (some ⟨gt, 0, none⟩) vn tc⟩, ⟨some 27, 185, some 28, fun v W => OwnStrs W w11.heap.size v FT⟩, ⟨some 28, 186, none, fun v W => OwnStrs W w11.heap.size v (TT ++ FT)⟩, ⟨some 29, 187, none, fun v _ => v = .bool true⟩, ⟨some 30, 188, none, fun v _ => v = .bool false⟩, ⟨some 31, 189, none, fun v _ => v = .bool false⟩], Lasts xc := AllC.mem ⟨lastsV0 _ _ _ _, lastsV0 _ _ _ _, lastsV0 _ _ _ _, lastsV0 _ _ _ _, lastsV0 _ _ _ _, lastsV0 _ _ _ _, lastsV0 _ _ _ _, lastsV0 _ _ _ _, lastsV0 _ _ _ _, lastsV0 _ _ _ _, lastsV0 _ _ _ _, lastsV0 _ _ _ _, lastsV0 _ _ _ _, lastsV0 _ _ _ _, lastsV0 _ _ _ _, lastsV0 _ _ _ _, lastsV0 _ _ _ _, (fun _ _ _ h b => h.next b), lastsV0 _ _ _ _, lastsV0 _ _ _ _, lastsV0 _ _ _ _, lastsV0 _ _ _ _, lastsV0 _ _ _ _, lastsV0 _ _ _ _, lastsV0 _ _ _ _, (fun _ _ _ h b => by obtain ⟨g, e, h1⟩ := h; exact ⟨g, e, h1.next b⟩), lastsV0 _ _ _ _, (fun _ _ _ h b => h.next b), (fun _ _ _ h b => h.next b), lastsV0 _ _ _ _, lastsV0 _ _ _ _, lastsV0 _ _ _ _, trivial⟩
                  clear HA0
                  refine ⟨?_, ?_, ?_, ?_, ?_, ?_, ?_, ?_, ?_, ?_, ?_, ?_, ?_, ?_, ?_, ?_, ?_, ?_, ?_, ?_, ?_, ?_, ?_, ?_, ?_, ?_, ?_, ?_, ?_, ?_, ?_, ?_, trivial⟩
                  · refine StepG.of ?_
                    refine stepB rfl rfl (by decide) (by rw [hz]; decide) rfl rfl (by kernel_rfl) St SG fun d a W hF hG hH hn hcl hw => ?_
                    have q4 := (hF.same 4 (by decide)).trans e4
                    refine ⟨.int .u8 (b.toNat : Int), W, ?_, Below.refl _ _, ?_⟩
                    · clear hF hG hH hn hcl hw
                      generalize a.eval = ρ at *
                      go_simp
                    · rfl
                  · refine StepG.of ?_
                    refine stepB rfl rfl (by decide) (by rw [hz]; decide) rfl rfl (by kernel_rfl) St SG fun d a W hF hG hH hn hcl hw => ?_
                    have q158 : a.eval (.tmp 158) = .int .u8 (b.toNat : Int) := hH.at_ (i := 0) rfl (hw 0 rfl) id
                    have qk_ : a.eval (.const (.int .u8 0)) = .int .u8 0 := rfl
                    refine ⟨.bool true, W, ?_, Below.refl _ _, ?_⟩
                    · clear hF hG hH hn hcl hw
                      generalize a.eval = ρ at *
                      go_simp
                    · rfl
                  · refine StepG.of ?_
                    refine stepB rfl rfl (by decide) (by rw [hz]; decide) rfl rfl (by kernel_rfl) St SG fun d a W hF hG hH hn hcl hw => ?_
                    have q159 : a.eval (.tmp 159) = .bool true := hH.at_ (i := 1) rfl (hw 1 rfl) id
                    refine ⟨.bool true, W, ?_, Below.refl _ _, ?_⟩
                    · clear hF hG hH hn hcl hw
                      generalize a.eval = ρ at *
                      go_simp
                    · rfl
                  · refine StepG.on rfl (fun d a W hI hw => yielded_of rfl (hI.2.2.at_ (i := 2) rfl (hw 2 rfl) id)) ?_
                    refine stepB rfl rfl (by decide) (by rw [hz]; decide) rfl rfl (by kernel_rfl) St SG fun d a W hF hG hH hn hcl hw => ?_
                    have q12 := (hF.same 12 (by decide)).trans e12
                    refine ⟨hashV x, W, ?_, Below.refl _ _, ?_⟩
                    · exact exec_load rfl (by rw [q12]; exact BoxH.load_ (BoxA.next bx11 hG) HX.out)
                    · rfl
                  · refine StepG.on rfl (fun d a W hI hw => yielded_of rfl (hI.2.2.at_ (i := 2) rfl (hw 2 rfl) id)) ?_
                    refine stepB rfl rfl (by decide) (by rw [hz]; decide) rfl rfl (by kernel_rfl) St SG fun d a W hF hG hH hn hcl hw => ?_
                    have q0 := (hF.same 0 (by decide)).trans e0
                    refine ⟨.slice (some ad) n c, W, ?_, Below.refl _ _, ?_⟩
                    · clear hF hG hH hn hcl hw
                      generalize a.eval = ρ at *
                      go_simp
                    · rfl
                  · refine StepG.on rfl (fun d a W hI hw => yielded_of rfl (hI.2.2.at_ (i := 2) rfl (hw 2 rfl) id)) ?_
                    refine stepB rfl rfl (by decide) (by rw [hz]; decide) rfl rfl (by kernel_rfl) St SG fun d a W hF hG hH hn hcl hw => ?_
                    have q1 := (hF.same 1 (by decide)).trans e1
                    refine ⟨.int .i64 (i : Int), W, ?_, Below.refl _ _, ?_⟩
                    · clear hF hG hH hn hcl hw
                      generalize a.eval = ρ at *
                      go_simp
                    · rfl
                  · refine StepG.on rfl (fun d a W hI hw => yielded_of rfl (hI.2.2.at_ (i := 2) rfl (hw 2 rfl) id)) ?_
                    refine stepB rfl rfl (by decide) (by rw [hz]; decide) rfl rfl (by kernel_rfl) St SG fun d a W hF hG hH hn hcl hw => ?_
                    have q162 : a.eval (.tmp 162) = .slice (some ad) n c := hH.at_ (i := 4) rfl (hw 4 rfl) id
                    have q163 : a.eval (.tmp 163) = .int .i64 (i : Int) := hH.at_ (i := 5) rfl (hw 5 rfl) id
                    refine ⟨.pointer (some (ad.add i)), W, ?_, Below.refl _ _, ?_⟩
                    · exact exec_indexS rfl q162 q163 hi
                    · rfl
                  · refine StepG.on rfl (fun d a W hI hw => yielded_of rfl (hI.2.2.at_ (i := 2) rfl (hw 2 rfl) id)) ?_
                    refine stepB rfl rfl (by decide) (by rw [hz]; decide) rfl rfl (by kernel_rfl) St SG fun d a W hF hG hH hn hcl hw => ?_
                    have q164 : a.eval (.tmp 164) = .pointer (some (ad.add i)) := hH.at_ (i := 6) rfl (hw 6 rfl) id
                    have qc_ := HC.out W (hL11.next hG)
                    refine ⟨.string ⟨X.toArray⟩, W, ?_, Below.refl _ _, ?_⟩
                    · clear hF hG hH hn hcl hw
                      generalize a.eval = ρ at *
                      go_simp
                    · rfl
                  · refine StepG.on rfl (fun d a W hI hw => yielded_of rfl (hI.2.2.at_ (i := 2) rfl (hw 2 rfl) id)) ?_
                    refine stepB rfl rfl (by decide) (by rw [hz]; decide) rfl rfl (by kernel_rfl) St SG fun d a W hF hG hH hn hcl hw => ?_
                    have q1 := (hF.same 1 (by decide)).trans e1
                    refine ⟨.int .i64 (i : Int), W, ?_, Below.refl _ _, ?_⟩
                    · clear hF hG hH hn hcl hw
                      generalize a.eval = ρ at *
                      go_simp
                    · rfl
                  · refine StepG.on rfl (fun d a W hI hw => yielded_of rfl (hI.2.2.at_ (i := 2) rfl (hw 2 rfl) id)) ?_
                    refine stepB rfl rfl (by decide) (by rw [hz]; decide) rfl rfl (by kernel_rfl) St SG fun d a W hF hG hH hn hcl hw => ?_
                    have q11 := (hF.same 11 (by decide)).trans e11
                    refine ⟨.int .i64 (n : Int), W, ?_, Below.refl _ _, ?_⟩
                    · clear hF hG hH hn hcl hw
                      generalize a.eval = ρ at *
                      go_simp
                    · rfl
                  · refine StepG.on rfl (fun d a W hI hw => yielded_of rfl (hI.2.2.at_ (i := 2) rfl (hw 2 rfl) id)) ?_
                    refine stepB rfl rfl (by decide) (by rw [hz]; decide) rfl rfl (by kernel_rfl) St SG fun d a W hF hG hH hn hcl hw => ?_
                    have q17 := (hF.same 17 (by decide)).trans e17
                    refine ⟨.slice (some ⟨gt, 0, none⟩) vn tc, W, ?_, Below.refl _ _, ?_⟩
                    · clear hF hG hH hn hcl hw
                      generalize a.eval = ρ at *
                      go_simp
                    · rfl
                  · refine StepG.on rfl (fun d a W hI hw => yielded_of rfl (hI.2.2.at_ (i := 2) rfl (hw 2 rfl) id)) ?_
                    refine stepC rfl rfl (by decide) (by rw [hz]; decide) rfl rfl (by kernel_rfl) St SG fun d a W hF hG hH hn hcl hw => ?_
                    have q161 : a.eval (.tmp 161) = hashV x := hH.at_ (i := 3) rfl (hw 3 rfl) id
                    have q165 : a.eval (.tmp 165) = .string ⟨X.toArray⟩ := hH.at_ (i := 7) rfl (hw 7 rfl) id
                    have q166 : a.eval (.tmp 166) = .int .i64 (i : Int) := hH.at_ (i := 8) rfl (hw 8 rfl) id
                    have q167 : a.eval (.tmp 167) = .int .i64 (n : Int) := hH.at_ (i := 9) rfl (hw 9 rfl) id
                    have q168 : a.eval (.tmp 168) = .slice (some ⟨gt, 0, none⟩) vn tc := hH.at_ (i := 10) rfl (hw 10 rfl) id
                    have qf : a.eval (.func 28) = .func (.func 28) #[] #[] := rfl
                    refine ⟨28, #[hashV x, .string ⟨X.toArray⟩, .int .i64 (i : Int), .int .i64 (n : Int), .slice (some ⟨gt, 0, none⟩) vn tc], ?_, ?_⟩
                    · clear hF hG hH hn hcl hw
                      generalize a.eval = ρ at *
                      go_simp
                    · refine (HVO.out W (hs11.next hG) (hk11.next hG)).mono ?_; rintro e W' ⟨rfl, b⟩; exact ⟨_, rfl, b, rfl⟩
                  · refine StepG.of ?_
                    refine stepB rfl rfl (by decide) (by rw [hz]; decide) rfl rfl (by kernel_rfl) St SG fun d a W hF hG hH hn hcl hw => ?_
                    have q160 : a.eval (.tmp 160) = .bool true := hH.at_ (i := 2) rfl (hw 2 rfl) id
                    have q169 : a.eval (.tmp 169) = .bool true := hH.at_ (i := 11) rfl (hw 11 rfl) id
                    have qk1 : a.eval (.const (.bool false)) = .bool false := rfl
                    refine ⟨.bool true, W, ?_, Below.refl _ _, ?_⟩
                    · clear hF hG hH hn hcl hw
                      generalize a.eval = ρ at *
                      go_simp
                    · rfl
                  · refine StepG.of ?_
                    refine stepB rfl rfl (by decide) (by rw [hz]; decide) rfl rfl (by kernel_rfl) St SG fun d a W hF hG hH hn hcl hw => ?_
                    have q170 : a.eval (.tmp 170) = .bool true := hH.at_ (i := 12) rfl (hw 12 rfl) id
                    refine ⟨.bool true, W, ?_, Below.refl _ _, ?_⟩
                    · clear hF hG hH hn hcl hw
                      generalize a.eval = ρ at *
                      go_simp
                    · rfl
                  · refine StepG.on rfl (fun d a W hI hw => yielded_of rfl (hI.2.2.at_ (i := 13) rfl (hw 13 rfl) id)) ?_
                    refine stepB rfl rfl (by decide) (by rw [hz]; decide) rfl rfl (by kernel_rfl) St SG fun d a W hF hG hH hn hcl hw => ?_
                    have q16 := (hF.same 16 (by decide)).trans e16
                    refine ⟨wordsV, W, ?_, Below.refl _ _, ?_⟩
                    · exact exec_load rfl (by rw [q16]; exact BoxW.load (BoxA.next cw11 hG))
                    · rfl
                  · refine StepG.on rfl (fun d a W hI hw => yielded_of rfl (hI.2.2.at_ (i := 13) rfl (hw 13 rfl) id)) ?_
                    refine stepB rfl rfl (by decide) (by rw [hz]; decide) rfl rfl (by kernel_rfl) St SG fun d a W hF hG hH hn hcl hw => ?_
                    have q16 := (hF.same 16 (by decide)).trans e16
                    refine ⟨wordsV, W, ?_, Below.refl _ _, ?_⟩
                    · exact exec_load rfl (by rw [q16]; exact BoxW.load (BoxA.next cw11 hG))
                    · rfl
                  · refine StepG.on rfl (fun d a W hI hw => yielded_of rfl (hI.2.2.at_ (i := 13) rfl (hw 13 rfl) id)) ?_
                    refine stepB rfl rfl (by decide) (by rw [hz]; decide) rfl rfl (by kernel_rfl) St SG fun d a W hF hG hH hn hcl hw => ?_
                    have q0 := (hF.same 0 (by decide)).trans e0
                    refine ⟨.slice (some ad) n c, W, ?_, Below.refl _ _, ?_⟩
                    · clear hF hG hH hn hcl hw
                      generalize a.eval = ρ at *
                      go_simp
                    · rfl
                  · refine StepG.on rfl (fun d a W hI hw => yielded_of rfl (hI.2.2.at_ (i := 13) rfl (hw 13 rfl) id)) ?_
                    refine stepC rfl rfl (by decide) (by rw [hz]; decide) rfl rfl (by kernel_rfl) St SG fun d a W hF hG hH hn hcl hw => ?_
                    have q173 : a.eval (.tmp 173) = wordsV := hH.at_ (i := 15) rfl (hw 15 rfl) id
                    have q174 : a.eval (.tmp 174) = .slice (some ad) n c := hH.at_ (i := 16) rfl (hw 16 rfl) id
                    have qf : a.eval (.func 50) = .func (.func 50) #[] #[] := rfl
                    refine ⟨50, #[wordsV, .slice (some ad) n c], ?_, ?_⟩
                    · clear hF hG hH hn hcl hw
                      generalize a.eval = ρ at *
                      go_simp
                    · refine (HTT.out W (hL11.next hG)).mono ?_; rintro e W' ⟨v, rfl, hO, b⟩; exact ⟨v, rfl, b, hO.mono (by have := hG.size; omega)⟩
                  · refine StepG.on rfl (fun d a W hI hw => yielded_of rfl (hI.2.2.at_ (i := 13) rfl (hw 13 rfl) id)) ?_
                    refine stepB rfl rfl (by decide) (by rw [hz]; decide) rfl rfl (by kernel_rfl) St SG fun d a W hF hG hH hn hcl hw => ?_
                    have q16 := (hF.same 16 (by decide)).trans e16
                    refine ⟨wordsV, W, ?_, Below.refl _ _, ?_⟩
                    · exact exec_load rfl (by rw [q16]; exact BoxW.load (BoxA.next cw11 hG))
                    · rfl
                  · refine StepG.on rfl (fun d a W hI hw => yielded_of rfl (hI.2.2.at_ (i := 13) rfl (hw 13 rfl) id)) ?_
                    refine stepB rfl rfl (by decide) (by rw [hz]; decide) rfl rfl (by kernel_rfl) St SG fun d a W hF hG hH hn hcl hw => ?_
                    have q11 := (hF.same 11 (by decide)).trans e11
                    refine ⟨.int .i64 (n : Int), W, ?_, Below.refl _ _, ?_⟩
                    · clear hF hG hH hn hcl hw
                      generalize a.eval = ρ at *
                      go_simp
                    · rfl
                  · refine StepG.on rfl (fun d a W hI hw => yielded_of rfl (hI.2.2.at_ (i := 13) rfl (hw 13 rfl) id)) ?_
                    refine stepB rfl rfl (by decide) (by rw [hz]; decide) rfl rfl (by kernel_rfl) St SG fun d a W hF hG hH hn hcl hw => ?_
                    have q1 := (hF.same 1 (by decide)).trans e1
                    refine ⟨.int .i64 (i : Int), W, ?_, Below.refl _ _, ?_⟩
                    · clear hF hG hH hn hcl hw
                      generalize a.eval = ρ at *
                      go_simp
                    · rfl
                  · refine StepG.on rfl (fun d a W hI hw => yielded_of rfl (hI.2.2.at_ (i := 13) rfl (hw 13 rfl) id)) ?_
                    refine stepB rfl rfl (by decide) (by rw [hz]; decide) rfl rfl (by kernel_rfl) St SG fun d a W hF hG hH hn hcl hw => ?_
                    have q0 := (hF.same 0 (by decide)).trans e0
                    refine ⟨.slice (some ad) n c, W, ?_, Below.refl _ _, ?_⟩
                    · clear hF hG hH hn hcl hw
                      generalize a.eval = ρ at *
                      go_simp
                    · rfl
                  · refine StepG.on rfl (fun d a W hI hw => yielded_of rfl (hI.2.2.at_ (i := 13) rfl (hw 13 rfl) id)) ?_
                    refine stepB rfl rfl (by decide) (by rw [hz]; decide) rfl rfl (by kernel_rfl) St SG fun d a W hF hG hH hn hcl hw => ?_
                    have q1 := (hF.same 1 (by decide)).trans e1
                    refine ⟨.int .i64 (i : Int), W, ?_, Below.refl _ _, ?_⟩
                    · clear hF hG hH hn hcl hw
                      generalize a.eval = ρ at *
                      go_simp
                    · rfl
                  · refine StepG.on rfl (fun d a W hI hw => yielded_of rfl (hI.2.2.at_ (i := 13) rfl (hw 13 rfl) id)) ?_
                    refine stepB rfl rfl (by decide) (by rw [hz]; decide) rfl rfl (by kernel_rfl) St SG fun d a W hF hG hH hn hcl hw => ?_
                    have q179 : a.eval (.tmp 179) = .slice (some ad) n c := hH.at_ (i := 21) rfl (hw 21 rfl) id
                    have q180 : a.eval (.tmp 180) = .int .i64 (i : Int) := hH.at_ (i := 22) rfl (hw 22 rfl) id
                    refine ⟨.pointer (some (ad.add i)), W, ?_, Below.refl _ _, ?_⟩
                    · exact exec_indexS rfl q179 q180 hi
                    · rfl
                  · refine StepG.on rfl (fun d a W hI hw => yielded_of rfl (hI.2.2.at_ (i := 13) rfl (hw 13 rfl) id)) ?_
                    refine stepB rfl rfl (by decide) (by rw [hz]; decide) rfl rfl (by kernel_rfl) St SG fun d a W hF hG hH hn hcl hw => ?_
                    have q181 : a.eval (.tmp 181) = .pointer (some (ad.add i)) := hH.at_ (i := 23) rfl (hw 23 rfl) id
                    have qc_ := HC.out W (hL11.next hG)
                    refine ⟨.string ⟨X.toArray⟩, W, ?_, Below.refl _ _, ?_⟩
                    · clear hF hG hH hn hcl hw
                      generalize a.eval = ρ at *
                      go_simp
                    · rfl
                  · refine StepG.on rfl (fun d a W hI hw => yielded_of rfl (hI.2.2.at_ (i := 13) rfl (hw 13 rfl) id)) ?_
                    refine stepB rfl rfl (by decide) (by rw [hz]; decide) rfl rfl (by kernel_rfl) St SG fun d a W hF hG hH hn hcl hw => ?_
                    have q182 : a.eval (.tmp 182) = .string ⟨X.toArray⟩ := hH.at_ (i := 24) rfl (hw 24 rfl) id
                    refine ⟨.slice (some ⟨W.heap.size, 0, none⟩) 1 1, W.alloc (.cells #[.string ⟨X.toArray⟩] 9), ?_, Below.new1 W _, ?_⟩
                    · clear hF hG hH hn hcl hw
                      generalize a.eval = ρ at *
                      go_simp
                    · exact ⟨_, rfl, strs_one W X⟩
                  · refine StepG.on rfl (fun d a W hI hw => yielded_of rfl (hI.2.2.at_ (i := 13) rfl (hw 13 rfl) id)) ?_
                    refine stepB rfl rfl (by decide) (by rw [hz]; decide) rfl rfl (by kernel_rfl) St SG fun d a W hF hG hH hn hcl hw => ?_
                    have q17 := (hF.same 17 (by decide)).trans e17
                    refine ⟨.slice (some ⟨gt, 0, none⟩) vn tc, W, ?_, Below.refl _ _, ?_⟩
                    · clear hF hG hH hn hcl hw
                      generalize a.eval = ρ at *
                      go_simp
                    · rfl
                  · refine StepG.on rfl (fun d a W hI hw => yielded_of rfl (hI.2.2.at_ (i := 13) rfl (hw 13 rfl) id)) ?_
                    refine stepC rfl rfl (by decide) (by rw [hz]; decide) rfl rfl (by kernel_rfl) St SG fun d a W hF hG hH hn hcl hw => ?_
                    have q176 : a.eval (.tmp 176) = wordsV := hH.at_ (i := 18) rfl (hw 18 rfl) id
                    have q177 : a.eval (.tmp 177) = .int .i64 (n : Int) := hH.at_ (i := 19) rfl (hw 19 rfl) id
                    have q178 : a.eval (.tmp 178) = .int .i64 (i : Int) := hH.at_ (i := 20) rfl (hw 20 rfl) id
                    have q183 : ∃ g, a.eval (.tmp 183) = .slice (some ⟨g, 0, none⟩) 1 1 ∧ Strs W (some ⟨g, 0, none⟩) [X] := hH.at_ (i := 25) rfl (hw 25 rfl) hn
                    have q184 : a.eval (.tmp 184) = .slice (some ⟨gt, 0, none⟩) vn tc := hH.at_ (i := 26) rfl (hw 26 rfl) id
                    have qf : a.eval (.func 45) = .func (.func 45) #[] #[] := rfl
                    obtain ⟨g, q183, h183⟩ := q183
                    refine ⟨45, #[wordsV, .int .i64 (n : Int), .int .i64 (i : Int), .slice (some ⟨g, 0, none⟩) 1 1, .slice (some ⟨gt, 0, none⟩) vn tc], ?_, ?_⟩
                    · clear hF hG hH hn hcl hw
                      generalize a.eval = ρ at *
                      go_simp
                    · refine (HF1.out (some ⟨g, 0, none⟩) W h183 (hs11.next hG)).mono ?_; rintro e W' ⟨v, rfl, hO, b⟩; exact ⟨v, rfl, b, hO.mono (by have := hG.size; omega)⟩
                  · refine StepG.on rfl (fun d a W hI hw => yielded_of rfl (hI.2.2.at_ (i := 13) rfl (hw 13 rfl) id)) ?_
                    refine stepA2 rfl rfl (by decide) (by rw [hz]; decide) rfl rfl (by kernel_rfl) w11.heap.size (AllC.mem ⟨.inr (.inr (.inl fun _ _ _ h _ => h)), .inr (.inr (.inl fun _ _ _ h _ => h)), .inr (.inr (.inl fun _ _ _ h _ => h)), .inr (.inr (.inl fun _ _ _ h _ => h)), .inr (.inr (.inl fun _ _ _ h _ => h)), .inr (.inr (.inl fun _ _ _ h _ => h)), .inr (.inr (.inl fun _ _ _ h _ => h)), .inr (.inr (.inl fun _ _ _ h _ => h)), .inr (.inr (.inl fun _ _ _ h _ => h)), .inr (.inr (.inl fun _ _ _ h _ => h)), .inr (.inr (.inl fun _ _ _ h _ => h)), .inr (.inr (.inl fun _ _ _ h _ => h)), .inr (.inr (.inl fun _ _ _ h _ => h)), .inr (.inr (.inl fun _ _ _ h _ => h)), .inr (.inr (.inl fun _ _ _ h _ => h)), .inr (.inr (.inl fun _ _ _ h _ => h)), .inr (.inr (.inl fun _ _ _ h _ => h)), .inr (.inl rfl), .inr (.inr (.inl fun _ _ _ h _ => h)), .inr (.inr (.inl fun _ _ _ h _ => h)), .inr (.inr (.inl fun _ _ _ h _ => h)), .inr (.inr (.inl fun _ _ _ h _ => h)), .inr (.inr (.inl fun _ _ _ h _ => h)), .inr (.inr (.inl fun _ _ _ h _ => h)), .inr (.inr (.inl fun _ _ _ h _ => h)), .inr (.inr (.inr fun d hcl hw => hw 27 rfl)), .inr (.inr (.inl fun _ _ _ h _ => h)), .inr (.inl rfl), .inl rfl, .inr (.inr (.inl fun _ _ _ h _ => h)), .inr (.inr (.inl fun _ _ _ h _ => h)), .inr (.inr (.inl fun _ _ _ h _ => h)), trivial⟩) (fun _ _ _ _ h _ b => h.trans b) fun d a W hF hG hH hn hcl hw => ?_
                    have q175 : OwnStrs W w11.heap.size (a.eval (.tmp 175)) TT := hH.at_ (i := 17) rfl (hw 17 rfl) hn
                    have q185 : OwnStrs W w11.heap.size (a.eval (.tmp 185)) FT := hH.at_ (i := 27) rfl (hw 27 rfl) hn
                    exact exec_append_strs2 (.tmp 175) (.tmp 185) rfl w11.heap.size w11.heap.size W _ _ TT FT rfl rfl q175 q185 (by have := TL.out; omega) (by have := FL.out; omega) hG.size
                  · refine StepG.on rfl (fun d a W hI hw => yielded_of rfl (hI.2.2.at_ (i := 13) rfl (hw 13 rfl) id)) ?_
                    refine stepC rfl rfl (by decide) (by rw [hz]; decide) rfl rfl (by kernel_rfl) St SG fun d a W hF hG hH hn hcl hw => ?_
                    have q172 : a.eval (.tmp 172) = wordsV := hH.at_ (i := 14) rfl (hw 14 rfl) id
                    have q186 : OwnStrs W w11.heap.size (a.eval (.tmp 186)) (TT ++ FT) := hH.at_ (i := 28) rfl (hw 28 rfl) id
                    have qf : a.eval (.func 46) = .func (.func 46) #[] #[] := rfl
                    obtain ⟨A9, c9, q186, hS9, _⟩ := q186.slice
                    refine ⟨46, #[wordsV, .slice A9 (TT ++ FT).length c9], ?_, ?_⟩
                    · clear hF hG hH hn hcl hw
                      generalize a.eval = ρ at *
                      go_simp
                    · refine (HCL.out A9 c9 W hS9).mono ?_; rintro e W' ⟨rfl, b⟩; exact ⟨_, rfl, b, rfl⟩
                  · refine StepG.on rfl (fun d a W hI hw => yielded_of rfl (hI.2.2.at_ (i := 13) rfl (hw 13 rfl) id)) ?_
                    refine stepB rfl rfl (by decide) (by rw [hz]; decide) rfl rfl (by kernel_rfl) St SG fun d a W hF hG hH hn hcl hw => ?_
                    have q187 : a.eval (.tmp 187) = .bool true := hH.at_ (i := 29) rfl (hw 29 rfl) id
                    refine ⟨.bool false, W, ?_, Below.refl _ _, ?_⟩
                    · clear hF hG hH hn hcl hw
                      generalize a.eval = ρ at *
                      go_simp
                    · rfl
                  · refine StepG.of ?_
                    refine stepB rfl rfl (by decide) (by rw [hz]; decide) rfl rfl (by kernel_rfl) St SG fun d a W hF hG hH hn hcl hw => ?_
                    have q171 : a.eval (.tmp 171) = .bool true := hH.at_ (i := 13) rfl (hw 13 rfl) id
                    have q188 : a.eval (.tmp 188) = .bool false := hH.at_ (i := 30) rfl (hw 30 rfl) id
                    have qk1 : a.eval (.const (.bool false)) = .bool false := rfl
                    refine ⟨.bool false, W, ?_, Below.refl _ _, ?_⟩
                    · clear hF hG hH hn hcl hw
                      generalize a.eval = ρ at *
                      go_simp
                    · rfl
                · intro d a W ⟨hF, hB, hH⟩ hall
                  have k189 : a.eval (.tmp 189) = .bool false := hH.at_ (i := 31) rfl (hall 31 (by decide)) id
                  clear hH hall
                  rw [hF.shape (by rw [hz]; decide)]
                  clear hF
                  simp only [List.foldl]
                  generalize a.eval (.tmp 158) = z158 at *
                  generalize a.eval (.tmp 159) = z159 at *
                  generalize a.eval (.tmp 160) = z160 at *
                  generalize a.eval (.tmp 161) = z161 at *
                  generalize a.eval (.tmp 162) = z162 at *
                  generalize a.eval (.tmp 163) = z163 at *
                  generalize a.eval (.tmp 164) = z164 at *
                  generalize a.eval (.tmp 165) = z165 at *
                  generalize a.eval (.tmp 166) = z166 at *
                  generalize a.eval (.tmp 167) = z167 at *
                  generalize a.eval (.tmp 168) = z168 at *
                  generalize a.eval (.tmp 169) = z169 at *
                  generalize a.eval (.tmp 170) = z170 at *
                  generalize a.eval (.tmp 171) = z171 at *
                  generalize a.eval (.tmp 172) = z172 at *
                  generalize a.eval (.tmp 173) = z173 at *
                  generalize a.eval (.tmp 174) = z174 at *
                  generalize a.eval (.tmp 175) = z175 at *
                  generalize a.eval (.tmp 176) = z176 at *
                  generalize a.eval (.tmp 177) = z177 at *
                  generalize a.eval (.tmp 178) = z178 at *
                  generalize a.eval (.tmp 179) = z179 at *
                  generalize a.eval (.tmp 180) = z180 at *
                  generalize a.eval (.tmp 181) = z181 at *
                  generalize a.eval (.tmp 182) = z182 at *
                  generalize a.eval (.tmp 183) = z183 at *
                  generalize a.eval (.tmp 184) = z184 at *
                  generalize a.eval (.tmp 185) = z185 at *
                  generalize a.eval (.tmp 186) = z186 at *
                  generalize a.eval (.tmp 187) = z187 at *
                  generalize a.eval (.tmp 188) = z188 at *
                  generalize a.eval (.tmp 189) = z189 at *
                  subst k189
                  rw [HA0.out]
                  simp only [Act.put, List.setIfInBounds_toArray, List.set_cons_zero, List.set_cons_succ]
                  clear hz HA0 SG e0 e1 e4 e11 e12 e16 e17
                  clear a a0
                  go_wp2_with (fail)
                  go_meet
                  exact ⟨rfl, hB⟩
          case rest =>
            obtain ⟨rfl, b12⟩ := hcut
            have hk12 := hk11.next b12
            have BB12 := Below.on BB11 b12
            clear hk11 BB11 b12
            go_wp2_with (go_at_call 17; refine (HA.out _ hk12).mono ?_; rintro e w13 ⟨rfl, b13⟩)
            go_ret
            exact ⟨rfl, Below.on BB12 b13⟩
theorem proofHolds_any (L : List Bs) (i : Int) (other : Bs) (at_ z : Int) (A : Option Addr) (c : Nat) (w : World) (hc : L.length ≤ c) (hL : Strs w A L) (hk : Kon w) (ha : at_ ≤ 9223372036854775807) (h0 : 0 ≤ z) (h1 : z ≤ 255) :
    Calls Tryd.prog 14 #[.slice A L.length c, .int .i64 i, .string ⟨other.toArray⟩, .int .i64 at_, .int .u8 z] w fun e w' => e = .returned (.bool true) ∧ Below w.heap.size w w' := by
  obtain ⟨b, rfl⟩ : ∃ b : UInt8, (b.toNat : Int) = z := ⟨z.toNat.toUInt8, toUInt8_int h0 h1⟩
  cases hsh : shortB L with
  | false => exact holds_skip L i other at_ b A _ c w rfl hL hk (.inl hsh)
  | true =>
    rcases shortB_len hsh with ⟨h4, hst⟩ | h4
    · by_cases hx : i < 0 ∨ (0 ≤ i ∧ ((L.length : Int) ≤ i ∨ (i < L.length ∧ (600 < other.length ∨ (other.length ≤ 600 ∧ at_ < 0)))))
      · exact holds_skip L i other at_ b A _ c w rfl hL hk (.inr ⟨hsh, .inr ⟨by omega, hx⟩⟩)
      · obtain ⟨k, rfl⟩ := Int.eq_ofNat_of_zero_le (show 0 ≤ i by omega)
        obtain ⟨at', rfl⟩ := Int.eq_ofNat_of_zero_le (show 0 ≤ at_ by omega)
        exact holds_in L k other at' b A _ c w rfl hL hc hk hsh h4 hst (by omega) (by omega) ha
    · exact holds_skip L i other at_ b A _ c w rfl hL hk (.inr ⟨hsh, .inl (by omega)⟩)
end Go.Proofs.YtcocengpekndjaaDoor
