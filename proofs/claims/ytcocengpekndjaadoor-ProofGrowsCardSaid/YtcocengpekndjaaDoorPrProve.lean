/- The walks over leaves, Root and Prove. -/
import Derived.Test.YtcocengpekndjaaDoorPrRows
import Derived.Test.YtcocengpekndjaaDoorPrTop
namespace Go.Proofs.YtcocengpekndjaaDoor
open Go.RowKit
theorem h32_leaf (L : List Bs) : H32 (L.map (leafM sha)) := fun h hh => by obtain ⟨x, _, rfl⟩ := List.mem_map.1 hh; exact sha_length _
set_option maxRecDepth 100000 in
set_option maxHeartbeats 4000000 in
theorem leaves_any (L : List Bs) (A : Option Addr) (n c : Nat) (w : World) (hn : L.length = n) (hL : Strs w A L) (hf : ∀ x ∈ L, x.length ≤ 90000) (h1 : n ≤ 100000) (hk : Kon w) :
    Calls Tryd.prog 77 #[.slice A n c] w fun e w' => ∃ v, e = .returned v ∧ OwnHs w' w.heap.size v (L.map (leafM sha)) ∧ Below w.heap.size w w' := by
  have HN := Lib.hid hn
  have HF := Lib.hid hf
  have HK := Lib.hid hk
  clear hn hf hk
  go_enter Tryd.func77, Tryd.ntmps77
  go_wp2_with (fail)
  go_loopw [3, 8] (fun v i W => ∃ k : Nat, k ≤ n ∧ i = .int .i64 k ∧ OwnHs W w.heap.size v ((L.take k).map (leafM sha)) ∧ Below w.heap.size w W) (fun _ i _ => n - (intOf i).toNat)
  case atStart => exact ⟨0, Nat.zero_le _, rfl, ⟨H32.nil, World.ownsRow_nil _ _ _ _⟩, Below.refl _ _⟩
  case round =>
    obtain ⟨k, hkn, rfl, hO, hB⟩ := hrel
    by_cases hlt : k < n
    · have hkL : k < L.length := by have := HN.out; omega
      obtain ⟨a, rfl⟩ : ∃ a, A = some a := by
        rcases hL with e | ⟨a, e, _⟩
        · rw [e] at hkL; cases hkL
        · exact ⟨a, e⟩
      have g0 : wr.cell? (a.add k) = some (.string ⟨L[k].toArray⟩) := (hL.next hB).cell hkL
      have hx := HF.out _ (List.getElem_mem hkL)
      have ht : (L.take (k + 1)).map (leafM sha) = (L.take k).map (leafM sha) ++ [leafM sha L[k]] := by rw [List.take_succ_eq_append_getElem hkL, List.map_append]; rfl
      have hl : ((L.take k).map (leafM sha)).length = k := by rw [List.length_map, List.length_take]; omega
      obtain ⟨A1, c1, hv⟩ := hO.sliced
      rw [hl] at hv
      subst hv
      generalize (L.take k).map (leafM sha) = H at *
      generalize L[k] = X at *
      have hlf := fun W kon => hleaf_any X W (by omega) kon
      have hx32 : (leafM sha X).length = 32 := sha_length _
      generalize leafM sha X = x at *
      have HT := Lib.hid ht
      have HL := Lib.hid hl
      have HLF := Lib.hid hlf
      have HX32 := Lib.hid hx32
      have HO := Lib.hid hO
      have hO1 := HO.out
      have k0 : (0 : Int) ≤ (k : Int) := by omega
      have k1 : (k : Int) < (n : Int) := by omega
      clear hx ht hl hlf hx32 hO
      go_wp2_with (first
        | (go_at_call 76; refine (HLF.out _ (HK.out.next hB)).mono ?_; rintro e W3 ⟨rfl, b3⟩; have B3 := Below.on hB b3; have q32 : (cellsB x).length = 32 := by rw [cellsB_length]; exact HX32.out
           clear g0)
        | (refine wpList_buildHash rfl (.tmp 14) rfl x rfl HX32.out ?_)
        | (at_builtin; refine wpList_append_hash rfl (.tmp 12) (.tmp 15) rfl w.heap.size (.slice A1 k c1) H rfl ((hO1.next b3).next (Below.new1 W3 _)) W3.heap.size x 1 rfl (cellsB_new W3 x) HX32.out (by rw [HL.out]; omega) (by have := B3.size; rw [World.size_alloc]; omega) ?_; intro v' W4 hO4 b4; have B4 := (Below.on B3 (Below.new1 W3 (.cells (cellsB x).toArray 30))).trans b4; rw [← HT.out] at hO4; clear q32))
      exact ⟨⟨k + 1, by omega, by go_num, hO4, B4⟩, by simp [intOf]; omega⟩
    · obtain rfl : k = n := by omega
      rw [List.take_of_length_le (by have := HN.out; omega)] at hO
      go_wp2_with (fail)
      go_ret
      exact ⟨_, rfl, hO, hB⟩
set_option maxRecDepth 100000 in
set_option maxHeartbeats 4000000 in
theorem root_full (A : Option Addr) (n c : Nat) (w : World) (h : 4096 < n) : Calls Tryd.prog 31 #[.slice A n c] w fun e w' => e = .returned (.tuple #[hashV zeroH, .int .i64 5]) ∧ Below w.heap.size w w' := by
  have h' : (4096 : Int) < n := by omega
  clear h
  go_enter Tryd.func31, Tryd.ntmps31
  go_wp2_with (refine wpList_storeH rfl (.tmp 2) (.tmp 7) rfl w.heap.size zeroH rfl (by rfl) (BoxA.new w _ _ (List.replicate 32 0) _ rfl) (by simp) zeroH_length ?_)
  exact bodyPost_ret (v := .tuple #[hashV zeroH, .int .i64 5]) (results_hash2 rfl _ _ w.heap.size zeroH (.int .i64 5) rfl rfl ((BoxA.new w _ _ (List.replicate 32 0) _ rfl).setRow) zeroH_length) rfl ⟨rfl, below_setRow (Below.new1 w _) (Nat.le_refl _) _⟩
set_option maxRecDepth 100000 in
set_option maxHeartbeats 4000000 in
theorem root_any (L : List Bs) (A : Option Addr) (n c : Nat) (w : World) (hn : L.length = n) (hL : Strs w A L) (hf : ∀ x ∈ L, x.length ≤ 90000) (h1 : n ≤ 4096) (hk : Kon w) :
    Calls Tryd.prog 31 #[.slice A n c] w fun e w' => e = .returned (.tuple #[hashV (treeM sha L), .int .i64 0]) ∧ Below w.heap.size w w' := by
  have h' : ¬ (4096 : Int) < n := by omega
  obtain ⟨w0, hW0⟩ : ∃ w0, w.alloc (.cells (ints .u8 (List.replicate 32 0)) 30) = w0 := ⟨_, rfl⟩
  have B0 : Below w.heap.size w w0 := hW0 ▸ Below.new1 _ _
  have x2 : BoxA w0 w.heap.size 30 .u8 (List.replicate 32 0) := hW0 ▸ BoxA.new w _ _ (List.replicate 32 0) _ rfl
  have HLv := Lib.hid (leaves_any L A n c w0 hn (hL.next B0) hf (by omega) (hk.next B0))
  have hk0 := hk.next B0
  have htp := fun A1 c1 W hc (hs : Hs W A1 (L.map (leafM sha))) kon => top_any (L.map (leafM sha)) A1 n c1 W (by rw [List.length_map, hn]) (by omega) hc hs kon
  have htr : topM sha (L.map (leafM sha)) = treeM sha L := rfl
  rw [htr] at htp
  have hl : (treeM sha L).length = 32 := treeM_length sha sha_length _
  have hlen : (L.map (leafM sha)).length = n := by rw [List.length_map, hn]
  generalize treeM sha L = x at *
  generalize L.map (leafM sha) = LV at *
  have HO := Lib.hid hW0
  have HL := Lib.hid hl
  have HTP := Lib.hid htp
  have HLN := Lib.hid hlen
  clear hW0 hL hf hn hl htp htr hlen
  go_enter Tryd.func31, Tryd.ntmps31
  go_upto_region 3 with (fail)
  change Code.wp _ _ _ _ (w.alloc (.cells (ints .u8 (List.replicate 32 0)) 30))
  rw [HO.out]
  clear HO
  go_wp2_with (first
    | (go_at_call 77; refine HLv.out.mono ?_; rintro e w1 ⟨v, rfl, hO1, b1⟩; obtain ⟨A1, c1, rfl, hc1, hs1⟩ := hO1.toHs; rw [HLN.out] at hc1 ⊢; have hk1 := hk0.next b1; have x2' := x2.next b1; have B1 := Below.on B0 b1)
    | (go_at_call 69; refine (HTP.out A1 c1 _ hc1 hs1 hk1).mono ?_; rintro e w2 ⟨rfl, b2⟩)
    | (refine wpList_storeH rfl (.tmp 2) (.tmp 10) rfl w.heap.size x rfl rfl (x2'.next b2) (by simp) HL.out ?_))
  exact bodyPost_ret (v := .tuple #[hashV x, .int .i64 0]) (results_hash2 rfl _ _ w.heap.size x (.int .i64 0) rfl rfl ((x2'.next b2).setRow) HL.out) rfl ⟨rfl, below_setRow (Below.on B1 b2) (Nat.le_refl _) _⟩
set_option maxRecDepth 100000 in
set_option maxHeartbeats 4000000 in
theorem prove_bad (A : Option Addr) (n c : Nat) (i : Int) (w : World) (x : Int) (hx : (4096 < n ∧ x = 5) ∨ (n ≤ 4096 ∧ (i < 0 ∨ (n : Int) ≤ i) ∧ x = 3)) : Calls Tryd.prog 32 #[.slice A n c, .int .i64 i] w fun e w' => e = .returned (.tuple #[.slice none 0 0, .int .i64 x]) ∧ Below w.heap.size w w' := by
  have hx' : ((4096 : Int) < n ∧ x = 5) ∨ (¬ (4096 : Int) < n ∧ i < 0 ∧ x = 3) ∨ (¬ (4096 : Int) < n ∧ ¬ i < 0 ∧ (n : Int) ≤ i ∧ x = 3) := by omega
  clear hx
  rcases hx' with ⟨h, rfl⟩ | ⟨h, h1, rfl⟩ | ⟨h, h1, h2, rfl⟩
  all_goals
    go_enter Tryd.func32, Tryd.ntmps32
    go_wp2_with (fail)
    go_ret2
    exact ⟨rfl, Below.refl _ _⟩
set_option maxRecDepth 100000 in
set_option maxHeartbeats 4000000 in
theorem prove_any (L : List Bs) (A : Option Addr) (n c i : Nat) (w : World) (hn : L.length = n) (hL : Strs w A L) (hf : ∀ x ∈ L, x.length ≤ 90000) (h1 : n ≤ 4096) (hi : i < n) (hk : Kon w) :
    Calls Tryd.prog 32 #[.slice A n c, .int .i64 i] w fun e w' => ∃ v, e = .returned (.tuple #[v, .int .i64 0]) ∧ OwnHs w' w.heap.size v (visitM sha (L.map (leafM sha)) i ((i : Int) + 1)) ∧ Below w.heap.size w w' := by
  have h' : ¬ (4096 : Int) < n := by omega
  have h2 : ¬ (i : Int) < 0 := by omega
  have h3 : ¬ (n : Int) ≤ i := by omega
  have hw : IntKind.i64.wrap ((i : Int) + 1) = i + 1 := IntWalk.i64_in _ (by omega)
  have HLv := Lib.hid (leaves_any L A n c w hn hL hf (by omega) hk)
  have hlen : (L.map (leafM sha)).length = n := by rw [List.length_map, hn]
  have hvl := visitM_length n (L.map (leafM sha)) i ((i : Int) + 1) (by omega)
  rw [hlen] at hvl
  generalize L.map (leafM sha) = LV at *
  have HLN := Lib.hid hlen
  have HK := Lib.hid hk
  clear hL hf hn hlen hk
  go_enter Tryd.func32, Tryd.ntmps32
  go_wp2_with (first
    | (go_at_call 77; refine HLv.out.mono ?_; rintro e w6 ⟨v, rfl, hO6, b6⟩; obtain ⟨A6, c6, rfl, hc6, hs6⟩ := hO6.toHs; rw [HLN.out] at hc6 ⊢)
    | (go_at_call 75; refine (outer_any A6 n c6 (i : Int) ((i : Int) + 1) w6).mono ?_; rintro e w7 ⟨rfl, hw7⟩
       have B7 : Below w6.heap.size w6 w7 := hw7 ▸ Below.on (Below.on (Below.new1 _ _) (Below.new1 _ _)) (Below.new1 _ _)
       have l7 : w7.heap.size = w6.heap.size + 1 + 1 + 1 := by rw [hw7]; simp [World.size_alloc]
       have y0 : Boxed w7 w6.heap.size 35 (.slice A6 n c6) := hw7 ▸ ((Boxed.new w6 _ _).alloc _).alloc _
       have y1 : Boxed w7 (w6.heap.size + 1) 3 (.int .i64 (i : Int)) := by
         have := (Boxed.new (w6.alloc (.cells #[.slice A6 n c6] 35)) 3 (.int .i64 (i : Int))).alloc (.cells #[.int .i64 ((i : Int) + 1)] 3)
         rw [World.size_alloc] at this; exact hw7 ▸ this
       have y2 : Boxed w7 (w6.heap.size + 1 + 1) 3 (.int .i64 ((i : Int) + 1)) := by
         have := Boxed.new ((w6.alloc (.cells #[.slice A6 n c6] 35)).alloc (.cells #[.int .i64 (i : Int)] 3)) 3 (.int .i64 ((i : Int) + 1))
         rw [World.size_alloc, World.size_alloc] at this; exact hw7 ▸ this
       clear hw7)
    | (go_at_call 74
       refine (collect_any w6.heap.size (w6.heap.size + 1) (w6.heap.size + 1 + 1) LV A6 n c6 (i : Int) ((i : Int) + 1) w7 y0.cell y1.cell y2.cell (by omega) (by omega) (by omega) HLN.out.symm (by omega) hc6 (by omega) (by omega) (by omega) (by omega) (hs6.next B7) ((HK.out.next b6).next B7) (by omega)).mono ?_
       rintro e w8 ⟨v, rfl, hO8, b8⟩))
  go_ret2
  have s6 := b6.size
  exact ⟨_, rfl, hO8.mono (by omega), Below.on (Below.on b6 B7) b8⟩
end Go.Proofs.YtcocengpekndjaaDoor
