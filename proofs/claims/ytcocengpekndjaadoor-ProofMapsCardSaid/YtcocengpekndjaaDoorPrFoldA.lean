/- The walk over Fold of the reference: the leaves. -/
import Derived.Test.YtcocengpekndjaaDoorPrStrs
namespace Go.Proofs.YtcocengpekndjaaDoor
open Go.RowKit
abbrev foldV (R : Bs × Nat × Bool) : Value := .tuple #[hashV R.1, .int .i64 (R.2.1 : Nat), .bool R.2.2]
/-- What Fold does with trees of at most q leaves. -/
def FoldOk (q : Nat) : Prop := ∀ (n : Nat) (i : Int) (inside path : List Bs) (K A : Option Addr) (kn kc pn pc : Nat) (w : World), n ≤ q → 1 ≤ n → n ≤ 5000 → -10000 ≤ i + n → i ≤ 5000 → inside.length = kn → kn ≤ kc → kn ≤ 5000 → path.length = pn → pn ≤ pc → pn ≤ 5000 → (∀ s ∈ inside, s.length ≤ 90000) → Strs w K inside → Hs w A path →
    Calls Tryd.prog 42 #[wordsV, .int .i64 n, .int .i64 i, .slice K kn kc, .slice A pn pc] w fun e w' => e = .returned (foldV (foldR n i inside path)) ∧ Below w.heap.size w w'
set_option maxRecDepth 100000 in
set_option maxHeartbeats 4000000 in
theorem fo_out (n : Nat) (i : Int) (inside path : List Bs) (K A : Option Addr) (kn kc pn pc : Nat) (w : World) (h1 : 1 ≤ n) (h2 : n ≤ 5000) (i0 : -15000 ≤ i) (i1 : i ≤ 5000) (hkn : inside.length = kn) (_hkc : kn ≤ kc) (hk3 : kn ≤ 5000) (hpn : path.length = pn) (hpc : pn ≤ pc) (hp5 : pn ≤ 5000) (_hin : ∀ s ∈ inside, s.length ≤ 90000) (hS : Strs w K inside) (hs : Hs w A path) (c : i + kn ≤ 0 ∨ (n : Int) ≤ i ∨ kn = 0) :
    Calls Tryd.prog 42 #[wordsV, .int .i64 n, .int .i64 i, .slice K kn kc, .slice A pn pc] w fun e w' => e = .returned (foldV (foldR n i inside path)) ∧ Below w.heap.size w w' := by
  have cc : i + inside.length ≤ 0 ∨ (n : Int) ≤ i ∨ inside = [] ∨ n = 0 := by
    rcases c with c | c | c
    · exact .inl (by omega)
    · exact .inr (.inl c)
    · exact .inr (.inr (.inl (List.eq_nil_of_length_eq_zero (by omega))))
  have cm : min (i + (kn : Int)) n ≤ max i 0 := by omega
  have cw : IntKind.i64.wrap (i + (kn : Int)) = i + kn := IntWalk.i64_in _ (by omega)
  rw [foldR_out cc]
  obtain ⟨w0, hW0⟩ : ∃ w0, World.alloc (w.alloc (.cells (ints .u32 wordsL) 27)) (.cells (ints .u8 (List.replicate 32 0)) 30) = w0 := ⟨_, rfl⟩
  have B0 : Below w.heap.size w w0 := hW0 ▸ Below.on (Below.new1 _ _) (Below.new1 _ _)
  have y5 : BoxW w0 w.heap.size := hW0 ▸ (BoxW.new w).next (Below.new1 _ _)
  have x10 : BoxA w0 (w.heap.size + 1) 30 .u8 (List.replicate 32 0) := by
    have := BoxA.new (w.alloc (.cells (ints .u32 wordsL) 27)) 30 .u8 (List.replicate 32 0) _ rfl
    rw [World.size_alloc] at this; exact hW0 ▸ this
  have z0 : w.heap.size + 1 < w0.heap.size := x10.lt
  have hS0 := hS.next B0
  have hs0 := hs.next B0
  cases path with
  | nil =>
    obtain rfl : pn = 0 := by rw [← hpn]; rfl
    have HO := Lib.hid hW0
    clear hW0 hS hs hS0 hs0 _hin hkn c cc y5
    simp only
    go_enter Tryd.func42, Tryd.ntmps42
    go_upto_region 4 with (fail)
    all_goals change Code.wp _ _ _ _ (World.alloc (w.alloc (.cells (ints .u32 wordsL) 27)) (.cells (ints .u8 (List.replicate 32 0)) 30))
    all_goals rw [HO.out]
    all_goals clear HO
    all_goals go_wp2_with (refine wpList_storeH rfl (.tmp 10) (.tmp 34) rfl (w.heap.size + 1) zeroH rfl (by rfl) x10 (by simp) zeroH_length ?_)
    all_goals exact bodyPost_ret (v := .tuple #[hashV zeroH, .int .i64 0, .bool false]) (results_h3 rfl _ _ (w.heap.size + 1) zeroH (.int .i64 0) (.bool false) rfl rfl rfl x10.setRow zeroH_length) rfl ⟨rfl, below_setRow B0 (by omega) _⟩
  | cons x path =>
    have hx : x.length = 32 := hs.1 x (by simp)
    have pk : ((pn : Int) == 0) = false := by rw [List.length_cons] at hpn; simp; omega
    have pl : 0 < pn := by rw [List.length_cons] at hpn; omega
    obtain ⟨ad, rfl⟩ : ∃ a, A = some a := by
      obtain ⟨_, h | ⟨a, e, _⟩⟩ := hs
      · cases h
      · exact ⟨a, e⟩
    have hld : (Instr.loadAt 30 (.pointer (some (ad.add (0 * 32))))).run Tryd.prog w0 = .ok (hashV x) w0 := hs0.load (i := 0) (by simp) _ 32 5 (by kernel_rfl) szHash
    have HO := Lib.hid hW0
    have HLD := Lib.hid hld
    clear hW0 hS hs hS0 hs0 _hin hkn c cc y5 hpn hld
    simp only
    go_enter Tryd.func42, Tryd.ntmps42
    go_upto_region 5 with (fail)
    all_goals change Code.wp _ _ _ _ (World.alloc (w.alloc (.cells (ints .u32 wordsL) 27)) (.cells (ints .u8 (List.replicate 32 0)) 30))
    all_goals rw [HO.out]
    all_goals clear HO
    all_goals go_wp2_with (first
      | (refine wpList_load_at rfl 30 (.tmp 36) rfl (hashV x) (by exact HLD.out) ?_)
      | (refine wpList_storeH rfl (.tmp 10) (.tmp 37) rfl (w.heap.size + 1) x rfl rfl x10 (by simp) hx ?_))
    all_goals exact bodyPost_ret (v := .tuple #[hashV x, .int .i64 1, .bool true]) (results_h3 rfl _ _ (w.heap.size + 1) x (.int .i64 1) (.bool true) rfl rfl rfl x10.setRow hx) rfl ⟨rfl, below_setRow B0 (by omega) _⟩
set_option maxRecDepth 100000 in
set_option maxHeartbeats 4000000 in
theorem fo_one (i : Int) (inside path : List Bs) (K A : Option Addr) (kn kc pn pc : Nat) (w : World) (i0 : -15000 ≤ i) (i1 : i ≤ 5000) (hkn : inside.length = kn) (_hkc : kn ≤ kc) (hk3 : kn ≤ 5000) (_hpn : path.length = pn) (_hpc : pn ≤ pc) (_hp5 : pn ≤ 5000) (hin : ∀ s ∈ inside, s.length ≤ 90000) (hS : Strs w K inside) (hs : Hs w A path) (c : ¬ (i + kn ≤ 0 ∨ ((1 : Nat) : Int) ≤ i ∨ kn = 0)) :
    Calls Tryd.prog 42 #[wordsV, .int .i64 (1 : Nat), .int .i64 i, .slice K kn kc, .slice A pn pc] w fun e w' => e = .returned (foldV (foldR 1 i inside path)) ∧ Below w.heap.size w w' := by
  have cc : ¬ (i + inside.length ≤ 0 ∨ ((1 : Nat) : Int) ≤ i ∨ inside = [] ∨ (1 : Nat) = 0) := by
    rintro (h | h | h | h)
    · exact c (.inl (by omega))
    · exact c (.inr (.inl h))
    · exact c (.inr (.inr (by rw [← hkn, h]; rfl)))
    · cases h
  have c1 : ¬ (i + (kn : Int) ≤ 0) := fun h => c (.inl h)
  have c2 : i ≤ 0 := by have : ¬ ((1 : Nat) : Int) ≤ i := fun h => c (.inr (.inl h)); omega
  have c3 : ¬ kn = 0 := fun h => c (.inr (.inr h))
  have cm : ¬ min (i + (kn : Int)) ((1 : Nat) : Int) ≤ max i 0 := by omega
  have cw : IntKind.i64.wrap (i + (kn : Int)) = i + kn := IntWalk.i64_in _ (by omega)
  rw [foldR_one cc]
  obtain ⟨j, hj⟩ : ∃ j : Nat, (-i).toNat = j := ⟨_, rfl⟩
  rw [hj]
  have jk : j < kn := by omega
  have jl : j < inside.length := by omega
  rw [List.getElem?_eq_getElem jl, Option.getD_some]
  have hsl : (inside[j]).length ≤ 90000 := hin _ (List.getElem_mem jl)
  obtain ⟨ad, rfl⟩ : ∃ a, K = some a := by
    rcases hS with h | ⟨a, e, _⟩
    · rw [h] at jl; simp at jl
    · exact ⟨a, e⟩
  obtain ⟨w0, hW0⟩ : ∃ w0, World.alloc (w.alloc (.cells (ints .u32 wordsL) 27)) (.cells (ints .u8 (List.replicate 32 0)) 30) = w0 := ⟨_, rfl⟩
  have B0 : Below w.heap.size w w0 := hW0 ▸ Below.on (Below.new1 _ _) (Below.new1 _ _)
  have y5 : BoxW w0 w.heap.size := hW0 ▸ (BoxW.new w).next (Below.new1 _ _)
  have x10 : BoxA w0 (w.heap.size + 1) 30 .u8 (List.replicate 32 0) := by
    have := BoxA.new (w.alloc (.cells (ints .u32 wordsL) 27)) 30 .u8 (List.replicate 32 0) _ rfl
    rw [World.size_alloc] at this; exact hW0 ▸ this
  have z0 : w.heap.size + 1 < w0.heap.size := x10.lt
  have hS0 := hS.next B0
  have hs0 := hs.next B0
  have bad : ad.block < w.heap.size := by
    have := block_lt_of_cell (hS.cell jl); rwa [add_block] at this
  have hcell : ∀ W, But (w.heap.size + 1) w0 W → W.cell? (ad.add j) = some (.string ⟨inside[j].toArray⟩) := fun W h => cell_but h (hS0.cell jl) (by rw [add_block]; omega)
  have nj : IntKind.i64.wrap (-i) = (j : Int) := by rw [IntWalk.i64_in _ (by omega)]; omega
  have G0 : G1 w0 (w.heap.size + 1) (fun _ => False) w0.drew := G1.next (d := fun _ => False) ⟨But.refl _ _, ⟨_, x10, by simp⟩⟩ (Below.drawn w0 1 _)
  generalize inside[j] = s at *
  have a0' : ∀ W, (Op.stringOp .add ⟨#[0]⟩ ⟨s.toArray⟩).run Tryd.prog W = .ok (.string ⟨(0 :: s).toArray⟩) W := fun W => s_add (P := Tryd.prog) [0] s W (by simp; omega)
  have hrs := fun W => rsum_any (0 :: s) W (by simp; omega)
  have hxe : sha (0 :: s) = leafM sha s := rfl
  have hxl : (leafM sha s).length = 32 := sha_length _
  rw [hxe] at hrs
  generalize leafM sha s = x at *
  have HO := Lib.hid hW0
  clear hW0 hS hs hS0 hs0 hin hkn c cc _hpn hxe hj
  go_enter Tryd.func42, Tryd.ntmps42
  go_upto_region 7 with (fail)
  all_goals change Code.wp _ _ _ _ (World.alloc (w.alloc (.cells (ints .u32 wordsL) 27)) (.cells (ints .u8 (List.replicate 32 0)) 30))
  all_goals rw [HO.out]
  all_goals clear HO
  all_goals
    refine wp_name fun a0 ha0 => ?_
    have e2 : a0.eval (.tmp 2) = .int .i64 i := by rw [ha0]; rfl
    have e3 : a0.eval (.tmp 3) = .slice (some ad) kn kc := by rw [ha0]; rfl
    have e5 : a0.eval (.tmp 5) = .pointer (some ⟨w.heap.size, 0, none⟩) := by rw [ha0]; rfl
    have e10 : a0.eval (.tmp 10) = .pointer (some ⟨(w.heap.size + 1), 0, none⟩) := by rw [ha0]; rfl
    have hz : a0.tmps.size = 87 := by rw [ha0]; rfl
    have HA0 := Lib.hid ha0
    clear ha0
    have SG : ∀ (d d' : Nat → Prop) (W W' : World), (G1 w0 (w.heap.size + 1)) d W → (∀ j, d j → d' j) → Below W.heap.size W W' → (G1 w0 (w.heap.size + 1)) d' W' := fun _ _ _ _ h _ b => G1.next h b
    refine wp_region_steps (Inv [40, 41, 42, 43, 44, 45, 46, 47, 11, 12] a0 (G1 w0 (w.heap.size + 1)) [(⟨some 0, 40, none, fun v _ => v = wordsV⟩ : Cl), ⟨some 1, 41, none, fun v _ => v = .slice (some ad) kn kc⟩, ⟨some 2, 42, none, fun v _ => v = .int .i64 i⟩, ⟨some 3, 43, none, fun v _ => v = .int .i64 (j : Int)⟩, ⟨some 4, 44, none, fun v _ => v = .pointer (some (ad.add j))⟩, ⟨some 5, 45, none, fun v _ => v = .string ⟨s.toArray⟩⟩, ⟨some 6, 46, none, fun v _ => v = .string ⟨(0 :: s).toArray⟩⟩, ⟨some 7, 47, none, fun v _ => v = hashV x⟩, ⟨some 8, 10, none, fun _ W => BoxH W (w.heap.size + 1) x⟩, ⟨some 9, 11, none, fun v _ => v = .int .i64 0⟩, ⟨some 10, 12, none, fun v _ => v = .bool true⟩]) (by kernel_rfl) (by kernel_rfl) (Inv.start G0 ⟨nofun, nofun, nofun, nofun, nofun, nofun, nofun, nofun, nofun, nofun, nofun, trivial⟩) ?_ ?_
    · have St : ∀ xc ∈ [(⟨some 0, 40, none, fun v _ => v = wordsV⟩ : Cl), ⟨some 1, 41, none, fun v _ => v = .slice (some ad) kn kc⟩, ⟨some 2, 42, none, fun v _ => v = .int .i64 i⟩, ⟨some 3, 43, none, fun v _ => v = .int .i64 (j : Int)⟩, ⟨some 4, 44, none, fun v _ => v = .pointer (some (ad.add j))⟩, ⟨some 5, 45, none, fun v _ => v = .string ⟨s.toArray⟩⟩, ⟨some 6, 46, none, fun v _ => v = .string ⟨(0 :: s).toArray⟩⟩, ⟨some 7, 47, none, fun v _ => v = hashV x⟩, ⟨some 8, 10, none, fun _ W => BoxH W (w.heap.size + 1) x⟩, ⟨some 9, 11, none, fun v _ => v = .int .i64 0⟩, ⟨some 10, 12, none, fun v _ => v = .bool true⟩], Lasts xc := AllC.mem ⟨lastsV0 _ _ _ _, lastsV0 _ _ _ _, lastsV0 _ _ _ _, lastsV0 _ _ _ _, lastsV0 _ _ _ _, lastsV0 _ _ _ _, lastsV0 _ _ _ _, lastsV0 _ _ _ _, lastsH _ _ _ _ _, lastsV0 _ _ _ _, lastsV0 _ _ _ _, trivial⟩
      clear HA0
      refine ⟨?_, ?_, ?_, ?_, ?_, ?_, ?_, ?_, ?_, ?_, ?_, trivial⟩
      · refine stepB rfl rfl (by decide) (by rw [hz]; decide) rfl rfl (by kernel_rfl) St SG fun d a W hF hG hH hn hcl hw => ?_
        have q5 := (hF.same 5 (by decide)).trans e5
        refine ⟨wordsV, W, ?_, Below.refl _ _, ?_⟩
        · exact exec_load rfl (by rw [q5]; exact BoxW.load (BoxA.but y5 (by omega) hG.1))
        · rfl
      · refine stepB rfl rfl (by decide) (by rw [hz]; decide) rfl rfl (by kernel_rfl) St SG fun d a W hF hG hH hn hcl hw => ?_
        have q3 := (hF.same 3 (by decide)).trans e3
        refine ⟨.slice (some ad) kn kc, W, ?_, Below.refl _ _, ?_⟩
        · clear hF hG hH hn hcl hw
          generalize a.eval = ρ at *
          go_simp
        · rfl
      · refine stepB rfl rfl (by decide) (by rw [hz]; decide) rfl rfl (by kernel_rfl) St SG fun d a W hF hG hH hn hcl hw => ?_
        have q2 := (hF.same 2 (by decide)).trans e2
        refine ⟨.int .i64 i, W, ?_, Below.refl _ _, ?_⟩
        · clear hF hG hH hn hcl hw
          generalize a.eval = ρ at *
          go_simp
        · rfl
      · refine stepB rfl rfl (by decide) (by rw [hz]; decide) rfl rfl (by kernel_rfl) St SG fun d a W hF hG hH hn hcl hw => ?_
        have q42 : a.eval (.tmp 42) = .int .i64 i := hH.at_ (i := 2) rfl (hw 2 rfl) id
        have qn := nj
        refine ⟨.int .i64 (j : Int), W, ?_, Below.refl _ _, ?_⟩
        · clear hF hG hH hn hcl hw
          generalize a.eval = ρ at *
          go_simp
        · rfl
      · refine stepB rfl rfl (by decide) (by rw [hz]; decide) rfl rfl (by kernel_rfl) St SG fun d a W hF hG hH hn hcl hw => ?_
        have q41 : a.eval (.tmp 41) = .slice (some ad) kn kc := hH.at_ (i := 1) rfl (hw 1 rfl) id
        have q43 : a.eval (.tmp 43) = .int .i64 (j : Int) := hH.at_ (i := 3) rfl (hw 3 rfl) id
        refine ⟨.pointer (some (ad.add j)), W, ?_, Below.refl _ _, ?_⟩
        · exact exec_indexS rfl q41 q43 jk
        · rfl
      · refine stepB rfl rfl (by decide) (by rw [hz]; decide) rfl rfl (by kernel_rfl) St SG fun d a W hF hG hH hn hcl hw => ?_
        have q44 : a.eval (.tmp 44) = .pointer (some (ad.add j)) := hH.at_ (i := 4) rfl (hw 4 rfl) id
        have c := hcell W hG.1
        refine ⟨.string ⟨s.toArray⟩, W, ?_, Below.refl _ _, ?_⟩
        · clear hF hG hH hn hcl hw
          generalize a.eval = ρ at *
          go_simp
        · rfl
      · refine stepB rfl rfl (by decide) (by rw [hz]; decide) rfl rfl (by kernel_rfl) St SG fun d a W hF hG hH hn hcl hw => ?_
        have q45 : a.eval (.tmp 45) = .string ⟨s.toArray⟩ := hH.at_ (i := 5) rfl (hw 5 rfl) id
        have c := a0' W
        have qk : a.eval (.const (.string ⟨#[0]⟩)) = .string ⟨#[0]⟩ := rfl
        refine ⟨.string ⟨(0 :: s).toArray⟩, W, ?_, Below.refl _ _, ?_⟩
        · clear hF hG hH hn hcl hw
          generalize a.eval = ρ at *
          go_simp
        · rfl
      · refine stepC rfl rfl (by decide) (by rw [hz]; decide) rfl rfl (by kernel_rfl) St SG fun d a W hF hG hH hn hcl hw => ?_
        have q40 : a.eval (.tmp 40) = wordsV := hH.at_ (i := 0) rfl (hw 0 rfl) id
        have q46 : a.eval (.tmp 46) = .string ⟨(0 :: s).toArray⟩ := hH.at_ (i := 6) rfl (hw 6 rfl) id
        have qf : a.eval (.func 20) = .func (.func 20) #[] #[] := rfl
        refine ⟨20, #[wordsV, .string ⟨(0 :: s).toArray⟩], ?_, ?_⟩
        · clear hF hG hH hn hcl hw
          generalize a.eval = ρ at *
          go_simp
        · refine (hrs W).mono ?_; rintro e W' ⟨rfl, b⟩; exact ⟨_, rfl, b, rfl⟩
      · refine stepH (.tmp 10) (.tmp 47) rfl rfl rfl rfl (w.heap.size + 1) x hxl (fun _ _ h => h) (AllC.mem ⟨.inr fun _ _ _ h => h, .inr fun _ _ _ h => h, .inr fun _ _ _ h => h, .inr fun _ _ _ h => h, .inr fun _ _ _ h => h, .inr fun _ _ _ h => h, .inr fun _ _ _ h => h, .inr fun _ _ _ h => h, .inl rfl, .inr fun _ _ _ h => h, .inr fun _ _ _ h => h, trivial⟩) (fun d d' W h _ => G1.row h _ hxl) (fun d W h => h.2) fun d a W hF hG hH hn hcl hw => ?_
        have q10 := (hF.same 10 (by decide)).trans e10
        have q47 : a.eval (.tmp 47) = hashV x := hH.at_ (i := 7) rfl (hw 7 rfl) id
        exact ⟨q10, q47⟩
      · refine stepB rfl rfl (by decide) (by rw [hz]; decide) rfl rfl (by kernel_rfl) St SG fun d a W hF hG hH hn hcl hw => ?_
        have qc0 : a.eval (.const (.int .i64 0)) = .int .i64 0 := rfl
        refine ⟨.int .i64 0, W, ?_, Below.refl _ _, ?_⟩
        · clear hF hG hH hn hcl hw
          generalize a.eval = ρ at *
          go_simp
        · rfl
      · refine stepB rfl rfl (by decide) (by rw [hz]; decide) rfl rfl (by kernel_rfl) St SG fun d a W hF hG hH hn hcl hw => ?_
        have qk0 : a.eval (.const (.bool true)) = .bool true := rfl
        refine ⟨.bool true, W, ?_, Below.refl _ _, ?_⟩
        · clear hF hG hH hn hcl hw
          generalize a.eval = ρ at *
          go_simp
        · rfl
    · intro d a W ⟨hF, hB, hH⟩ hall
      have k11 : a.eval (.tmp 11) = .int .i64 0 := hH.at_ (i := 9) rfl (hall 9 (by decide)) id
      have k12 : a.eval (.tmp 12) = .bool true := hH.at_ (i := 10) rfl (hall 10 (by decide)) id
      have s8 : BoxH W (w.heap.size + 1) x := hH.at_ (i := 8) rfl (hall 8 (by decide)) id
      clear hH hall
      rw [hF.shape (by rw [hz]; decide)]
      clear hF
      simp only [List.foldl]
      generalize a.eval (.tmp 40) = z40 at *
      generalize a.eval (.tmp 41) = z41 at *
      generalize a.eval (.tmp 42) = z42 at *
      generalize a.eval (.tmp 43) = z43 at *
      generalize a.eval (.tmp 44) = z44 at *
      generalize a.eval (.tmp 45) = z45 at *
      generalize a.eval (.tmp 46) = z46 at *
      generalize a.eval (.tmp 47) = z47 at *
      generalize a.eval (.tmp 11) = z11 at *
      generalize a.eval (.tmp 12) = z12 at *
      subst k11
      subst k12
      rw [HA0.out]
      simp only [Act.put, List.setIfInBounds_toArray, List.set_cons_zero, List.set_cons_succ]
      clear hz HA0 SG e2 e3 e5 e10
      clear a a0
      go_wp2_with (fail)
      all_goals exact bodyPost_ret (v := .tuple #[hashV x, .int .i64 0, .bool true]) (results_h3 rfl _ _ (w.heap.size + 1) x (.int .i64 0) (.bool true) rfl rfl rfl s8 hxl) rfl ⟨rfl, B0.trans (hB.1.low (by omega) (by omega))⟩
end Go.Proofs.YtcocengpekndjaaDoor
