/- The walk over the reference's FoldTexts. -/
import Derived.Test.YtcocengpekndjaaDoorPrFold
import Derived.Test.YtcocengpekndjaaDoorPrJoint
namespace Go.Proofs.YtcocengpekndjaaDoor
open Go.RowKit
theorem foldT_len (m : Nat) : ∀ (n : Nat) (i : Int) (inside path : List Bs), n ≤ m → (foldT sha n i inside path).length ≤ max 1 (2 * n - 1) := by
  induction m with
  | zero => intro n i inside path h; rw [foldT_out sha (by omega)]; simp
  | succ m ih =>
    intro n i inside path h
    by_cases c : i + inside.length ≤ 0 ∨ (n : Int) ≤ i ∨ inside = [] ∨ n = 0
    · rw [foldT_out sha c]; simp
    · by_cases e1 : n = 1
      · subst e1; rw [foldT_one sha c]; simp
      · have hr := half_range (n := n) (by omega)
        rw [foldT_two sha c e1]
        split
        · simp
        · split
          · simp
          · rename_i a u _ _ b v _
            have p := ih (half n) i inside path (by omega)
            have q := ih (n - half n) (i - (half n : Nat)) inside (path.drop u) (by omega)
            simp only [List.length_append, List.length_cons, List.length_nil]
            omega
theorem foldT_two' {n : Nat} {i : Int} {inside path : List Bs} (h : ¬ (i + inside.length ≤ 0 ∨ (n : Int) ≤ i ∨ inside = [] ∨ n = 0)) (h2 : n ≠ 1) {R1 R2 : Bs × Nat × Bool} (e1 : foldR (half n) i inside path = R1) (e2 : foldR (n - half n) (i - (half n : Nat)) inside (path.drop R1.2.1) = R2) :
    foldT sha n i inside path = if R1.2.2 = false then [] else if R2.2.2 = false then [] else foldT sha (half n) i inside path ++ foldT sha (n - half n) (i - (half n : Nat)) inside (path.drop R1.2.1) ++ [1 :: (R1.1 ++ R2.1)] := by
  rw [foldT_two sha h h2]
  have f1 := foldR_fold (half n) (half n) i inside path (Nat.le_refl _)
  cases ea : foldM sha (half n) i (inside.map (leafM sha)) path with
  | none => rw [ea] at f1; simp only at f1; rw [e1] at f1; simp only [f1, if_true]
  | some x =>
    obtain ⟨a, u⟩ := x
    rw [ea] at f1
    simp only at f1
    rw [e1] at f1
    subst f1
    have f2 := foldR_fold (n - half n) (n - half n) (i - (half n : Nat)) inside (path.drop u) (Nat.le_refl _)
    simp only at e2 ⊢
    cases eb : foldM sha (n - half n) (i - (half n : Nat)) (inside.map (leafM sha)) (path.drop u) with
    | none => rw [eb] at f2; simp only at f2; rw [e2] at f2; simp only [f2, if_true, Bool.true_eq_false, if_false]
    | some y =>
      obtain ⟨b, v⟩ := y
      rw [eb] at f2
      simp only at f2
      rw [e2] at f2
      subst f2
      simp
/-- What FoldTexts does with trees of at most q leaves. -/
def FtOk (q : Nat) : Prop := ∀ (n : Nat) (i : Int) (inside path : List Bs) (K A : Option Addr) (kn kc pn pc : Nat) (w : World), n ≤ q → 1 ≤ n → n ≤ 5000 → -10000 ≤ i + n → i ≤ 5000 → inside.length = kn → kn ≤ kc → kn ≤ 5000 → path.length = pn → pn ≤ pc → pn ≤ 5000 → (∀ s ∈ inside, s.length ≤ 90000) → Strs w K inside → Hs w A path →
    Calls Tryd.prog 45 #[wordsV, .int .i64 n, .int .i64 i, .slice K kn kc, .slice A pn pc] w fun e w' => ∃ v, e = .returned v ∧ OwnStrs w' w.heap.size v (foldT sha n i inside path) ∧ Below w.heap.size w w'
set_option maxRecDepth 100000 in
set_option maxHeartbeats 4000000 in
theorem ft_out (n : Nat) (i : Int) (inside path : List Bs) (K A : Option Addr) (kn kc pn pc : Nat) (w : World) (h1 : 1 ≤ n) (h2 : n ≤ 5000) (i0 : -15000 ≤ i) (i1 : i ≤ 5000) (hkn : inside.length = kn) (_hkc : kn ≤ kc) (hk3 : kn ≤ 5000) (_hpn : path.length = pn) (_hpc : pn ≤ pc) (_hp5 : pn ≤ 5000) (_hin : ∀ s ∈ inside, s.length ≤ 90000) (hS : Strs w K inside) (hs : Hs w A path) (c : i + kn ≤ 0 ∨ (n : Int) ≤ i ∨ kn = 0) :
    Calls Tryd.prog 45 #[wordsV, .int .i64 n, .int .i64 i, .slice K kn kc, .slice A pn pc] w fun e w' => ∃ v, e = .returned v ∧ OwnStrs w' w.heap.size v (foldT sha n i inside path) ∧ Below w.heap.size w w' := by
  have cc : i + inside.length ≤ 0 ∨ (n : Int) ≤ i ∨ inside = [] ∨ n = 0 := by
    rcases c with c | c | c
    · exact .inl (by omega)
    · exact .inr (.inl c)
    · exact .inr (.inr (.inl (List.eq_nil_of_length_eq_zero (by omega))))
  have cm : min (i + (kn : Int)) n ≤ max i 0 := by omega
  have cw : IntKind.i64.wrap (i + (kn : Int)) = i + kn := IntWalk.i64_in _ (by omega)
  rw [foldT_out sha cc]
  obtain ⟨w0, hW0⟩ : ∃ w0, (w.alloc (.cells (ints .u32 wordsL) 27)) = w0 := ⟨_, rfl⟩
  have B0 : Below w.heap.size w w0 := hW0 ▸ Below.new1 _ _
  have y5 : BoxW w0 w.heap.size := hW0 ▸ BoxW.new w
  have hS0 := hS.next B0
  have hs0 := hs.next B0
  have HO := Lib.hid hW0
  clear hW0 hS hs hS0 hs0 _hin hkn c cc y5 _hpn
  go_enter Tryd.func45, Tryd.ntmps45
  go_upto_region 2 with (fail)
  all_goals change Code.wp _ _ _ _ (w.alloc (.cells (ints .u32 wordsL) 27))
  all_goals rw [HO.out]
  all_goals clear HO
  all_goals go_wp2_with (fail)
  all_goals go_ret
  all_goals exact ⟨_, rfl, OwnStrs.none _ _, B0⟩
set_option maxRecDepth 100000 in
set_option maxHeartbeats 4000000 in
theorem ft_one (i : Int) (inside path : List Bs) (K A : Option Addr) (kn kc pn pc : Nat) (w : World) (i0 : -15000 ≤ i) (i1 : i ≤ 5000) (hkn : inside.length = kn) (_hkc : kn ≤ kc) (hk3 : kn ≤ 5000) (_hpn : path.length = pn) (_hpc : pn ≤ pc) (_hp5 : pn ≤ 5000) (hin : ∀ s ∈ inside, s.length ≤ 90000) (hS : Strs w K inside) (hs : Hs w A path) (c : ¬ (i + kn ≤ 0 ∨ ((1 : Nat) : Int) ≤ i ∨ kn = 0)) :
    Calls Tryd.prog 45 #[wordsV, .int .i64 (1 : Nat), .int .i64 i, .slice K kn kc, .slice A pn pc] w fun e w' => ∃ v, e = .returned v ∧ OwnStrs w' w.heap.size v (foldT sha 1 i inside path) ∧ Below w.heap.size w w' := by
  have cc : ¬ (i + inside.length ≤ 0 ∨ ((1 : Nat) : Int) ≤ i ∨ inside = [] ∨ (1 : Nat) = 0) := by
    rintro (h | h | h | h)
    · exact c (.inl (by omega))
    · exact c (.inr (.inl h))
    · exact c (.inr (.inr (by rw [← hkn, h]; rfl)))
    · omega
  have c1 : ¬ (i + (kn : Int) ≤ 0) := fun h => c (.inl h)
  have c2 : ¬ ((1 : Nat) : Int) ≤ i := fun h => c (.inr (.inl h))
  have c3 : ¬ kn = 0 := fun h => c (.inr (.inr h))
  have cm : ¬ min (i + (kn : Int)) ((1 : Nat) : Int) ≤ max i 0 := by omega
  have cw : IntKind.i64.wrap (i + (kn : Int)) = i + kn := IntWalk.i64_in _ (by omega)
  rw [foldT_one sha cc]
  obtain ⟨j, hj⟩ : ∃ j : Nat, (-i).toNat = j := ⟨_, rfl⟩
  rw [hj]
  have jk : j < kn := by omega
  have jl : j < inside.length := by omega
  rw [List.getElem?_eq_getElem jl, Option.getD_some]
  have hsl : (inside[j]).length ≤ 90000 := hin _ (List.getElem_mem jl)
  obtain ⟨ad, rfl⟩ : ∃ a, K = some a := by
    rcases hS with h | ⟨a, e, _⟩
    · rw [h] at jl; simp at jl
    · exact ⟨a, e⟩
  obtain ⟨w0, hW0⟩ : ∃ w0, (w.alloc (.cells (ints .u32 wordsL) 27)) = w0 := ⟨_, rfl⟩
  have B0 : Below w.heap.size w w0 := hW0 ▸ Below.new1 _ _
  have y5 : BoxW w0 w.heap.size := hW0 ▸ BoxW.new w
  have hS0 := hS.next B0
  have hs0 := hs.next B0
  have HO := Lib.hid hW0
  have g0 : w0.cell? (ad.add j) = some (.string ⟨inside[j].toArray⟩) := hS0.cell jl
  have nj : IntKind.i64.wrap (-i) = (j : Int) := by rw [IntWalk.i64_in _ (by omega)]; omega
  have j0 : (0 : Int) ≤ (j : Int) := by omega
  have j1 : (j : Int) < (kn : Int) := by omega
  generalize inside[j] = s at *
  have a0' : ∀ W, (Op.stringOp .add ⟨#[0]⟩ ⟨s.toArray⟩).run Tryd.prog W = .ok (.string ⟨(0 :: s).toArray⟩) W := fun W => s_add (P := Tryd.prog) [0] s W (by simp; omega)
  clear hW0 hS hs hS0 hs0 hin hkn c cc _hpn hj y5
  go_enter Tryd.func45, Tryd.ntmps45
  go_upto_region 4 with (fail)
  all_goals change Code.wp _ _ _ _ (w.alloc (.cells (ints .u32 wordsL) 27))
  all_goals rw [HO.out]
  all_goals clear HO
  all_goals go_wp2_with (fail)
  all_goals go_ret
  all_goals exact ⟨_, rfl, OwnStrs.one w0 _ (0 :: s) B0.size, Below.on B0 (Below.new1 _ _)⟩
set_option maxRecDepth 100000 in
set_option maxHeartbeats 4000000 in
theorem ft_two (q : Nat) (ih : FtOk q) (n : Nat) (i : Int) (inside path : List Bs) (K A : Option Addr) (kn kc pn pc : Nat) (w : World) (hq : n ≤ q + 1) (h1 : 2 ≤ n) (h2 : n ≤ 5000) (i0 : -10000 ≤ i + n) (i1 : i ≤ 5000) (hkn : inside.length = kn) (hkc : kn ≤ kc) (hk3 : kn ≤ 5000) (hpn : path.length = pn) (hpc : pn ≤ pc) (hp5 : pn ≤ 5000) (hin : ∀ s ∈ inside, s.length ≤ 90000) (hS : Strs w K inside) (hs : Hs w A path) (c : ¬ (i + kn ≤ 0 ∨ (n : Int) ≤ i ∨ kn = 0)) :
    Calls Tryd.prog 45 #[wordsV, .int .i64 n, .int .i64 i, .slice K kn kc, .slice A pn pc] w fun e w' => ∃ v, e = .returned v ∧ OwnStrs w' w.heap.size v (foldT sha n i inside path) ∧ Below w.heap.size w w' := by
  have cc : ¬ (i + inside.length ≤ 0 ∨ (n : Int) ≤ i ∨ inside = [] ∨ n = 0) := by
    rintro (h | h | h | h)
    · exact c (.inl (by omega))
    · exact c (.inr (.inl h))
    · exact c (.inr (.inr (by rw [← hkn, h]; rfl)))
    · omega
  have c1 : ¬ (i + (kn : Int) ≤ 0) := fun h => c (.inl h)
  have c2 : ¬ (n : Int) ≤ i := fun h => c (.inr (.inl h))
  have c3 : ¬ kn = 0 := fun h => c (.inr (.inr h))
  have cm : ¬ min (i + (kn : Int)) (n : Int) ≤ max i 0 := by omega
  have cw : IntKind.i64.wrap (i + (kn : Int)) = i + kn := IntWalk.i64_in _ (by omega)
  have hr := half_range h1
  have n1 : ((n : Int) == 1) = false := by simp; omega
  obtain ⟨R1, e1⟩ : ∃ R, foldR (half n) i inside path = R := ⟨_, rfl⟩
  obtain ⟨R2, e2⟩ : ∃ R, foldR (n - half n) (i - (half n : Nat)) inside (path.drop R1.2.1) = R := ⟨_, rfl⟩
  rw [foldT_two' cc (by omega) e1 e2]
  have hf := fun W => rhalf_any n W h1 (by omega)
  have r1 := foldR_32 (half n) (half n) i inside path (Nat.le_refl _) hs.1
  have p1 := fun W (hS : Strs W K inside) (hs : Hs W A path) => rfold_any (half n) i inside path K A kn kc pn pc W (by omega) (by omega) (by omega) i1 hkn hkc hk3 hpn hpc hp5 hin hS hs
  have f1 := fun W (hS : Strs W K inside) (hs : Hs W A path) => ih (half n) i inside path K A kn kc pn pc W (by omega) (by omega) (by omega) (by omega) i1 hkn hkc hk3 hpn hpc hp5 hin hS hs
  rw [e1] at r1 p1
  obtain ⟨x1, u1, ok1⟩ := R1
  simp only at r1 p1 e2 ⊢
  obtain ⟨l1, ul1⟩ := r1
  have r2 := foldR_32 (n - half n) (n - half n) (i - (half n : Nat)) inside (path.drop u1) (Nat.le_refl _) (hs.1.drop _)
  have p2 := fun W (hS : Strs W K inside) (hs : Hs W (cutA A pc u1) (path.drop u1)) => rfold_any (n - half n) (i - (half n : Nat)) inside (path.drop u1) K (cutA A pc u1) kn kc (pn - u1) (pc - u1) W (by omega) (by omega) (by omega) (by omega) hkn hkc hk3 (by rw [List.length_drop, hpn]) (by omega) (by omega) hin hS hs
  have f2 := fun W (hS : Strs W K inside) (hs : Hs W (cutA A pc u1) (path.drop u1)) => ih (n - half n) (i - (half n : Nat)) inside (path.drop u1) K (cutA A pc u1) kn kc (pn - u1) (pc - u1) W (by omega) (by omega) (by omega) (by omega) (by omega) hkn hkc hk3 (by rw [List.length_drop, hpn]) (by omega) (by omega) hin hS hs
  rw [e2] at r2 p2
  obtain ⟨x2, u2, ok2⟩ := R2
  simp only at r2 p2 ⊢
  obtain ⟨l2, ul2⟩ := r2
  rw [List.length_drop] at ul2
  have t1 := foldT_len (half n) (half n) i inside path (Nat.le_refl _)
  have t2 := foldT_len (n - half n) (n - half n) (i - (half n : Nat)) inside (path.drop u1) (Nat.le_refl _)
  have hcut : ∀ W, Hs W A path → Hs W (cutA A pc u1) (path.drop u1) := fun W h => h.from_ (by omega) u1 (by omega)
  have HA2 : ∀ W (ev : Operand → Value) (o : Oper) (r : Operand × Operand), o.op = .slice 35 r.1 (some r.2) none none → ev r.1 = .slice A pn pc → ev r.2 = .int .i64 (u1 : Int) → (execOp ev o).run Tryd.prog W = .ok (.value (.slice (cutA A pc u1) (pn - u1) (pc - u1))) W := fun W ev o r ho hx hy => exec_sliceH ho hx hy (by omega)
  generalize cutA A pc u1 = A2 at *
  generalize half n = H at *
  generalize foldT sha H i inside path = T1 at *
  generalize foldT sha (n - H) (i - (H : Nat)) inside (path.drop u1) = T2 at *
  obtain ⟨n2, hn2⟩ : ∃ n2, n - H = n2 := ⟨_, rfl⟩
  rw [hn2] at p2 f2 t2
  have m1 : IntKind.i64.wrap ((n : Int) - H) = n2 := by rw [IntWalk.i64_in _ (by omega)]; omega
  have m2 : IntKind.i64.wrap (i - (H : Int)) = i - H := IntWalk.i64_in _ (by omega)
  have q1 : T1.length ≤ 100000 := by omega
  have q2 : T2.length ≤ 100000 := by omega
  have q3 : (T1 ++ T2).length ≤ 100000 := by rw [List.length_append]; omega
  have b1 := fun W => s_add (P := Tryd.prog) [1] x1 W (by simp; omega)
  have b2 := fun W => s_add (P := Tryd.prog) (1 :: x1) x2 W (by simp; omega)
  have eb : ([1] : Bs) ++ x1 = 1 :: x1 := rfl
  simp only [eb, List.cons_append] at b1 b2
  have ku1 : u1 ≤ pn := by omega
  obtain ⟨w0, hW0⟩ : ∃ w0, (w.alloc (.cells (ints .u32 wordsL) 27)) = w0 := ⟨_, rfl⟩
  have B0 : Below w.heap.size w w0 := hW0 ▸ Below.new1 _ _
  have y5 : BoxW w0 w.heap.size := hW0 ▸ BoxW.new w
  have hS0 := hS.next B0
  have hs0 := hs.next B0
  have HO := Lib.hid hW0
  have HF := Lib.hid hf
  have P1 := Lib.hid p1
  have P2 := Lib.hid p2
  have F1 := Lib.hid f1
  have F2 := Lib.hid f2
  have HC := Lib.hid hcut
  have M1 := Lib.hid m1
  have M2 := Lib.hid m2
  have L1 := Lib.hid l1
  have L2 := Lib.hid l2
  have HB1 := Lib.hid b1
  have HB2 := Lib.hid b2
  clear hW0 hS hs hin hkn c cc hpn e1 e2 hf p1 p2 f1 f2 hcut ih hn2 m1 m2 t1 t2 b1 b2 eb ul1 ul2
  go_enter Tryd.func45, Tryd.ntmps45
  go_upto_region 6 with (go_at_call 78; refine (HF.out _).mono ?_; rintro e w' ⟨rfl, rfl⟩)
  all_goals change Code.wp _ _ _ _ (w.alloc (.cells (ints .u32 wordsL) 27))
  all_goals rw [HO.out]
  all_goals clear HO
  all_goals
    clear HF
    go_upto_region 7 with (first
      | (refine wpList_load_at rfl 27 (.tmp 5) rfl wordsV (BoxW.load y5) ?_)
      | (go_at_call 42; refine (P1.out _ hS0 hs0).mono ?_; rintro e w1 ⟨rfl, b1⟩)
      | (refine wpList_storeH rfl (.tmp 12) (.tmp 46) rfl w1.heap.size x1 rfl rfl (BoxA.new w1 _ _ (List.replicate 32 0) _ rfl) (by simp) l1 ?_))
    obtain ⟨w2, hW2⟩ : ∃ w2, World.setRow (World.alloc w1 (.cells (ints .u8 (List.replicate 32 0)) 30)) w1.heap.size (ints .u8 (nums x1)) = w2 := ⟨_, rfl⟩
    have Bq0 : Below w1.heap.size w1 w2 := hW2 ▸ below_setRow (Below.new1 w1 _) (Nat.le_refl _) _
    have y12 : BoxH w2 w1.heap.size x1 := hW2 ▸ (BoxA.new w1 30 .u8 (List.replicate 32 0) _ rfl).setRow (l' := nums x1)
    change Code.wp _ _ _ _ (World.setRow (World.alloc w1 (.cells (ints .u8 (List.replicate 32 0)) 30)) w1.heap.size (ints .u8 (nums x1)))
    rw [hW2]
    clear hW2
    have Bq := Below.on b1 Bq0
    have y5' : BoxW w2 w.heap.size := BoxA.next y5 Bq
    have hS2 := hS0.next Bq
    have hs2 := hs0.next Bq
    have B2 := Below.on B0 Bq
    generalize w1.heap.size = g12 at *
    clear y5 hS0 hs0 Bq Bq0 b1 B0 P1
    cases ok1
    · go_wp2_with (fail)
      all_goals go_ret
      all_goals exact ⟨_, rfl, OwnStrs.none _ _, B2⟩
    · go_upto_region 9 with (fail)
      refine wp_name fun a0 ha0 => ?_
      have e1 : a0.eval (.tmp 1) = .int .i64 (n : Int) := by rw [ha0]; rfl
      have e2 : a0.eval (.tmp 2) = .int .i64 i := by rw [ha0]; rfl
      have e3 : a0.eval (.tmp 3) = .slice K kn kc := by rw [ha0]; rfl
      have e4 : a0.eval (.tmp 4) = .slice A pn pc := by rw [ha0]; rfl
      have e5 : a0.eval (.tmp 5) = .pointer (some ⟨w.heap.size, 0, none⟩) := by rw [ha0]; rfl
      have e11 : a0.eval (.tmp 11) = .int .i64 (H : Int) := by rw [ha0]; rfl
      have e13 : a0.eval (.tmp 13) = .int .i64 (u1 : Int) := by rw [ha0]; rfl
      have hz : a0.tmps.size = 97 := by rw [ha0]; rfl
      have HA0 := Lib.hid ha0
      clear ha0
      have SG : ∀ (d d' : Nat → Prop) (W W' : World), (fun (_ : Nat → Prop) (W : World) => Below w2.heap.size w2 W) d W → (∀ j, d j → d' j) → Below W.heap.size W W' → (fun (_ : Nat → Prop) (W : World) => Below w2.heap.size w2 W) d' W' := fun _ _ _ _ h _ b => Below.next h b
      refine wp_region_steps (Inv [52, 53, 54, 55, 56, 57, 58, 59, 60, 61, 62, 63, 51, 64, 65, 66, 15, 16, 17] a0 (fun (_ : Nat → Prop) (W : World) => Below w2.heap.size w2 W) [(⟨some 0, 52, none, fun v _ => v = wordsV⟩ : Cl), ⟨some 1, 53, none, fun v _ => v = .int .i64 (n : Int)⟩, ⟨some 2, 54, none, fun v _ => v = .int .i64 (H : Int)⟩, ⟨some 3, 55, none, fun v _ => v = .int .i64 (n2 : Int)⟩, ⟨some 4, 56, none, fun v _ => v = .int .i64 i⟩, ⟨some 5, 57, none, fun v _ => v = .int .i64 (H : Int)⟩, ⟨some 6, 58, none, fun v _ => v = .int .i64 (i - (H : Int))⟩, ⟨some 7, 59, none, fun v _ => v = .slice K kn kc⟩, ⟨some 8, 60, none, fun v _ => v = .slice A pn pc⟩, ⟨some 9, 61, none, fun v _ => v = .int .i64 (u1 : Int)⟩, ⟨some 10, 62, none, fun v _ => v = .slice A2 (pn - u1) (pc - u1)⟩, ⟨some 11, 63, none, fun v _ => v = foldV (x2, u2, ok2)⟩, ⟨some 12, 51, none, fun v _ => v = foldV (x2, u2, ok2)⟩, ⟨some 13, 64, none, fun v _ => v = hashV x2⟩, ⟨some 14, 65, none, fun v _ => v = .int .i64 (u2 : Int)⟩, ⟨some 15, 66, none, fun v _ => v = .bool ok2⟩, ⟨some 16, 15, some 17, fun v W => ∃ g, v = .pointer (some ⟨g, 0, none⟩) ∧ w2.heap.size ≤ g ∧ ∃ m, BoxA W g 30 .u8 m ∧ m.length = 32⟩, ⟨some 17, 15, none, fun v W => ∃ g, v = .pointer (some ⟨g, 0, none⟩) ∧ w2.heap.size ≤ g ∧ BoxH W g x2⟩, ⟨some 18, 16, none, fun v _ => v = .int .i64 (u2 : Int)⟩, ⟨some 19, 17, none, fun v _ => v = .bool ok2⟩]) (by kernel_rfl) (by kernel_rfl) (Inv.start (Below.refl _ _).drew ⟨nofun, nofun, nofun, nofun, nofun, nofun, nofun, nofun, nofun, nofun, nofun, nofun, nofun, nofun, nofun, nofun, nofun, nofun, nofun, nofun, trivial⟩) ?_ ?_
      · have St : ∀ xc ∈ [(⟨some 0, 52, none, fun v _ => v = wordsV⟩ : Cl), ⟨some 1, 53, none, fun v _ => v = .int .i64 (n : Int)⟩, ⟨some 2, 54, none, fun v _ => v = .int .i64 (H : Int)⟩, ⟨some 3, 55, none, fun v _ => v = .int .i64 (n2 : Int)⟩, ⟨some 4, 56, none, fun v _ => v = .int .i64 i⟩, ⟨some 5, 57, none, fun v _ => v = .int .i64 (H : Int)⟩, ⟨some 6, 58, none, fun v _ => v = .int .i64 (i - (H : Int))⟩, ⟨some 7, 59, none, fun v _ => v = .slice K kn kc⟩, ⟨some 8, 60, none, fun v _ => v = .slice A pn pc⟩, ⟨some 9, 61, none, fun v _ => v = .int .i64 (u1 : Int)⟩, ⟨some 10, 62, none, fun v _ => v = .slice A2 (pn - u1) (pc - u1)⟩, ⟨some 11, 63, none, fun v _ => v = foldV (x2, u2, ok2)⟩, ⟨some 12, 51, none, fun v _ => v = foldV (x2, u2, ok2)⟩, ⟨some 13, 64, none, fun v _ => v = hashV x2⟩, ⟨some 14, 65, none, fun v _ => v = .int .i64 (u2 : Int)⟩, ⟨some 15, 66, none, fun v _ => v = .bool ok2⟩, ⟨some 16, 15, some 17, fun v W => ∃ g, v = .pointer (some ⟨g, 0, none⟩) ∧ w2.heap.size ≤ g ∧ ∃ m, BoxA W g 30 .u8 m ∧ m.length = 32⟩, ⟨some 17, 15, none, fun v W => ∃ g, v = .pointer (some ⟨g, 0, none⟩) ∧ w2.heap.size ≤ g ∧ BoxH W g x2⟩, ⟨some 18, 16, none, fun v _ => v = .int .i64 (u2 : Int)⟩, ⟨some 19, 17, none, fun v _ => v = .bool ok2⟩], Lasts xc := AllC.mem ⟨lastsV0 _ _ _ _, lastsV0 _ _ _ _, lastsV0 _ _ _ _, lastsV0 _ _ _ _, lastsV0 _ _ _ _, lastsV0 _ _ _ _, lastsV0 _ _ _ _, lastsV0 _ _ _ _, lastsV0 _ _ _ _, lastsV0 _ _ _ _, lastsV0 _ _ _ _, lastsV0 _ _ _ _, lastsV0 _ _ _ _, lastsV0 _ _ _ _, lastsV0 _ _ _ _, lastsV0 _ _ _ _, (fun _ _ _ h b => by obtain ⟨g, e, h1, m, h2, h3⟩ := h; exact ⟨g, e, h1, m, h2.next b, h3⟩), (fun _ _ _ h b => by obtain ⟨g, e, h1, h2⟩ := h; exact ⟨g, e, h1, BoxA.next h2 b⟩), lastsV0 _ _ _ _, lastsV0 _ _ _ _, trivial⟩
        clear HA0
        refine ⟨?_, ?_, ?_, ?_, ?_, ?_, ?_, ?_, ?_, ?_, ?_, ?_, ?_, ?_, ?_, ?_, ?_, ?_, ?_, ?_, trivial⟩
        · refine stepB rfl rfl (by decide) (by rw [hz]; decide) rfl rfl (by kernel_rfl) St SG fun d a W hF hG hH hn hcl hw => ?_
          have q5 := (hF.same 5 (by decide)).trans e5
          refine ⟨wordsV, W, ?_, Below.refl _ _, ?_⟩
          · exact exec_load rfl (by rw [q5]; exact BoxW.load (BoxA.next y5' hG))
          · rfl
        · refine stepB rfl rfl (by decide) (by rw [hz]; decide) rfl rfl (by kernel_rfl) St SG fun d a W hF hG hH hn hcl hw => ?_
          have q1 := (hF.same 1 (by decide)).trans e1
          refine ⟨.int .i64 (n : Int), W, ?_, Below.refl _ _, ?_⟩
          · clear hF hG hH hn hcl hw
            generalize a.eval = ρ at *
            go_simp
          · rfl
        · refine stepB rfl rfl (by decide) (by rw [hz]; decide) rfl rfl (by kernel_rfl) St SG fun d a W hF hG hH hn hcl hw => ?_
          have q11 := (hF.same 11 (by decide)).trans e11
          refine ⟨.int .i64 (H : Int), W, ?_, Below.refl _ _, ?_⟩
          · clear hF hG hH hn hcl hw
            generalize a.eval = ρ at *
            go_simp
          · rfl
        · refine stepB rfl rfl (by decide) (by rw [hz]; decide) rfl rfl (by kernel_rfl) St SG fun d a W hF hG hH hn hcl hw => ?_
          have q53 : a.eval (.tmp 53) = .int .i64 (n : Int) := hH.at_ (i := 1) rfl (hw 1 rfl) id
          have q54 : a.eval (.tmp 54) = .int .i64 (H : Int) := hH.at_ (i := 2) rfl (hw 2 rfl) id
          have c := M1.out
          refine ⟨.int .i64 (n2 : Int), W, ?_, Below.refl _ _, ?_⟩
          · clear hF hG hH hn hcl hw
            generalize a.eval = ρ at *
            go_simp
          · rfl
        · refine stepB rfl rfl (by decide) (by rw [hz]; decide) rfl rfl (by kernel_rfl) St SG fun d a W hF hG hH hn hcl hw => ?_
          have q2 := (hF.same 2 (by decide)).trans e2
          refine ⟨.int .i64 i, W, ?_, Below.refl _ _, ?_⟩
          · clear hF hG hH hn hcl hw
            generalize a.eval = ρ at *
            go_simp
          · rfl
        · refine stepB rfl rfl (by decide) (by rw [hz]; decide) rfl rfl (by kernel_rfl) St SG fun d a W hF hG hH hn hcl hw => ?_
          have q11 := (hF.same 11 (by decide)).trans e11
          refine ⟨.int .i64 (H : Int), W, ?_, Below.refl _ _, ?_⟩
          · clear hF hG hH hn hcl hw
            generalize a.eval = ρ at *
            go_simp
          · rfl
        · refine stepB rfl rfl (by decide) (by rw [hz]; decide) rfl rfl (by kernel_rfl) St SG fun d a W hF hG hH hn hcl hw => ?_
          have q56 : a.eval (.tmp 56) = .int .i64 i := hH.at_ (i := 4) rfl (hw 4 rfl) id
          have q57 : a.eval (.tmp 57) = .int .i64 (H : Int) := hH.at_ (i := 5) rfl (hw 5 rfl) id
          have c := M2.out
          refine ⟨.int .i64 (i - (H : Int)), W, ?_, Below.refl _ _, ?_⟩
          · clear hF hG hH hn hcl hw
            generalize a.eval = ρ at *
            go_simp
          · rfl
        · refine stepB rfl rfl (by decide) (by rw [hz]; decide) rfl rfl (by kernel_rfl) St SG fun d a W hF hG hH hn hcl hw => ?_
          have q3 := (hF.same 3 (by decide)).trans e3
          refine ⟨.slice K kn kc, W, ?_, Below.refl _ _, ?_⟩
          · clear hF hG hH hn hcl hw
            generalize a.eval = ρ at *
            go_simp
          · rfl
        · refine stepB rfl rfl (by decide) (by rw [hz]; decide) rfl rfl (by kernel_rfl) St SG fun d a W hF hG hH hn hcl hw => ?_
          have q4 := (hF.same 4 (by decide)).trans e4
          refine ⟨.slice A pn pc, W, ?_, Below.refl _ _, ?_⟩
          · clear hF hG hH hn hcl hw
            generalize a.eval = ρ at *
            go_simp
          · rfl
        · refine stepB rfl rfl (by decide) (by rw [hz]; decide) rfl rfl (by kernel_rfl) St SG fun d a W hF hG hH hn hcl hw => ?_
          have q13 := (hF.same 13 (by decide)).trans e13
          refine ⟨.int .i64 (u1 : Int), W, ?_, Below.refl _ _, ?_⟩
          · clear hF hG hH hn hcl hw
            generalize a.eval = ρ at *
            go_simp
          · rfl
        · refine stepB rfl rfl (by decide) (by rw [hz]; decide) rfl rfl (by kernel_rfl) St SG fun d a W hF hG hH hn hcl hw => ?_
          have q60 : a.eval (.tmp 60) = .slice A pn pc := hH.at_ (i := 8) rfl (hw 8 rfl) id
          have q61 : a.eval (.tmp 61) = .int .i64 (u1 : Int) := hH.at_ (i := 9) rfl (hw 9 rfl) id
          refine ⟨.slice A2 (pn - u1) (pc - u1), W, ?_, Below.refl _ _, ?_⟩
          · exact HA2 W _ _ (.tmp 60, .tmp 61) rfl q60 q61
          · rfl
        · refine stepC rfl rfl (by decide) (by rw [hz]; decide) rfl rfl (by kernel_rfl) St SG fun d a W hF hG hH hn hcl hw => ?_
          have q52 : a.eval (.tmp 52) = wordsV := hH.at_ (i := 0) rfl (hw 0 rfl) id
          have q55 : a.eval (.tmp 55) = .int .i64 (n2 : Int) := hH.at_ (i := 3) rfl (hw 3 rfl) id
          have q58 : a.eval (.tmp 58) = .int .i64 (i - (H : Int)) := hH.at_ (i := 6) rfl (hw 6 rfl) id
          have q59 : a.eval (.tmp 59) = .slice K kn kc := hH.at_ (i := 7) rfl (hw 7 rfl) id
          have q62 : a.eval (.tmp 62) = .slice A2 (pn - u1) (pc - u1) := hH.at_ (i := 10) rfl (hw 10 rfl) id
          have qf : a.eval (.func 42) = .func (.func 42) #[] #[] := rfl
          refine ⟨42, #[wordsV, .int .i64 (n2 : Int), .int .i64 (i - (H : Int)), .slice K kn kc, .slice A2 (pn - u1) (pc - u1)], ?_, ?_⟩
          · clear hF hG hH hn hcl hw
            generalize a.eval = ρ at *
            go_simp
          · refine (P2.out W (hS2.next hG) (HC.out _ (hs2.next hG))).mono ?_; rintro e W' ⟨rfl, b⟩; exact ⟨_, rfl, b, rfl⟩
        · refine stepB rfl rfl (by decide) (by rw [hz]; decide) rfl rfl (by kernel_rfl) St SG fun d a W hF hG hH hn hcl hw => ?_
          have q63 : a.eval (.tmp 63) = foldV (x2, u2, ok2) := hH.at_ (i := 11) rfl (hw 11 rfl) id
          refine ⟨foldV (x2, u2, ok2), W, ?_, Below.refl _ _, ?_⟩
          · clear hF hG hH hn hcl hw
            generalize a.eval = ρ at *
            go_simp
          · rfl
        · refine stepB rfl rfl (by decide) (by rw [hz]; decide) rfl rfl (by kernel_rfl) St SG fun d a W hF hG hH hn hcl hw => ?_
          have q51 : a.eval (.tmp 51) = foldV (x2, u2, ok2) := hH.at_ (i := 12) rfl (hw 12 rfl) id
          refine ⟨hashV x2, W, ?_, Below.refl _ _, ?_⟩
          · clear hF hG hH hn hcl hw
            generalize a.eval = ρ at *
            go_simp
          · rfl
        · refine stepB rfl rfl (by decide) (by rw [hz]; decide) rfl rfl (by kernel_rfl) St SG fun d a W hF hG hH hn hcl hw => ?_
          have q51 : a.eval (.tmp 51) = foldV (x2, u2, ok2) := hH.at_ (i := 12) rfl (hw 12 rfl) id
          refine ⟨.int .i64 (u2 : Int), W, ?_, Below.refl _ _, ?_⟩
          · clear hF hG hH hn hcl hw
            generalize a.eval = ρ at *
            go_simp
          · rfl
        · refine stepB rfl rfl (by decide) (by rw [hz]; decide) rfl rfl (by kernel_rfl) St SG fun d a W hF hG hH hn hcl hw => ?_
          have q51 : a.eval (.tmp 51) = foldV (x2, u2, ok2) := hH.at_ (i := 12) rfl (hw 12 rfl) id
          refine ⟨.bool ok2, W, ?_, Below.refl _ _, ?_⟩
          · clear hF hG hH hn hcl hw
            generalize a.eval = ρ at *
            go_simp
          · rfl
        · refine stepB rfl rfl (by decide) (by rw [hz]; decide) rfl rfl (by kernel_rfl) St SG fun d a W hF hG hH hn hcl hw => ?_
          refine ⟨.pointer (some ⟨W.heap.size, 0, none⟩), W.alloc (.cells (ints .u8 (List.replicate 32 0)) 30), ?_, Below.new1 W _, ?_⟩
          · (clear hF hG hH hn hcl hw; generalize a.eval = ρ at *; go_simp; rfl)
          · exact ⟨_, rfl, hG.size, _, BoxA.new W _ _ _ _ rfl, by simp⟩
        · refine stepN 15 (.tmp 64) rfl rfl rfl rfl rfl x2 L2.out (w2.heap.size) (fun g W hg h => ⟨g, rfl, hg, h⟩) (AllC.mem ⟨.inr (.inr fun _ _ _ _ h => h), .inr (.inr fun _ _ _ _ h => h), .inr (.inr fun _ _ _ _ h => h), .inr (.inr fun _ _ _ _ h => h), .inr (.inr fun _ _ _ _ h => h), .inr (.inr fun _ _ _ _ h => h), .inr (.inr fun _ _ _ _ h => h), .inr (.inr fun _ _ _ _ h => h), .inr (.inr fun _ _ _ _ h => h), .inr (.inr fun _ _ _ _ h => h), .inr (.inr fun _ _ _ _ h => h), .inr (.inr fun _ _ _ _ h => h), .inr (.inr fun _ _ _ _ h => h), .inr (.inr fun _ _ _ _ h => h), .inr (.inr fun _ _ _ _ h => h), .inr (.inr fun _ _ _ _ h => h), .inr (.inl rfl), .inl rfl, .inr (.inr fun _ _ _ _ h => h), .inr (.inr fun _ _ _ _ h => h), trivial⟩) (fun d d' W g hg h _ => below_setRow h hg _) fun d a W hF hG hH hn hcl hw => ?_
          have qy : a.eval (.tmp 64) = hashV x2 := hH.at_ (i := 13) rfl (hw 13 rfl) id
          exact ⟨qy, hH.at_ (i := 16) rfl (hw 16 rfl) hn⟩
        · refine stepB rfl rfl (by decide) (by rw [hz]; decide) rfl rfl (by kernel_rfl) St SG fun d a W hF hG hH hn hcl hw => ?_
          have q65 : a.eval (.tmp 65) = .int .i64 (u2 : Int) := hH.at_ (i := 14) rfl (hw 14 rfl) id
          refine ⟨.int .i64 (u2 : Int), W, ?_, Below.refl _ _, ?_⟩
          · clear hF hG hH hn hcl hw
            generalize a.eval = ρ at *
            go_simp
          · rfl
        · refine stepB rfl rfl (by decide) (by rw [hz]; decide) rfl rfl (by kernel_rfl) St SG fun d a W hF hG hH hn hcl hw => ?_
          have q66 : a.eval (.tmp 66) = .bool ok2 := hH.at_ (i := 15) rfl (hw 15 rfl) id
          refine ⟨.bool ok2, W, ?_, Below.refl _ _, ?_⟩
          · clear hF hG hH hn hcl hw
            generalize a.eval = ρ at *
            go_simp
          · rfl
      · intro d a W ⟨hF, hB, hH⟩ hall
        have k16 : a.eval (.tmp 16) = .int .i64 (u2 : Int) := hH.at_ (i := 18) rfl (hall 18 (by decide)) id
        have k17 : a.eval (.tmp 17) = .bool ok2 := hH.at_ (i := 19) rfl (hall 19 (by decide)) id
        have s17 : ∃ g, a.eval (.tmp 15) = .pointer (some ⟨g, 0, none⟩) ∧ w2.heap.size ≤ g ∧ BoxH W g x2 := hH.at_ (i := 17) rfl (hall 17 (by decide)) id
        clear hH hall
        rw [hF.shape (by rw [hz]; decide)]
        clear hF
        simp only [List.foldl]
        generalize a.eval (.tmp 52) = z52 at *
        generalize a.eval (.tmp 53) = z53 at *
        generalize a.eval (.tmp 54) = z54 at *
        generalize a.eval (.tmp 55) = z55 at *
        generalize a.eval (.tmp 56) = z56 at *
        generalize a.eval (.tmp 57) = z57 at *
        generalize a.eval (.tmp 58) = z58 at *
        generalize a.eval (.tmp 59) = z59 at *
        generalize a.eval (.tmp 60) = z60 at *
        generalize a.eval (.tmp 61) = z61 at *
        generalize a.eval (.tmp 62) = z62 at *
        generalize a.eval (.tmp 63) = z63 at *
        generalize a.eval (.tmp 51) = z51 at *
        generalize a.eval (.tmp 64) = z64 at *
        generalize a.eval (.tmp 65) = z65 at *
        generalize a.eval (.tmp 66) = z66 at *
        generalize a.eval (.tmp 15) = z15 at *
        generalize a.eval (.tmp 16) = z16 at *
        generalize a.eval (.tmp 17) = z17 at *
        subst k16
        subst k17
        rw [HA0.out]
        simp only [Act.put, List.setIfInBounds_toArray, List.set_cons_zero, List.set_cons_succ]
        clear hz HA0 SG e1 e2 e3 e4 e5 e11 e13
        clear a a0
        obtain ⟨g15, rfl, hg, y15⟩ := s17
        have z5 : BoxW W w.heap.size := BoxA.next y5' hB
        have z12 : BoxH W g12 x1 := BoxA.next y12 hB
        have hS3 := hS2.next hB
        have hs3 := hs2.next hB
        have B3 := Below.on B2 hB
        clear y5' y12 B2 hS2 hs2 hB P2
        generalize W = w3 at *
        cases ok2
        · go_wp2_with (fail)
          all_goals go_ret
          all_goals exact ⟨_, rfl, OwnStrs.none _ _, B3⟩
        · go_upto_region 12 with (fail)
          refine wp_name fun a0 ha0 => ?_
          have e1 : a0.eval (.tmp 1) = .int .i64 (n : Int) := by rw [ha0]; rfl
          have e2 : a0.eval (.tmp 2) = .int .i64 i := by rw [ha0]; rfl
          have e3 : a0.eval (.tmp 3) = .slice K kn kc := by rw [ha0]; rfl
          have e4 : a0.eval (.tmp 4) = .slice A pn pc := by rw [ha0]; rfl
          have e5 : a0.eval (.tmp 5) = .pointer (some ⟨w.heap.size, 0, none⟩) := by rw [ha0]; rfl
          have e11 : a0.eval (.tmp 11) = .int .i64 (H : Int) := by rw [ha0]; rfl
          have e13 : a0.eval (.tmp 13) = .int .i64 (u1 : Int) := by rw [ha0]; rfl
          have hz : a0.tmps.size = 97 := by rw [ha0]; rfl
          have HA0 := Lib.hid ha0
          clear ha0
          have SG : ∀ (d d' : Nat → Prop) (W W' : World), (fun (_ : Nat → Prop) (W : World) => Below w3.heap.size w3 W) d W → (∀ j, d j → d' j) → Below W.heap.size W W' → (fun (_ : Nat → Prop) (W : World) => Below w3.heap.size w3 W) d' W' := fun _ _ _ _ h _ b => Below.next h b
          refine wp_region_lastly2 18 _ _ (Inv [69, 70, 71, 72, 73, 74, 75, 76, 77, 78, 79, 80, 81, 82, 83, 84, 85, 86] a0 (fun (_ : Nat → Prop) (W : World) => Below w3.heap.size w3 W) [(⟨some 0, 69, none, fun v _ => v = wordsV⟩ : Cl), ⟨some 1, 70, none, fun v _ => v = .int .i64 (H : Int)⟩, ⟨some 2, 71, none, fun v _ => v = .int .i64 i⟩, ⟨some 3, 72, none, fun v _ => v = .slice K kn kc⟩, ⟨some 4, 73, none, fun v _ => v = .slice A pn pc⟩, ⟨some 5, 74, none, fun v W => OwnStrs W w3.heap.size v T1⟩, ⟨some 6, 75, none, fun v _ => v = wordsV⟩, ⟨some 7, 76, none, fun v _ => v = .int .i64 (n : Int)⟩, ⟨some 8, 77, none, fun v _ => v = .int .i64 (H : Int)⟩, ⟨some 9, 78, none, fun v _ => v = .int .i64 (n2 : Int)⟩, ⟨some 10, 79, none, fun v _ => v = .int .i64 i⟩, ⟨some 11, 80, none, fun v _ => v = .int .i64 (H : Int)⟩, ⟨some 12, 81, none, fun v _ => v = .int .i64 (i - (H : Int))⟩, ⟨some 13, 82, none, fun v _ => v = .slice K kn kc⟩, ⟨some 14, 83, none, fun v _ => v = .slice A pn pc⟩, ⟨some 15, 84, none, fun v _ => v = .int .i64 (u1 : Int)⟩, ⟨some 16, 85, none, fun v _ => v = .slice A2 (pn - u1) (pc - u1)⟩, ⟨some 17, 86, none, fun v W => OwnStrs W w3.heap.size v T2⟩]) (by kernel_rfl) (by kernel_rfl) rfl rfl rfl (fun d hcl hw j hj => ?_) (by kernel_rfl) rfl rfl (Inv.start (Below.refl _ _).drew ⟨nofun, nofun, nofun, nofun, nofun, nofun, nofun, nofun, nofun, nofun, nofun, nofun, nofun, nofun, nofun, nofun, nofun, nofun, trivial⟩) ?_ ?_
          · have r5 := hw 5 rfl
            have r17 := hw 17 rfl
            have r6 := hcl 17 _ 6 rfl rfl r17
            have r9 := hcl 17 _ 9 rfl rfl r17
            have r12 := hcl 17 _ 12 rfl rfl r17
            have r13 := hcl 17 _ 13 rfl rfl r17
            have r16 := hcl 17 _ 16 rfl rfl r17
            have r14 := hcl 16 _ 14 rfl rfl r16
            have r15 := hcl 16 _ 15 rfl rfl r16
            have r10 := hcl 12 _ 10 rfl rfl r12
            have r11 := hcl 12 _ 11 rfl rfl r12
            have r7 := hcl 9 _ 7 rfl rfl r9
            have r8 := hcl 9 _ 8 rfl rfl r9
            have r0 := hcl 5 _ 0 rfl rfl r5
            have r1 := hcl 5 _ 1 rfl rfl r5
            have r2 := hcl 5 _ 2 rfl rfl r5
            have r3 := hcl 5 _ 3 rfl rfl r5
            have r4 := hcl 5 _ 4 rfl rfl r5
            match j, hj with
            | 0, _ => exact r0
            | 1, _ => exact r1
            | 2, _ => exact r2
            | 3, _ => exact r3
            | 4, _ => exact r4
            | 5, _ => exact r5
            | 6, _ => exact r6
            | 7, _ => exact r7
            | 8, _ => exact r8
            | 9, _ => exact r9
            | 10, _ => exact r10
            | 11, _ => exact r11
            | 12, _ => exact r12
            | 13, _ => exact r13
            | 14, _ => exact r14
            | 15, _ => exact r15
            | 16, _ => exact r16
            | 17, _ => exact r17
            | j + 18, h => exact absurd h (by omega)
          · have St : ∀ xc ∈ [(⟨some 0, 69, none, fun v _ => v = wordsV⟩ : Cl), ⟨some 1, 70, none, fun v _ => v = .int .i64 (H : Int)⟩, ⟨some 2, 71, none, fun v _ => v = .int .i64 i⟩, ⟨some 3, 72, none, fun v _ => v = .slice K kn kc⟩, ⟨some 4, 73, none, fun v _ => v = .slice A pn pc⟩, ⟨some 5, 74, none, fun v W => OwnStrs W w3.heap.size v T1⟩, ⟨some 6, 75, none, fun v _ => v = wordsV⟩, ⟨some 7, 76, none, fun v _ => v = .int .i64 (n : Int)⟩, ⟨some 8, 77, none, fun v _ => v = .int .i64 (H : Int)⟩, ⟨some 9, 78, none, fun v _ => v = .int .i64 (n2 : Int)⟩, ⟨some 10, 79, none, fun v _ => v = .int .i64 i⟩, ⟨some 11, 80, none, fun v _ => v = .int .i64 (H : Int)⟩, ⟨some 12, 81, none, fun v _ => v = .int .i64 (i - (H : Int))⟩, ⟨some 13, 82, none, fun v _ => v = .slice K kn kc⟩, ⟨some 14, 83, none, fun v _ => v = .slice A pn pc⟩, ⟨some 15, 84, none, fun v _ => v = .int .i64 (u1 : Int)⟩, ⟨some 16, 85, none, fun v _ => v = .slice A2 (pn - u1) (pc - u1)⟩, ⟨some 17, 86, none, fun v W => OwnStrs W w3.heap.size v T2⟩], Lasts xc := AllC.mem ⟨lastsV0 _ _ _ _, lastsV0 _ _ _ _, lastsV0 _ _ _ _, lastsV0 _ _ _ _, lastsV0 _ _ _ _, (fun _ _ _ h b => h.next b), lastsV0 _ _ _ _, lastsV0 _ _ _ _, lastsV0 _ _ _ _, lastsV0 _ _ _ _, lastsV0 _ _ _ _, lastsV0 _ _ _ _, lastsV0 _ _ _ _, lastsV0 _ _ _ _, lastsV0 _ _ _ _, lastsV0 _ _ _ _, lastsV0 _ _ _ _, (fun _ _ _ h b => h.next b), trivial⟩
            clear HA0
            refine ⟨?_, ?_, ?_, ?_, ?_, ?_, ?_, ?_, ?_, ?_, ?_, ?_, ?_, ?_, ?_, ?_, ?_, ?_, trivial⟩
            · refine stepB rfl rfl (by decide) (by rw [hz]; decide) rfl rfl (by kernel_rfl) St SG fun d a W hF hG hH hn hcl hw => ?_
              have q5 := (hF.same 5 (by decide)).trans e5
              refine ⟨wordsV, W, ?_, Below.refl _ _, ?_⟩
              · exact exec_load rfl (by rw [q5]; exact BoxW.load (BoxA.next z5 hG))
              · rfl
            · refine stepB rfl rfl (by decide) (by rw [hz]; decide) rfl rfl (by kernel_rfl) St SG fun d a W hF hG hH hn hcl hw => ?_
              have q11 := (hF.same 11 (by decide)).trans e11
              refine ⟨.int .i64 (H : Int), W, ?_, Below.refl _ _, ?_⟩
              · clear hF hG hH hn hcl hw
                generalize a.eval = ρ at *
                go_simp
              · rfl
            · refine stepB rfl rfl (by decide) (by rw [hz]; decide) rfl rfl (by kernel_rfl) St SG fun d a W hF hG hH hn hcl hw => ?_
              have q2 := (hF.same 2 (by decide)).trans e2
              refine ⟨.int .i64 i, W, ?_, Below.refl _ _, ?_⟩
              · clear hF hG hH hn hcl hw
                generalize a.eval = ρ at *
                go_simp
              · rfl
            · refine stepB rfl rfl (by decide) (by rw [hz]; decide) rfl rfl (by kernel_rfl) St SG fun d a W hF hG hH hn hcl hw => ?_
              have q3 := (hF.same 3 (by decide)).trans e3
              refine ⟨.slice K kn kc, W, ?_, Below.refl _ _, ?_⟩
              · clear hF hG hH hn hcl hw
                generalize a.eval = ρ at *
                go_simp
              · rfl
            · refine stepB rfl rfl (by decide) (by rw [hz]; decide) rfl rfl (by kernel_rfl) St SG fun d a W hF hG hH hn hcl hw => ?_
              have q4 := (hF.same 4 (by decide)).trans e4
              refine ⟨.slice A pn pc, W, ?_, Below.refl _ _, ?_⟩
              · clear hF hG hH hn hcl hw
                generalize a.eval = ρ at *
                go_simp
              · rfl
            · refine stepC rfl rfl (by decide) (by rw [hz]; decide) rfl rfl (by kernel_rfl) St SG fun d a W hF hG hH hn hcl hw => ?_
              have q69 : a.eval (.tmp 69) = wordsV := hH.at_ (i := 0) rfl (hw 0 rfl) id
              have q70 : a.eval (.tmp 70) = .int .i64 (H : Int) := hH.at_ (i := 1) rfl (hw 1 rfl) id
              have q71 : a.eval (.tmp 71) = .int .i64 i := hH.at_ (i := 2) rfl (hw 2 rfl) id
              have q72 : a.eval (.tmp 72) = .slice K kn kc := hH.at_ (i := 3) rfl (hw 3 rfl) id
              have q73 : a.eval (.tmp 73) = .slice A pn pc := hH.at_ (i := 4) rfl (hw 4 rfl) id
              have qf : a.eval (.func 45) = .func (.func 45) #[] #[] := rfl
              refine ⟨45, #[wordsV, .int .i64 (H : Int), .int .i64 i, .slice K kn kc, .slice A pn pc], ?_, ?_⟩
              · clear hF hG hH hn hcl hw
                generalize a.eval = ρ at *
                go_simp
              · refine (F1.out W (hS3.next hG) (hs3.next hG)).mono ?_; rintro e W' ⟨v, rfl, hO, b⟩; exact ⟨v, rfl, b, hO.mono (by have := hG.size; omega)⟩
            · refine stepB rfl rfl (by decide) (by rw [hz]; decide) rfl rfl (by kernel_rfl) St SG fun d a W hF hG hH hn hcl hw => ?_
              have q5 := (hF.same 5 (by decide)).trans e5
              refine ⟨wordsV, W, ?_, Below.refl _ _, ?_⟩
              · exact exec_load rfl (by rw [q5]; exact BoxW.load (BoxA.next z5 hG))
              · rfl
            · refine stepB rfl rfl (by decide) (by rw [hz]; decide) rfl rfl (by kernel_rfl) St SG fun d a W hF hG hH hn hcl hw => ?_
              have q1 := (hF.same 1 (by decide)).trans e1
              refine ⟨.int .i64 (n : Int), W, ?_, Below.refl _ _, ?_⟩
              · clear hF hG hH hn hcl hw
                generalize a.eval = ρ at *
                go_simp
              · rfl
            · refine stepB rfl rfl (by decide) (by rw [hz]; decide) rfl rfl (by kernel_rfl) St SG fun d a W hF hG hH hn hcl hw => ?_
              have q11 := (hF.same 11 (by decide)).trans e11
              refine ⟨.int .i64 (H : Int), W, ?_, Below.refl _ _, ?_⟩
              · clear hF hG hH hn hcl hw
                generalize a.eval = ρ at *
                go_simp
              · rfl
            · refine stepB rfl rfl (by decide) (by rw [hz]; decide) rfl rfl (by kernel_rfl) St SG fun d a W hF hG hH hn hcl hw => ?_
              have q76 : a.eval (.tmp 76) = .int .i64 (n : Int) := hH.at_ (i := 7) rfl (hw 7 rfl) id
              have q77 : a.eval (.tmp 77) = .int .i64 (H : Int) := hH.at_ (i := 8) rfl (hw 8 rfl) id
              have c := M1.out
              refine ⟨.int .i64 (n2 : Int), W, ?_, Below.refl _ _, ?_⟩
              · clear hF hG hH hn hcl hw
                generalize a.eval = ρ at *
                go_simp
              · rfl
            · refine stepB rfl rfl (by decide) (by rw [hz]; decide) rfl rfl (by kernel_rfl) St SG fun d a W hF hG hH hn hcl hw => ?_
              have q2 := (hF.same 2 (by decide)).trans e2
              refine ⟨.int .i64 i, W, ?_, Below.refl _ _, ?_⟩
              · clear hF hG hH hn hcl hw
                generalize a.eval = ρ at *
                go_simp
              · rfl
            · refine stepB rfl rfl (by decide) (by rw [hz]; decide) rfl rfl (by kernel_rfl) St SG fun d a W hF hG hH hn hcl hw => ?_
              have q11 := (hF.same 11 (by decide)).trans e11
              refine ⟨.int .i64 (H : Int), W, ?_, Below.refl _ _, ?_⟩
              · clear hF hG hH hn hcl hw
                generalize a.eval = ρ at *
                go_simp
              · rfl
            · refine stepB rfl rfl (by decide) (by rw [hz]; decide) rfl rfl (by kernel_rfl) St SG fun d a W hF hG hH hn hcl hw => ?_
              have q79 : a.eval (.tmp 79) = .int .i64 i := hH.at_ (i := 10) rfl (hw 10 rfl) id
              have q80 : a.eval (.tmp 80) = .int .i64 (H : Int) := hH.at_ (i := 11) rfl (hw 11 rfl) id
              have c := M2.out
              refine ⟨.int .i64 (i - (H : Int)), W, ?_, Below.refl _ _, ?_⟩
              · clear hF hG hH hn hcl hw
                generalize a.eval = ρ at *
                go_simp
              · rfl
            · refine stepB rfl rfl (by decide) (by rw [hz]; decide) rfl rfl (by kernel_rfl) St SG fun d a W hF hG hH hn hcl hw => ?_
              have q3 := (hF.same 3 (by decide)).trans e3
              refine ⟨.slice K kn kc, W, ?_, Below.refl _ _, ?_⟩
              · clear hF hG hH hn hcl hw
                generalize a.eval = ρ at *
                go_simp
              · rfl
            · refine stepB rfl rfl (by decide) (by rw [hz]; decide) rfl rfl (by kernel_rfl) St SG fun d a W hF hG hH hn hcl hw => ?_
              have q4 := (hF.same 4 (by decide)).trans e4
              refine ⟨.slice A pn pc, W, ?_, Below.refl _ _, ?_⟩
              · clear hF hG hH hn hcl hw
                generalize a.eval = ρ at *
                go_simp
              · rfl
            · refine stepB rfl rfl (by decide) (by rw [hz]; decide) rfl rfl (by kernel_rfl) St SG fun d a W hF hG hH hn hcl hw => ?_
              have q13 := (hF.same 13 (by decide)).trans e13
              refine ⟨.int .i64 (u1 : Int), W, ?_, Below.refl _ _, ?_⟩
              · clear hF hG hH hn hcl hw
                generalize a.eval = ρ at *
                go_simp
              · rfl
            · refine stepB rfl rfl (by decide) (by rw [hz]; decide) rfl rfl (by kernel_rfl) St SG fun d a W hF hG hH hn hcl hw => ?_
              have q83 : a.eval (.tmp 83) = .slice A pn pc := hH.at_ (i := 14) rfl (hw 14 rfl) id
              have q84 : a.eval (.tmp 84) = .int .i64 (u1 : Int) := hH.at_ (i := 15) rfl (hw 15 rfl) id
              refine ⟨.slice A2 (pn - u1) (pc - u1), W, ?_, Below.refl _ _, ?_⟩
              · exact HA2 W _ _ (.tmp 83, .tmp 84) rfl q83 q84
              · rfl
            · refine stepC rfl rfl (by decide) (by rw [hz]; decide) rfl rfl (by kernel_rfl) St SG fun d a W hF hG hH hn hcl hw => ?_
              have q75 : a.eval (.tmp 75) = wordsV := hH.at_ (i := 6) rfl (hw 6 rfl) id
              have q78 : a.eval (.tmp 78) = .int .i64 (n2 : Int) := hH.at_ (i := 9) rfl (hw 9 rfl) id
              have q81 : a.eval (.tmp 81) = .int .i64 (i - (H : Int)) := hH.at_ (i := 12) rfl (hw 12 rfl) id
              have q82 : a.eval (.tmp 82) = .slice K kn kc := hH.at_ (i := 13) rfl (hw 13 rfl) id
              have q85 : a.eval (.tmp 85) = .slice A2 (pn - u1) (pc - u1) := hH.at_ (i := 16) rfl (hw 16 rfl) id
              have qf : a.eval (.func 45) = .func (.func 45) #[] #[] := rfl
              refine ⟨45, #[wordsV, .int .i64 (n2 : Int), .int .i64 (i - (H : Int)), .slice K kn kc, .slice A2 (pn - u1) (pc - u1)], ?_, ?_⟩
              · clear hF hG hH hn hcl hw
                generalize a.eval = ρ at *
                go_simp
              · refine (F2.out W (hS3.next hG) (HC.out _ (hs3.next hG))).mono ?_; rintro e W' ⟨v, rfl, hO, b⟩; exact ⟨v, rfl, b, hO.mono (by have := hG.size; omega)⟩
          · intro d a W ⟨hF, hB, hH⟩ hall
            have k74 : OwnStrs W w3.heap.size (a.eval (.tmp 74)) T1 := hH.at_ (i := 5) rfl (hall 5 (by decide)) id
            have k86 : OwnStrs W w3.heap.size (a.eval (.tmp 86)) T2 := hH.at_ (i := 17) rfl (hall 17 (by decide)) id
            clear hH hall
            rw [hF.shape (by rw [hz]; decide)]
            clear hF
            simp only [List.foldl]
            generalize a.eval (.tmp 69) = z69 at *
            generalize a.eval (.tmp 70) = z70 at *
            generalize a.eval (.tmp 71) = z71 at *
            generalize a.eval (.tmp 72) = z72 at *
            generalize a.eval (.tmp 73) = z73 at *
            generalize a.eval (.tmp 74) = z74 at *
            generalize a.eval (.tmp 75) = z75 at *
            generalize a.eval (.tmp 76) = z76 at *
            generalize a.eval (.tmp 77) = z77 at *
            generalize a.eval (.tmp 78) = z78 at *
            generalize a.eval (.tmp 79) = z79 at *
            generalize a.eval (.tmp 80) = z80 at *
            generalize a.eval (.tmp 81) = z81 at *
            generalize a.eval (.tmp 82) = z82 at *
            generalize a.eval (.tmp 83) = z83 at *
            generalize a.eval (.tmp 84) = z84 at *
            generalize a.eval (.tmp 85) = z85 at *
            generalize a.eval (.tmp 86) = z86 at *
            rw [HA0.out]
            simp only [Act.put, List.setIfInBounds_toArray, List.set_cons_zero, List.set_cons_succ]
            clear hz HA0 SG e1 e2 e3 e4 e5 e11 e13
            clear a a0
            refine wp_append_strs (.tmp 74) (.tmp 86) rfl w3.heap.size w3.heap.size _ _ T1 T2 rfl rfl k74 k86 q1 q2 hB.size (fun z18 w4 hO b4 => ?_)
            refine wp_yields (v := z18) (by rfl) ?_
            dsimp only [Act.put]
            have B4 := hB.trans b4
            have BB4 := Below.on B3 B4
            have y12' : BoxH w4 g12 x1 := BoxA.next z12 B4
            have y15' : BoxH w4 g15 x2 := BoxA.next y15 B4
            have bs := B3.size
            clear k74 k86 hB b4 z5 hS3 hs3 F1 F2 z12 y15
            go_upto_region 13 with (fail)
            refine wp_name fun a0 ha0 => ?_
            have e12 : a0.eval (.tmp 12) = .pointer (some ⟨g12, 0, none⟩) := by rw [ha0]; rfl
            have e15 : a0.eval (.tmp 15) = .pointer (some ⟨g15, 0, none⟩) := by rw [ha0]; rfl
            have e18 : a0.eval (.tmp 18) = z18 := by rw [ha0]; rfl
            have hz : a0.tmps.size = 97 := by rw [ha0]; rfl
            have HA0 := Lib.hid ha0
            clear ha0
            have SG : ∀ (d d' : Nat → Prop) (W W' : World), (fun (_ : Nat → Prop) (W : World) => Below w4.heap.size w4 W) d W → (∀ j, d j → d' j) → Below W.heap.size W W' → (fun (_ : Nat → Prop) (W : World) => Below w4.heap.size w4 W) d' W' := fun _ _ _ _ h _ b => Below.next h b
            refine wp_region_lastly2 8 _ _ (Inv [88, 89, 90, 91, 92, 93, 94, 95] a0 (fun (_ : Nat → Prop) (W : World) => Below w4.heap.size w4 W) [(⟨some 0, 88, none, fun v _ => v = z18⟩ : Cl), ⟨some 1, 89, none, fun v _ => v = .slice (some ⟨g12, 0, none⟩) 32 32⟩, ⟨some 2, 90, none, fun v _ => v = .string ⟨x1.toArray⟩⟩, ⟨some 3, 91, none, fun v _ => v = .string ⟨(1 :: x1).toArray⟩⟩, ⟨some 4, 92, none, fun v _ => v = .slice (some ⟨g15, 0, none⟩) 32 32⟩, ⟨some 5, 93, none, fun v _ => v = .string ⟨x2.toArray⟩⟩, ⟨some 6, 94, none, fun v _ => v = .string ⟨(1 :: (x1 ++ x2)).toArray⟩⟩, ⟨some 7, 95, none, fun v W => OwnStrs W w4.heap.size v [1 :: (x1 ++ x2)]⟩]) (by kernel_rfl) (by kernel_rfl) rfl rfl rfl (fun d hcl hw j hj => ?_) (by kernel_rfl) rfl rfl (Inv.start (Below.refl _ _).drew ⟨nofun, nofun, nofun, nofun, nofun, nofun, nofun, nofun, trivial⟩) ?_ ?_
            · have r0 := hw 0 rfl
              have r7 := hw 7 rfl
              have r6 := hcl 7 _ 6 rfl rfl r7
              have r3 := hcl 6 _ 3 rfl rfl r6
              have r5 := hcl 6 _ 5 rfl rfl r6
              have r4 := hcl 5 _ 4 rfl rfl r5
              have r2 := hcl 3 _ 2 rfl rfl r3
              have r1 := hcl 2 _ 1 rfl rfl r2
              match j, hj with
              | 0, _ => exact r0
              | 1, _ => exact r1
              | 2, _ => exact r2
              | 3, _ => exact r3
              | 4, _ => exact r4
              | 5, _ => exact r5
              | 6, _ => exact r6
              | 7, _ => exact r7
              | j + 8, h => exact absurd h (by omega)
            · have St : ∀ xc ∈ [(⟨some 0, 88, none, fun v _ => v = z18⟩ : Cl), ⟨some 1, 89, none, fun v _ => v = .slice (some ⟨g12, 0, none⟩) 32 32⟩, ⟨some 2, 90, none, fun v _ => v = .string ⟨x1.toArray⟩⟩, ⟨some 3, 91, none, fun v _ => v = .string ⟨(1 :: x1).toArray⟩⟩, ⟨some 4, 92, none, fun v _ => v = .slice (some ⟨g15, 0, none⟩) 32 32⟩, ⟨some 5, 93, none, fun v _ => v = .string ⟨x2.toArray⟩⟩, ⟨some 6, 94, none, fun v _ => v = .string ⟨(1 :: (x1 ++ x2)).toArray⟩⟩, ⟨some 7, 95, none, fun v W => OwnStrs W w4.heap.size v [1 :: (x1 ++ x2)]⟩], Lasts xc := AllC.mem ⟨lastsV0 _ _ _ _, lastsV0 _ _ _ _, lastsV0 _ _ _ _, lastsV0 _ _ _ _, lastsV0 _ _ _ _, lastsV0 _ _ _ _, lastsV0 _ _ _ _, (fun _ _ _ h b => h.next b), trivial⟩
              clear HA0
              refine ⟨?_, ?_, ?_, ?_, ?_, ?_, ?_, ?_, trivial⟩
              · refine stepB rfl rfl (by decide) (by rw [hz]; decide) rfl rfl (by kernel_rfl) St SG fun d a W hF hG hH hn hcl hw => ?_
                have q18 := (hF.same 18 (by decide)).trans e18
                refine ⟨z18, W, ?_, Below.refl _ _, ?_⟩
                · clear hF hG hH hn hcl hw
                  generalize a.eval = ρ at *
                  go_simp
                · rfl
              · refine stepB rfl rfl (by decide) (by rw [hz]; decide) rfl rfl (by kernel_rfl) St SG fun d a W hF hG hH hn hcl hw => ?_
                have q12 := (hF.same 12 (by decide)).trans e12
                refine ⟨.slice (some ⟨g12, 0, none⟩) 32 32, W, ?_, Below.refl _ _, ?_⟩
                · clear hF hG hH hn hcl hw
                  generalize a.eval = ρ at *
                  go_simp
                · rfl
              · refine stepB rfl rfl (by decide) (by rw [hz]; decide) rfl rfl (by kernel_rfl) St SG fun d a W hF hG hH hn hcl hw => ?_
                have q89 : a.eval (.tmp 89) = .slice (some ⟨g12, 0, none⟩) 32 32 := hH.at_ (i := 1) rfl (hw 1 rfl) id
                have r := BoxH.text (BoxA.next y12' hG) L1.out 32
                refine ⟨.string ⟨x1.toArray⟩, W, ?_, Below.refl _ _, ?_⟩
                · clear hF hG hH hn hcl hw
                  generalize a.eval = ρ at *
                  go_simp
                · rfl
              · refine stepB rfl rfl (by decide) (by rw [hz]; decide) rfl rfl (by kernel_rfl) St SG fun d a W hF hG hH hn hcl hw => ?_
                have q90 : a.eval (.tmp 90) = .string ⟨x1.toArray⟩ := hH.at_ (i := 2) rfl (hw 2 rfl) id
                have r := HB1.out W
                have qs : a.eval (.const (.string ⟨#[1]⟩)) = .string ⟨#[1]⟩ := rfl
                refine ⟨.string ⟨(1 :: x1).toArray⟩, W, ?_, Below.refl _ _, ?_⟩
                · clear hF hG hH hn hcl hw
                  generalize a.eval = ρ at *
                  go_simp
                · rfl
              · refine stepB rfl rfl (by decide) (by rw [hz]; decide) rfl rfl (by kernel_rfl) St SG fun d a W hF hG hH hn hcl hw => ?_
                have q15 := (hF.same 15 (by decide)).trans e15
                refine ⟨.slice (some ⟨g15, 0, none⟩) 32 32, W, ?_, Below.refl _ _, ?_⟩
                · clear hF hG hH hn hcl hw
                  generalize a.eval = ρ at *
                  go_simp
                · rfl
              · refine stepB rfl rfl (by decide) (by rw [hz]; decide) rfl rfl (by kernel_rfl) St SG fun d a W hF hG hH hn hcl hw => ?_
                have q92 : a.eval (.tmp 92) = .slice (some ⟨g15, 0, none⟩) 32 32 := hH.at_ (i := 4) rfl (hw 4 rfl) id
                have r := BoxH.text (BoxA.next y15' hG) L2.out 32
                refine ⟨.string ⟨x2.toArray⟩, W, ?_, Below.refl _ _, ?_⟩
                · clear hF hG hH hn hcl hw
                  generalize a.eval = ρ at *
                  go_simp
                · rfl
              · refine stepB rfl rfl (by decide) (by rw [hz]; decide) rfl rfl (by kernel_rfl) St SG fun d a W hF hG hH hn hcl hw => ?_
                have q91 : a.eval (.tmp 91) = .string ⟨(1 :: x1).toArray⟩ := hH.at_ (i := 3) rfl (hw 3 rfl) id
                have q93 : a.eval (.tmp 93) = .string ⟨x2.toArray⟩ := hH.at_ (i := 5) rfl (hw 5 rfl) id
                have r := HB2.out W
                refine ⟨.string ⟨(1 :: (x1 ++ x2)).toArray⟩, W, ?_, Below.refl _ _, ?_⟩
                · clear hF hG hH hn hcl hw
                  generalize a.eval = ρ at *
                  go_simp
                · rfl
              · refine stepB rfl rfl (by decide) (by rw [hz]; decide) rfl rfl (by kernel_rfl) St SG fun d a W hF hG hH hn hcl hw => ?_
                have q94 : a.eval (.tmp 94) = .string ⟨(1 :: (x1 ++ x2)).toArray⟩ := hH.at_ (i := 6) rfl (hw 6 rfl) id
                refine ⟨.slice (some ⟨W.heap.size, 0, none⟩) 1 1, W.alloc (.cells #[.string ⟨(1 :: (x1 ++ x2)).toArray⟩] 9), ?_, Below.new1 W _, ?_⟩
                · clear hF hG hH hn hcl hw
                  generalize a.eval = ρ at *
                  go_simp
                · exact OwnStrs.one W _ _ hG.size
            · intro d a W ⟨hF, hB, hH⟩ hall
              have k88 : a.eval (.tmp 88) = z18 := hH.at_ (i := 0) rfl (hall 0 (by decide)) id
              have k95 : OwnStrs W w4.heap.size (a.eval (.tmp 95)) [1 :: (x1 ++ x2)] := hH.at_ (i := 7) rfl (hall 7 (by decide)) id
              clear hH hall
              rw [hF.shape (by rw [hz]; decide)]
              clear hF
              simp only [List.foldl]
              generalize a.eval (.tmp 88) = z88 at *
              generalize a.eval (.tmp 89) = z89 at *
              generalize a.eval (.tmp 90) = z90 at *
              generalize a.eval (.tmp 91) = z91 at *
              generalize a.eval (.tmp 92) = z92 at *
              generalize a.eval (.tmp 93) = z93 at *
              generalize a.eval (.tmp 94) = z94 at *
              generalize a.eval (.tmp 95) = z95 at *
              subst k88
              rw [HA0.out]
              simp only [Act.put, List.setIfInBounds_toArray, List.set_cons_zero, List.set_cons_succ]
              clear hz HA0 SG e12 e15 e18
              clear a a0
              refine wp_append_strs (.tmp 88) (.tmp 95) rfl w3.heap.size w4.heap.size _ _ (T1 ++ T2) [1 :: (x1 ++ x2)] rfl rfl (hO.next hB) k95 q3 (by simp) (by have := hB.size; have := B4.size; omega) (fun z10 w6 hO5 b5 => ?_)
              refine wp_yields (v := z10) (by rfl) ?_
              dsimp only [Act.put]
              go_wp2_with (fail)
              all_goals go_ret
              all_goals rw [List.append_assoc] at hO5
              all_goals exact ⟨z10, rfl, hO5.mono bs, (Below.on BB4 hB).trans (b5.mono bs)⟩
theorem ft_le (q : Nat) : FtOk q := by
  induction q with
  | zero => intro n i inside path K A kn kc pn pc w hq h1; omega
  | succ q ih =>
    intro n i inside path K A kn kc pn pc w hq h1 h2 i0 i1 hkn hkc hk3 hpn hpc hp5 hin hS hs
    by_cases c : i + kn ≤ 0 ∨ (n : Int) ≤ i ∨ kn = 0
    · exact ft_out n i inside path K A kn kc pn pc w h1 h2 (by omega) i1 hkn hkc hk3 hpn hpc hp5 hin hS hs c
    · by_cases e : n = 1
      · subst e; exact ft_one i inside path K A kn kc pn pc w (by omega) i1 hkn hkc hk3 hpn hpc hp5 hin hS hs c
      · exact ft_two q ih n i inside path K A kn kc pn pc w hq (by omega) h2 i0 i1 hkn hkc hk3 hpn hpc hp5 hin hS hs c
theorem rftexts_any (n : Nat) (i : Int) (inside path : List Bs) (K A : Option Addr) (kn kc pn pc : Nat) (w : World) (h1 : 1 ≤ n) (h2 : n ≤ 5000) (i0 : -10000 ≤ i + n) (i1 : i ≤ 5000) (hkn : inside.length = kn) (hkc : kn ≤ kc) (hk3 : kn ≤ 5000) (hpn : path.length = pn) (hpc : pn ≤ pc) (hp5 : pn ≤ 5000) (hin : ∀ s ∈ inside, s.length ≤ 90000) (hS : Strs w K inside) (hs : Hs w A path) :
    Calls Tryd.prog 45 #[wordsV, .int .i64 n, .int .i64 i, .slice K kn kc, .slice A pn pc] w fun e w' => ∃ v, e = .returned v ∧ OwnStrs w' w.heap.size v (foldT sha n i inside path) ∧ Below w.heap.size w w' := ft_le n n i inside path K A kn kc pn pc w (Nat.le_refl _) h1 h2 i0 i1 hkn hkc hk3 hpn hpc hp5 hin hS hs
end Go.Proofs.YtcocengpekndjaaDoor
