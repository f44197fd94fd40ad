/- The journal layer: the walk over Crash of the reference. -/
import Derived.Test.YtkljfampkkfgdaaJRefW
namespace Go.Proofs.Ytkljfampkkfgdaa
open Go.RowKit
theorem crashK_skip {keep : List Int} {S : List Sec} {k : Nat} {t : Sec} (h : S[k]? = some t) (hp : t.pend = []) : crashK keep S (k + 1) = crashK keep S k := by
  rw [← crashK_succ h, show crash1 keep (cntS (S.take k)) t = t from by unfold crash1; rw [if_pos hp]]
  have hg := crashK_get (keep := keep) h
  apply List.ext_getElem?
  intro j
  rw [List.getElem?_set]
  split
  · rename_i e
    subst e
    rw [if_pos (List.getElem?_eq_some_iff.1 hg).1, hg]
  · rfl
theorem TwoB.reset {W w : World} {s : Nat} {A B : Option Addr} {n c m d : Nat} {o o' : Bool} {f f' : Int} (h : TwoB W w s A B n c m d o o' f f') (p : Bool) (g' : Int) : TwoB W ((w.setCell ⟨s, 1, none⟩ (.bool p)).setCell ⟨s, 2, none⟩ (.int .i64 g')) s A B n c m d p o' g' f' := by
  have hne : s + 1 ≠ s := by omega
  refine ⟨?_, ((Below.heap_setCell _ _ _ _ hne).trans (Below.heap_setCell _ _ _ _ hne)).trans h.b1, h.size, (h.below.setCell (p := ⟨s, 1, none⟩) h.size _).setCell (p := ⟨s, 2, none⟩) h.size _⟩
  have := h.b0
  simp [World.setCell, Array.getElem?_modify, this]
set_option maxRecDepth 100000 in
set_option maxHeartbeats 4000000 in
theorem rcrash_go (W : World) (n c : Nat) (A : Option Addr) (off : Bool) (f : Int) (l : List (Bs × Value)) (S : List Sec) (hn : n = S.length) (hO : OwnRB W 0 (.slice A n c) l) (hS : Stand W l S) (hpos : 0 < n) (hl : n ≤ 4096) (hfe : ∀ s ∈ S, s.pend.length ≤ 1000) (KA : Option Addr) (kn kc : Nat) (keep : List Int) (hkn : keep.length = kn) (hK : KeepOk W KA kc keep) :
    Calls Try.prog 29 #[dkV A n c off f, .slice KA kn kc] W fun e w' => ∃ A' c' l', e = .returned (dkV A' n c' false (-1)) ∧ OwnRB w' 0 (.slice A' n c') l' ∧ Stand w' l' (crashS keep 0 S) ∧ Below W.heap.size W w' ∧ RefTo W.heap.size 0 A A' l l' := by
  obtain ⟨w1, hw1⟩ : ∃ w1, (W.alloc (.cells #[.slice A n c, .bool off, .int .i64 f] 46)).alloc (.cells #[.slice none 0 0, .bool false, .int .i64 0] 46) = w1 := ⟨_, rfl⟩
  have T1 := TwoB.new W A n c off f
  rw [hw1] at T1
  have HT1 := Lib.hid T1
  have HO := Lib.hid hO
  have HS := Lib.hid hS
  have HN := Lib.hid hn
  have HFE := Lib.hid hfe
  have HPOS := Lib.hid hpos
  have HL := Lib.hid hl
  have HKN := Lib.hid hkn
  have HKO := Lib.hid hK
  clear T1 hO hS hn hfe hpos hl hkn hK
  go_enter Try.func29, Try.ntmps29
  go_wp2_with (fail)
  go_loopw [5, 6, 7, 8] (fun at_ i _ _ w => ∃ (k : Nat) (A' : Option Addr) (c' : Nat) (l' : List (Bs × Value)), k ≤ n ∧ i = .int .i64 k ∧ at_ = .int .i64 (cntS (S.take k) : Nat) ∧ TwoB W w W.heap.size A' none n c' 0 0 off false f 0 ∧ OwnRB w 0 (.slice A' n c') l' ∧ (∀ g, A' = some ⟨g, 0, none⟩ → g ≠ W.heap.size ∧ g ≠ W.heap.size + 1) ∧ Stand W l' (crashK keep S k) ∧ RefTo W.heap.size 0 A A' l l') (fun _ i _ _ _ => n - (intOf i).toNat)
  case atStart =>
    refine ⟨0, A, c, l, Nat.zero_le _, rfl, rfl, HT1.out, HO.out.next HT1.out.below, fun g e => ?_, by rw [show crashK keep S 0 = S from by simp [crashK, crashS]]; exact HS.out, RefTo.refl _ _ _ _⟩
    obtain ⟨g', e', -, -, -, hg, -⟩ := HO.out.form (by rw [HS.out.1, ← HN.out]; exact HPOS.out)
    rw [e] at e'
    cases e'
    omega
  case round =>
    clear hw1
    obtain ⟨k, A', c', l', hk, rfl, rfl, hT, hO, hA, hS, hI⟩ := hrel
    have HI := Lib.hid hI
    clear hI
    obtain ⟨g, rfl, hnl, -, -, hg, -, hcell, -⟩ := hO.form (by rw [hS.1, crashK_length, ← HN.out]; exact HPOS.out)
    obtain ⟨hg1, hg2⟩ := hA g rfl
    have d0 := hT.c0
    have d1 := hT.c1
    have d2 := hT.c2
    by_cases hlt : k < n
    · have hkS : k < S.length := by rw [← HN.out]; exact hlt
      obtain ⟨t, ht⟩ : ∃ t, S[k]? = some t := ⟨_, List.getElem?_eq_getElem hkS⟩
      have hat := crashK_get (keep := keep) ht
      have hsk := crashK_skip (keep := keep) ht
      have hsu := crashK_succ (keep := keep) ht
      have hct := cntS_take ht
      have hcl : cntS (S.take k) ≤ k := by have := cntS_le (S.take k); rw [List.length_take] at this; omega
      have hfe := HFE.out _ (List.mem_of_getElem? ht)
      obtain ⟨v, hx, PA, pc, rfl, hP, hPn⟩ := hS.2 k t hat
      obtain ⟨k0, k1⟩ := hcell k _ hx
      simp only at k0 k1
      have i1 : (k : Int) < (n : Nat) := by omega
      have i2 : 0 ≤ (k : Int) := by omega
      have i3 : k < n := hlt
      have i5 : n ≤ 4096 := HL.out
      have HMS := Lib.hid (show k + 1 ≤ n ∧ n - (k + 1) < n - k from by omega)
      have HT := Lib.hid hT
      have HOK := Lib.hid hO
      have HAK := Lib.hid hA
      have HSK := Lib.hid hS
      have HNL := Lib.hid hnl
      generalize hC : cntS (S.take k) = C at *
      by_cases hp : t.pend = []
      · have hsk' := hsk hp
        rw [if_pos hp] at hct
        rw [hp] at k1
        have HSK2 := Lib.hid hsk'
        have HCT := Lib.hid hct
        clear hat hsk hsu hfe hx hP hPn hT hO hA hS hcell hg hg1 hg2 hp hsk' hkS hnl ht hct hC hcl
        go_wp2_with (fail)
        exact ⟨⟨k + 1, some ⟨g, 0, none⟩, c', l', HMS.out.1, by go_num, by rw [HCT.out]; simp, HT.out.next (Below.new1 wr _), HOK.out.next (Below.new1 wr _), HAK.out, by rw [HSK2.out]; exact HSK.out, HI.out⟩, by have := HMS.out.2; simp [intOf]; omega⟩
      · have hlp : 0 < t.pend.length := List.length_pos_iff.2 hp
        have hP' := hP.next hT.below
        obtain ⟨pa, rfl⟩ := hP'.some_ hp
        rw [if_neg hp] at hct
        have hsu2 : crashK keep S (k + 1) = (crashK keep S k).set k ⟨if 0 < keepM keep C t.pend.length then t.pend.getD (keepM keep C t.pend.length - 1) [] else t.dur, []⟩ := by
          rw [← hsu]; unfold crash1; rw [if_neg hp]
        have hone := hS.one
        have hkk : keepM keep C t.pend.length ≤ t.pend.length := by unfold keepM; split <;> omega
        obtain ⟨y, hy⟩ : ∃ y, (if 0 < keepM keep C t.pend.length then t.pend.getD (keepM keep C t.pend.length - 1) [] else t.dur) = y := ⟨_, rfl⟩
        rw [hy] at hsu2
        have hset : Stand W (l'.set k (y, .slice none 0 0)) (crashK keep S (k + 1)) := by rw [hsu2]; exact hS.set k ⟨y, []⟩ (.slice none 0 0) (PendV.nil W)
        have hpu := fun w (b : Below wr.heap.size wr w) => rput_any w (some ⟨g, 0, none⟩) n c' off f l' (hO.next b) hone (by rw [← hnl]; have := HL.out; omega) k (by omega) y none 0 0
        have hcel : ∀ w, Below wr.heap.size wr w → ∀ j, j < t.pend.length → w.cell? (pa.add j) = some (.string ⟨(t.pend.getD j []).toArray⟩) := fun w b j hj => by
          rw [List.getD_eq_getElem?_getD, List.getElem?_eq_getElem hj]; exact (hP'.next b).cell hj
        have HPU := Lib.hid hpu
        have HSET := Lib.hid hset
        have HCT := Lib.hid hct
        have HY := Lib.hid hy
        have HCL := Lib.hid hcel
        have HFQ := Lib.hid hfe
        obtain ⟨w2, hw2⟩ : ∃ w2, wr.alloc (.cells #[.string ⟨t.dur.toArray⟩, .slice (some pa) t.pend.length pc] 109) = w2 := ⟨_, rfl⟩
        have b2 : Below wr.heap.size wr w2 := hw2 ▸ Below.new1 _ _
        have r2 : w2.heap[wr.heap.size]? = some (.cells #[.string ⟨t.dur.toArray⟩, .slice (some pa) t.pend.length pc] 109 (0, 0)) := hw2 ▸ heap_alloc_new wr _
        have x0 := (cell_of_row w2 _ 0 _ _ _ r2).trans (rfl : _ = some (Value.string ⟨t.dur.toArray⟩))
        have x1 := (cell_of_row w2 _ 1 _ _ _ r2).trans (rfl : _ = some (Value.slice (some pa) t.pend.length pc))
        have fx : w2.frozen? ⟨wr.heap.size, 0, none⟩ = false := by simp [World.frozen?, r2]
        have HB2 := Lib.hid b2
        have HT0 := Lib.hid hT
        have R2 := Lib.hid r2
        have HTB := Lib.hid hT.below
        have p1 : (t.pend.length : Int) > 0 := by omega
        have p2 : ((t.pend.length : Int) == 0) = false := by simp; omega
        clear hat hsk hsu hfe hx hP hPn hT hO hA hS hcell hg hg1 hg2 hp hkS hnl ht hct hsu2 hone hset hpu hcel hy hP' b2 r2 hC HSK HOK HT HAK
        generalize t.pend.length = q at *
        by_cases hke : keep = []
        · have hz : kn = 0 := by rw [← HKN.out, hke]; rfl
          have hkz : keepM keep C q = 0 := by unfold keepM; rw [if_pos hke]
          subst hz
          rw [hkz] at HY
          simp only [Nat.lt_irrefl, if_false] at HY
          clear hkk hkz hke
          rw [HY.out] at x0
          have bX : Below wr.heap.size wr w2 := HB2.out
          have HTX := Lib.hid (HT0.out.next bX)
          have q0 := HTX.out.c0
          have q1 := HTX.out.c1
          have q2 := HTX.out.c2
          have HPX := Lib.hid (HPU.out w2 bX)
          clear bX
          go_upto_region 13 with (fail)
          go_wp2_with (go_at_call 64; refine HPX.out.mono ?_; rintro x wb ⟨Ab, cb, rfl, hOb, bb⟩
                       have TB := HTX.out.next bb
                       have m0 := TB.c0
                       have m1 := TB.c1
                       have m2 := TB.c2
                       have f0 := TB.fz 0
                       have f1 := TB.fz 1
                       have f2 := TB.fz 2)
          obtain ⟨gb, eb, -, -, hgb, -⟩ := hOb.form (by rw [List.length_set, ← HNL.out]; exact HPOS.out)
          cases eb
          have hz := HTX.out.lt
          exact ⟨⟨k + 1, some ⟨gb, 0, none⟩, cb, _, HMS.out.1, by go_num, by rw [HCT.out]; go_num, TB.put (some ⟨gb, 0, none⟩) n cb off f, (hOb.kept (set3_other wb (by omega) _ _ _ _ _)).mono (Nat.zero_le _), fun g e => by cases e; omega, HSET.out, HI.out.put (fun a e => by cases e; have := HTX.out.below.size; show _ ≤ gb; omega) k _ nofun⟩, by have := HMS.out.2; simp [intOf]; omega⟩
        · have hkp : 0 < kn := by rw [← HKN.out]; exact List.length_pos_iff.2 hke
          obtain ⟨ka, rfl⟩ : ∃ a, KA = some a := by
            rcases HKO.out.ints with h | ⟨a, e, _⟩
            · exact absurd h hke
            · exact ⟨a, e⟩
          have hkl : kn ≤ 17592186044404 := by have := HKO.out.few; have := HKN.out; omega
          have r1 : ((C : Int)).tmod (kn : Int) = ((C % kn : Nat) : Int) := by rw [Int.tmod_eq_emod_of_nonneg (by omega)]; omega
          have r2 : C % kn < kn := Nat.mod_lt _ hkp
          have gk : w2.drew.cell? (ka.add (C % kn)) = some (.int .i64 (keep.getD (C % kn) 0)) := ((HKO.out.ints.next (Below.next HTB.out HB2.out)).next (Below.drawn w2 1 _)).cell (by rw [HKN.out]; exact r2)
          have hkm : ((keepM keep C q : Nat) : Int) = max 0 (min (q : Int) (keep.getD (C % kn) 0)) := by unfold keepM; rw [if_neg hke, HKN.out]; omega
          generalize keepM keep C q = kk at *
          generalize keep.getD (C % kn) 0 = z at *
          generalize C % kn = cm at *
          have s1 : (kn : Int) > 0 := by omega
          have s2 : (cm : Int) < (kn : Nat) := by omega
          have s3 : 0 ≤ (cm : Int) := by omega
          have s4 : ¬ (kn : Int) = 0 := by omega
          have x1d : w2.drew.cell? ⟨wr.heap.size, 1, none⟩ = some (.slice (some pa) q pc) := x1
          have x0d : w2.drew.cell? ⟨wr.heap.size, 0, none⟩ = some (.string ⟨t.dur.toArray⟩) := x0
          have fxd : w2.drew.frozen? ⟨wr.heap.size, 0, none⟩ = false := fx
          have HKM := Lib.hid hkm
          have B2D := Lib.hid (show Below wr.heap.size wr w2.drew from Below.next HB2.out (Below.drawn w2 1 _))
          have R2D := Lib.hid (show w2.drew.heap[wr.heap.size]? = _ from R2.out)
          clear hkm hke
          go_upto_region 9 with (fail)
          go_cut [8] from 28 to 39 (fun u wx => u = .int .i64 (kk : Nat) ∧ wx = w2.drew)
          case first =>
            go_region
            all_goals go_wp2_with (fail)
            all_goals
              go_meet
              refine ⟨?_, rfl⟩
              refine congrArg (fun y => Value.int .i64 y) (?_ : _ = ((kk : Nat) : Int))
              rw [HKM.out]
              omega
          case rest =>
            obtain ⟨rfl, rfl⟩ := hcut
            clear gk r1 s2 s3 HKM x0 x1 fx
            generalize w2.drew = w5 at *
            by_cases h0 : 0 < kk
            · have t1 : (kk : Int) > 0 := by omega
              have hy := HY.out
              rw [if_pos h0] at hy
              have gy := HCL.out w5 B2D.out (kk - 1) (by omega)
              rw [hy] at gy
              have u1 : IntKind.i64.wrap ((kk : Int) - 1) = ((kk - 1 : Nat) : Int) := by have := HFQ.out; rw [IntWalk.i64_in _ (by omega)]; omega
              have u2 : ((kk - 1 : Nat) : Int) < (q : Nat) := by omega
              have u3 : 0 ≤ ((kk - 1 : Nat) : Int) := by omega
              have u4 : kk - 1 < q := by omega
              generalize kk - 1 = kj at *
              clear hy
              go_upto_region 13 with (fail)
              have ry : (w5.setCell ⟨wr.heap.size, 0, none⟩ (.string ⟨y.toArray⟩)).cell? ⟨wr.heap.size, 0, none⟩ = some (.string ⟨y.toArray⟩) := World.cell?_setCell_same _ _ _ x0d
              have bY : Below wr.heap.size wr (w5.setCell ⟨wr.heap.size, 0, none⟩ (.string ⟨y.toArray⟩)) := B2D.out.setCell (p := ⟨wr.heap.size, 0, none⟩) (Nat.le_refl _) _
              clear x0d x1d fxd gy
              generalize w5.setCell ⟨wr.heap.size, 0, none⟩ (.string ⟨y.toArray⟩) = wy at *
              have HBY := Lib.hid bY
              clear bY
              have bX : Below wr.heap.size wr wy := HBY.out
              have HTX := Lib.hid (HT0.out.next bX)
              have q0 := HTX.out.c0
              have q1 := HTX.out.c1
              have q2 := HTX.out.c2
              have HPX := Lib.hid (HPU.out wy bX)
              clear bX
              skip
              go_wp2_with (go_at_call 64; refine HPX.out.mono ?_; rintro x wb ⟨Ab, cb, rfl, hOb, bb⟩
                           have TB := HTX.out.next bb
                           have m0 := TB.c0
                           have m1 := TB.c1
                           have m2 := TB.c2
                           have f0 := TB.fz 0
                           have f1 := TB.fz 1
                           have f2 := TB.fz 2)
              obtain ⟨gb, eb, -, -, hgb, -⟩ := hOb.form (by rw [List.length_set, ← HNL.out]; exact HPOS.out)
              cases eb
              have hz := HTX.out.lt
              exact ⟨⟨k + 1, some ⟨gb, 0, none⟩, cb, _, HMS.out.1, by go_num, by rw [HCT.out]; go_num, TB.put (some ⟨gb, 0, none⟩) n cb off f, (hOb.kept (set3_other wb (by omega) _ _ _ _ _)).mono (Nat.zero_le _), fun g e => by cases e; omega, HSET.out, HI.out.put (fun a e => by cases e; have := HTX.out.below.size; show _ ≤ gb; omega) k _ nofun⟩, by have := HMS.out.2; simp [intOf]; omega⟩
            · have t1 : ¬ (kk : Int) > 0 := by omega
              have hy := HY.out
              rw [if_neg h0] at hy
              rw [hy] at x0d
              have bX : Below wr.heap.size wr w5 := B2D.out
              have HTX := Lib.hid (HT0.out.next bX)
              have q0 := HTX.out.c0
              have q1 := HTX.out.c1
              have q2 := HTX.out.c2
              have HPX := Lib.hid (HPU.out w5 bX)
              clear bX
              go_upto_region 13 with (fail)
              go_wp2_with (go_at_call 64; refine HPX.out.mono ?_; rintro x wb ⟨Ab, cb, rfl, hOb, bb⟩
                           have TB := HTX.out.next bb
                           have m0 := TB.c0
                           have m1 := TB.c1
                           have m2 := TB.c2
                           have f0 := TB.fz 0
                           have f1 := TB.fz 1
                           have f2 := TB.fz 2)
              obtain ⟨gb, eb, -, -, hgb, -⟩ := hOb.form (by rw [List.length_set, ← HNL.out]; exact HPOS.out)
              cases eb
              have hz := HTX.out.lt
              exact ⟨⟨k + 1, some ⟨gb, 0, none⟩, cb, _, HMS.out.1, by go_num, by rw [HCT.out]; go_num, TB.put (some ⟨gb, 0, none⟩) n cb off f, (hOb.kept (set3_other wb (by omega) _ _ _ _ _)).mono (Nat.zero_le _), fun g e => by cases e; omega, HSET.out, HI.out.put (fun a e => by cases e; have := HTX.out.below.size; show _ ≤ gb; omega) k _ nofun⟩, by have := HMS.out.2; simp [intOf]; omega⟩
    · have k1 : ¬ (k : Int) < (n : Nat) := by omega
      have hS2 : Stand W l' (crashS keep 0 S) := by
        obtain rfl : n = k := by omega
        rw [← crashK_all keep S, ← HN.out]; exact hS
      have f1 := hT.fz 1
      have f2 := hT.fz 2
      have T8 := Lib.hid (hT.reset false (-1))
      have hg3 : ((wr.setCell ⟨W.heap.size, 1, none⟩ (.bool false)).setCell ⟨W.heap.size, 2, none⟩ (.int .i64 (-1))).heap[g]? = wr.heap[g]? := (Below.heap_setCell _ _ _ _ hg1).trans (Below.heap_setCell _ _ _ _ hg1)
      have O8 := Lib.hid (hO.kept hg3)
      have HS2 := Lib.hid hS2
      clear hT hO hA hS hS2 hcell hg hnl hg3
      go_upto_region 16 with (fail)
      generalize (wr.setCell ⟨W.heap.size, 1, none⟩ (.bool false)).setCell ⟨W.heap.size, 2, none⟩ (.int .i64 (-1)) = w8 at *
      clear d0 d1 d2 f1 f2
      have d0 := T8.out.c0
      have d1 := T8.out.c1
      have d2 := T8.out.c2
      have m0 := T8.out.m0
      have m1 := T8.out.m1
      have m2 := T8.out.m2
      have f0 := T8.out.fz' 0
      have f1 := T8.out.fz' 1
      have f2 := T8.out.fz' 2
      go_wp2_with (fail)
      have T9 := T8.out.put' (some ⟨g, 0, none⟩) n c' false (-1)
      have hu : Try.prog.underlying 46 = some (.struct (Try.prog.fieldsOf 46)) := by kernel_rfl
      have hi' : (Try.prog.info? 46).map (·.size) = some (#[.slice (some ⟨g, 0, none⟩) n c', .bool false, .int .i64 (-1)] : Array Value).size := by kernel_rfl
      exact bodyPost_ret (v := dkV (some ⟨g, 0, none⟩) n c' false (-1)) (results_cell_row (p := 4) (ty := 46) rfl _ _ (W.heap.size + 1) 46 _ (0, 0) (.struct (Try.prog.fieldsOf 46)) rfl T9.b1 hu rfl hi') rfl
        ⟨_, _, rfl, l', (O8.out.kept (set3_other w8 hg2 _ _ _ _ _)).mono (Nat.zero_le _), HS2.out.next T9.below, T9.below, HI.out⟩
/-- Crash of the reference. -/
theorem rcrash_any {K : Nat → Prop} {W : World} {v : Value} {D : Dk} (h : RefV K W v D) (ok : D.Ok) (hfe : Few 1000 D) (KA : Option Addr) (kn kc : Nat) (keep : List Int) (hkn : keep.length = kn) (hK : KeepOk W KA kc keep) : Calls Try.prog 29 #[v, .slice KA kn kc] W fun e w' => ∃ v', e = .returned v' ∧ RefV (fun i => K i ∨ (W.heap.size ≤ i ∧ i < w'.heap.size)) w' v' (crashM D keep) ∧ Below W.heap.size W w' := by
  obtain ⟨A, n, c, l, rfl, hn, hO, hS, hI⟩ := h
  refine (rcrash_go W n c A D.off D.fuse l D.sec hn hO hS (by have := ok.pos; omega) (by have := ok.few; omega) hfe KA kn kc keep hkn hK).mono ?_
  rintro e w' ⟨A', c', l', rfl, q1, q2, q3, q4⟩
  exact ⟨_, rfl, ⟨A', n, c', l', rfl, by rw [hn]; exact (crashS_length keep D.sec 0).symm, q1, q2, q4.in_ hI (Nat.zero_le _) q1.lt⟩, q3⟩
end Go.Proofs.Ytkljfampkkfgdaa
