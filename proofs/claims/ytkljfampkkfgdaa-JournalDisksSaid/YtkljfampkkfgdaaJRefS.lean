/- The journal layer: the walk over Sync of the reference. -/
import Derived.Test.YtkljfampkkfgdaaJRefW
namespace Go.Proofs.Ytkljfampkkfgdaa
open Go.RowKit
set_option maxRecDepth 100000 in
set_option maxHeartbeats 1000000 in
theorem rsync_off (W : World) (A : Option Addr) (n c : Nat) (f : Int) : Calls Try.prog 60 #[dkV A n c true f] W fun e w' => e = .returned (.tuple #[dkV A n c true f, .int .i64 70]) ∧ Below W.heap.size W w' := by
  go_enter Try.func60, Try.ntmps60
  go_wp2_with (fail)
  have r1 := heap_alloc_new (W.alloc (.cells #[Value.slice A n c, Value.bool true, Value.int .i64 f] 46)) (.cells #[Value.slice A n c, Value.bool true, Value.int .i64 f] 46)
  rw [World.size_alloc] at r1
  exact bodyPost_ret (v := .tuple #[dkV A n c true f, Value.int .i64 70]) (results_dk Try.results60 r1 _ rfl rfl) rfl ⟨rfl, Below.next (Below.new1 _ _) (Below.new1 _ _)⟩
set_option maxRecDepth 100000 in
set_option maxHeartbeats 1000000 in
theorem rsync_burnt (W : World) (A : Option Addr) (n c : Nat) : Calls Try.prog 60 #[dkV A n c false 0] W fun e w' => e = .returned (.tuple #[dkV A n c true 0, .int .i64 70]) ∧ Below W.heap.size W w' := by
  obtain ⟨w1, hw1⟩ : ∃ w1, (W.alloc (.cells #[.slice A n c, .bool false, .int .i64 0] 46)).alloc (.cells #[.slice none 0 0, .bool false, .int .i64 0] 46) = w1 := ⟨_, rfl⟩
  have T1 := TwoB.new W A n c false 0
  rw [hw1] at T1
  have c0 := T1.c0
  have c1 := T1.c1
  have c2 := T1.c2
  have HBU := Lib.hid (rburn_none w1 A n c false)
  have HT1 := Lib.hid T1
  clear T1
  go_enter Try.func60, Try.ntmps60
  go_upto_region 5 with (go_at_call 77; refine HBU.out.mono ?_; rintro x w2 ⟨rfl, b2⟩
                         have T2 := HT1.out.next b2
                         have d0 := T2.c0
                         have d1 := T2.c1
                         have d2 := T2.c2
                         have f0 := T2.fz 0
                         have f1 := T2.fz 1
                         have f2 := T2.fz 2
                         have T3 := Lib.hid (T2.put A n c true 0)
                         clear T2)
  generalize hw3 : ((w2.setCell ⟨W.heap.size, 0, none⟩ (.slice A n c)).setCell ⟨W.heap.size, 1, none⟩ (.bool true)).setCell ⟨W.heap.size, 2, none⟩ (.int .i64 0) = w3
  replace T3 : Hid (TwoB W w3 W.heap.size A none n c 0 0 true false 0 0) := Lib.hid (by rw [← hw3]; exact T3.out)
  clear d0 d1 d2 f0 f1 f2 hw3
  have d0 := T3.out.c0
  have d1 := T3.out.c1
  have d2 := T3.out.c2
  have m0 := T3.out.m0
  have m1 := T3.out.m1
  have m2 := T3.out.m2
  have f0 := T3.out.fz' 0
  have f1 := T3.out.fz' 1
  have f2 := T3.out.fz' 2
  go_wp2_with (fail)
  have T4 := T3.out.put' A n c true 0
  exact bodyPost_ret (v := .tuple #[dkV A n c true 0, Value.int .i64 70]) (results_dk Try.results60 T4.b1 _ rfl rfl) rfl ⟨rfl, T4.below⟩
def flushS (x : Sec) : Sec := ⟨x.latest, []⟩
/-- The sectors of which the first k are made durable. -/
def syncR (S : List Sec) (k : Nat) : List Sec := (S.take k).map flushS ++ S.drop k
theorem syncR_length (S : List Sec) (k : Nat) : (syncR S k).length = S.length := by simp [syncR]; omega
theorem syncR_zero (S : List Sec) : syncR S 0 = S := by simp [syncR]
theorem syncR_all {S : List Sec} {k : Nat} (h : S.length ≤ k) : syncR S k = S.map flushS := by simp [syncR, List.take_of_length_le h, List.drop_of_length_le h]
theorem syncR_at {S : List Sec} {k : Nat} (h : k < S.length) : (syncR S k)[k]? = some S[k] := by
  unfold syncR
  rw [List.getElem?_append_right (by simp; omega), List.getElem?_drop]
  simp only [List.length_map, List.length_take]
  rw [show k + (k - min k S.length) = k from by omega, List.getElem?_eq_getElem h]
theorem syncR_succ {S : List Sec} {k : Nat} (h : k < S.length) : syncR S (k + 1) = (syncR S k).set k (flushS S[k]) := by
  unfold syncR
  rw [List.set_append_right _ _ (by simp; omega), List.take_succ_eq_append_getElem h, List.map_append, List.append_assoc]
  congr 1
  simp only [List.length_map, List.length_take]
  rw [show k - min k S.length = 0 from by omega, List.drop_eq_getElem_cons h]
  rfl
theorem flushS_same {x : Sec} (h : x.pend = []) : flushS x = x := by
  cases x
  simp only at h
  subst h
  rfl
theorem syncR_skip {S : List Sec} {k : Nat} (h : k < S.length) (hp : S[k].pend = []) : syncR S (k + 1) = syncR S k := by
  rw [syncR_succ h, flushS_same hp]
  apply List.ext_getElem?
  intro j
  rw [List.getElem?_set]
  split
  · rename_i e
    subst e
    rw [if_pos (by rw [syncR_length]; exact h), syncR_at h]
  · rfl
set_option maxRecDepth 100000 in
set_option maxHeartbeats 4000000 in
theorem rsync_go (W : World) (n c : Nat) (A : Option Addr) (l : List (Bs × Value)) (S : List Sec) (hn : n = S.length) (hO : OwnRB W 0 (.slice A n c) l) (hS : Stand W l S) (hpos : 0 < n) (hl : n ≤ 4096) (hfe : ∀ s ∈ S, s.pend.length ≤ 1000) (f : Int) (hf : f ≠ 0) (lo : -1 ≤ f) (hi63 : f < 9223372036854775808) :
    Calls Try.prog 60 #[dkV A n c false f] W fun e w' => ∃ A' c' l', e = .returned (.tuple #[dkV A' n c' false (fdec f), .int .i64 0]) ∧ OwnRB w' 0 (.slice A' n c') l' ∧ Stand w' l' (S.map flushS) ∧ Below W.heap.size W w' ∧ RefTo W.heap.size 0 A A' l l' := by
  obtain ⟨w1, hw1⟩ : ∃ w1, (W.alloc (.cells #[.slice A n c, .bool false, .int .i64 f] 46)).alloc (.cells #[.slice none 0 0, .bool false, .int .i64 0] 46) = w1 := ⟨_, rfl⟩
  have T1 := TwoB.new W A n c false f
  rw [hw1] at T1
  have c0 := T1.c0
  have c1 := T1.c1
  have c2 := T1.c2
  have HBU := Lib.hid (rburn_some w1 A n c false f hf lo hi63)
  have HT1 := Lib.hid T1
  have HO := Lib.hid hO
  have HS := Lib.hid hS
  have HN := Lib.hid hn
  have HFE := Lib.hid hfe
  have HPOS := Lib.hid hpos
  have HL := Lib.hid hl
  clear T1 hO hS hn hfe hf lo hi63 hpos hl
  generalize fdec f = f' at *
  go_enter Try.func60, Try.ntmps60
  go_upto_region 6 with (go_at_call 77; refine HBU.out.mono ?_; rintro x w2 ⟨rfl, b2⟩
                         have T2 := HT1.out.next b2
                         have d0 := T2.c0
                         have d1 := T2.c1
                         have d2 := T2.c2
                         have f0 := T2.fz 0
                         have f1 := T2.fz 1
                         have f2 := T2.fz 2
                         have T3 := Lib.hid (T2.put A n c false f')
                         clear T2)
  generalize hw3 : ((w2.setCell ⟨W.heap.size, 0, none⟩ (.slice A n c)).setCell ⟨W.heap.size, 1, none⟩ (.bool false)).setCell ⟨W.heap.size, 2, none⟩ (.int .i64 f') = w3
  replace T3 : Hid (TwoB W w3 W.heap.size A none n c 0 0 false false f' 0) := Lib.hid (by rw [← hw3]; exact T3.out)
  clear d0 d1 d2 f0 f1 f2 hw3 c0 c1 c2 hw1 HBU HT1 b2
  go_wp2_with (fail)
  go_loopw [5, 6] (fun i _ w => ∃ (k : Nat) (A' : Option Addr) (c' : Nat) (l' : List (Bs × Value)), k ≤ n ∧ i = .int .i64 k ∧ TwoB W w W.heap.size A' none n c' 0 0 false false f' 0 ∧ OwnRB w 0 (.slice A' n c') l' ∧ (∀ g, A' = some ⟨g, 0, none⟩ → g ≠ W.heap.size ∧ g ≠ W.heap.size + 1) ∧ Stand W l' (syncR S k) ∧ RefTo W.heap.size 0 A A' l l') (fun i _ _ => n - (intOf i).toNat)
  case atStart =>
    refine ⟨0, A, c, l, Nat.zero_le _, rfl, T3.out, HO.out.next T3.out.below, fun g e => ?_, by rw [syncR_zero]; exact HS.out, RefTo.refl _ _ _ _⟩
    obtain ⟨g', e', -, -, -, hg, -⟩ := HO.out.form (by rw [HS.out.1, ← HN.out]; exact HPOS.out)
    rw [e] at e'
    cases e'
    omega
  case round =>
    obtain ⟨k, A', c', l', hk, rfl, hT, hO, hA, hS, hI⟩ := hrel
    have HI := Lib.hid hI
    clear hI
    obtain ⟨g, rfl, hnl, -, -, hg, -, hcell, -⟩ := hO.form (by rw [hS.1, syncR_length, ← HN.out]; exact HPOS.out)
    obtain ⟨hg1, hg2⟩ := hA g rfl
    have d0 := hT.c0
    have d1 := hT.c1
    have d2 := hT.c2
    by_cases hlt : k < n
    · have hkS : k < S.length := by rw [← HN.out]; exact hlt
      have hat := syncR_at hkS
      have hsk := syncR_skip hkS
      have hsu := syncR_succ hkS
      have hfe := HFE.out _ (List.getElem_mem hkS)
      generalize S[k] = t at *
      obtain ⟨v, hx, PA, pc, rfl, hP, hPn⟩ := hS.2 k t hat
      obtain ⟨k0, k1⟩ := hcell k _ hx
      simp only at k0 k1
      have i1 : (k : Int) < (n : Nat) := by omega
      have i2 : 0 ≤ (k : Int) := by omega
      have i3 : k < n := hlt
      have i5 : n ≤ 4096 := HL.out
      have HMS := Lib.hid (show k + 1 ≤ n ∧ n - (k + 1) < n - k from by omega)
      have HT := Lib.hid hT
      have HOK := Lib.hid hO
      have HAK := Lib.hid hA
      have HSK := Lib.hid hS
      have HNL := Lib.hid hnl
      by_cases hp : t.pend = []
      · have hsk' := hsk hp
        rw [hp] at k1
        have HSK2 := Lib.hid hsk'
        clear hat hsk hsu hfe hx hP hPn hT hO hA hS hcell hg hg1 hg2 hp hsk' hkS hnl k0
        go_wp2_with (fail)
        exact ⟨⟨k + 1, some ⟨g, 0, none⟩, c', l', HMS.out.1, by go_num, HT.out, HOK.out, HAK.out, by rw [HSK2.out]; exact HSK.out, HI.out⟩, by have := HMS.out.2; simp [intOf]; omega⟩
      · have hlp : 0 < t.pend.length := List.length_pos_iff.2 hp
        obtain ⟨pa, rfl⟩ := (hP.next hT.below).some_ hp
        have e1 : t.latest = t.pend[t.pend.length - 1] := by unfold Sec.latest; rw [last_get hp]
        have hc : wr.drew.cell? (pa.add (t.pend.length - 1)) = some (.string ⟨t.latest.toArray⟩) := by rw [e1]; exact ((hP.next hT.below).next (Below.drawn wr 1 _)).cell (i := t.pend.length - 1) (by omega)
        have m1 : IntKind.i64.wrap ((t.pend.length : Int) - 1) = ((t.pend.length - 1 : Nat) : Int) := by rw [IntWalk.i64_in _ (by omega)]; omega
        have p1 : ((t.pend.length : Nat) : Int) > 0 := by omega
        have p2 : ((t.pend.length - 1 : Nat) : Int) < (t.pend.length : Nat) := by omega
        have p3 : 0 ≤ ((t.pend.length - 1 : Nat) : Int) := by omega
        have p4 : t.pend.length - 1 < t.pend.length := by omega
        have hone := hS.one
        have hset : Stand W (l'.set k (t.latest, .slice none 0 0)) (syncR S (k + 1)) := by rw [hsu]; exact hS.set k (flushS t) (.slice none 0 0) (PendV.nil W)
        have hpu := rput_any wr.drew (some ⟨g, 0, none⟩) n c' false f' l' (hO.next (Below.drawn wr 1 _)) hone (by rw [← hnl]; have := HL.out; omega) k (by omega) t.latest none 0 0
        have HPU := Lib.hid hpu
        have HSET := Lib.hid hset
        have htd : TwoB W wr.drew W.heap.size (some ⟨g, 0, none⟩) none n c' 0 0 false false f' 0 := hT.next (Below.drawn wr 1 _)
        have HTD := Lib.hid htd
        clear htd
        clear e1 hat hsk hsu hfe hx hP hPn hS hcell hp hlp hset hpu hone HSK
        generalize t.latest = y at *
        generalize hm : t.pend.length - 1 = m at *
        generalize t.pend.length = q at *
        have g0 : wr.drew.cell? ⟨W.heap.size, 0, none⟩ = some (.slice (some ⟨g, 0, none⟩) n c') := d0
        have g1 : wr.drew.cell? ⟨W.heap.size, 1, none⟩ = some (.bool false) := d1
        have g2 : wr.drew.cell? ⟨W.heap.size, 2, none⟩ = some (.int .i64 f') := d2
        have k1' : wr.drew.cell? ⟨g, k * 2 + 1, none⟩ = some (.slice (some pa) q pc) := k1
        clear hT hO hA hg hg1 hg2 hkS hnl k0 hm
        go_upto_region 11 with (fail)
        go_region_with (go_at_call 64; refine HPU.out.mono ?_; rintro x wb ⟨Ab, cb, rfl, hOb, bb⟩
                        have TB := HTD.out.next bb
                        have m0 := TB.c0
                        have m1 := TB.c1
                        have m2 := TB.c2
                        have f0 := TB.fz 0
                        have f1 := TB.fz 1
                        have f2 := TB.fz 2)
        all_goals
          go_wp2_with (fail)
          obtain ⟨gb, eb, -, -, hgb, -⟩ := hOb.form (by rw [List.length_set, ← HNL.out]; exact HPOS.out)
          cases eb
          have hz := HTD.out.lt
          exact ⟨⟨k + 1, some ⟨gb, 0, none⟩, cb, _, HMS.out.1, by go_num, TB.put (some ⟨gb, 0, none⟩) n cb false f', (hOb.kept (set3_other wb (by omega) _ _ _ _ _)).mono (Nat.zero_le _), fun g e => by cases e; omega, HSET.out, HI.out.put (fun a e => by cases e; have := HTD.out.below.size; show _ ≤ gb; omega) k _ nofun⟩, by have := HMS.out.2; simp [intOf]; omega⟩
    · have k1 : ¬ (k : Int) < (n : Nat) := by omega
      have hS2 : Stand W l' (S.map flushS) := by rw [← syncR_all (k := k) (by rw [← HN.out]; omega)]; exact hS
      have m0 := hT.m0
      have m1 := hT.m1
      have m2 := hT.m2
      have f0 := hT.fz' 0
      have f1 := hT.fz' 1
      have f2 := hT.fz' 2
      have HT := Lib.hid hT
      have HOK := Lib.hid hO
      have HS2 := Lib.hid hS2
      clear hT hO hA hS hS2 hcell hg hnl
      go_wp2_with (fail)
      have T4 := HT.out.put' (some ⟨g, 0, none⟩) n c' false f'
      exact bodyPost_ret (v := .tuple #[dkV (some ⟨g, 0, none⟩) n c' false f', Value.int .i64 0]) (results_dk Try.results60 T4.b1 _ rfl rfl) rfl ⟨_, _, rfl, l', (HOK.out.kept (set3_other wr hg2 _ _ _ _ _)).mono (Nat.zero_le _), HS2.out.next T4.below, T4.below, HI.out⟩
/-- Sync of the reference. -/
theorem rsync_any {K : Nat → Prop} {W : World} {v : Value} {D : Dk} (h : RefV K W v D) (ok : D.Ok) (hfe : Few 1000 D) : Calls Try.prog 60 #[v] W fun e w' => ∃ v', e = .returned (.tuple #[v', .int .i64 (syncM D).1]) ∧ RefV (fun i => K i ∨ (W.heap.size ≤ i ∧ i < w'.heap.size)) w' v' (syncM D).2 ∧ Below W.heap.size W w' := by
  obtain ⟨A, n, c, l, rfl, hn, hO, hS, hI⟩ := h
  have hI2 : ∀ w' : World, RefIn (fun i => K i ∨ (W.heap.size ≤ i ∧ i < w'.heap.size)) A l := fun w' => hI.mono fun i hi => .inl hi
  unfold syncM
  cases ho : D.off
  · rw [if_neg (by simp)]
    by_cases hf : D.fuse = 0
    · rw [if_pos hf, hf]
      exact (rsync_burnt W A n c).mono fun e w' ⟨q1, q2⟩ => ⟨_, q1, ⟨A, n, c, l, by simp, hn, hO.next q2, hS.next q2, hI2 w'⟩, q2⟩
    · rw [if_neg hf]
      refine (rsync_go W n c A l D.sec hn hO hS (by have := ok.pos; omega) (by have := ok.few; omega) hfe D.fuse hf ok.lo ok.hi).mono ?_
      rintro e w' ⟨A', c', l', rfl, q1, q2, q3, q4⟩
      exact ⟨_, rfl, ⟨A', n, c', l', rfl, by simp only [List.length_map]; exact hn, q1, q2, q4.in_ hI (Nat.zero_le _) q1.lt⟩, q3⟩
  · rw [if_pos rfl]
    exact (rsync_off W A n c D.fuse).mono fun e w' ⟨q1, q2⟩ => ⟨_, q1, ⟨A, n, c, l, by rw [ho], hn, hO.next q2, hS.next q2, hI2 w'⟩, q2⟩
end Go.Proofs.Ytkljfampkkfgdaa
