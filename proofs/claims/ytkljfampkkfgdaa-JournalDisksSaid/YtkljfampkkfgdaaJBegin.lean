/- The journal layer: the walk over begin. -/
import Derived.Test.YtkljfampkkfgdaaJBeginL
namespace Go.Proofs.Ytkljfampkkfgdaa
open Go.RowKit
theorem Strs.kept {W W' : World} {A : Option Addr} {l : List Bs} (h : Strs W A l) (hk : ∀ a, A = some a → W'.heap[a.block]? = W.heap[a.block]?) : Strs W' A l := by
  rcases h with h | ⟨a, e, h⟩
  · exact .inl h
  · exact .inr ⟨a, e, fun i u hu => (World.cell?_of_block (a := a.add i) (by rw [show (a.add i).block = a.block from by unfold Addr.add; split <;> rfl]; exact hk a e)).trans (h i u hu)⟩
/-- From the world w, in which a disk and a journal lie in the blocks F and G, on: they are now D and J, and nothing else has changed. -/
def Mj (w : World) (F G : Nat → Prop) (dk jb : Nat) (W : World) (D : Dk) (J : Jn) : Prop :=
  ∃ F' G', DiskAt W dk D F' ∧ JAt W jb dk J G' ∧ (∀ i, F' i → ¬ G' i) ∧ ButS (fun i => F i ∨ G i) w W ∧ (∀ i, F' i → F i ∨ w.heap.size ≤ i) ∧ (∀ i, G' i → G i ∨ w.heap.size ≤ i)
section
variable {W W' : World} {jb dk : Nat} {v : Value} {J : Jn} {G F : Nat → Prop} {D : Dk}
theorem Mv.mj {w : World} (h : Mv w F dk W D) (hj : JAt w jb dk J G) (hdis : ∀ i, F i → ¬ G i) : Mj w F G dk jb W D J := by
  obtain ⟨F', h1, h2, h3⟩ := h
  refine ⟨F', G, h1, hj.but h2 fun i hg hf => hdis i hf hg, fun i hf hg => ?_, h2.mono fun i _ h => .inl h, h3, fun i h => .inl h⟩
  rcases h3 i hf with h | h
  · exact hdis i h hg
  · have := hj.lt i hg; omega
theorem JB.setHdr (h : JB W jb dk v J) (e r : Int) (u : Nat) : JB (((W.setCell ⟨jb, 3, none⟩ (.int .i64 e)).setCell ⟨jb, 4, none⟩ (.int .i64 r)).setCell ⟨jb, 8, none⟩ (.int .i64 (u : Int))) jb dk v { J with ep := e, reg := r, used := u } := by
  refine ⟨?_, h.own.kept fun g hg => ?_, h.far⟩
  · have := h.head
    simp [World.setCell, Array.getElem?_modify, this]
  · have := h.far g hg
    rw [Below.heap_setCell _ _ _ _ this, Below.heap_setCell _ _ _ _ this, Below.heap_setCell _ _ _ _ this]
theorem JB.setBody (h : JB W jb dk v J) (s : Bs) {v' : Value} {l : List Bs} (ho : OwnStrs W 0 v' l) (hf : ∀ g, v'.ownBlock = some g → g ≠ jb) (n : Nat) :
    JB (((W.setCell ⟨jb, 5, none⟩ (.string ⟨s.toArray⟩)).setCell ⟨jb, 6, none⟩ v').setCell ⟨jb, 7, none⟩ (.int .i64 (n : Int))) jb dk v' { J with st := s, recs := l, dur := n } := by
  refine ⟨?_, ho.kept fun g hg => ?_, hf⟩
  · have := h.head
    simp [World.setCell, Array.getElem?_modify, this]
  · have := hf g hg
    rw [Below.heap_setCell _ _ _ _ this, Below.heap_setCell _ _ _ _ this, Below.heap_setCell _ _ _ _ this]
theorem storeM_at {E : Dk} {base u k : Nat} {ep : Int} {X : Bs} {r : List Bs} {SR : Int × Dk} (h : storesM E base ep u k (X :: r) = SR) : ((storeM E ((base + u : Nat) : Int) ep (k : Int) X).1 = 0 → storesM (storeM E ((base + u : Nat) : Int) ep (k : Int) X).2 base ep (u + unitsM X.length) (k + 1) r = SR) ∧ ((storeM E ((base + u : Nat) : Int) ep (k : Int) X).1 ≠ 0 → storeM E ((base + u : Nat) : Int) ep (k : Int) X = SR) := by
  unfold storesM at h
  exact ⟨fun e => by rw [bindE_ok e] at h; exact h, fun e => by rw [bindE_no e] at h; exact h⟩
theorem usedM_take {l : List Bs} {k : Nat} (h : k < l.length) : usedM (l.take (k + 1)) = usedM (l.take k) + unitsM l[k].length := by
  rw [List.take_succ_eq_append_getElem h, usedM_append]; simp [usedM]
theorem Mv.cell {w : World} (h : Mv w F dk W D) {p : Addr} {u : Value} (hc : w.cell? p = some u) (hp : ¬ F p.block) : W.cell? p = some u := by
  obtain ⟨F', _, h2, _⟩ := h
  exact h2.cell hc hp
theorem ButS.set3 (w : World) (jb p q r : Nat) (x y z : Value) : ButS (fun i => i = jb) w (((w.setCell ⟨jb, p, none⟩ x).setCell ⟨jb, q, none⟩ y).setCell ⟨jb, r, none⟩ z) :=
  ((ButS.setCell (F := fun i => i = jb) w (p := ⟨jb, p, none⟩) rfl x).trans (ButS.setCell (F := fun i => i = jb) _ (p := ⟨jb, q, none⟩) rfl y) fun _ h => .inl h).trans (ButS.setCell (F := fun i => i = jb) _ (p := ⟨jb, r, none⟩) rfl z) fun _ h => .inl h
theorem JB.butS (h : JB W jb dk v J) (hB : ButS F W W') (hdis : ∀ i, F i → ¬ Fj jb v i) : JB W' jb dk v J := h.kept fun i hi => hB.block i (h.lt i hi) fun hf => hdis i hf hi
set_option maxRecDepth 100000 in
set_option maxHeartbeats 8000000 in
theorem begin_core {Wi : World} (hd : DiskAt Wi dk D F) (hj : JB Wi jb dk v J) (hdis : ∀ i, F i → ¬ Fj jb v i) (ho : D.off = false) (h8 : 8 ≤ D.sec.length) (s : Bs) (l : List Bs) (A : Option Addr) (n c : Nat) (hn : l.length = n) (hS : Strs Wi A l)
    (hA : (∃ a, A = some a) ∨ (A = none ∧ c = 0)) (hAF : ∀ a, A = some a → ¬ F a.block ∧ ¬ Fj jb v a.block) (hAL : ∀ a, A = some a → a.block < Wi.heap.size) (hlen : ∀ x ∈ s :: l, x.length ≤ 100000) (hfew : Few 50000 D) (R : Int × Dk) (J' JJ : Jn) (N C base U : Nat) (p1 p2 nr : Int) (hNe : D.sec.length = N) (hC : capM N = C) (hp : curC (getM D) = (p1, p2)) (hep0 : 0 ≤ p1) (hep : p1 < 4611686018427387904)
    (hnk : 0 ≤ nr ∧ nr ≤ 1) (hbase : 2 + nr * C = base) (hfit : base + C ≤ N) (hU : usedM (s :: l) = U) (huse : U ≤ C) (hcase : (p1 > 0 ∧ IntKind.i64.wrap (1 - p2) = nr) ∨ (¬ p1 > 0 ∧ nr = p2))
    (hR : (bindE (storesM D base (p1 + 1) 0 0 (s :: l)) fun D1 => bindE (clearM (C - U) (base + U) D1) fun D2 => bindE (syncM D2) fun D3 => bindE (writeM D3 ((p1 + 1) % 2) (hdrM (p1 + 1) nr)) syncM) = R)
    (hJ' : ({ J with ep := p1 + 1, reg := nr, st := s, recs := l, dur := n, used := U } : Jn) = J') (hJJ : (if R.1 = 0 then J' else J) = JJ) :
    Calls Try.prog 58 #[.pointer (some ⟨jb, 0, none⟩), .string ⟨s.toArray⟩, .slice A n c] Wi fun x w' => x = .returned (.int .i64 R.1) ∧ Mj Wi F (Fj jb v) dk jb w' R.2 JJ := by
  have hN := hd.ok.few
  rw [hNe] at hN
  have hcap : C ≤ 2047 := by rw [← hC]; unfold capM; omega
  have hul := usedM_len (s :: l)
  rw [hU, List.length_cons, hn] at hul
  have hcur := current_any hd ho h8
  rw [hp] at hcur
  have hc0 := hj.c0
  have m1 : IntKind.i64.wrap (p1 + 1) = p1 + 1 := IntWalk.i64_in _ (by omega)
  have HD := Lib.hid hd
  have HJ := Lib.hid hj
  have HCUR := Lib.hid hcur
  have HS := Lib.hid hS
  have HA := Lib.hid hA
  have HN := Lib.hid hn
  have HR := Lib.hid hR
  have HDIS := Lib.hid hdis
  have HJJ := Lib.hid hJJ
  have HJ' := Lib.hid hJ'
  have HAF := Lib.hid hAF
  clear hd hj hcur hS hA hn hR hdis hAF hp hJJ hJ'
  rcases hcase with ⟨t1, m0⟩ | ⟨t1, rfl⟩
  all_goals
    go_enter Try.func58, Try.ntmps58
    go_upto_region 5 with (go_at_call 56; refine HCUR.out.mono ?_; rintro x w1 ⟨rfl, b1⟩)
    first | clear hc0 t1 m0 | clear hc0 t1
    have hS1 := HS.out.next b1
    go_upto_region 7 with (at_builtin; refine wpList_append_strs rfl (.tmp 32) (.tmp 33) rfl w1.heap.size _ [s] l A n c rfl rfl HN.out (OwnStrs.one w1 _ s (Nat.le_refl _)) (hS1.next (Below.new1 _ _)) HA.out (by simp) (by have := HN.out; omega) (by rw [World.size_alloc]; omega) ?_
                           intro v3 w2 hO b2
                           have B2 := (Below.new1 w1 (.cells #[.string ⟨s.toArray⟩] 9)).trans b2
                           change OwnStrs w2 w1.heap.size v3 (s :: l) at hO
                           obtain ⟨A2, c2, rfl, hS2, hA2⟩ := hO.slice
                           rw [show (s :: l).length = n + 1 from by rw [List.length_cons, HN.out]] at hO ⊢)
    have hd2 := HD.out.next (b1.trans (B2.mono b1.size))
    have hj2 := HJ.out.next (b1.trans (B2.mono b1.size))
    have hS3 := hS1.next B2
    have BB := b1.trans (B2.mono b1.size)
    obtain ⟨a, rfl⟩ : ∃ a, A2 = some a := by
      rcases hS2 with h | ⟨a, h, _⟩
      · cases h
      · exact ⟨a, h⟩
    have haF : ¬ F a.block := fun hf => by
      have h1 := HD.out.lt _ hf
      have h2 := (World.ownsRow.lt hO a.block rfl).1
      have h3 := b1.size
      omega
    have haL := (World.ownsRow.lt hO a.block rfl).2
    have HAL := Lib.hid (show ∀ a, A = some a → a.block < w2.heap.size from fun a e => Nat.lt_of_lt_of_le (hAL a e) BB.size)
    obtain ⟨m, hm⟩ : ∃ m, n + 1 = m := ⟨_, rfl⟩
    rw [hm] at hO hul ⊢
    obtain ⟨SR, hSR⟩ : ∃ SR, storesM D base (p1 + 1) 0 0 (s :: l) = SR := ⟨_, rfl⟩
    have hLm : (s :: l).length = m := by rw [List.length_cons, HN.out]; exact hm
    have hU' := fun k => usedM_take_le (s :: l) k
    rw [hU] at hU'
    obtain ⟨L, hL⟩ : ∃ L, s :: l = L := ⟨_, rfl⟩
    rw [hL] at hU' hSR hLm hlen hS2
    have HO := Lib.hid hO
    have HS2 := Lib.hid hS2
    have HD2 := Lib.hid hd2
    have HJ2 := Lib.hid hj2
    have HS3 := Lib.hid hS3
    have HBB := Lib.hid BB
    have HSR := Lib.hid hSR
    have HLM := Lib.hid hLm
    have HUT := Lib.hid hU'
    have HL := Lib.hid hL
    have HLEN := Lib.hid hlen
    have HMN := Lib.hid hm
    have HFEW := Lib.hid hfew
    have HNE := Lib.hid hNe
    have hm2 : m ≤ 2047 := by omega
    clear hAL hO hS2 hd2 hj2 hS3 BB hSR hLm hU' hL hlen hm hS1 b1 b2 B2 hfew hNe
    go_loopw [9, 10, 11, 12, 36] (fun u _ _ _ i w => ∃ (k : Nat) (E : Dk), k ≤ m ∧ i = .int .i64 k ∧ u = .int .i64 (usedM (L.take k) : Nat) ∧ E.sec.length = N ∧ Few (50000 + usedM (L.take k)) E ∧ Mv w2 F dk w E ∧ storesM E base (p1 + 1) (usedM (L.take k)) k (L.drop k) = SR) (fun _ _ _ _ i _ => m - (intOf i).toNat)
    case atStart => exact ⟨0, D, by omega, rfl, rfl, HNE.out, HFEW.out, HD2.out.mv, HSR.out⟩
    case round =>
      obtain ⟨k, E, hk, rfl, rfl, hlen, hfw, hM, hst⟩ := hrel
      obtain ⟨F', hd, hb, hf⟩ := hM
      have hjw := HJ2.out.butS hb HDIS.out
      have hc0 := hjw.c0
      have hjF : ¬ F' jb := fun h => (hf jb h).elim (fun h => HDIS.out jb h (.inl rfl)) fun h => by have := HJ2.out.lt jb (.inl rfl); omega
      have hrow := HS2.out.kept fun a' e => by cases e; exact hb.block _ haL haF
      have HE := Lib.hid hlen
      have HFW := Lib.hid hfw
      have HDw := Lib.hid hd
      have HB := Lib.hid hb
      have HF := Lib.hid hf
      have HJW := Lib.hid hjw
      have hub := HUT.out k
      have hfi := fun W (b : Below wr.heap.size wr W) => first_any (hd.next b) (by rw [hlen, ← HNE.out]; exact h8) nr hnk.1 hnk.2
      rw [hlen, hC, hbase] at hfi
      have HFI := Lib.hid hfi
      have k0 : 0 ≤ (k : Int) := by omega
      by_cases hlt : k < m
      · have hkL : k < L.length := by have := HLM.out; omega
        have k1 : (k : Int) < (n : Int) + 1 := by have := HMN.out; omega
        have k2 : k < m := hlt
        have g0 := hrow.cell hkL
        have hus := usedM_take hkL
        rw [List.drop_eq_getElem_cons hkL] at hst
        have hs2 := storeM_at hst
        have hub2 := HUT.out (k + 1)
        have hXl : L[k].length ≤ 100000 := HLEN.out _ (List.getElem_mem hkL)
        generalize L[k] = X at *
        generalize hu : usedM (L.take k) = u at *
        have hsto := fun W (b : Below wr.heap.size wr W) => store_any (hd.next b) ((base + u : Nat) : Int) (p1 + 1) k X (by omega) (by omega) (by omega) hXl (by omega) (by omega) (HFW.out.mono (by omega))
        have hsl := storeM_length E ((base + u : Nat) : Int) (p1 + 1) (k : Int) X
        have hsf := storeM_few HFW.out ((base + u : Nat) : Int) (p1 + 1) (k : Int) X
        have hun := fun W => units_any X W (by omega)
        have m2 : IntKind.i64.wrap ((base : Int) + (u : Int)) = ((base + u : Nat) : Int) := by rw [IntWalk.i64_in _ (by omega)]; omega
        rw [hus] at hub2
        have m3 : IntKind.i64.wrap ((u : Int) + (unitsM X.length : Nat)) = ((u + unitsM X.length : Nat) : Int) := by rw [IntWalk.i64_in _ (by omega)]; omega
        obtain ⟨er, E2, hR2⟩ : ∃ er E2, storeM E ((base + u : Nat) : Int) (p1 + 1) (k : Int) X = (er, E2) := ⟨_, _, rfl⟩
        rw [hR2] at hs2 hsto hsl hsf
        simp only at hs2 hsto hsl hsf
        have HS2' := Lib.hid hs2
        have HSTO := Lib.hid hsto
        have HSL := Lib.hid hsl
        have HSF := Lib.hid hsf
        have HUN := Lib.hid hun
        have HUS := Lib.hid hus
        have HMS := Lib.hid (show k + 1 ≤ m ∧ m - (k + 1) < m - k ∧ 50000 + u + unitsM X.length = 50000 + (u + unitsM X.length) from by omega)
        clear hlen hfw hd hb hf hjw hrow hfi hst hs2 hsto hsl hsf hun hus hR2 hXl hub2 hu
        generalize unitsM X.length = ux at *
        go_upto_region 9 with (fail)
        go_region_held3 (fun w => w.cell? ⟨jb, 0, none⟩ = some (.pointer (some ⟨dk, 0, none⟩))) (first | exact hc0 | exact hcc) (first
          | (go_at_call 49; refine (HFI.out _ (Below.drawn wr 1 _)).mono ?_; rintro x w3 ⟨rfl, hw3⟩; obtain rfl := hw3.symm)
          | (go_at_call 48; refine (HSTO.out _ (Below.drawn wr 1 _)).mono ?_; rintro x w4 ⟨rfl, mv4⟩; have hcc := mv4.cell (p := ⟨jb, 0, none⟩) hc0 hjF))
        all_goals
          have MV := Lib.hid (mv4.then (HB.out.next (Below.drawn wr 1 _)) HF.out)
          clear mv4
          by_cases he : er = 0
          · have he2 : (er != 0) = false := by simpa using he
            go_wp2_with (go_at_call 47; refine (HUN.out _).mono ?_; rintro x w5 ⟨rfl, hw5⟩; obtain rfl := hw5.symm)
            exact ⟨⟨k + 1, E2, HMS.out.1, by go_num, by rw [HUS.out]; exact congrArg _ (by omega), by rw [HSL.out, HE.out], by rw [HUS.out, ← HMS.out.2.2]; exact HSF.out, MV.out, by rw [HUS.out]; exact HS2'.out.1 he⟩, by have := HMS.out.2.1; simp [intOf]; omega⟩
          · have he2 : (er != 0) = true := by simpa using he
            go_wp2_with (fail)
            go_ret
            have e1 := HR.out
            have e2 := HS2'.out.2 he
            rw [HL.out, HSR.out, ← e2, bindE_no he] at e1
            have e3 := HJJ.out
            rw [← e1, if_neg he] at e3
            rw [← e1, ← e3]
            exact ⟨rfl, (MV.out.then (ButS.of HBB.out) fun i hi => .inl hi).mj ⟨v, HJ.out, rfl⟩ HDIS.out⟩
      · obtain rfl : k = m := by omega
        have e1 : L.take k = L := List.take_of_length_le (by rw [HLM.out]; exact Nat.le_refl _)
        have e2 : L.drop k = [] := List.drop_of_length_le (by rw [HLM.out]; exact Nat.le_refl _)
        have eU : usedM L = U := by rw [← HL.out]; exact hU
        rw [e1, e2, eU] at hst
        rw [e1, eU] at hfw
        rw [e1, eU]
        have hR := HR.out
        rw [HL.out, HSR.out, ← show (0, E) = SR from hst, bindE_ok rfl] at hR
        have hjF0 : ¬ F jb := fun h => HDIS.out jb h (.inl rfl)
        have HC0 := Lib.hid (show ∀ W E, Mv w2 F dk W E → W.cell? ⟨jb, 0, none⟩ = some (.pointer (some ⟨dk, 0, none⟩)) from fun W E h => h.cell (p := ⟨jb, 0, none⟩) HJ2.out.c0 hjF0)
        have hca := fun W (b : Below wr.heap.size wr W) => capacity_any (hd.next b) (by rw [hlen, ← HNE.out]; exact h8)
        rw [hlen, hC] at hca
        have hcl := fun W (b : Below wr.heap.size wr W) (h : W.cell? ⟨jb, 0, none⟩ = some (.pointer (some ⟨dk, 0, none⟩))) => clear_any (hd.next b) hjF h (base + U) (C - U) (by rw [hlen]; omega) (hfw.mono (by omega))
        rw [show base + U + (C - U) = base + C from by omega] at hcl
        have hcl2 := clearM_length (C - U) E (base + U)
        have hcl3 := clearM_few (C - U) E _ (base + U) hfw
        obtain ⟨er, E2, hR2⟩ : ∃ er E2, clearM (C - U) (base + U) E = (er, E2) := ⟨_, _, rfl⟩
        rw [hR2] at hcl hcl2 hcl3 hR
        rw [hlen] at hcl2
        simp only at hcl hcl2 hcl3 hR
        have m2 : IntKind.i64.wrap ((base : Int) + (U : Int)) = ((base + U : Nat) : Int) := by rw [IntWalk.i64_in _ (by omega)]; omega
        have m3 : IntKind.i64.wrap ((base : Int) + (C : Int)) = ((base + C : Nat) : Int) := by rw [IntWalk.i64_in _ (by omega)]; omega
        have k1 : ¬ (k : Int) < (n : Int) + 1 := by have := HMN.out; omega
        have HCA := Lib.hid hca
        have HCL := Lib.hid hcl
        have HCL2 := Lib.hid hcl2
        have HCL3 := Lib.hid hcl3
        have HR1 := Lib.hid hR
        clear hlen hfw hd hb hf hjw hrow hfi hst e1 e2 hR hca hcl hcl2 hcl3 hR2
        go_upto_region 14 with (fail)
        go_region_held3 (fun w => w.cell? ⟨jb, 0, none⟩ = some (.pointer (some ⟨dk, 0, none⟩))) (first | exact hc0 | exact hcc) (first
          | (go_at_call 49; refine (HFI.out _ (Below.drawn wr 1 _)).mono ?_; rintro x w3 ⟨rfl, hw3⟩; obtain rfl := hw3.symm)
          | (go_at_call 44; refine (HCA.out _ (Below.drawn wr 1 _)).mono ?_; rintro x w3 ⟨rfl, hw3⟩; obtain rfl := hw3.symm)
          | (go_at_call 75; refine (HCL.out _ (Below.drawn wr 1 _) hc0).mono ?_; rintro x w4 ⟨rfl, mv4⟩; have hcc := mv4.cell (p := ⟨jb, 0, none⟩) hc0 hjF))
        all_goals
          have MV2 := Lib.hid (mv4.then (HB.out.next (Below.drawn wr 1 _)) HF.out)
          clear mv4 hcc
          by_cases he : er = 0
          · have he2 : (er != 0) = false := by simpa using he
            have hR := HR1.out
            rw [bindE_ok he] at hR
            obtain ⟨F2, hd2, hb2, hf2⟩ := MV2.out
            have hc2 := HC0.out _ _ MV2.out
            have hsu := sure_any hd2 (.pointer (some ⟨jb, 0, none⟩))
            have hsl := syncM_length E2
            rw [HCL2.out] at hsl
            have hsf := syncM_few HCL3.out
            obtain ⟨er3, E3, hR3⟩ : ∃ er3 E3, syncM E2 = (er3, E3) := ⟨_, _, rfl⟩
            simp only at hR
            rw [hR3] at hsu hsl hsf hR
            have HSU := Lib.hid hsu
            have HSL := Lib.hid hsl
            have HSF := Lib.hid hsf
            have HR2 := Lib.hid hR
            have HB2 := Lib.hid hb2
            have HF2 := Lib.hid hf2
            clear hd2 hb2 hf2 hsu hsl hsf hR hR3 hc0
            go_upto_region 18 with (go_at_call 51; refine HSU.out.mono ?_; rintro x w5 ⟨rfl, mv5⟩)
            have MV3 := Lib.hid (mv5.then HB2.out HF2.out)
            clear mv5
            by_cases he3 : er3 = 0
            · have he4 : (er3 != 0) = false := by simpa using he3
              have hR := HR2.out
              rw [bindE_ok he3] at hR
              simp only at hR
              obtain ⟨F3, hd3, hb3, hf3⟩ := MV3.out
              have hc3 := HC0.out _ _ MV3.out
              have hjF3 : ¬ F3 jb := fun h => (hf3 jb h).elim hjF0 fun h => by have := HJ2.out.lt jb (.inl rfl); omega
              have hhd := fun W => header_any (p1 + 1) nr W (by omega) (by omega) hnk.1 (by omega)
              have hwr := fun W (b : Below w5.heap.size w5 W) => dwrite_any (hd3.next b) ((p1 + 1) % 2) (hdrM (p1 + 1) nr) (HSF.out.mono (by omega))
              have hwl := writeM_length E3 ((p1 + 1) % 2) (hdrM (p1 + 1) nr)
              obtain ⟨er4, E4, hR4⟩ : ∃ er4 E4, writeM E3 ((p1 + 1) % 2) (hdrM (p1 + 1) nr) = (er4, E4) := ⟨_, _, rfl⟩
              rw [hR4] at hwr hwl hR
              simp only at hwr hwl
              rw [← Int.tmod_eq_emod_of_nonneg (a := p1 + 1) (b := 2) (by omega)] at hwr
              generalize hdrM (p1 + 1) nr = hh at *
              have HHD := Lib.hid hhd
              have HWR := Lib.hid hwr
              have HWL := Lib.hid hwl
              have HR3 := Lib.hid hR
              have HB3 := Lib.hid hb3
              have HF3 := Lib.hid hf3
              clear hd3 hb3 hf3 hhd hwr hwl hR hR4 he he2 hc2
              go_upto_region 20 with (fail)
              go_region_held3 (fun w => w.cell? ⟨jb, 0, none⟩ = some (.pointer (some ⟨dk, 0, none⟩))) (first | exact hc3 | exact hcd | exact hcc) (first
                | (go_at_call 76; refine (HHD.out _).mono ?_; rintro x w6 ⟨rfl, b6⟩; have hcc := cell_kept b6 (show (w5.drew).cell? ⟨jb, 0, none⟩ = _ from hc3))
                | (go_at_call 39; refine (HWR.out _ ((Below.drawn w5 1 _).trans (b6.mono (Nat.le_refl _)))).mono ?_; rintro x w7 ⟨rfl, mv7⟩; have hcd := mv7.cell (p := ⟨jb, 0, none⟩) hcc hjF3))
              all_goals
                have MV4 := Lib.hid (mv7.then (HB3.out.next ((Below.drawn w5 1 _).trans (b6.mono (Nat.le_refl _)))) HF3.out)
                clear mv7 hcc hcd hc3 b6
                by_cases he5 : er4 = 0
                · have he6 : (er4 != 0) = false := by simpa using he5
                  have hR := HR3.out
                  rw [bindE_ok he5] at hR
                  simp only at hR
                  obtain ⟨F4, hd4, hb4, hf4⟩ := MV4.out
                  have hc4 := HC0.out _ _ MV4.out
                  have hsu := sure_any hd4 (.pointer (some ⟨jb, 0, none⟩))
                  obtain ⟨er5, E5, hR5⟩ : ∃ er5 E5, syncM E4 = (er5, E5) := ⟨_, _, rfl⟩
                  rw [hR5] at hsu hR
                  have HSU2 := Lib.hid hsu
                  have HR4 := Lib.hid hR
                  have HB4 := Lib.hid hb4
                  have HF4 := Lib.hid hf4
                  clear hd4 hb4 hf4 hsu hR hR5 he5
                  go_upto_region 24 with (go_at_call 51; refine HSU2.out.mono ?_; rintro x w8 ⟨rfl, mv8⟩)
                  have MV5 := Lib.hid (mv8.then HB4.out HF4.out)
                  clear mv8 hc4
                  by_cases he7 : er5 = 0
                  · have he8 : (er5 != 0) = false := by simpa using he7
                    obtain ⟨F5, hd5, hb5, hf5⟩ := MV5.out
                    have hj8 := HJ2.out.butS hb5 HDIS.out
                    have hjF5 : ¬ F5 jb := fun h => (hf5 jb h).elim hjF0 fun h => by have := HJ2.out.lt jb (.inl rfl); omega
                    have hlj := hj8.lt jb (.inl rfl)
                    have hS8 := HS3.out.kept fun a' e => hb5.block _ (HAL.out a' e) (HAF.out a' e).1
                    have f3 := hj8.f 3
                    have f4 := hj8.f 4
                    have f8 := hj8.f 8
                    have g3 := hj8.c3
                    have g4 := hj8.c4
                    have g8 := hj8.c8
                    have hjs := hj8.setHdr (p1 + 1) nr U
                    have hbs := ButS.set3 w8 jb 3 4 8 (.int .i64 (p1 + 1)) (.int .i64 nr) (.int .i64 (U : Int))
                    have hd6 := hd5.but hbs fun i hi e => hjF5 (e ▸ hi)
                    have hb6 : ButS (fun i => F i ∨ Fj jb v i) w2 _ := (hb5.mono fun i _ h => .inl h).trans hbs fun i h => .inl (.inr (.inl h))
                    have hS9 := hS8.kept fun a' e => hbs.block _ (Nat.lt_of_lt_of_le (HAL.out a' e) hb5.size) fun h => (HAF.out a' e).2 (.inl h)
                    have HJS := Lib.hid hjs
                    have HD6 := Lib.hid hd6
                    have HB6 := Lib.hid hb6
                    have HF5 := Lib.hid hf5
                    have HLT := Lib.hid hd6.lt
                    have hsz : (((w8.setCell ⟨jb, 3, none⟩ (.int .i64 (p1 + 1))).setCell ⟨jb, 4, none⟩ (.int .i64 nr)).setCell ⟨jb, 8, none⟩ (.int .i64 (U : Int))).heap.size = w8.heap.size := by simp [World.setCell]
                    clear hd5 hb5 hf5 hj8 hS8 hjs hbs hd6 hb6
                    go_upto_region 27 with (fail)
                    generalize ((w8.setCell ⟨jb, 3, none⟩ (.int .i64 (p1 + 1))).setCell ⟨jb, 4, none⟩ (.int .i64 nr)).setCell ⟨jb, 8, none⟩ (.int .i64 (U : Int)) = ws at *
                    clear f3 f4 f8 g3 g4 g8
                    have hcn := clone_strs_any ws A l c hS9 HA.out (by have := HN.out; omega)
                    rw [HN.out] at hcn
                    have HCN := Lib.hid hcn
                    clear hS9 hcn
                    go_upto_region 28 with (go_at_call 45; refine HCN.out.mono ?_; rintro x w9 ⟨vv, rfl, hv9, b9⟩
                                            obtain ⟨Av, cv, rfl, -, -⟩ := hv9.slice
                                            have hj9 := HJS.out.next b9
                                            have f5 := hj9.f 5
                                            have f6 := hj9.f 6
                                            have f7 := hj9.f 7
                                            have g5 := hj9.c5
                                            have g6 := hj9.c6
                                            have g7 := hj9.c7)
                    have hjf := hj9.setBody s (hv9.mono (Nat.zero_le _)) (fun g hg e => by have := (World.ownsRow.lt hv9 g hg).1; subst e; omega) n
                    have hbt := ButS.set3 w9 jb 5 6 7 (.string ⟨s.toArray⟩) (.slice Av l.length cv) (.int .i64 (n : Int))
                    have hdf := (HD6.out.next b9).but hbt fun i hi e => hjF5 (e ▸ hi)
                    have hfar := fun g hg => World.ownsRow.lt hv9 g hg
                    have hbf : ButS (fun i => F i ∨ Fj jb v i) Wi _ := (((ButS.of (F := fun i => F i ∨ Fj jb v i) HBB.out).trans HB6.out fun i h => .inl h).next b9).trans hbt fun i h => .inl (.inr (.inl h))
                    have HJF := Lib.hid hjf
                    have HDF := Lib.hid hdf
                    have HBF := Lib.hid hbf
                    have HFAR := Lib.hid hfar
                    have HB9 := Lib.hid b9
                    clear hjf hbt hdf hbf hfar b9 hj9 hv9 f5 f6 f7 g5 g6 g7
                    generalize ((w9.setCell ⟨jb, 5, none⟩ (.string ⟨s.toArray⟩)).setCell ⟨jb, 6, none⟩ (.slice Av l.length cv)).setCell ⟨jb, 7, none⟩ (.int .i64 (n : Int)) = wf at *
                    go_wp2_with (fail)
                    go_ret
                    have e1 := HR4.out
                    have e3 := HJJ.out
                    rw [← e1, if_pos he7] at e3
                    rw [← e1, ← e3, ← HJ'.out, he7]
                    have hlt0 := HBB.out.size
                    refine ⟨rfl, F5, _, HDF.out, ⟨_, HJF.out, rfl⟩, fun i hi hg => ?_, HBF.out, fun i hi => (HF5.out i hi).imp id fun h => Nat.le_trans hlt0 h, fun i hi => ?_⟩
                    · rcases hg with rfl | hg
                      · exact hjF5 hi
                      · have h1 := (HFAR.out i hg).1
                        have h2 := HLT.out i hi
                        omega
                    · rcases hi with rfl | hg
                      · exact .inl (.inl rfl)
                      · have h1 := (HFAR.out i hg).1
                        have h2 := HB6.out.size
                        exact .inr (by omega)
                  · have he8 : (er5 != 0) = true := by simpa using he7
                    go_wp2_with (fail)
                    go_ret
                    have e1 := HR4.out
                    have e3 := HJJ.out
                    rw [← e1, if_neg he7] at e3
                    rw [← e1, ← e3]
                    exact ⟨rfl, (MV5.out.then (ButS.of HBB.out) fun i hi => .inl hi).mj ⟨v, HJ.out, rfl⟩ HDIS.out⟩
                · have he6 : (er4 != 0) = true := by simpa using he5
                  go_wp2_with (fail)
                  go_ret
                  have e1 := HR3.out
                  rw [bindE_no he5] at e1
                  have e3 := HJJ.out
                  rw [← e1, if_neg he5] at e3
                  rw [← e1, ← e3]
                  exact ⟨rfl, (MV4.out.then (ButS.of HBB.out) fun i hi => .inl hi).mj ⟨v, HJ.out, rfl⟩ HDIS.out⟩
            · have he4 : (er3 != 0) = true := by simpa using he3
              go_wp2_with (fail)
              go_ret
              have e1 := HR2.out
              rw [bindE_no he3] at e1
              have e3 := HJJ.out
              rw [← e1, if_neg he3] at e3
              rw [← e1, ← e3]
              exact ⟨rfl, (MV3.out.then (ButS.of HBB.out) fun i hi => .inl hi).mj ⟨v, HJ.out, rfl⟩ HDIS.out⟩
          · have he2 : (er != 0) = true := by simpa using he
            go_wp2_with (fail)
            go_ret
            have e1 := HR1.out
            rw [bindE_no he] at e1
            have e3 := HJJ.out
            rw [← e1, if_neg he] at e3
            rw [← e1, ← e3]
            exact ⟨rfl, (MV2.out.then (ButS.of HBB.out) fun i hi => .inl hi).mj ⟨v, HJ.out, rfl⟩ HDIS.out⟩
theorem fit_base {N : Nat} {r : Int} (h : 0 ≤ r ∧ r ≤ 1) (h2 : 2 ≤ N) : baseM N r + capM N ≤ N := by
  have h3 := baseM_eq N h.1
  have : capM N + capM N + 2 ≤ N := by unfold capM; omega
  rcases (by omega : r = 0 ∨ r = 1) with rfl | rfl <;> omega
theorem begin_any {Wi : World} (hd : DiskAt Wi dk D F) (hj : JAt Wi jb dk J G) (hdis : ∀ i, F i → ¬ G i) (ho : D.off = false) (h8 : 8 ≤ D.sec.length) (s : Bs) (l : List Bs) (A : Option Addr) (n c : Nat) (hn : l.length = n) (hS : Strs Wi A l)
    (hA : (∃ a, A = some a) ∨ (A = none ∧ c = 0)) (hAF : ∀ a, A = some a → ¬ F a.block ∧ ¬ G a.block) (hAL : ∀ a, A = some a → a.block < Wi.heap.size) (huse : usedM (s :: l) ≤ capM D.sec.length) (hlen : ∀ x ∈ s :: l, x.length ≤ 100000) (hep : (curC (getM D)).1 < 4611686018427387904) (hfew : Few 50000 D) :
    Calls Try.prog 58 #[.pointer (some ⟨jb, 0, none⟩), .string ⟨s.toArray⟩, .slice A n c] Wi fun x w' => x = .returned (.int .i64 (beginM D (s :: l)).1) ∧ Mj Wi F G dk jb w' (beginM D (s :: l)).2 (if (beginM D (s :: l)).1 = 0 then begunJ D J s l else J) := by
  subst hn
  obtain ⟨v, hj, rfl⟩ := hj
  have hpk := curC_ok (getM D)
  have hnk := nextR_ok (getM D)
  refine begin_core hd hj hdis ho h8 s l A _ c rfl hS hA hAF hAL hlen hfew _ (begunJ D J s l) _ _ (capM D.sec.length) (baseM D.sec.length (nextR (curC (getM D)))) (usedM (s :: l)) (curC (getM D)).1 (curC (getM D)).2 (nextR (curC (getM D))) rfl rfl rfl hpk.1 hep hnk (baseM_eq _ hnk.1) (fit_base hnk (by omega)) rfl huse ?_ rfl rfl rfl
  unfold nextR
  by_cases h : 0 < (curC (getM D)).1
  · rw [if_pos h]
    exact .inl ⟨h, IntWalk.i64_in _ (by omega)⟩
  · rw [if_neg h]
    exact .inr ⟨h, rfl⟩
end
end Go.Proofs.Ytkljfampkkfgdaa
