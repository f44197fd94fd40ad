/- The journal layer: the walk over Write. -/
import Derived.Test.YtkljfampkkfgdaaJStep
namespace Go.Proofs.Ytkljfampkkfgdaa
open Go.RowKit
section
variable {W W' : World} {d b c : Nat} {vs : List Value} {D : Dk} {F : Nat → Prop}
theorem modify_set {l : List Sec} {i : Nat} {s : Sec} (h : l[i]? = some s) (f : Sec → Sec) : l.modify i f = l.set i (f s) := by
  refine List.ext_getElem? fun j => ?_
  rw [List.getElem?_modify, List.getElem?_set]
  by_cases e : i = j
  · subst e
    have hi : i < l.length := (List.getElem?_eq_some_iff.1 h).1
    rw [h]; simp [hi]
  · simp [e]
/-- The pending writes of sector i are now the row at v'. -/
theorem DiskB.pended (h : DiskB W d b c vs D) {i : Nat} {s : Sec} {v v' : Value} (hs : D.sec[i]? = some s) (hv : vs[i]? = some v) (p : List Bs) (hW : World) (hB : ButS (fun k => v.ownBlock = some k) W hW) (ho : OwnHs hW 0 v' p) (hn : OldNew W v v') :
    DiskB (hW.setCell ⟨b, i * 65 + 64, none⟩ v') d b c (vs.set i v') { D with sec := D.sec.set i ⟨s.dur, p⟩ } := by
  have hd0 := h.lt d (.inl rfl)
  have hb0 := h.lt b (.inr (.inl rfl))
  have nd : ¬ v.ownBlock = some d := fun e => (h.far i v d hv e).1 rfl
  have nb : ¬ v.ownBlock = some b := fun e => (h.far i v b hv e).2 rfl
  have hbb := hB.block b hb0 nb
  have fb' : ∀ g, v'.ownBlock = some g → g ≠ d ∧ g ≠ b ∧ ∀ (j : Nat) u, j ≠ i → vs[j]? = some u → u.ownBlock ≠ some g := by
    intro g hg
    rcases hn with e | e
    · rw [e] at hg
      exact ⟨(h.far i v g hv hg).1, (h.far i v g hv hg).2, fun j u hj hu hu' => hj (h.apart j i u v g hu hv hu' hg)⟩
    · have hge := e g hg
      refine ⟨by omega, by omega, fun j u hj hu hu' => ?_⟩
      have := h.lt g (.inr (.inr ⟨u, List.mem_of_getElem? hu, hu'⟩))
      omega
  have hds : s.dur.length = 64 := h.ok.dur s (List.mem_of_getElem? hs)
  have hl : (cellsB s.dur).length = 64 := by rw [cellsB_length, hds]
  refine h.put i ⟨s.dur, p⟩ v' ?_ (fun o => ?_) (fun j cs hj hcl hr => ?_) (fun j u hu => ?_) ?_ (fun j u g hj hu hg => ?_) fb' hds
  · rw [Below.heap_setCell _ _ _ _ (by exact h.db)]
    exact hB.block d hd0 nd
  · have := h.free o
    rw [← World.frozen?_of_block (a := ⟨b, o, none⟩) hbb] at this
    have e : (hW.setCell ⟨b, i * 65 + 64, none⟩ v').frozen? ⟨b, o, none⟩ = hW.frozen? ⟨b, o, none⟩ := World.frozen?_setCell ..
    rw [e]; exact this
  · have h1 := rangeAt_kept hr hbb
    have := World.rangeAt_setCells_apart h1 b (i * 65 + 64) [v'] (by rw [hcl]; simp only [List.length_singleton]; omega)
    exact this
  · change (cellsB s.dur ++ [v'])[j]? = some u at hu
    have h1 := rangeAt_kept (h.row i s v hs hv) hbb
    rcases Nat.lt_or_ge j 64 with hj | hj
    · have hu2 : (cellsB s.dur ++ [v])[j]? = some u := by rw [List.getElem?_append_left (by omega)] at hu ⊢; exact hu
      have hc := h1 j u hu2
      exact (World.cell?_setCell_other _ _ _ _ (by intro e; have := congrArg Addr.off e; simp only at this; omega)).trans hc
    · have hu' := (List.getElem?_eq_some_iff.1 hu).1
      simp only [List.length_append, hl, List.length_singleton] at hu'
      obtain rfl : j = 64 := by omega
      rw [List.getElem?_append_right (by omega), hl] at hu
      obtain rfl : v' = u := by simpa using hu
      have hc := h1 64 v (by rw [List.getElem?_append_right (by omega), hl]; rfl)
      exact World.cell?_setCell_same _ _ _ hc
  · exact ho.kept fun g hg => Below.heap_setCell _ _ _ _ (fb' g hg).2.1
  · rw [Below.heap_setCell _ _ _ _ (h.far j u g hu hg).2]
    exact hB.block g (h.lt g (.inr (.inr ⟨u, List.mem_of_getElem? hu, hg⟩))) fun e => hj (h.apart j i u v g hu hv hg e)
/-- No sector has more than m pending writes. -/
def Few (m : Nat) (D : Dk) : Prop := ∀ s ∈ D.sec, s.pend.length ≤ m
theorem nums_pad (x : Bs) (_h : x.length ≤ 64) : (List.replicate 64 (0 : Int)).take 0 ++ nums x ++ (List.replicate 64 (0 : Int)).drop (0 + x.length) = nums (padB x) := by
  rw [List.take_zero, List.nil_append, Nat.zero_add, List.drop_replicate]; simp [nums, padB]
set_option maxRecDepth 100000 in
set_option maxHeartbeats 2000000 in
theorem dwrite_any {dk : Nat} (h : DiskAt W dk D F) (n : Int) (data : Bs) (hfew : Few 999999 D) : Calls Try.prog 39 #[.pointer (some ⟨dk, 0, none⟩), .int .i64 n, .string ⟨data.toArray⟩] W fun e w' => e = .returned (.int .i64 (writeM D n data).1) ∧ Mv W F dk w' (writeM D n data).2 := by
  have hu := dready_any h
  have hm := h.mv
  obtain ⟨b, c, vs, h, rfl⟩ := h
  have c0 := h.c0
  unfold readyM at hu
  unfold writeM
  cases ho : D.off
  case true =>
    rw [ho] at hu
    rw [if_pos rfl]
    have HM := Lib.hid hm
    clear h hm
    go_enter Try.func39, Try.ntmps39
    go_wp2_with (go_at_call 65; refine hu.mono ?_; rintro e w1 ⟨rfl, hw1⟩; obtain rfl := hw1.symm)
    go_ret
    exact ⟨rfl, HM.out⟩
  case false =>
  rw [ho] at hu
  rw [if_neg (by simp)]
  by_cases hr : n < 0 ∨ (D.sec.length : Int) ≤ n
  · rw [if_pos hr]
    have HM := Lib.hid hm
    clear h hm
    by_cases h0 : n < 0
    · go_enter Try.func39, Try.ntmps39
      go_wp2_with (go_at_call 65; refine hu.mono ?_; rintro e w1 ⟨rfl, hw1⟩; obtain rfl := hw1.symm)
      go_ret
      exact ⟨rfl, HM.out⟩
    · have h1 : n ≥ (D.sec.length : Int) := by omega
      go_enter Try.func39, Try.ntmps39
      go_wp2_with (go_at_call 65; refine hu.mono ?_; rintro e w1 ⟨rfl, hw1⟩; obtain rfl := hw1.symm)
      go_ret
      exact ⟨rfl, HM.out⟩
  rw [if_neg hr]
  obtain ⟨i, rfl⟩ : ∃ i : Nat, n = i := ⟨n.toNat, by omega⟩
  have hi : i < D.sec.length := by omega
  have h0 : ¬ ((i : Int) < 0) := by omega
  have h1 : ¬ ((i : Int) ≥ (D.sec.length : Int)) := by omega
  have h2 : (i : Int) < (D.sec.length : Int) := by omega
  have h3 : 0 ≤ (i : Int) := by omega
  clear hr
  by_cases hlen : 64 < data.length
  · rw [if_pos hlen]
    have h5 : (data.length : Int) > 64 := by omega
    have HM := Lib.hid hm
    clear h hm
    go_enter Try.func39, Try.ntmps39
    go_wp2_with (go_at_call 65; refine hu.mono ?_; rintro e w1 ⟨rfl, hw1⟩; obtain rfl := hw1.symm)
    go_ret
    exact ⟨rfl, HM.out⟩
  rw [if_neg hlen]
  have h5 : ¬ ((data.length : Int) > 64) := by omega
  have hbn := burn_b h
  have hfp := h.lt
  by_cases hfz : D.fuse = 0
  · rw [if_pos hfz]
    have e1 : burnM D = (70, { D with off := true }) := by unfold burnM; rw [if_pos hfz]
    rw [e1] at hbn
    rw [ho] at *
    have H := Lib.hid h
    have HB := Lib.hid hbn
    clear h hm hbn
    go_enter Try.func39, Try.ntmps39
    go_wp2_with (first
      | (go_at_call 65; refine hu.mono ?_; rintro e w1 ⟨rfl, hw1⟩; obtain rfl := hw1.symm)
      | (go_at_call 72; refine HB.out.mono ?_; rintro e w2 ⟨rfl, hd2, hb2⟩))
    go_ret
    exact ⟨rfl, H.out.mv hd2 (hb2.mono fun i _ e => .inl e) fun i hi => .inl hi⟩
  rw [if_neg hfz]
  have e1 : burnM D = (0, { D with fuse := fdec D.fuse }) := by unfold burnM; rw [if_neg hfz]
  rw [e1] at hbn
  simp only at hbn
  rw [Int.toNat_natCast]
  obtain ⟨s, pv, es, ev, r1, r2, r3, r4⟩ := h.sec_ hi
  rw [modify_set es]
  simp only
  generalize hD1 : ({ D with fuse := fdec D.fuse } : Dk) = D1 at *
  have E1 : D1.sec = D.sec := by rw [← hD1]
  have E2 : ({ sec := D1.sec.set i ⟨s.dur, s.pend ++ [padB data]⟩, off := D1.off, fuse := D1.fuse, own := D1.own } : Dk) = { sec := D.sec.set i ⟨s.dur, s.pend ++ [padB data]⟩, off := false, fuse := fdec D.fuse, own := D.own } := by rw [← hD1]; simp [ho]
  have es1 : D1.sec[i]? = some s := by rw [E1]; exact es
  have hx : (padB data).length = 64 := padB_length (by omega)
  have hH1 : s.pend.length ≤ 1000000 := Nat.le_trans (hfew s (List.mem_of_getElem? es)) (by decide)
  have np := nums_pad data (by omega)
  generalize hxx : padB data = x at *
  generalize hH : s.pend = H at *
  have H0 := Lib.hid h
  have HB := Lib.hid hbn
  have HE2 := Lib.hid E2
  have HNP := Lib.hid np
  have HR := Lib.hid hxx
  clear h hm hbn E2 np hD1 hxx hfp r1 r2 r3
  go_enter Try.func39, Try.ntmps39
  go_upto_region 12 with (first
      | (go_at_call 65; refine hu.mono ?_; rintro e w1 ⟨rfl, hw1⟩; obtain rfl := hw1.symm)
      | (go_at_call 72; refine HB.out.mono ?_; rintro e w2 ⟨rfl, hd2, hb2⟩))
  generalize hW3 : World.alloc w2 _ = w3
  have b3 : Below w2.heap.size w2 w3 := hW3 ▸ Below.new1 _ _
  have x9 : BoxA w3 w2.heap.size 95 .u8 (List.replicate 64 0) := hW3 ▸ BoxA.new w2 _ _ _ _ rfl
  clear hW3
  generalize hg : w2.heap.size = g at *
  go_upto_region 13 with (refine wpList_exec rfl _ (exec_copyB (ev := _) (.tmp 36) (.tmp 37) rfl g 0 64 64 data _ rfl rfl x9 (by omega) (by simp; omega)) ?_)
  rw [HNP.out]
  have xg : BoxH (World.setRow w3 g (ints .u8 (nums x))) g x := BoxA.setRow x9
  have b4 : Below g w2 (World.setRow w3 g (ints .u8 (nums x))) := below_setRow b3 (Nat.le_refl _) _
  generalize hw0 : World.setRow w3 g (ints .u8 (nums x)) = w0 at *
  have hd0 : DiskB w0 dk b c vs D1 := hd2.next (hg ▸ b4)
  have c0 := hd0.c0
  have hvx := hd0.sec_ (i := i) (by rw [E1]; exact hi)
  obtain ⟨s1, v1, q1, q2, -, cv, hv, -⟩ := hvx
  rw [es1] at q1
  rw [ev] at q2
  cases q1
  cases q2
  rw [hH] at hv
  have nd : ¬ pv.ownBlock = some dk := fun e => (hd0.far i pv dk ev e).1 rfl
  have nb : ¬ pv.ownBlock = some b := fun e => (hd0.far i pv b ev e).2 rfl
  have ng : ¬ pv.ownBlock = some g := fun e => by have := hd2.lt g (.inr (.inr ⟨pv, List.mem_of_getElem? ev, e⟩)); omega
  rw [E1] at c0
  obtain ⟨N, hN⟩ : ∃ N, D.sec.length = N := ⟨_, rfl⟩
  rw [hN] at c0 h1 h2 hi
  have HD0 := Lib.hid hd0
  have HD2 := Lib.hid hd2
  have HB2 := Lib.hid hb2
  have HB4 := Lib.hid b4
  have HV := Lib.hid hv
  have HG := Lib.hid hg
  clear hw0 b3 x9 hd0 hd2 hb2 b4 HNP HB hN hu hg e1
  refine wp_name fun a0 ha0 => ?_
  have e0 : a0.eval (.tmp 0) = .pointer (some ⟨dk, 0, none⟩) := by rw [ha0]; rfl
  have e1 : a0.eval (.tmp 1) = .int .i64 (i : Int) := by rw [ha0]; rfl
  have e9 : a0.eval (.tmp 9) = .pointer (some ⟨g, 0, none⟩) := by rw [ha0]; rfl
  have hz : a0.tmps.size = 57 := by rw [ha0]; rfl
  have HA0 := Lib.hid ha0
  clear ha0
  have SG : ∀ (d d' : Nat → Prop) (W W' : World), (GApp w0 pv H 15) d W → (∀ j, d j → d' j) → Below W.heap.size W W' → (GApp w0 pv H 15) d' W' := fun _ _ _ _ h _hm b => GApp.next h _hm b
  have St : ∀ xc ∈ [(⟨some 0, 39, none, fun v _ => v = .pointer (some ⟨dk, 0, none⟩)⟩ : Cl), ⟨some 1, 40, none, fun v _ => v = .pointer (some ⟨dk, 0, none⟩)⟩, ⟨some 2, 41, none, fun v _ => v = .pointer (some ⟨dk, 0, none⟩)⟩, ⟨some 3, 42, none, fun v _ => v = .slice (some ⟨b, 0, none⟩) N c⟩, ⟨some 4, 43, none, fun v _ => v = .int .i64 (i : Int)⟩, ⟨some 5, 44, none, fun v _ => v = .pointer (some ⟨dk, 0, none⟩)⟩, ⟨some 6, 45, none, fun v _ => v = .pointer (some ⟨dk, 0, none⟩)⟩, ⟨some 7, 46, none, fun v _ => v = .pointer (some ⟨dk, 0, none⟩)⟩, ⟨some 8, 47, none, fun v _ => v = .slice (some ⟨b, 0, none⟩) N c⟩, ⟨some 9, 48, none, fun v _ => v = .int .i64 (i : Int)⟩, ⟨some 10, 49, none, fun v _ => v = .pointer (some ⟨b, i * 65, none⟩)⟩, ⟨some 11, 50, none, fun v _ => v = .pointer (some ⟨b, i * 65 + 64, none⟩)⟩, ⟨some 12, 51, none, fun v _ => v = pv⟩, ⟨some 13, 52, none, fun v _ => v = hashV x⟩, ⟨some 14, 53, some 15, fun u W => ∃ g2 c2, u = .slice (some ⟨g2, 0, none⟩) 1 c2 ∧ w0.heap.size ≤ g2 ∧ ∀ j y, (cellsB x)[j]? = some y → W.cell? ((⟨g2, 0, none⟩ : Addr).add j) = some y⟩, ⟨some 15, 54, none, fun u W => OwnHs W 0 u (H ++ [x]) ∧ OldNew w0 pv u⟩, ⟨some 16, 55, none, fun v _ => v = .pointer (some ⟨b, i * 65, none⟩)⟩, ⟨some 17, 56, none, fun v _ => v = .pointer (some ⟨b, i * 65 + 64, none⟩)⟩], Lasts xc := AllC.mem ⟨lastsV0 _ _ _ _, lastsV0 _ _ _ _, lastsV0 _ _ _ _, lastsV0 _ _ _ _, lastsV0 _ _ _ _, lastsV0 _ _ _ _, lastsV0 _ _ _ _, lastsV0 _ _ _ _, lastsV0 _ _ _ _, lastsV0 _ _ _ _, lastsV0 _ _ _ _, lastsV0 _ _ _ _, lastsV0 _ _ _ _, lastsV0 _ _ _ _, (fun _ _ _ ⟨g2, c2, h1, h2, h3⟩ b => ⟨g2, c2, h1, h2, fun j y hy => cell_kept b (h3 j y hy)⟩), (fun _ _ _ h b => ⟨h.1.kept fun g hg => b.block g (h.1.lt hg), h.2⟩), lastsV0 _ _ _ _, lastsV0 _ _ _ _, trivial⟩
  refine wp_region_lastlyR 18 _ (Inv [39, 40, 41, 42, 43, 44, 45, 46, 47, 48, 49, 50, 51, 52, 53, 54, 55, 56] a0 (GApp w0 pv H 15) (lst St)) (by kernel_rfl) (by kernel_rfl) rfl rfl (fun d hcl hw j hj => ?_) rfl (Inv.start ⟨ButS.of (Below.drawn w0 1 _), fun _ => hv.kept fun _ _ => rfl⟩ ⟨nofun, nofun, nofun, nofun, nofun, nofun, nofun, nofun, nofun, nofun, nofun, nofun, nofun, nofun, nofun, nofun, nofun, nofun, trivial⟩) ?_ ?_
  · have r15 := hw 15 rfl
    have r17 := hw 17 rfl
    have r16 := hcl 17 _ 16 rfl rfl r17
    have r3 := hcl 16 _ 3 rfl rfl r16
    have r4 := hcl 16 _ 4 rfl rfl r16
    have r2 := hcl 3 _ 2 rfl rfl r3
    have r1 := hcl 2 _ 1 rfl rfl r2
    have r0 := hcl 1 _ 0 rfl rfl r1
    have r12 := hcl 15 _ 12 rfl rfl r15
    have r14 := hcl 15 _ 14 rfl rfl r15
    have r13 := hcl 14 _ 13 rfl rfl r14
    have r11 := hcl 12 _ 11 rfl rfl r12
    have r10 := hcl 11 _ 10 rfl rfl r11
    have r8 := hcl 10 _ 8 rfl rfl r10
    have r9 := hcl 10 _ 9 rfl rfl r10
    have r7 := hcl 8 _ 7 rfl rfl r8
    have r6 := hcl 7 _ 6 rfl rfl r7
    have r5 := hcl 6 _ 5 rfl rfl r6
    match j, hj with
    | 0, _ => exact r0
    | 1, _ => exact r1
    | 2, _ => exact r2
    | 3, _ => exact r3
    | 4, _ => exact r4
    | 5, _ => exact r5
    | 6, _ => exact r6
    | 7, _ => exact r7
    | 8, _ => exact r8
    | 9, _ => exact r9
    | 10, _ => exact r10
    | 11, _ => exact r11
    | 12, _ => exact r12
    | 13, _ => exact r13
    | 14, _ => exact r14
    | 15, _ => exact r15
    | 16, _ => exact r16
    | 17, _ => exact r17
    | j + 18, h => exact absurd h (by omega)
  · clear HA0
    refine ⟨?_, ?_, ?_, ?_, ?_, ?_, ?_, ?_, ?_, ?_, ?_, ?_, ?_, ?_, ?_, ?_, ?_, ?_, trivial⟩
    · refine stepB rfl rfl (by decide) (by rw [hz]; decide) rfl rfl (by kernel_rfl) St SG fun d a W hF hG hH hn hcl hw => ?_
      have q0 := (hF.same 0 (by decide)).trans e0
      exact ⟨.pointer (some ⟨dk, 0, none⟩), W, by clear hF hG hH hn hcl hw; generalize a.eval = ρ at *; go_simp, Below.refl _ _, rfl⟩
    · refine stepB rfl rfl (by decide) (by rw [hz]; decide) rfl rfl (by kernel_rfl) St SG fun d a W hF hG hH hn hcl hw => ?_
      have q39 : a.eval (.tmp 39) = .pointer (some ⟨dk, 0, none⟩) := hH.at_ (i := 0) rfl (hw 0 rfl) id
      exact ⟨.pointer (some ⟨dk, 0, none⟩), W, by clear hF hG hH hn hcl hw; generalize a.eval = ρ at *; go_simp, Below.refl _ _, rfl⟩
    · refine stepB rfl rfl (by decide) (by rw [hz]; decide) rfl rfl (by kernel_rfl) St SG fun d a W hF hG hH hn hcl hw => ?_
      have q40 : a.eval (.tmp 40) = .pointer (some ⟨dk, 0, none⟩) := hH.at_ (i := 1) rfl (hw 1 rfl) id
      exact ⟨.pointer (some ⟨dk, 0, none⟩), W, by clear hF hG hH hn hcl hw; generalize a.eval = ρ at *; go_simp, Below.refl _ _, rfl⟩
    · refine stepB rfl rfl (by decide) (by rw [hz]; decide) rfl rfl (by kernel_rfl) St SG fun d a W hF hG hH hn hcl hw => ?_
      have q41 : a.eval (.tmp 41) = .pointer (some ⟨dk, 0, none⟩) := hH.at_ (i := 2) rfl (hw 2 rfl) id
      have cc := hG.1.cell c0 nd
      exact ⟨.slice (some ⟨b, 0, none⟩) N c, W, by clear hF hG hH hn hcl hw; generalize a.eval = ρ at *; go_simp, Below.refl _ _, rfl⟩
    · refine stepB rfl rfl (by decide) (by rw [hz]; decide) rfl rfl (by kernel_rfl) St SG fun d a W hF hG hH hn hcl hw => ?_
      have q1 := (hF.same 1 (by decide)).trans e1
      exact ⟨.int .i64 (i : Int), W, by clear hF hG hH hn hcl hw; generalize a.eval = ρ at *; go_simp, Below.refl _ _, rfl⟩
    · refine stepB rfl rfl (by decide) (by rw [hz]; decide) rfl rfl (by kernel_rfl) St SG fun d a W hF hG hH hn hcl hw => ?_
      have q0 := (hF.same 0 (by decide)).trans e0
      exact ⟨.pointer (some ⟨dk, 0, none⟩), W, by clear hF hG hH hn hcl hw; generalize a.eval = ρ at *; go_simp, Below.refl _ _, rfl⟩
    · refine stepB rfl rfl (by decide) (by rw [hz]; decide) rfl rfl (by kernel_rfl) St SG fun d a W hF hG hH hn hcl hw => ?_
      have q44 : a.eval (.tmp 44) = .pointer (some ⟨dk, 0, none⟩) := hH.at_ (i := 5) rfl (hw 5 rfl) id
      exact ⟨.pointer (some ⟨dk, 0, none⟩), W, by clear hF hG hH hn hcl hw; generalize a.eval = ρ at *; go_simp, Below.refl _ _, rfl⟩
    · refine stepB rfl rfl (by decide) (by rw [hz]; decide) rfl rfl (by kernel_rfl) St SG fun d a W hF hG hH hn hcl hw => ?_
      have q45 : a.eval (.tmp 45) = .pointer (some ⟨dk, 0, none⟩) := hH.at_ (i := 6) rfl (hw 6 rfl) id
      exact ⟨.pointer (some ⟨dk, 0, none⟩), W, by clear hF hG hH hn hcl hw; generalize a.eval = ρ at *; go_simp, Below.refl _ _, rfl⟩
    · refine stepB rfl rfl (by decide) (by rw [hz]; decide) rfl rfl (by kernel_rfl) St SG fun d a W hF hG hH hn hcl hw => ?_
      have q46 : a.eval (.tmp 46) = .pointer (some ⟨dk, 0, none⟩) := hH.at_ (i := 7) rfl (hw 7 rfl) id
      have cc := hG.1.cell c0 nd
      exact ⟨.slice (some ⟨b, 0, none⟩) N c, W, by clear hF hG hH hn hcl hw; generalize a.eval = ρ at *; go_simp, Below.refl _ _, rfl⟩
    · refine stepB rfl rfl (by decide) (by rw [hz]; decide) rfl rfl (by kernel_rfl) St SG fun d a W hF hG hH hn hcl hw => ?_
      have q1 := (hF.same 1 (by decide)).trans e1
      exact ⟨.int .i64 (i : Int), W, by clear hF hG hH hn hcl hw; generalize a.eval = ρ at *; go_simp, Below.refl _ _, rfl⟩
    · refine stepB rfl rfl (by decide) (by rw [hz]; decide) rfl rfl (by kernel_rfl) St SG fun d a W hF hG hH hn hcl hw => ?_
      have q47 : a.eval (.tmp 47) = .slice (some ⟨b, 0, none⟩) N c := hH.at_ (i := 8) rfl (hw 8 rfl) id
      have q48 : a.eval (.tmp 48) = .int .i64 (i : Int) := hH.at_ (i := 9) rfl (hw 9 rfl) id
      exact ⟨.pointer (some ⟨b, i * 65, none⟩), W, by clear hF hG hH hn hcl hw; generalize a.eval = ρ at *; go_simp, Below.refl _ _, rfl⟩
    · refine stepB rfl rfl (by decide) (by rw [hz]; decide) rfl rfl (by kernel_rfl) St SG fun d a W hF hG hH hn hcl hw => ?_
      have q49 : a.eval (.tmp 49) = .pointer (some ⟨b, i * 65, none⟩) := hH.at_ (i := 10) rfl (hw 10 rfl) id
      exact ⟨.pointer (some ⟨b, i * 65 + 64, none⟩), W, by clear hF hG hH hn hcl hw; generalize a.eval = ρ at *; go_simp, Below.refl _ _, rfl⟩
    · refine stepB rfl rfl (by decide) (by rw [hz]; decide) rfl rfl (by kernel_rfl) St SG fun d a W hF hG hH hn hcl hw => ?_
      have q50 : a.eval (.tmp 50) = .pointer (some ⟨b, i * 65 + 64, none⟩) := hH.at_ (i := 11) rfl (hw 11 rfl) id
      have cc := hG.1.cell cv nb
      exact ⟨pv, W, by clear hF hG hH hn hcl hw; generalize a.eval = ρ at *; go_simp, Below.refl _ _, rfl⟩
    · refine stepB rfl rfl (by decide) (by rw [hz]; decide) rfl rfl (by kernel_rfl) St SG fun d a W hF hG hH hn hcl hw => ?_
      have q9 := (hF.same 9 (by decide)).trans e9
      refine ⟨hashV x, W, ?_, Below.refl _ _, ?_⟩
      · exact exec_load rfl (by rw [q9]; exact BoxH.load_ (GApp.box hG xg ng) hx)
      · rfl
    · refine stepB rfl rfl (by decide) (by rw [hz]; decide) rfl rfl (by kernel_rfl) St SG fun d a W hF hG hH hn hcl hw => ?_
      have q52 : a.eval (.tmp 52) = hashV x := hH.at_ (i := 13) rfl (hw 13 rfl) id
      refine ⟨_, _, exec_buildH (ev := a.eval) (w := W) (.tmp 52) rfl x q52 hx, Below.new1 _ _, W.heap.size, 1, rfl, hG.1.size, fun j y hy => ?_⟩
      rw [Addr.add_mid, Nat.zero_add, cell_of_row _ _ j _ _ _ (heap_alloc_new W _)]
      simpa using hy
    · refine stepF (F := (fun i => pv.ownBlock = some i)) rfl rfl (by decide) (by rw [hz]; decide) rfl rfl (by kernel_rfl) (AllC.mem ⟨.inr (.inr (.inl fun _ _ _ h _ => h)), .inr (.inr (.inl fun _ _ _ h _ => h)), .inr (.inr (.inl fun _ _ _ h _ => h)), .inr (.inr (.inl fun _ _ _ h _ => h)), .inr (.inr (.inl fun _ _ _ h _ => h)), .inr (.inr (.inl fun _ _ _ h _ => h)), .inr (.inr (.inl fun _ _ _ h _ => h)), .inr (.inr (.inl fun _ _ _ h _ => h)), .inr (.inr (.inl fun _ _ _ h _ => h)), .inr (.inr (.inl fun _ _ _ h _ => h)), .inr (.inr (.inl fun _ _ _ h _ => h)), .inr (.inr (.inl fun _ _ _ h _ => h)), .inr (.inr (.inl fun _ _ _ h _ => h)), .inr (.inr (.inl fun _ _ _ h _ => h)), .inr (.inl rfl), .inl rfl, .inr (.inr (.inl fun _ _ _ h _ => h)), .inr (.inr (.inl fun _ _ _ h _ => h)), trivial⟩) (fun _ _ _ _ h hm hk b => GApp.done h hm hk b) fun d a W hF hG hH hn hcl hw => ?_
      have q51 : a.eval (.tmp 51) = pv := hH.at_ (i := 12) rfl (hw 12 rfl) id
      have q53 : ∃ g2 c2, a.eval (.tmp 53) = .slice (some ⟨g2, 0, none⟩) 1 c2 ∧ w0.heap.size ≤ g2 ∧ ∀ j y, (cellsB x)[j]? = some y → W.cell? ((⟨g2, 0, none⟩ : Addr).add j) = some y := hH.at_ (i := 14) rfl (hw 14 rfl) hn
      obtain ⟨g2, c2, hy, hg2, hcell⟩ := q53
      exact exec_append_hs (ev := a.eval) (.tmp 51) (.tmp 53) rfl W pv H x g2 c2 q51 hy (hG.2 hn) hcell hx hH1 w0 hG.1.size
    · refine stepB rfl rfl (by decide) (by rw [hz]; decide) rfl rfl (by kernel_rfl) St SG fun d a W hF hG hH hn hcl hw => ?_
      have q42 : a.eval (.tmp 42) = .slice (some ⟨b, 0, none⟩) N c := hH.at_ (i := 3) rfl (hw 3 rfl) id
      have q43 : a.eval (.tmp 43) = .int .i64 (i : Int) := hH.at_ (i := 4) rfl (hw 4 rfl) id
      exact ⟨.pointer (some ⟨b, i * 65, none⟩), W, by clear hF hG hH hn hcl hw; generalize a.eval = ρ at *; go_simp, Below.refl _ _, rfl⟩
    · refine stepB rfl rfl (by decide) (by rw [hz]; decide) rfl rfl (by kernel_rfl) St SG fun d a W hF hG hH hn hcl hw => ?_
      have q55 : a.eval (.tmp 55) = .pointer (some ⟨b, i * 65, none⟩) := hH.at_ (i := 16) rfl (hw 16 rfl) id
      exact ⟨.pointer (some ⟨b, i * 65 + 64, none⟩), W, by clear hF hG hH hn hcl hw; generalize a.eval = ρ at *; go_simp, Below.refl _ _, rfl⟩
  · intro d a W ⟨hF, hB, hH⟩ hall
    have k54 : OwnHs W 0 (a.eval (.tmp 54)) (H ++ [x]) ∧ OldNew w0 pv (a.eval (.tmp 54)) := hH.at_ (i := 15) rfl (hall 15 (by decide)) id
    have k56 : a.eval (.tmp 56) = .pointer (some ⟨b, i * 65 + 64, none⟩) := hH.at_ (i := 17) rfl (hall 17 (by decide)) id
    clear hH hall
    rw [hF.shape (by rw [hz]; decide)]
    clear hF
    simp only [List.foldl]
    generalize a.eval (.tmp 39) = z39, a.eval (.tmp 40) = z40, a.eval (.tmp 41) = z41, a.eval (.tmp 42) = z42, a.eval (.tmp 43) = z43, a.eval (.tmp 44) = z44, a.eval (.tmp 45) = z45, a.eval (.tmp 46) = z46, a.eval (.tmp 47) = z47, a.eval (.tmp 48) = z48, a.eval (.tmp 49) = z49, a.eval (.tmp 50) = z50, a.eval (.tmp 51) = z51, a.eval (.tmp 52) = z52, a.eval (.tmp 53) = z53, a.eval (.tmp 54) = z54, a.eval (.tmp 55) = z55, a.eval (.tmp 56) = z56 at *
    subst k56
    rw [HA0.out]
    simp only [Act.put, List.setIfInBounds_toArray, List.set_cons_zero, List.set_cons_succ]
    clear hz HA0 St SG e0 e1 e9
    clear a a0
    have G54 := Lib.hid k54
    clear k54
    have hDB := HD0.out.pended es1 ev (H ++ [x]) _ hB.1 G54.out.1 G54.out.2
    have hcc := hB.1.cell cv nb
    have hff := (World.frozen?_of_block (a := ⟨b, i * 65 + 64, none⟩) (hB.1.block b (HD0.out.lt b (.inr (.inl rfl))) nb)).trans (HD0.out.free _)
    have h1c : z54.oneCell' = true := by
      rcases G54.out.1.2.2 with ⟨e, _⟩ | ⟨_, _, _, e, _⟩
      · rw [e]; rfl
      · rw [e]; rfl
    refine wp_store1 _ (.tmp 56) (.tmp 54) rfl b (i * 65 + 64) z54 pv rfl rfl hcc hff h1c (by kernel_rfl) ?_
    go_wp2_with (fail)
    go_ret
    rw [HE2.out] at hDB
    have mv := List.mem_of_getElem? ev
    have s2 := (HB2.out.mono (G := Fp dk b vs) fun _ _ e => .inl e).next (HG.out ▸ HB4.out)
    have s4 := (s2.trans hB.1 fun _ e => .inl (.inr (.inr ⟨pv, mv, e⟩))).trans (ButS.setCell (F := fun i => i = b) _ (p := ⟨b, i * 65 + 64, none⟩) rfl z54) fun _ e => .inl (.inr (.inl e))
    refine ⟨rfl, H0.out.mv hDB s4 fun j hj => ?_⟩
    rcases hj with e | e | ⟨u, hu, e⟩
    · exact .inl (.inl e)
    · exact .inl (.inr (.inl e))
    · rcases List.mem_or_eq_of_mem_set hu with m | rfl
      · exact .inl (.inr (.inr ⟨u, m, e⟩))
      · rcases G54.out.2 with q | q
        · rw [q] at e; exact .inl (.inr (.inr ⟨pv, mv, e⟩))
        · exact .inr (Nat.le_trans s2.size (q j e))
end
end Go.Proofs.Ytkljfampkkfgdaa
