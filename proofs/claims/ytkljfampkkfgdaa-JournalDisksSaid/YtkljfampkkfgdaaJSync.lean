/- The journal layer: the walk over Sync. -/
import Derived.Test.YtkljfampkkfgdaaJWrite
namespace Go.Proofs.Ytkljfampkkfgdaa
open Go.RowKit
section
variable {W W' : World} {d b c : Nat} {vs : List Value} {D : Dk} {F : Nat → Prop}
theorem heap_setCells_far (b : Nat) : ∀ (vs : List Value) (o : Nat) (w : World) (g : Nat), g ≠ b → (w.setCells b o vs).heap[g]? = w.heap[g]?
  | [], _, _, _, _ => rfl
  | v :: r, o, w, g, h => by
    rw [World.setCells, heap_setCells_far b r (o + 1) _ g h]
    exact Below.heap_setCell _ _ _ _ h
theorem ButS.setCells {F : Nat → Prop} (b : Nat) (hp : F b) : ∀ (vs : List Value) (o : Nat) (w : World), ButS F w (w.setCells b o vs)
  | [], _, _w => ButS.refl _ _
  | v :: r, o, w => (ButS.setCell w (p := ⟨b, o, none⟩) hp v).trans (ButS.setCells b hp r (o + 1) _) fun _ h => .inl h
theorem DiskB.there_ (h : DiskB W d b c vs D) {i : Nat} (hi : i < D.sec.length) : W.there b (i * 65) 64 := fun j hj => by
  obtain ⟨s, v, _, _, r1, _, _, r4⟩ := h.sec_ hi
  refine ⟨?_, h.free _⟩
  rw [r1 j _ (cellsB_get (by omega))]; rfl
/-- Sector i has been made durable as x. -/
theorem DiskB.flushed (h : DiskB W d b c vs D) {i : Nat} {s : Sec} {v : Value} (hs : D.sec[i]? = some s) (hv : vs[i]? = some v) (x : Bs) (hx : x.length = 64) :
    DiskB ((W.setCells b (i * 65) (cellsB x)).setCell ⟨b, i * 65 + 64, none⟩ (.slice none 0 0)) d b c (vs.set i (.slice none 0 0)) { D with sec := D.sec.set i ⟨x, []⟩ } := by
  have hi : i < D.sec.length := (List.getElem?_eq_some_iff.1 hs).1
  have hl : (cellsB x).length = 64 := by rw [cellsB_length, hx]
  have hth : W.there b (i * 65) (cellsB x).length := by rw [hl]; exact h.there_ hi
  have far : ∀ g, g ≠ b → ((W.setCells b (i * 65) (cellsB x)).setCell ⟨b, i * 65 + 64, none⟩ (.slice none 0 0)).heap[g]? = W.heap[g]? := fun g hg => by
    rw [Below.heap_setCell _ _ _ _ hg]
    exact heap_setCells_far b _ _ _ g hg
  have hds : s.dur.length = 64 := h.ok.dur s (List.mem_of_getElem? hs)
  have hl0 : (cellsB s.dur).length = 64 := by rw [cellsB_length, hds]
  refine h.put i ⟨x, []⟩ (.slice none 0 0) (far d h.db) (fun o => ?_) (fun j cs hj hcl hr => ?_) (fun j u hu => ?_) (OwnHs.none_ _ _) (fun j u g hj hu hg => far g (h.far j u g hu hg).2) (fun g hg => by cases hg) hx
  · have := h.free o
    rw [← World.frozen?_setCells b (cellsB x) (i * 65) W ⟨b, o, none⟩] at this
    have e : ((W.setCells b (i * 65) (cellsB x)).setCell ⟨b, i * 65 + 64, none⟩ (.slice none 0 0)).frozen? ⟨b, o, none⟩ = (W.setCells b (i * 65) (cellsB x)).frozen? ⟨b, o, none⟩ := World.frozen?_setCell ..
    rw [e]; exact this
  · have h1 := World.rangeAt_setCells_apart hr b (i * 65) (cellsB x) (by rw [hcl, hl]; omega)
    exact World.rangeAt_setCells_apart h1 b (i * 65 + 64) [.slice none 0 0] (by rw [hcl]; simp only [List.length_singleton]; omega)
  · change (cellsB x ++ [Value.slice none 0 0])[j]? = some u at hu
    have h1 := World.rangeAt_setCells_same W b (i * 65) (cellsB x) hth
    rcases Nat.lt_or_ge j 64 with hj | hj
    · have hu2 : (cellsB x)[j]? = some u := by rw [List.getElem?_append_left (by omega)] at hu; exact hu
      have hc := h1 j u hu2
      exact (World.cell?_setCell_other _ _ _ _ (by intro e; have := congrArg Addr.off e; simp only at this; omega)).trans hc
    · have hu' := (List.getElem?_eq_some_iff.1 hu).1
      simp only [List.length_append, hl, List.length_singleton] at hu'
      obtain rfl : j = 64 := by omega
      rw [List.getElem?_append_right (by omega), hl] at hu
      obtain rfl : Value.slice none 0 0 = u := by simpa using hu
      have hr := h.row i s v hs hv
      have hc := hr 64 v (by rw [List.getElem?_append_right (by omega), hl0]; rfl)
      have hc2 : (W.setCells b (i * 65) (cellsB x)).cell? ⟨b, i * 65 + 64, none⟩ = some v := by
        rw [World.cell?_setCells_out b (cellsB x) (i * 65) W ⟨b, i * 65 + 64, none⟩ (fun _ _ => .inr (by rw [hl]; exact Nat.le_refl _))]; exact hc
      exact World.cell?_setCell_same _ _ _ hc2
/-- The first k sectors are durable. -/
def syncK (l : List Sec) (k : Nat) : List Sec := (l.take k).map (fun x => ⟨x.latest, []⟩) ++ l.drop k
theorem syncK_length (l : List Sec) (k : Nat) : (syncK l k).length = l.length := by simp [syncK]; omega
theorem syncK_get {l : List Sec} {k : Nat} {s : Sec} (h : l[k]? = some s) : (syncK l k)[k]? = some s := by
  have hk : k < l.length := (List.getElem?_eq_some_iff.1 h).1
  unfold syncK
  rw [List.getElem?_append_right (by simp; omega), List.getElem?_drop]
  simp only [List.length_map, List.length_take]
  rw [Nat.min_eq_left (by omega), Nat.sub_self, Nat.add_zero]; exact h
theorem syncK_succ {l : List Sec} {k : Nat} {s : Sec} (h : l[k]? = some s) : (syncK l k).set k ⟨s.latest, []⟩ = syncK l (k + 1) := by
  have hk : k < l.length := (List.getElem?_eq_some_iff.1 h).1
  have e : l[k] = s := (List.getElem?_eq_some_iff.1 h).2
  have hm : ((l.take k).map (fun x : Sec => (⟨x.latest, []⟩ : Sec))).length = k := by simp; omega
  unfold syncK
  rw [List.set_append_right _ _ (by omega), hm, Nat.sub_self, List.drop_eq_getElem_cons hk, List.set_cons_zero, List.take_succ_eq_append_getElem hk, List.map_append, e]
  simp
theorem syncK_all (l : List Sec) : syncK l l.length = l.map fun x => ⟨x.latest, []⟩ := by simp [syncK]
set_option maxRecDepth 100000 in
set_option maxHeartbeats 2000000 in
theorem dsync_any {dk : Nat} (h : DiskAt W dk D F) : Calls Try.prog 40 #[.pointer (some ⟨dk, 0, none⟩)] W fun e w' => e = .returned (.int .i64 (syncM D).1) ∧ Mv W F dk w' (syncM D).2 := by
  have hu := dready_any h
  have hm := h.mv
  obtain ⟨b, c, vs, h, rfl⟩ := h
  unfold readyM at hu
  unfold syncM
  cases ho : D.off
  case true =>
    rw [ho] at hu
    rw [if_pos rfl]
    have HM := Lib.hid hm
    clear h hm
    go_enter Try.func40, Try.ntmps40
    go_wp2_with (go_at_call 65; refine hu.mono ?_; rintro e w1 ⟨rfl, hw1⟩; obtain rfl := hw1.symm)
    go_ret
    exact ⟨rfl, HM.out⟩
  case false =>
  rw [ho] at hu
  rw [if_neg (by simp)]
  have hbn := burn_b h
  by_cases hfz : D.fuse = 0
  · rw [if_pos hfz]
    have e1 : burnM D = (70, { D with off := true }) := by unfold burnM; rw [if_pos hfz]
    rw [e1] at hbn
    rw [ho] at *
    have H := Lib.hid h
    have HB := Lib.hid hbn
    clear h hm hbn
    go_enter Try.func40, Try.ntmps40
    go_wp2_with (first
      | (go_at_call 65; refine hu.mono ?_; rintro e w1 ⟨rfl, hw1⟩; obtain rfl := hw1.symm)
      | (go_at_call 72; refine HB.out.mono ?_; rintro e w2 ⟨rfl, hd2, hb2⟩))
    go_ret
    exact ⟨rfl, H.out.mv hd2 (hb2.mono fun i _ e => .inl e) fun i hi => .inl hi⟩
  rw [if_neg hfz]
  have e1 : burnM D = (0, { D with fuse := fdec D.fuse }) := by unfold burnM; rw [if_neg hfz]
  rw [e1] at hbn
  simp only at hbn
  have HE : Hid (∀ l, ({ D with fuse := fdec D.fuse, sec := l } : Dk) = { ({ D with fuse := fdec D.fuse } : Dk) with sec := l }) := fun l => rfl
  have HF : Hid (({ D with fuse := fdec D.fuse, sec := D.sec.map fun x => ⟨x.latest, []⟩ } : Dk) = { sec := D.sec.map fun x => ⟨x.latest, []⟩, off := false, fuse := fdec D.fuse, own := D.own }) := by show _ = _; rw [ho]
  generalize hD1 : ({ D with fuse := fdec D.fuse } : Dk) = D1 at *
  have E1 : D1.sec = D.sec := by rw [← hD1]
  have H0 := Lib.hid h
  have HB := Lib.hid hbn
  obtain ⟨N, hN⟩ : ∃ N, D.sec.length = N := ⟨_, rfl⟩
  have hN4 : N ≤ 4096 := by rw [← hN]; exact h.ok.few
  have HN := Lib.hid hN
  clear h hm hbn hD1 hN
  go_enter Try.func40, Try.ntmps40
  go_upto_region 7 with (first
      | (go_at_call 65; refine hu.mono ?_; rintro e w1 ⟨rfl, hw1⟩; obtain rfl := hw1.symm)
      | (go_at_call 72; refine HB.out.mono ?_; rintro e w2 ⟨rfl, hd2, hb2⟩))
  have c0 := hd2.c0
  rw [E1, HN.out] at c0
  go_wp2_with (fail)
  have start : ∃ vs', DiskB w2 dk b c vs' { D1 with sec := syncK D.sec 0 } ∧ (∀ v ∈ vs', v = .slice none 0 0 ∨ v ∈ vs) ∧ ButS (Fp dk b vs) W w2 :=
    ⟨vs, by rw [show syncK D.sec 0 = D1.sec from by rw [E1]; rfl]; exact hd2, fun v h => .inr h, hb2.mono fun i _ e => .inl e⟩
  have START := Lib.hid start
  clear start hd2 hb2 hu e1 hfz c0
  go_loopw [5, 6, 22] (fun _ _ i w => ∃ k : Nat, k ≤ N ∧ i = .int .i64 k ∧ ∃ vs', DiskB w dk b c vs' { D1 with sec := syncK D.sec k } ∧ (∀ v ∈ vs', v = .slice none 0 0 ∨ v ∈ vs) ∧ ButS (Fp dk b vs) W w) (fun _ _ i _ => N - (intOf i).toNat)
  case atStart => exact ⟨0, by omega, rfl, START.out⟩
  case round =>
    obtain ⟨k, hk, rfl, vs', hd, hvs, hbs⟩ := hrel
    by_cases hlt : k < N
    · have k1 : (k : Int) < N := by omega
      have k0 : 0 ≤ (k : Int) := by omega
      obtain ⟨s, hs⟩ : ∃ s, D.sec[k]? = some s := ⟨_, List.getElem?_eq_getElem (by rw [HN.out]; exact hlt)⟩
      have hsk := syncK_get hs
      obtain ⟨s', v, es, ev, r1, r2, r3, r4⟩ := hd.sec_ (i := k) (by simp only [syncK_length]; rw [HN.out]; exact hlt)
      simp only at es
      rw [hsk] at es
      cases es
      have hlat := latest_any s v b k r1 r2 r3 r4
      have hl := latest_length r4 r3.1
      have c0 := hd.c0
      simp only [syncK_length] at c0
      rw [HN.out] at c0
      have HD := Lib.hid hd
      have HL := Lib.hid hl
      have HLAT := Lib.hid hlat
      have HBS := Lib.hid hbs
      have hl0 : (cellsB s.latest).length = 64 := by rw [cellsB_length, hl]
      have R2 := Lib.hid r2
      have HLT := Lib.hid (show k + 1 ≤ N ∧ N - (k + 1) < N - k from by omega)
      clear r1 r2 r3 r4 hlat hl hd hbs
      go_wp2_with (first
        | (go_at_call 71
           refine HLAT.out.mono ?_
           rintro e w3 ⟨rfl, b3⟩
           have hd3 := HD.out.next b3
           have hth := hd3.there_ (i := k) (by simp only [syncK_length]; rw [HN.out]; exact hlt)
           have hfl := hd3.flushed hsk ev s.latest HL.out
           have hc64 := cell_kept b3 R2.out
           have hfr := hd3.free
           have HD3 := Lib.hid hd3
           have HFL := Lib.hid hfl
           clear hd3 hfl)
        | (refine wpList_store_mid rfl 95 (.tmp 36) (.tmp 34) rfl b (k * 65) (cellsB s.latest).toArray rfl rfl (by rw [List.size_toArray, hl0]; exact hth) (by rw [List.size_toArray, hl0]; exact szHash) (all_oneCell_toArray (cellsB_one _)) ?_
           rw [List.toList_toArray]
           have hcc := (World.cell?_setCells_out b (cellsB s.latest) (k * 65) w3 ⟨b, k * 65 + 64, none⟩ (fun _ _ => .inr (by rw [hl0]; exact Nat.le_refl _))).trans hc64
           have hff := (World.frozen?_setCells b (cellsB s.latest) (k * 65) w3 ⟨b, k * 65 + 64, none⟩).trans (hfr _)
           have B4 := (HBS.out.next b3).trans (ButS.setCells (F := fun i => i = b) b rfl (cellsB s.latest) (k * 65) w3) fun _ e => .inl (.inr (.inl e))
           generalize hw4 : World.setCells w3 b (k * 65) (cellsB s.latest) = w4 at *
           have HW4 := Lib.hid hw4
           have HB4 := Lib.hid B4
           clear hw4 B4 hth))
      refine ⟨⟨k + 1, HLT.out.1, by go_num, vs'.set k (.slice none 0 0), ?_, fun u hu => ?_, HB4.out.trans (ButS.setCell (F := fun i => i = b) _ (p := ⟨b, k * 65 + 64, none⟩) rfl _) fun _ e => .inl (.inr (.inl e))⟩, by have := HLT.out.2; simp [intOf]; omega⟩
      · have := HFL.out
        simp only [syncK_succ hs] at this
        exact this
      · rcases List.mem_or_eq_of_mem_set hu with m | rfl
        · exact hvs u m
        · exact .inl rfl
    · obtain rfl : k = N := by omega
      have HD := Lib.hid hd
      have HBS := Lib.hid hbs
      clear hd hbs START
      go_wp2_with (fail)
      go_ret
      have hd := HD.out
      rw [← HN.out, syncK_all, ← HE.out, HF.out] at hd
      refine ⟨rfl, H0.out.mv hd HBS.out fun j hj => ?_⟩
      rcases hj with e | e | ⟨u, hu, e⟩
      · exact .inl (.inl e)
      · exact .inl (.inr (.inl e))
      · rcases hvs u hu with rfl | m
        · cases e
        · exact .inl (.inr (.inr ⟨u, m, e⟩))
end
end Go.Proofs.Ytkljfampkkfgdaa
