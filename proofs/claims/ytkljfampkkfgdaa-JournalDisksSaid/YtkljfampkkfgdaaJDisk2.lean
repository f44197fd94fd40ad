/- The journal layer: the walks over Blocks, Off, Fuse, latest, Read. -/
import Derived.Test.YtkljfampkkfgdaaJDisk
namespace Go.Proofs.Ytkljfampkkfgdaa
open Go.RowKit
section
variable {W W' : World} {d b c : Nat} {vs : List Value} {D : Dk} {F : Nat → Prop}
set_option maxRecDepth 100000 in
set_option maxHeartbeats 400000 in
theorem dblocks_any (h : DiskAt W d D F) : Calls Try.prog 41 #[.pointer (some ⟨d, 0, none⟩)] W fun e w' => e = .returned (.int .i64 D.sec.length) ∧ w' = W := by
  obtain ⟨b, c, vs, h, rfl⟩ := h
  have c0 := h.c0
  clear h
  go_enter Try.func41, Try.ntmps41
  go_wp2_with (fail)
  go_ret
  exact ⟨rfl, rfl⟩
theorem dblocks_nil (W : World) : Calls Try.prog 41 #[.pointer none] W fun e w' => e = .returned (.int .i64 0) ∧ w' = W := by
  go_enter Try.func41, Try.ntmps41
  go_wp2_with (fail)
  go_ret
  exact ⟨rfl, rfl⟩
set_option maxRecDepth 100000 in
set_option maxHeartbeats 400000 in
theorem doff_any (h : DiskAt W d D F) : Calls Try.prog 42 #[.pointer (some ⟨d, 0, none⟩)] W fun e w' => e = .returned (.bool D.off) ∧ w' = W := by
  obtain ⟨b, c, vs, h, rfl⟩ := h
  have c1 := h.c1
  clear h
  go_enter Try.func42, Try.ntmps42
  go_wp2_with (fail)
  go_ret
  exact ⟨rfl, rfl⟩
theorem doff_nil (W : World) : Calls Try.prog 42 #[.pointer none] W fun e w' => e = .returned (.bool false) ∧ w' = W := by
  go_enter Try.func42, Try.ntmps42
  go_wp2_with (fail)
  go_ret
  exact ⟨rfl, rfl⟩
set_option maxRecDepth 100000 in
set_option maxHeartbeats 400000 in
theorem dfuse_any (h : DiskAt W d D F) (n : Int) (hn : n < 9223372036854775808) : Calls Try.prog 32 #[.pointer (some ⟨d, 0, none⟩), .int .i64 n] W fun e w' => e = .returned (.int .i64 (setM D n).1) ∧ Mv W F d w' (setM D n).2 := by
  have hu := dready_any h
  have hm := h.mv
  obtain ⟨b, c, vs, h, rfl⟩ := h
  have c2 := h.c2
  have f2 := h.f 2
  have hF := fun x => h.setFuse x
  have H := Lib.hid h
  have HF := Lib.hid hF
  have HM := Lib.hid hm
  clear h hF hm
  unfold readyM at hu
  unfold setM
  cases ho : D.off
  · rw [ho] at hu
    go_enter Try.func32, Try.ntmps32
    go_wp2_with (go_at_call 65; refine hu.mono ?_; rintro e w1 ⟨rfl, rfl⟩)
    · rename_i hlt
      have e1 : max n (-1) = -1 := by omega
      rw [e1]
      go_ret
      have hd := HF.out (-1) (by omega) (by omega)
      rw [ho] at hd
      exact ⟨rfl, H.out.mv hd (ButS.setCell _ (.inl rfl) _) fun i hi => .inl hi⟩
    · rename_i hlt
      have e1 : max n (-1) = n := by omega
      rw [e1]
      go_ret
      have hd := HF.out n (by omega) (by omega)
      rw [ho] at hd
      exact ⟨rfl, H.out.mv hd (ButS.setCell _ (.inl rfl) _) fun i hi => .inl hi⟩
  · rw [ho] at hu
    go_enter Try.func32, Try.ntmps32
    go_wp2_with (go_at_call 65; refine hu.mono ?_; rintro e w1 ⟨rfl, rfl⟩)
    go_ret
    exact ⟨rfl, HM.out⟩
theorem dfuse_nil (n : Int) (W : World) : Calls Try.prog 32 #[.pointer none, .int .i64 n] W fun e w' => e = .returned (.int .i64 1) ∧ w' = W := by
  go_enter Try.func32, Try.ntmps32
  go_wp2_with (go_at_call 65; refine (dready_nil _).mono ?_; rintro e w1 ⟨rfl, rfl⟩)
  go_ret
  exact ⟨rfl, rfl⟩
/-- Sector number i: its content at b, its pending writes. -/
theorem DiskB.sec_ (h : DiskB W d b c vs D) {i : Nat} (hi : i < D.sec.length) : ∃ s v, D.sec[i]? = some s ∧ vs[i]? = some v ∧ W.rangeAt b (i * 65) (cellsB s.dur) ∧ W.cell? ⟨b, i * 65 + 64, none⟩ = some v ∧ OwnHs W 0 v s.pend ∧ s.dur.length = 64 := by
  have hl := h.len
  refine ⟨_, _, List.getElem?_eq_getElem hi, List.getElem?_eq_getElem (by omega : i < vs.length), ?_, ?_, h.own i _ _ (List.getElem?_eq_getElem hi) (List.getElem?_eq_getElem (by omega)), h.ok.dur _ (List.getElem_mem hi)⟩
  · intro j v hv
    exact h.row i _ _ (List.getElem?_eq_getElem hi) (List.getElem?_eq_getElem (by omega : i < vs.length)) j v (by rw [List.getElem?_append_left (List.getElem?_eq_some_iff.1 hv).1]; exact hv)
  · exact h.row i _ _ (List.getElem?_eq_getElem hi) (List.getElem?_eq_getElem (by omega : i < vs.length)) 64 _ (by rw [List.getElem?_append_right (by rw [cellsB_length, h.ok.dur _ (List.getElem_mem hi)]; omega), cellsB_length, h.ok.dur _ (List.getElem_mem hi)]; rfl)
theorem last_get {l : List Bs} (h : l ≠ []) (x : Bs) : l.getLastD x = l[l.length - 1]'(by have := List.length_pos_iff.2 h; omega) := by
  rw [List.getLastD_eq_getLast?, List.getLast?_eq_some_getLast h, Option.getD_some, List.getLast_eq_getElem]
theorem OwnHs.few {w : World} {base : Nat} {v : Value} {l : List Bs} (h : OwnHs w base v l) : l.length ≤ maxLen := by
  rcases h.2.2 with ⟨_, e⟩ | ⟨g, cap, cur, _, _, _, h1, h2, _⟩
  · omega
  · omega
theorem maxLen_lt : maxLen < 9223372036854775808 := by unfold maxLen; decide
set_option maxRecDepth 100000 in
set_option maxHeartbeats 1000000 in
theorem latest_any (s : Sec) (v : Value) (b i : Nat) (h1 : W.rangeAt b (i * 65) (cellsB s.dur)) (h2 : W.cell? ⟨b, i * 65 + 64, none⟩ = some v) (h3 : OwnHs W 0 v s.pend) (h4 : s.dur.length = 64) :
    Calls Try.prog 71 #[.pointer (some ⟨b, i * 65, none⟩)] W fun e w' => e = .returned (hashV s.latest) ∧ Below W.heap.size W w' := by
  have hl := latest_length h4 h3.1
  have hfew := h3.few
  have hml := maxLen_lt
  obtain ⟨A, cp, rfl, hcp, hs⟩ := h3.toHs
  have HL := Lib.hid hl
  have HLL : Hid ((cellsB s.dur).length = 64) := by show _ = _; rw [cellsB_length, h4]
  clear hl h3 h4
  go_enter Try.func71, Try.ntmps71
  go_upto_region 1 with (fail)
  generalize hW0 : World.alloc W _ = w0
  have b0 : Below W.heap.size W w0 := hW0 ▸ Below.new1 _ _
  have x2 : BoxA w0 W.heap.size 95 .u8 (List.replicate 64 0) := hW0 ▸ BoxA.new W _ _ _ _ rfl
  clear hW0
  have c2 := cell_kept b0 h2
  have hs' := hs.next b0
  have r1 : w0.rangeAt b (i * 65) (cellsB s.dur) := fun j u hu => cell_kept b0 (h1 j u hu)
  have HR := Lib.hid r1
  have HH := Lib.hid hs'
  clear h2 hs h1 r1 hs'
  by_cases hp : s.pend = []
  · have e0 : s.latest = s.dur := by unfold Sec.latest; rw [hp]; rfl
    rw [e0] at HL
    rw [hp] at c2
    have E0 := Lib.hid e0
    clear hp HH e0
    go_wp2_with (first
      | (refine wpList_load_mid rfl 95 (.tmp 21) rfl b (i * 65) rfl (cellsB s.dur) (.array 64 5) HR.out (by kernel_rfl) rfl (by rw [HLL.out]; exact szHash) ?_)
      | (refine wpList_storeH rfl (.tmp 2) (.tmp 22) rfl W.heap.size s.dur rfl rfl x2 (by simp) HL.out ?_))
    exact bodyPost_ret (v := hashV s.dur) (results_hash rfl _ W.heap.size _ rfl x2.setRow HL.out) rfl ⟨by rw [E0.out], below_setRow b0 (Nat.le_refl _) _⟩
  · have hlp : 0 < s.pend.length := List.length_pos_iff.2 hp
    have e0 : s.latest = s.pend[s.pend.length - 1] := by unfold Sec.latest; rw [last_get hp]
    rw [e0] at HL
    have E0 := Lib.hid e0
    clear e0
    obtain ⟨a, rfl⟩ : ∃ a, A = some a := by
      rcases HH.out.2 with h | ⟨a, e, _⟩
      · exact absurd h hp
      · exact ⟨a, e⟩
    have hld := HH.out.load (i := s.pend.length - 1) (by omega) 95 64 5 (by kernel_rfl) szHash
    have HLD := Lib.hid hld
    have m1 : IntKind.i64.wrap ((s.pend.length : Int) - 1) = ((s.pend.length - 1 : Nat) : Int) := by rw [IntWalk.i64_in _ (by omega)]; omega
    have p1 : ((s.pend.length : Nat) : Int) > 0 := by omega
    have p2 : ((s.pend.length - 1 : Nat) : Int) < (s.pend.length : Nat) := by omega
    have p3 : 0 ≤ ((s.pend.length - 1 : Nat) : Int) := by omega
    generalize s.pend[s.pend.length - 1] = x at *
    generalize hm : s.pend.length - 1 = m at *
    clear hld HH
    go_wp2_with (first
      | (refine wpList_load_at rfl 95 (.tmp 17) rfl (hashV x) (by exact HLD.out) ?_)
      | (refine wpList_storeH rfl (.tmp 2) (.tmp 18) rfl W.heap.size x rfl rfl x2 (by simp) HL.out ?_))
    exact bodyPost_ret (v := hashV x) (results_hash rfl _ W.heap.size _ rfl x2.setRow HL.out) rfl ⟨by rw [E0.out], below_setRow b0 (Nat.le_refl _) _⟩
end
end Go.Proofs.Ytkljfampkkfgdaa
