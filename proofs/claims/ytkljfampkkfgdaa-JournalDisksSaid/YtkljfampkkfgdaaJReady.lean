/- The journal layer: the walks over ends, ready, open. -/
import Derived.Test.YtkljfampkkfgdaaJJrn
namespace Go.Proofs.Ytkljfampkkfgdaa
open Go.RowKit
/-- What ends does to a journal. -/
def endsM (J : Jn) (er : Int) : Jn := { J with broken := J.broken || decide (er = 70) }
/-- What ready answers, and does. -/
def jreadyM (D : Dk) (J : Jn) : Int × Jn := if J.broken = true ∨ J.own ≠ D.own then (72, J) else if D.off then (70, endsM J 70) else (0, J)
def bumpM (D : Dk) : Dk := { D with own := IntKind.i64.wrap (D.own + 1) }
def newJ (own : Int) : Jn := ⟨own, false, 0, 0, [], [], 0, 0⟩
section
variable {W W' : World} {jb dk : Nat} {v : Value} {J : Jn} {G F : Nat → Prop} {D : Dk}
theorem ends_same {J : Jn} {er : Int} (h : (J.broken || decide (er = 70)) = J.broken) : endsM J er = J := by unfold endsM; rw [h]
set_option maxRecDepth 100000 in
set_option maxHeartbeats 1000000 in
theorem jends_any (h : JAt W jb dk J G) (er : Int) : Calls Try.prog 50 #[.pointer (some ⟨jb, 0, none⟩), .int .i64 er] W fun e w' => e = .returned (.int .i64 er) ∧ JAt w' jb dk (endsM J er) G ∧ ButS (fun i => i = jb) W w' := by
  obtain ⟨v, h, rfl⟩ := h
  have c2 := h.c2
  have f2 := h.f 2
  have H := Lib.hid h
  clear h
  by_cases hb : J.broken = true
  · rw [hb] at c2
    have e1 : endsM J er = { J with broken := true } := by unfold endsM; rw [hb]; rfl
    rw [e1]
    go_enter Try.func50, Try.ntmps50
    go_wp2_with (fail)
    go_ret
    exact ⟨rfl, ⟨v, H.out.setBroken true, rfl⟩, ButS.setCell (F := fun i => i = jb) _ rfl _⟩
  · have hb' : J.broken = false := by simpa using hb
    rw [hb'] at c2
    by_cases he : er = 70
    · subst he
      have e1 : endsM J 70 = { J with broken := true } := by unfold endsM; simp
      rw [e1]
      go_enter Try.func50, Try.ntmps50
      go_wp2_with (fail)
      go_ret
      exact ⟨rfl, ⟨v, H.out.setBroken true, rfl⟩, ButS.setCell (F := fun i => i = jb) _ rfl _⟩
    · have b1 : (er == 70) = false := by simpa using he
      have e1 : endsM J er = { J with broken := false } := by unfold endsM; simp [hb', he]
      rw [e1]
      clear he hb
      go_enter Try.func50, Try.ntmps50
      go_wp2_with (fail)
      go_ret
      exact ⟨rfl, ⟨v, H.out.setBroken false, rfl⟩, ButS.setCell (F := fun i => i = jb) _ rfl _⟩
set_option maxRecDepth 100000 in
set_option maxHeartbeats 2000000 in
theorem jready_any (h : JAt W jb dk J G) (hd : DiskAt W dk D F) : Calls Try.prog 46 #[.pointer (some ⟨jb, 0, none⟩)] W fun e w' => e = .returned (.int .i64 (jreadyM D J).1) ∧ JAt w' jb dk (jreadyM D J).2 G ∧ ButS (fun i => i = jb) W w' := by
  have hu := jusable_any h
  have hen := fun w (b : Below W.heap.size W w) => jends_any (h.next b) 70
  have H := Lib.hid h
  obtain ⟨v, h, rfl⟩ := h
  obtain ⟨b, c, vs, hd, rfl⟩ := hd
  have c0 := h.c0
  have c1 := h.c1
  have c2 := h.c2
  have d3 := hd.c3
  have d1 := hd.c1
  have HEN := Lib.hid hen
  clear h hd hen
  unfold jreadyM
  by_cases hb : J.broken = true
  · rw [if_pos (.inl hb)]
    rw [hb] at c2
    clear hb
    go_enter Try.func46, Try.ntmps46
    go_upto_region 3 with (go_at_call 43; refine hu.mono ?_; rintro x w2 ⟨rfl, hw2⟩; obtain rfl := hw2.symm)
    go_quiet (fail)
    go_wp2_with (fail)
    go_ret
    exact ⟨rfl, H.out.next (Below.drawn W nq _), ButS.of (Below.drawn W nq _)⟩
  · have hb' : J.broken = false := by simpa using hb
    rw [hb'] at c2
    by_cases ho : J.own = D.own
    · rw [if_neg fun h => h.elim hb fun h => h ho]
      rw [ho] at c1
      generalize D.own = ow at *
      have b1 : (ow != ow) = false := by simp
      clear hb hb' ho
      by_cases hf : D.off = true
      · rw [if_pos hf]
        rw [hf] at d1
        clear hf
        go_enter Try.func46, Try.ntmps46
        go_upto_region 3 with (go_at_call 43; refine hu.mono ?_; rintro x w2 ⟨rfl, hw2⟩; obtain rfl := hw2.symm)
        go_quiet (fail)
        go_wp2_with (go_at_call 50; refine (HEN.out _ (Below.drawn W nq _)).mono ?_; rintro x w2 ⟨rfl, hj, hbb⟩)
        go_ret
        exact ⟨rfl, hj, (ButS.of (F := fun i => i = jb) (Below.drawn W nq _)).trans hbb fun _ h => .inl h⟩
      · have hf' : D.off = false := by simpa using hf
        rw [if_neg hf]
        rw [hf'] at d1
        clear hf hf'
        go_enter Try.func46, Try.ntmps46
        go_upto_region 3 with (go_at_call 43; refine hu.mono ?_; rintro x w2 ⟨rfl, hw2⟩; obtain rfl := hw2.symm)
        go_quiet (fail)
        go_wp2_with (fail)
        go_ret
        exact ⟨rfl, H.out.next (Below.drawn W nq _), ButS.of (Below.drawn W nq _)⟩
    · rw [if_pos (.inr ho)]
      have b1 : (J.own != D.own) = true := by simpa using ho
      clear hb hb' ho
      go_enter Try.func46, Try.ntmps46
      go_upto_region 3 with (go_at_call 43; refine hu.mono ?_; rintro x w2 ⟨rfl, hw2⟩; obtain rfl := hw2.symm)
      go_quiet (fail)
      go_wp2_with (fail)
      go_ret
      exact ⟨rfl, H.out.next (Below.drawn W nq _), ButS.of (Below.drawn W nq _)⟩
theorem jready_nil (W : World) : Calls Try.prog 46 #[.pointer none] W fun e w' => e = .returned (.int .i64 1) ∧ w' = W := by
  go_enter Try.func46, Try.ntmps46
  go_wp2_with (go_at_call 43; refine (jusable_nil _).mono ?_; rintro x w2 ⟨rfl, hw2⟩; obtain rfl := hw2.symm)
  go_ret
  exact ⟨rfl, rfl⟩
theorem DiskB.bump {b c : Nat} {vs : List Value} (h : DiskB W dk b c vs D) : DiskB (W.setCell ⟨dk, 3, none⟩ (.int .i64 (IntKind.i64.wrap (D.own + 1)))) dk b c vs (bumpM D) := h.setOwn _
theorem jopen_nil (W : World) : Calls Try.prog 55 #[.pointer none] W fun e w' => e = .returned (.tuple #[.pointer none, .int .i64 1]) ∧ w' = W := by
  go_enter Try.func55, Try.ntmps55
  go_wp2_with (go_at_call 52; refine (dusable_nil _).mono ?_; rintro e w1 ⟨rfl, hw1⟩; obtain rfl := hw1.symm)
  go_ret2
  exact ⟨rfl, rfl⟩
set_option maxRecDepth 100000 in
set_option maxHeartbeats 1000000 in
theorem jopen_off (hd : DiskAt W dk D F) (ho : D.off = true) : Calls Try.prog 55 #[.pointer (some ⟨dk, 0, none⟩)] W fun e w' => e = .returned (.tuple #[.pointer none, .int .i64 70]) ∧ DiskAt w' dk (bumpM D) F ∧ ButS F W w' := by
  have hu := dusable_any hd
  obtain ⟨b, c, vs, h, rfl⟩ := hd
  have hx := h.bump
  have c3 := h.c3
  have f3 := h.f 3
  have c1 := h.c1
  rw [ho] at c1
  obtain ⟨ow2, m1⟩ : ∃ ow2, IntKind.i64.wrap (D.own + 1) = ow2 := ⟨_, rfl⟩
  rw [m1] at hx
  have HX := Lib.hid hx
  clear h hx ho
  generalize D.own = ow at *
  go_enter Try.func55, Try.ntmps55
  go_wp2_with (go_at_call 52; refine hu.mono ?_; rintro e w1 ⟨rfl, hw1⟩; obtain rfl := hw1.symm)
  go_ret2
  exact ⟨rfl, ⟨b, c, vs, HX.out, rfl⟩, ButS.setCell (F := Fp dk b vs) _ (.inl rfl) _⟩
set_option maxRecDepth 100000 in
set_option maxHeartbeats 1000000 in
theorem jopen_any (hd : DiskAt W dk D F) (ho : D.off = false) : Calls Try.prog 55 #[.pointer (some ⟨dk, 0, none⟩)] W fun e w' => ∃ jb, e = .returned (.tuple #[.pointer (some ⟨jb, 0, none⟩), .int .i64 0]) ∧ W.heap.size ≤ jb ∧ DiskAt w' dk (bumpM D) F ∧ JAt w' jb dk (newJ (bumpM D).own) (fun i => i = jb) ∧ ButS F W w' := by
  have hu := dusable_any hd
  obtain ⟨b, c, vs, h, rfl⟩ := hd
  have hx := h.bump
  have c3 := h.c3
  have f3 := h.f 3
  have c1 := h.c1
  rw [ho] at c1
  have e0 : (bumpM D).own = IntKind.i64.wrap (D.own + 1) := rfl
  rw [e0]
  obtain ⟨ow2, m1⟩ : ∃ ow2, IntKind.i64.wrap (D.own + 1) = ow2 := ⟨_, rfl⟩
  rw [m1] at hx ⊢
  have HX := Lib.hid hx
  have HLT := Lib.hid h.lt
  clear h hx ho e0
  generalize D.own = ow at *
  go_enter Try.func55, Try.ntmps55
  go_wp2_with (go_at_call 52; refine hu.mono ?_; rintro e w1 ⟨rfl, hw1⟩; obtain rfl := hw1.symm)
  go_ret2
  have b0 : ButS (Fp dk b vs) W (W.setCell ⟨dk, 3, none⟩ (.int .i64 ow2)) := ButS.setCell (F := Fp dk b vs) _ (.inl rfl) _
  have hs : (W.setCell ⟨dk, 3, none⟩ (.int .i64 ow2)).heap.size = W.heap.size := by simp [World.setCell]
  refine ⟨W.heap.size, rfl, Nat.le_refl _, ?_, ?_, ?_⟩
  · exact DiskAt.next ⟨b, c, vs, HX.out, rfl⟩ (Below.new1 _ _)
  · refine ⟨.slice none 0 0, ⟨?_, OwnStrs.none _ _, nofun⟩, ?_⟩
    · have := heap_alloc_new (W.setCell ⟨dk, 3, none⟩ (.int .i64 ow2)) (.cells #[.pointer (some ⟨dk, 0, none⟩), .int .i64 ow2, .bool false, .int .i64 0, .int .i64 0, .string ⟨#[]⟩, .slice none 0 0, .int .i64 0, .int .i64 0] 85)
      rw [hs] at this
      exact this
    · funext i
      simp [Fj, Value.ownBlock]
  · exact b0.next (Below.new1 _ _)
end
end Go.Proofs.Ytkljfampkkfgdaa
