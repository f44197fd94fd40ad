/- The walk over Find of package span. -/
import Derived.Test.YtfmplibjhohpgaaSpCount
namespace Go.Proofs.Ytfmplibjhohpgaa
open Go.RowKit

/-- The k-th piece with a tag, in a tree that begins at a piece. -/
def fnd (tag : Int) : Tr → Int → Int → Int
  | .nil, _, a => a
  | .node l len tg r, k, a => if k < l.cnt tag then fnd tag l k a else if tg = tag then (if k < l.cnt tag + len then a + l.pcs + k - l.cnt tag else fnd tag r (k - l.cnt tag - len) (a + l.pcs + len)) else fnd tag r (k - l.cnt tag) (a + l.pcs + len)
/-- The same in a list of runs. -/
def findL (tag : Int) : List (Int × Int) → Int → Int → Int × Bool
  | [], _, _ => (0, false)
  | x :: l, k, a => if x.2 = tag then (if k < x.1 then (a + k, true) else findL tag l (k - x.1) (a + x.1)) else findL tag l k (a + x.1)
theorem findL_append (tag : Int) (A B : List (Int × Int)) (h : Tr.OkL A) (k a : Int) (hk : 0 ≤ k) : findL tag (A ++ B) k a = if k < Tr.totalOf tag A then findL tag A k a else findL tag B (k - Tr.totalOf tag A) (a + Tr.total A) := by
  induction A generalizing k a with
  | nil => rw [show Tr.totalOf tag [] = 0 from rfl, Tr.total_nil, if_neg (by omega)]; simp
  | cons x A ih =>
    have h' := Tr.OkL.cons.1 h
    have := totalOf_nonneg h'.2 tag
    rw [List.cons_append, Tr.totalOf_cons, Tr.total_cons]
    simp only [findL]
    by_cases hx : x.2 = tag
    · rw [if_pos hx, if_pos hx, if_pos hx]
      by_cases h1 : k < x.1
      · rw [if_pos h1, if_pos (by omega), if_pos h1]
      · rw [if_neg h1, ih h'.2 _ _ (by omega)]
        by_cases h2 : k - x.1 < Tr.totalOf tag A
        · rw [if_pos h2, if_pos (by omega), if_neg h1]
        · rw [if_neg h2, if_neg (by omega)]; congr 1 <;> omega
    · rw [if_neg hx, if_neg hx, if_neg hx, ih h'.2 _ _ hk]
      by_cases h2 : k < Tr.totalOf tag A
      · rw [if_pos h2, if_pos (by omega)]
      · rw [if_neg h2, if_neg (by omega)]; congr 1 <;> omega
theorem findL_none (tag : Int) (A : List (Int × Int)) (h : Tr.OkL A) (k a : Int) (hk : Tr.totalOf tag A ≤ k) : findL tag A k a = (0, false) := by
  induction A generalizing k a with
  | nil => rfl
  | cons x A ih =>
    have h' := Tr.OkL.cons.1 h
    have := totalOf_nonneg h'.2 tag
    rw [Tr.totalOf_cons] at hk
    simp only [findL]
    by_cases hx : x.2 = tag
    · rw [if_pos hx] at hk; rw [if_pos hx, if_neg (by omega)]; exact ih h'.2 _ _ (by omega)
    · rw [if_neg hx] at hk; rw [if_neg hx]; exact ih h'.2 _ _ (by omega)
theorem fnd_findL (tag : Int) : ∀ (T : Tr) (k a : Int), T.Ok → 0 ≤ k → k < T.cnt tag → findL tag T.list k a = (fnd tag T k a, true)
  | .nil, k, a, _, h0, h1 => by simp only [Tr.cnt] at h1; omega
  | .node l len tg r, k, a, o, h0, h1 => by
    obtain ⟨o1, o2, o4, _, _⟩ := o
    have c1 := Tr.cnt_nonneg tag l o1
    simp only [Tr.cnt] at h1
    simp only [Tr.list, fnd]
    rw [findL_append tag _ _ ((Tr.ok_list l).1 o1) k a h0, ← Tr.cnt_list, ← Tr.pcs_list]
    by_cases h : k < l.cnt tag
    · rw [if_pos h, if_pos h]; exact fnd_findL tag l k a o1 h0 h
    · rw [if_neg h, if_neg h]
      simp only [findL]
      by_cases ht : tg = tag
      · rw [if_pos ht] at h1
        rw [if_pos ht, if_pos ht]
        by_cases h2 : k < l.cnt tag + len
        · rw [if_pos h2, if_pos (by omega)]; congr 1; omega
        · rw [if_neg h2, if_neg (by omega)]; exact fnd_findL tag r _ _ o2 (by omega) (by omega)
      · rw [if_neg ht] at h1
        rw [if_neg ht, if_neg ht]; exact fnd_findL tag r _ _ o2 (by omega) (by omega)
theorem fnd_bound (tag : Int) : ∀ (T : Tr) (k a : Int), T.Ok → 0 ≤ k → k < T.cnt tag → a ≤ fnd tag T k a ∧ fnd tag T k a < a + T.pcs
  | .nil, k, a, _, h0, h1 => by simp only [Tr.cnt] at h1; omega
  | .node l len tg r, k, a, o, h0, h1 => by
    obtain ⟨o1, o2, o4, _, _⟩ := o
    have p1 := Tr.pcs_nonneg l o1; have p2 := Tr.pcs_nonneg r o2
    have c1 := Tr.cnt_nonneg tag l o1
    simp only [Tr.cnt] at h1
    simp only [Tr.pcs, fnd]
    by_cases h : k < l.cnt tag
    · rw [if_pos h]; have := fnd_bound tag l k a o1 h0 h; omega
    · rw [if_neg h]
      by_cases ht : tg = tag
      · rw [if_pos ht] at h1
        rw [if_pos ht]
        by_cases h2 : k < l.cnt tag + len
        · rw [if_pos h2]; omega
        · rw [if_neg h2]; have := fnd_bound tag r (k - l.cnt tag - len) (a + l.pcs + len) o2 (by omega) (by omega); omega
      · rw [if_neg ht] at h1
        rw [if_neg ht]; have := fnd_bound tag r (k - l.cnt tag) (a + l.pcs + len) o2 (by omega) (by omega); omega
/-- What Find returns. -/
def findR (L : List (Int × Int)) (tag k : Int) : Int × Bool := if k < 0 then (0, false) else findL tag L k 0
theorem totalOf_bad {L : List (Int × Int)} (h : Tr.OkL L) {tag : Int} (ht : tag < 0 ∨ 16 ≤ tag) : Tr.totalOf tag L = 0 := by
  induction L with
  | nil => rfl
  | cons x l ih =>
    have h' := Tr.OkL.cons.1 h
    rw [Tr.totalOf_cons, ih h'.2, if_neg (by omega)]; rfl
def FindPost (w : World) (r : Int × Bool) (e : Ending) (w' : World) : Prop := e = .returned (.tuple #[.int .i64 r.1, .bool r.2]) ∧ Below w.heap.size w w'
set_option maxRecDepth 100000 in
set_option maxHeartbeats 400000 in
theorem find_nil (w : World) (tag k : Int) : Calls Try.prog 27 #[.agg #[.pointer none], .int .i64 tag, .int .i64 k] w (FindPost w (0, false)) := by
  go_enter Try.func27, Try.ntmps27
  go_wp2_with (fail)
  go_ret2
  exact ⟨rfl, Below.alloc1 _ _⟩
set_option maxRecDepth 100000 in
set_option maxHeartbeats 400000 in
theorem find_tag (w : World) (a : Addr) (tag k : Int) (ht : tag < 0 ∨ 16 ≤ tag) : Calls Try.prog 27 #[.agg #[.pointer (some a)], .int .i64 tag, .int .i64 k] w (FindPost w (0, false)) := by
  go_enter Try.func27, Try.ntmps27
  go_wp2_with (go_at_call 52; refine (isTag_no tag _ ht).mono ?_; rintro e w' ⟨rfl, rfl⟩)
  go_ret2
  exact ⟨rfl, Below.alloc1 _ _⟩
set_option maxRecDepth 100000 in
set_option maxHeartbeats 400000 in
theorem find_neg (w : World) (a : Addr) (tag k : Int) (ht : 0 ≤ tag ∧ tag < 16) (hk : k < 0) : Calls Try.prog 27 #[.agg #[.pointer (some a)], .int .i64 tag, .int .i64 k] w (FindPost w (0, false)) := by
  go_enter Try.func27, Try.ntmps27
  go_wp2_with (go_at_call 52; refine (isTag_yes tag _ ht).mono ?_; rintro e w' ⟨rfl, rfl⟩)
  go_ret2
  exact ⟨rfl, Below.alloc1 _ _⟩
set_option maxRecDepth 100000 in
set_option maxHeartbeats 400000 in
theorem find_more (w : World) (b tg : Nat) (k c : Int) (ht : tg < 16) (hk : 0 ≤ k) (hb : b < w.heap.size) (hc : w.cell? ⟨b, 7 + tg, none⟩ = some (.int .i64 c)) (hck : c ≤ k) :
    Calls Try.prog 27 #[.agg #[.pointer (some ⟨b, 0, none⟩)], .int .i64 tg, .int .i64 k] w (FindPost w (0, false)) := by
  have hc2 : (w.alloc (.cells #[.pointer (some ⟨b, 0, none⟩)] 26)).cell? ⟨b, 7 + tg, none⟩ = some (.int .i64 c) := ((Below.alloc1 w _).cell (p := ⟨b, 7 + tg, none⟩) hb).trans hc
  go_enter Try.func27, Try.ntmps27
  go_wp2_with (go_at_call 52; refine (isTag_yes tg _ (by omega)).mono ?_; rintro e w' ⟨rfl, rfl⟩)
  go_ret2
  exact ⟨rfl, Below.alloc1 _ _⟩
set_option maxRecDepth 100000 in
set_option maxHeartbeats 2000000 in
theorem find_yes (w : World) (b tg : Nat) (k : Int) (ht : tg < 16) (hk : 0 ≤ k) (T : Tr) (hT : Tree w (some ⟨b, 0, none⟩) T) (hne : T ≠ .nil) (oT : T.Ok) (hp : T.pcs ≤ 1099511627776) (hc0 : w.cell? ⟨b, 7 + tg, none⟩ = some (.int .i64 (T.cnt tg))) (hck : k < T.cnt tg) :
    Calls Try.prog 27 #[.agg #[.pointer (some ⟨b, 0, none⟩)], .int .i64 tg, .int .i64 k] w (FindPost w (fnd tg T k 0, true)) := by
  have z0 := Tr.pcs_nonneg T oT
  have z1 := Tr.cnt_le_pcs tg T oT
  obtain ⟨wa, hwa⟩ : ∃ wa, w.alloc (.cells #[.pointer (some ⟨b, 0, none⟩)] 26) = wa := ⟨_, rfl⟩
  have hBa : Below w.heap.size w wa := hwa ▸ Below.alloc1 w _
  have hTa : Tree wa (some ⟨b, 0, none⟩) T := hT.below hBa
  have ba : BoxT wa w.heap.size (.pointer (some ⟨b, 0, none⟩)) := hwa ▸ BoxT.new w _ _ (by decide)
  have hb : b < w.heap.size := by
    cases T with
    | nil => exact (hne rfl).elim
    | node l len tag r => obtain ⟨b', _, _, h, h', _⟩ := hT; cases h; exact h'
  have hc1 : wa.cell? ⟨b, 7 + tg, none⟩ = some (.int .i64 (T.cnt tg)) := (hBa.cell (p := ⟨b, 7 + tg, none⟩) hb).trans hc0
  have ca := ba.cell
  have HT := Lib.hid hTa
  clear hT hTa hc0 ba hb
  go_enter Try.func27, Try.ntmps27
  have HWA := Lib.hid hwa
  clear hwa
  go_upto_region 1 with (fail)
  rw [HWA.out]
  go_wp2_with (go_at_call 52; refine (isTag_yes tg _ (by omega)).mono ?_; rintro e w' ⟨rfl, rfl⟩)
  go_quiet (fail)
  go_wp2_with (fail)
  clear ca hc1
  go_loopw [2, 8, 9] (fun kk aa tt wr => ∃ (T' : Tr) (p' : Option Addr) (k' a' : Int), kk = .int .i64 k' ∧ aa = .int .i64 a' ∧ tt = .pointer p' ∧ Tree wa p' T' ∧ T'.Ok ∧ 0 ≤ k' ∧ k' < T'.cnt tg ∧ 0 ≤ a' ∧ 0 ≤ T'.pcs ∧ a' + T'.pcs ≤ 1099511627776 ∧ T'.cnt tg ≤ T'.pcs ∧ Hid (fnd tg T' k' a' = fnd tg T k 0) ∧ Quiet wa wr) (fun _ _ t _ => hgtOf wa t)
  case atStart => exact ⟨T, _, k, 0, rfl, rfl, rfl, HT.out, oT, hk, hck, by omega, z0, by omega, z1, rfl, _, rfl⟩
  case round =>
    obtain ⟨T', p', k', a', rfl, rfl, rfl, hT', oT', k0, k1, a0, y0, y1, y2, hH, q, rfl⟩ := hrel
    cases T' with
    | nil => simp only [Tr.cnt] at k1; omega
    | node l len tag r =>
      obtain ⟨bt, pl, pr, hp', hbt, hn, hl, hr⟩ := id hT'
      have HmL := Lib.hid (hgtOf_node hT' bt pl pr hp' hn hl)
      have HmR := Lib.hid (show hgtOf wa (.pointer pr) < hgtOf wa (.pointer p') by
        rw [hgtOf_tree hT', hgtOf_tree (show Tree wa pr r from hr)]
        have := Tr.hgt_nonneg l; have := Tr.hgt_nonneg r
        simp only [Tr.hgt]; omega)
      subst hp'
      clear hT'
      obtain ⟨o1, o2, o4, o5, o6⟩ := oT'
      have hcnt : (Tr.node l len tag r).cnt tg = (if tag = (tg : Int) then len else 0) + l.cnt tg + r.cnt tg := rfl
      have hpcs : (Tr.node l len tag r).pcs = l.pcs + r.pcs + len := rfl
      rw [hcnt] at k1 y2
      rw [hpcs] at y0 y1 y2
      have q1 := Tr.pcs_nonneg _ o1
      have q2 := Tr.pcs_nonneg _ o2
      have b1 := Tr.cnt_nonneg tg l o1
      have b2 := Tr.cnt_le_pcs tg l o1
      have b3 := Tr.cnt_nonneg tg r o2
      have b4 := Tr.cnt_le_pcs tg r o2
      have c0 := hn.c0
      have c1 := hn.c1
      have c2 := hn.c2
      have c3 := hn.c3
      have hF := hH.out
      simp only [fnd] at hF
      clear hcnt hpcs hH
      by_cases h1 : k' < l.cnt tg
      · rw [if_pos h1] at hF
        have HF := Lib.hid hF
        clear hF
        cases l with
        | nil => simp only [Tr.cnt] at h1; omega
        | node x y z u =>
          obtain ⟨bl, pl', pr', rfl, hbl, hnl, _, _⟩ := id hl
          have cc := hnl.count ht
          go_wp2_with (go_at_call 63; refine (pieces_any _ _ (Tr.node x y z u) (by exact Tree.drewN hl _)).mono ?_; rintro e w' ⟨rfl, n1, rfl⟩)
          go_roundw
          case rel => exact ⟨_, _, _, _, rfl, rfl, rfl, hl, o1, k0, h1, a0, q1, by omega, b2, HF.out, _, rfl⟩
          case measure => exact HmL.out
      · rw [if_neg h1] at hF
        by_cases h2 : tag = (tg : Int)
        · rw [if_pos h2] at hF k1 y2
          by_cases h3 : k' < l.cnt tg + len
          · rw [if_pos h3] at hF
            cases l with
            | nil =>
              obtain rfl : pl = none := hl
              have CZ : Hid (Tr.nil.cnt tg = 0) := Lib.hid rfl
              have CZ' : Hid (Tr.nil.pcs = 0) := Lib.hid rfl
              have h2' : (tag == (tg : Int)) = true := by simpa using h2
              have HF := Lib.hid hF
              have H2 := Lib.hid h2
              clear hF h2
              have h1' : 0 ≤ k' := k0
              have h3' : k' < len := by have := CZ.out; omega
              go_wp2_with (go_at_call 63; refine (pieces_any _ _ Tr.nil (by exact rfl)).mono ?_; rintro e w' ⟨rfl, n1, rfl⟩)
              go_ret2
              exact ⟨by rw [← HF.out]; exact congrArg (fun z => Ending.returned (.tuple #[Value.int .i64 z, .bool true])) (by have := CZ.out; have := CZ'.out; omega), hBa.trans ((Quiet.below ⟨_, rfl⟩ _).mono hBa.size |>.trans (Below.refl _ _))⟩
            | node x y z u =>
              obtain ⟨bl, pl', pr', rfl, hbl, hnl, _, _⟩ := id hl
              have cc := hnl.count ht
              have h2' : (tag == (tg : Int)) = true := by simpa using h2
              have HF := Lib.hid hF
              have H2 := Lib.hid h2
              clear hF h2
              go_wp2_with (go_at_call 63; refine (pieces_any _ _ (Tr.node x y z u) (by exact Tree.drewN hl _)).mono ?_; rintro e w' ⟨rfl, n1, rfl⟩)
              go_ret2
              exact ⟨by rw [← HF.out]; exact congrArg (fun z => Ending.returned (.tuple #[Value.int .i64 z, .bool true])) (by omega), hBa.trans ((Quiet.below ⟨_, rfl⟩ _).mono hBa.size |>.trans (Below.refl _ _))⟩
          · rw [if_neg h3] at hF
            cases l with
            | nil =>
              obtain rfl : pl = none := hl
              have CZ : Hid (Tr.nil.cnt tg = 0) := Lib.hid rfl
              have CZ' : Hid (Tr.nil.pcs = 0) := Lib.hid rfl
              have h2' : (tag == (tg : Int)) = true := by simpa using h2
              have HF := Lib.hid hF
              have H2 := Lib.hid h2
              clear hF h2
              have h1' : 0 ≤ k' := k0
              have h3' : ¬ k' < len := by have := CZ.out; omega
              go_wp2_with (go_at_call 63; refine (pieces_any _ _ Tr.nil (by exact rfl)).mono ?_; rintro e w' ⟨rfl, n1, rfl⟩)
              go_roundw
              case rel => exact ⟨r, pr, _, _, rfl, rfl, rfl, hr, o2, by have := CZ.out; have := CZ'.out; omega, by have := CZ.out; have := CZ'.out; omega, by have := CZ.out; have := CZ'.out; omega, q2, by have := CZ.out; have := CZ'.out; omega, b4, by refine Eq.trans ?_ HF.out; congr 1 <;> (have := CZ.out; have := CZ'.out; omega), _, rfl⟩
              case measure => exact HmR.out
            | node x y z u =>
              obtain ⟨bl, pl', pr', rfl, hbl, hnl, _, _⟩ := id hl
              have cc := hnl.count ht
              have h2' : (tag == (tg : Int)) = true := by simpa using h2
              have HF := Lib.hid hF
              have H2 := Lib.hid h2
              clear hF h2
              go_wp2_with (go_at_call 63; refine (pieces_any _ _ (Tr.node x y z u) (by exact Tree.drewN hl _)).mono ?_; rintro e w' ⟨rfl, n1, rfl⟩)
              go_roundw
              case rel => exact ⟨r, pr, _, _, rfl, rfl, rfl, hr, o2, by omega, by omega, by omega, q2, by omega, b4, by refine Eq.trans ?_ HF.out; congr 1 <;> (omega), _, rfl⟩
              case measure => exact HmR.out
        · rw [if_neg h2] at hF k1 y2
          cases l with
          | nil =>
            obtain rfl : pl = none := hl
            have CZ : Hid (Tr.nil.cnt tg = 0) := Lib.hid rfl
            have CZ' : Hid (Tr.nil.pcs = 0) := Lib.hid rfl
            have h2' : (tag == (tg : Int)) = false := by simpa using h2
            have HF := Lib.hid hF
            have H2 := Lib.hid h2
            clear hF h2
            have h1' : 0 ≤ k' := k0
            go_wp2_with (go_at_call 63; refine (pieces_any _ _ Tr.nil (by exact rfl)).mono ?_; rintro e w' ⟨rfl, n1, rfl⟩)
            go_roundw
            case rel => exact ⟨r, pr, _, _, rfl, rfl, rfl, hr, o2, by have := CZ.out; have := CZ'.out; omega, by have := CZ.out; have := CZ'.out; omega, by have := CZ.out; have := CZ'.out; omega, q2, by have := CZ.out; have := CZ'.out; omega, b4, by refine Eq.trans ?_ HF.out; congr 1 <;> (have := CZ.out; have := CZ'.out; omega), _, rfl⟩
            case measure => exact HmR.out
          | node x y z u =>
            obtain ⟨bl, pl', pr', rfl, hbl, hnl, _, _⟩ := id hl
            have cc := hnl.count ht
            have h2' : (tag == (tg : Int)) = false := by simpa using h2
            have HF := Lib.hid hF
            have H2 := Lib.hid h2
            clear hF h2
            go_wp2_with (go_at_call 63; refine (pieces_any _ _ (Tr.node x y z u) (by exact Tree.drewN hl _)).mono ?_; rintro e w' ⟨rfl, n1, rfl⟩)
            go_roundw
            case rel => exact ⟨r, pr, _, _, rfl, rfl, rfl, hr, o2, by omega, by omega, by omega, q2, by omega, b4, by refine Eq.trans ?_ HF.out; congr 1 <;> (omega), _, rfl⟩
            case measure => exact HmR.out
/-- Find, whatever the map and its arguments. -/
theorem find_any (w : World) (p : Option Addr) (L : List (Int × Int)) (tag k : Int) (h : Rep w p L) :
    Calls Try.prog 27 #[.agg #[.pointer p], .int .i64 tag, .int .i64 k] w (FindPost w (findR L tag k)) := by
  cases p with
  | none =>
    have e : findR L tag k = (0, false) := by rw [h.nil_iff.1 rfl]; unfold findR; split <;> rfl
    rw [e]; exact find_nil w tag k
  | some a =>
    obtain ⟨g, T, hT, nT, bT, oT, eT, pT, p1, p2, nm⟩ := h.good
    by_cases ht : tag < 0 ∨ 16 ≤ tag
    · have e : findR L tag k = (0, false) := by
        unfold findR; split
        · rfl
        · exact findL_none tag L g.2.1 k 0 (by rw [totalOf_bad g.2.1 ht]; omega)
      rw [e]; exact find_tag w a tag k ht
    · by_cases hk : k < 0
      · have e : findR L tag k = (0, false) := by unfold findR; rw [if_pos hk]
        rw [e]; exact find_neg w a tag k (by omega) hk
      · obtain ⟨tg, rfl⟩ := Int.eq_ofNat_of_zero_le (by omega : 0 ≤ tag)
        obtain ⟨b, hab, hbt, hcell⟩ : ∃ b, a = ⟨b, 0, none⟩ ∧ b < w.heap.size ∧ w.cell? ⟨b, 7 + tg, none⟩ = some (.int .i64 (T.cnt tg)) := by
          cases T with
          | nil => exact (nT rfl).elim
          | node l len t r =>
            obtain ⟨b, pl, pr, h1, h2, h3, _⟩ := hT
            cases h1; exact ⟨b, rfl, h2, h3.count (by omega)⟩
        subst hab
        have ec : T.cnt tg = Tr.totalOf tg L := by rw [← eT]; exact Tr.cnt_list tg T
        by_cases hck : k < T.cnt tg
        · have e : findR L tg k = (fnd tg T k 0, true) := by unfold findR; rw [if_neg hk, ← eT]; exact fnd_findL tg T k 0 oT (by omega) hck
          rw [e]; exact find_yes w b tg k (by omega) (by omega) T hT nT oT p2 hcell hck
        · have e : findR L tg k = (0, false) := by unfold findR; rw [if_neg hk]; exact findL_none tg L g.2.1 k 0 (by omega)
          rw [e]; exact find_more w b tg k _ (by omega) (by omega) hbt hcell (by omega)
end Go.Proofs.Ytfmplibjhohpgaa
