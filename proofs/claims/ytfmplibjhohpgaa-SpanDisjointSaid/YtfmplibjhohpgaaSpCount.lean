/- The walks over Count and Find of package span. -/
import Derived.Test.YtfmplibjhohpgaaSpSet
namespace Go.Proofs.Ytfmplibjhohpgaa
open Go.RowKit

/-- How many of the first pieces have a tag. -/
def upTo (L : List (Int × Int)) (tag k : Int) : Int := Tr.totalOf tag (takeP k L)
theorem totalOf_nonneg {L : List (Int × Int)} (h : Tr.OkL L) (tag : Int) : 0 ≤ Tr.totalOf tag L := by
  induction L with
  | nil => simp [Tr.totalOf]
  | cons x l ih =>
    have h' := Tr.OkL.cons.1 h
    have := ih h'.2
    rw [Tr.totalOf_cons]; split <;> omega
theorem totalOf_le {L : List (Int × Int)} (h : Tr.OkL L) (tag : Int) : Tr.totalOf tag L ≤ Tr.total L := by
  induction L with
  | nil => simp [Tr.totalOf, Tr.total]
  | cons x l ih =>
    have h' := Tr.OkL.cons.1 h
    have := ih h'.2
    rw [Tr.totalOf_cons, Tr.total_cons]; split <;> omega
theorem bef_upTo (tag : Int) : ∀ (T : Tr) (k : Int), T.Ok → 0 ≤ k → bef tag T k = upTo T.list tag k
  | .nil, k, _, _ => by simp [bef, upTo, Tr.list, takeP, Tr.totalOf]
  | .node l len tg r, k, o, hk => by
    obtain ⟨o1, o2, o4, _, _⟩ := o
    have q1 := Tr.pcs_nonneg l o1
    have ih1 := bef_upTo tag l k o1 hk
    unfold upTo at ih1 ⊢
    simp only [bef, Tr.list]
    rw [takeP_append ((Tr.ok_list l).1 o1), ← Tr.pcs_list]
    by_cases h : k ≤ l.pcs
    · rw [if_pos h, if_pos h, ih1]
    · rw [if_neg h, if_neg h, Tr.totalOf_append, ← Tr.cnt_list]
      simp only [takeP]
      rw [if_neg (by omega : ¬ k - l.pcs ≤ 0)]
      by_cases h2 : k - l.pcs < len
      · rw [if_pos h2, if_pos (by omega : k - (l.pcs + len) ≤ 0), Tr.totalOf_cons, show Tr.totalOf tag [] = 0 from rfl, show min (k - l.pcs) len = k - l.pcs from by omega]
        dsimp only
        omega
      · rw [if_neg h2, Tr.totalOf_cons]
        have ih2 := bef_upTo tag r (k - (l.pcs + len)) o2 (by omega)
        unfold upTo at ih2
        rw [show k - l.pcs - len = k - (l.pcs + len) from by omega, show min (k - l.pcs) len = len from by omega]
        dsimp only
        by_cases h3 : k - (l.pcs + len) ≤ 0
        · rw [if_pos h3]
          have e : takeP (k - (l.pcs + len)) r.list = [] := by
            cases r.list with
            | nil => rfl
            | cons x t => simp only [takeP]; rw [if_pos h3]
          rw [e, show Tr.totalOf tag [] = 0 from rfl]
          omega
        · rw [if_neg h3, ih2]
          omega
/-- What Count returns. -/
def countR (L : List (Int × Int)) (lo hi tag : Int) : Int × Int :=
  if rangesR L lo hi = 0 then (if tag < 0 ∨ 16 ≤ tag then (0, 2) else (upTo L tag hi - upTo L tag lo, 0)) else (0, rangesR L lo hi)
set_option maxRecDepth 100000 in
set_option maxHeartbeats 400000 in
theorem count_err (w : World) (p : Option Addr) (L : List (Int × Int)) (lo hi tag : Int) (h : Rep w p L) (x : Int) (hx : Hid (rangesR L lo hi = x)) (hx0 : (x == 0) = false) :
    Calls Try.prog 28 #[.agg #[.pointer p], .int .i64 lo, .int .i64 hi, .int .i64 tag] w fun e w' => e = .returned (.tuple #[.int .i64 0, .int .i64 x]) ∧ Below w.heap.size w w' := by
  have hr := ranges_any (w.alloc (.cells #[.pointer p] 26)) p L lo hi (h.below (Below.alloc1 _ _))
  rw [hx.out] at hr
  have HR := Lib.hid hr
  have hx1 : (x != 0) = true := by simpa using hx0
  clear hr
  go_enter Try.func28, Try.ntmps28
  go_wp2_with (fail)
  go_at_call 57
  refine HR.out.mono ?_
  clear HR
  rintro e w1 ⟨rfl, hb1⟩
  go_wp2_with (fail)
  go_ret2
  exact ⟨rfl, Below.next (Below.alloc1 _ _) hb1⟩
set_option maxRecDepth 100000 in
set_option maxHeartbeats 400000 in
theorem count_tag (w : World) (a : Addr) (L : List (Int × Int)) (lo hi tag : Int) (h : Rep w (some a) L) (hx : Hid (rangesR L lo hi = 0)) (ht : tag < 0 ∨ 16 ≤ tag) :
    Calls Try.prog 28 #[.agg #[.pointer (some a)], .int .i64 lo, .int .i64 hi, .int .i64 tag] w fun e w' => e = .returned (.tuple #[.int .i64 0, .int .i64 2]) ∧ Below w.heap.size w w' := by
  have hr := ranges_any (w.alloc (.cells #[.pointer (some a)] 26)) (some a) L lo hi (h.below (Below.alloc1 _ _))
  rw [hx.out] at hr
  have HR := Lib.hid hr
  clear hr
  go_enter Try.func28, Try.ntmps28
  go_wp2_with (fail)
  go_at_call 57
  refine HR.out.mono ?_
  clear HR
  rintro e w1 ⟨rfl, hb1⟩
  go_wp2_with (fail)
  go_at_call 52
  refine (isTag_no tag w1 ht).mono ?_
  rintro e w' ⟨rfl, rfl⟩
  go_wp2_with (fail)
  go_ret2
  exact ⟨rfl, Below.next (Below.alloc1 _ _) hb1⟩
set_option maxRecDepth 100000 in
set_option maxHeartbeats 1000000 in
theorem count_yes (w : World) (a : Addr) (L : List (Int × Int)) (lo hi : Int) (tg : Nat) (h : Rep w (some a) L) (hx : Hid (rangesR L lo hi = 0)) (ht : tg < 16)
    (T : Tr) (hT : Tree w (some a) T) (oT : T.Ok) (hp2 : T.pcs ≤ 1099511627776) (h0 : 0 ≤ lo) (h1 : lo ≤ hi) (h2 : hi ≤ T.pcs) (x y : Int) (hxx : Hid (bef tg T hi = x)) (hyy : Hid (bef tg T lo = y)) (x0 : 0 ≤ x) (x1 : x ≤ 1099511627776) (y0 : 0 ≤ y) (y1 : y ≤ 1099511627776) :
    Calls Try.prog 28 #[.agg #[.pointer (some a)], .int .i64 lo, .int .i64 hi, .int .i64 tg] w fun e w' => e = .returned (.tuple #[.int .i64 (x - y), .int .i64 0]) ∧ Below w.heap.size w w' := by
  have hr := ranges_any (w.alloc (.cells #[.pointer (some a)] 26)) (some a) L lo hi (h.below (Below.alloc1 _ _))
  rw [hx.out] at hr
  have HR := Lib.hid hr
  clear hr
  go_enter Try.func28, Try.ntmps28
  go_wp2_with (fail)
  go_at_call 57
  refine HR.out.mono ?_
  clear HR
  rintro e w1 ⟨rfl, hb1⟩
  have a1 := ((BoxT.new w (.pointer (some a)) 26 (by decide)).next hb1)
  have hB1 : Below w.heap.size w w1 := Below.next (Below.alloc1 _ _) hb1
  have c1 := a1.cell
  clear hb1
  go_wp2_with (fail)
  go_at_call 52
  refine (isTag_yes tg w1 (by omega)).mono ?_
  rintro e w' ⟨rfl, rfl⟩
  go_wp2_with (fail)
  have c2 : ∀ W', Quiet w1 W' → Calls Try.prog 64 #[.pointer (some a), .int .i64 hi, .int .i64 tg] W' fun e w'' => e = .returned (.int .i64 x) ∧ Quiet W' w'' := fun W' hq => by
    have := before_any T W' (some a) hi tg ((hT.below hB1).below (hq.below _)) oT hp2 (by omega) (by omega) ht
    rw [hxx.out] at this; exact this
  have c3 : ∀ W', Quiet w1 W' → Calls Try.prog 64 #[.pointer (some a), .int .i64 lo, .int .i64 tg] W' fun e w'' => e = .returned (.int .i64 y) ∧ Quiet W' w'' := fun W' hq => by
    have := before_any T W' (some a) lo tg ((hT.below hB1).below (hq.below _)) oT hp2 (by omega) (by omega) ht
    rw [hyy.out] at this; exact this
  have C2 := Lib.hid c2
  have C3 := Lib.hid c3
  clear c2 c3
  by_cases hlh : lo = hi
  · subst hlh
    obtain rfl : x = y := by rw [← hxx.out, ← hyy.out]
    go_quiet ((go_at_call 64; exact quiet_arm (C2.out _ ⟨_, rfl⟩)))
    go_wp2_with (fail)
    go_ret2
    exact ⟨by show Ending.returned (.tuple #[.int .i64 0, .int .i64 0]) = _; rw [Int.sub_self], hB1.trans (Quiet.below ⟨_, rfl⟩ _)⟩
  · go_quiet ((first | (go_at_call_of 64 (Value.int IntKind.i64 hi); exact quiet_arm (C2.out _ ⟨_, rfl⟩)) | (go_at_call_of 64 (Value.int IntKind.i64 lo); exact quiet_arm (C3.out _ ⟨_, rfl⟩))))
    go_wp2_with (fail)
    go_ret2
    exact ⟨rfl, hB1.trans (Quiet.below ⟨_, rfl⟩ _)⟩
/-- Count, whatever the map and its arguments. -/
theorem count_any (w : World) (p : Option Addr) (L : List (Int × Int)) (lo hi tag : Int) (h : Rep w p L) :
    Calls Try.prog 28 #[.agg #[.pointer p], .int .i64 lo, .int .i64 hi, .int .i64 tag] w fun e w' => e = .returned (.tuple #[.int .i64 (countR L lo hi tag).1, .int .i64 (countR L lo hi tag).2]) ∧ Below w.heap.size w w' := by
  by_cases hx : rangesR L lo hi = 0
  · obtain ⟨a, rfl⟩ : ∃ a, p = some a := by
      cases p with
      | none => unfold rangesR at hx; rw [if_pos (h.nil_iff.1 rfl)] at hx; cases hx
      | some a => exact ⟨a, rfl⟩
    obtain ⟨g, T, hT, nT, bT, oT, eT, pT, p1, p2, nm⟩ := h.good
    have hb : ¬ (lo < 0 ∨ hi < lo ∨ Tr.total L < hi) := fun hb => by unfold rangesR at hx; rw [if_neg g.1, if_pos hb] at hx; cases hx
    by_cases ht : tag < 0 ∨ 16 ≤ tag
    · have e : countR L lo hi tag = (0, 2) := by unfold countR; rw [if_pos hx, if_pos ht]
      rw [e]; exact count_tag w a L lo hi tag h hx ht
    · have e : countR L lo hi tag = (upTo L tag hi - upTo L tag lo, 0) := by unfold countR; rw [if_pos hx, if_neg ht]
      obtain ⟨tg, rfl⟩ := Int.eq_ofNat_of_zero_le (by omega : 0 ≤ tag)
      have e1 := bef_upTo tg T hi oT (by omega)
      have e2 := bef_upTo tg T lo oT (by omega)
      rw [eT] at e1 e2
      have oL := (Tr.ok_list T).1 oT
      rw [eT] at oL
      have bnd : ∀ k, 0 ≤ k → k ≤ T.pcs → 0 ≤ upTo L tg k ∧ upTo L tg k ≤ 1099511627776 := fun k k0 k1 => by
        have := totalOf_nonneg (takeP_ok oL k) tg
        have := totalOf_le (takeP_ok oL k) tg
        rw [takeP_total oL k0 (by omega)] at this
        unfold upTo; omega
      have h3 := bnd hi (by omega) (by omega)
      have h4 := bnd lo (by omega) (by omega)
      rw [e]
      exact count_yes w a L lo hi tg h hx (by omega) T hT oT p2 (by omega) (by omega) (by omega) _ _ e1 e2 h3.1 h3.2 h4.1 h4.2
  · have e : countR L lo hi tag = (0, rangesR L lo hi) := by unfold countR; rw [if_neg hx]
    rw [e]; exact count_err w p L lo hi tag h _ rfl (by simpa using hx)
end Go.Proofs.Ytfmplibjhohpgaa
