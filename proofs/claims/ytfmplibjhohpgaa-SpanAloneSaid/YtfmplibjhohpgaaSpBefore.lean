/- The walks over the method before of package span, and the plain function that it computes. -/
import Derived.Test.YtfmplibjhohpgaaSpRuns
namespace Go.Proofs.Ytfmplibjhohpgaa
open Go.RowKit

/-- How many of the first pieces have a tag. -/
def bef (tag : Int) : Tr → Int → Int
  | .nil, _ => 0
  | .node l len tg r, k => if k ≤ l.pcs then bef tag l k else l.cnt tag + (if tg = tag then min (k - l.pcs) len else 0) + (if k - (l.pcs + len) ≤ 0 then 0 else bef tag r (k - (l.pcs + len)))
theorem IsNode.count {W : World} {b : Nat} {pl pr : Option Addr} {T : Tr} {len tag : Int} (h : IsNode W b pl pr T len tag) {k : Nat} (hk : k < 16) : W.cell? ⟨b, 7 + k, none⟩ = some (.int .i64 (T.cnt k)) := Made.count h hk

set_option maxRecDepth 100000 in
set_option maxHeartbeats 2000000 in
theorem before_any (T : Tr) (w : World) (p : Option Addr) (k : Int) (tg : Nat) (hT : Tree w p T) (oT : T.Ok) (hp : T.pcs ≤ 1099511627776) (k0 : 0 ≤ k) (k1 : k ≤ 1099511627776) (ht : tg < 16) :
    Calls Try.prog 64 #[.pointer p, .int .i64 k, .int .i64 tg] w fun e w' => e = .returned (.int .i64 (bef tg T k)) ∧ Quiet w w' := by
  have z0 := Tr.pcs_nonneg T oT
  go_enter Try.func64, Try.ntmps64
  go_wp2_with (fail)
  go_loopw [0, 1, 7] (fun v a s wr => ∃ (T' : Tr) (p' : Option Addr) (k' n' : Int), v = .pointer p' ∧ a = .int .i64 k' ∧ s = .int .i64 n' ∧ Tree w p' T' ∧ T'.Ok ∧ 0 ≤ n' ∧ 0 ≤ T'.pcs ∧ n' + T'.pcs ≤ 1099511627776 ∧ 0 ≤ k' ∧ k' ≤ 1099511627776 ∧ Hid (n' + bef tg T' k' = bef tg T k) ∧ Quiet w wr) (fun v _ _ _ => hgtOf w v)
  case atStart => exact ⟨T, p, k, 0, rfl, rfl, rfl, hT, oT, by omega, by omega, by omega, k0, k1, by show 0 + _ = _; omega, Quiet.refl w⟩
  case round =>
    obtain ⟨T', p', k', n', rfl, rfl, rfl, hT', oT', n0, z1, z2, k2, k3, hH, q, rfl⟩ := hrel
    cases T' with
    | nil =>
      obtain rfl : p' = none := hT'
      go_wp2_with (fail)
      go_ret
      have h := hH.out
      simp only [bef] at h
      exact ⟨by rw [← h]; simp, _, rfl⟩
    | node l len tag r =>
      obtain ⟨bt, pl, pr, hp', hbt, hn, hl, hr⟩ := id hT'
      have HmL := Lib.hid (hgtOf_node hT' bt pl pr hp' hn hl)
      have HmR := Lib.hid (show hgtOf w (.pointer pr) < hgtOf w (.pointer p') by
        rw [hgtOf_tree hT', hgtOf_tree (show Tree w pr r from hr)]
        have := Tr.hgt_nonneg l; have := Tr.hgt_nonneg r
        simp only [Tr.hgt]; omega)
      subst hp'
      clear hT'
      obtain ⟨o1, o2, o4, o5, o6⟩ := oT'
      simp only [Tr.pcs] at z1 z2
      have q1 := Tr.pcs_nonneg _ o1
      have q2 := Tr.pcs_nonneg _ o2
      have c0 := hn.c0
      have c1 := hn.c1
      have c2 := hn.c2
      have c3 := hn.c3
      have b1 := Tr.cnt_nonneg tg l o1
      have b2 := Tr.cnt_le_pcs tg l o1
      by_cases h1 : k' ≤ l.pcs
      · go_wp2_with (go_at_call 63; refine (pieces_any _ _ l (by exact Tree.drewN hl _)).mono ?_; rintro e w' ⟨rfl, n1, rfl⟩)
        go_roundw
        case rel => exact ⟨l, pl, k', n', rfl, rfl, rfl, hl, o1, n0, q1, by omega, k2, k3, by have h := hH.out; simp only [bef] at h; rw [if_pos h1] at h; exact h, _, rfl⟩
        case measure => exact HmL.out
      · by_cases h2 : tag = (tg : Int)
        · cases l with
          | nil =>
            have hE : n' + Tr.nil.cnt tg + min (k' - Tr.nil.pcs) len + (if k' - (Tr.nil.pcs + len) ≤ 0 then 0 else bef tg r (k' - (Tr.nil.pcs + len))) = bef tg T k := by
              have h := hH.out; simp only [bef] at h; rw [if_neg h1, if_pos h2] at h; rw [← h]; omega
            have HE := Lib.hid hE
            clear hE
            have h2' : (tag == (tg : Int)) = true := by simpa using h2
            clear h2 hH
            obtain rfl : pl = none := hl
            have cz : Tr.nil.cnt tg = 0 := rfl
            have cz' : Tr.nil.pcs = 0 := rfl
            have CZ := Lib.hid cz
            have CZ' := Lib.hid cz'
            clear cz cz'
            by_cases h3 : k' - (Tr.nil.pcs + len) ≤ 0
            · go_wp2_with (first | (refine wpList_min rfl _ _ _ rfl _ _ rfl rfl ?_) | (go_at_call 63; refine (pieces_any _ _ Tr.nil (by exact rfl)).mono ?_; rintro e w' ⟨rfl, n1, rfl⟩))
              go_ret
              exact ⟨congrArg (fun z => Ending.returned (Value.int .i64 z)) (by have h := HE.out; rw [if_pos h3] at h; rw [CZ.out] at h; omega), _, rfl⟩
            · go_wp2_with (first | (refine wpList_min rfl _ _ _ rfl _ _ rfl rfl ?_) | (go_at_call 63; refine (pieces_any _ _ Tr.nil (by exact rfl)).mono ?_; rintro e w' ⟨rfl, n1, rfl⟩))
              go_roundw
              case rel => exact ⟨r, pr, _, _, rfl, rfl, rfl, hr, o2, by have := CZ.out; have := CZ'.out; omega, q2, by have := CZ.out; have := CZ'.out; omega, by have := CZ.out; have := CZ'.out; omega, by have := CZ.out; have := CZ'.out; omega, by show _ = _; have h := HE.out; rw [if_neg (by omega)] at h; rw [CZ.out] at h; omega, _, rfl⟩
              case measure => exact HmR.out
          | node a x y b =>
            have hE : n' + (Tr.node a x y b).cnt tg + min (k' - (Tr.node a x y b).pcs) len + (if k' - ((Tr.node a x y b).pcs + len) ≤ 0 then 0 else bef tg r (k' - ((Tr.node a x y b).pcs + len))) = bef tg T k := by
              have h := hH.out; simp only [bef] at h; rw [if_neg h1, if_pos h2] at h; rw [← h]; omega
            have HE := Lib.hid hE
            clear hE
            have h2' : (tag == (tg : Int)) = true := by simpa using h2
            clear h2 hH
            obtain ⟨bl, pl', pr', rfl, hbl, hnl, _, _⟩ := id hl
            have cc := hnl.count ht
            by_cases h3 : k' - ((Tr.node a x y b).pcs + len) ≤ 0
            · go_wp2_with (first | (refine wpList_min rfl _ _ _ rfl _ _ rfl rfl ?_) | (go_at_call 63; refine (pieces_any _ _ (Tr.node a x y b) (by exact Tree.drewN hl _)).mono ?_; rintro e w' ⟨rfl, n1, rfl⟩))
              go_ret
              exact ⟨congrArg (fun z => Ending.returned (Value.int .i64 z)) (by have h := HE.out; rw [if_pos h3] at h; omega), _, rfl⟩
            · go_wp2_with (first | (refine wpList_min rfl _ _ _ rfl _ _ rfl rfl ?_) | (go_at_call 63; refine (pieces_any _ _ (Tr.node a x y b) (by exact Tree.drewN hl _)).mono ?_; rintro e w' ⟨rfl, n1, rfl⟩))
              go_roundw
              case rel => exact ⟨r, pr, _, _, rfl, rfl, rfl, hr, o2, by omega, q2, by omega, by omega, by omega, by show _ = _; have h := HE.out; rw [if_neg (by omega)] at h; omega, _, rfl⟩
              case measure => exact HmR.out
        · cases l with
          | nil =>
            have hE : n' + Tr.nil.cnt tg + 0 + (if k' - (Tr.nil.pcs + len) ≤ 0 then 0 else bef tg r (k' - (Tr.nil.pcs + len))) = bef tg T k := by
              have h := hH.out; simp only [bef] at h; rw [if_neg h1, if_neg h2] at h; rw [← h]; omega
            have HE := Lib.hid hE
            clear hE
            have h2' : (tag == (tg : Int)) = false := by simpa using h2
            clear h2 hH
            obtain rfl : pl = none := hl
            have cz : Tr.nil.cnt tg = 0 := rfl
            have cz' : Tr.nil.pcs = 0 := rfl
            have CZ := Lib.hid cz
            have CZ' := Lib.hid cz'
            clear cz cz'
            by_cases h3 : k' - (Tr.nil.pcs + len) ≤ 0
            · go_wp2_with (first | (refine wpList_min rfl _ _ _ rfl _ _ rfl rfl ?_) | (go_at_call 63; refine (pieces_any _ _ Tr.nil (by exact rfl)).mono ?_; rintro e w' ⟨rfl, n1, rfl⟩))
              go_ret
              exact ⟨congrArg (fun z => Ending.returned (Value.int .i64 z)) (by have h := HE.out; rw [if_pos h3] at h; rw [CZ.out] at h; omega), _, rfl⟩
            · go_wp2_with (first | (refine wpList_min rfl _ _ _ rfl _ _ rfl rfl ?_) | (go_at_call 63; refine (pieces_any _ _ Tr.nil (by exact rfl)).mono ?_; rintro e w' ⟨rfl, n1, rfl⟩))
              go_roundw
              case rel => exact ⟨r, pr, _, _, rfl, rfl, rfl, hr, o2, by have := CZ.out; have := CZ'.out; omega, q2, by have := CZ.out; have := CZ'.out; omega, by have := CZ.out; have := CZ'.out; omega, by have := CZ.out; have := CZ'.out; omega, by show _ = _; have h := HE.out; rw [if_neg (by omega)] at h; rw [CZ.out] at h; omega, _, rfl⟩
              case measure => exact HmR.out
          | node a x y b =>
            have hE : n' + (Tr.node a x y b).cnt tg + 0 + (if k' - ((Tr.node a x y b).pcs + len) ≤ 0 then 0 else bef tg r (k' - ((Tr.node a x y b).pcs + len))) = bef tg T k := by
              have h := hH.out; simp only [bef] at h; rw [if_neg h1, if_neg h2] at h; rw [← h]; omega
            have HE := Lib.hid hE
            clear hE
            have h2' : (tag == (tg : Int)) = false := by simpa using h2
            clear h2 hH
            obtain ⟨bl, pl', pr', rfl, hbl, hnl, _, _⟩ := id hl
            have cc := hnl.count ht
            by_cases h3 : k' - ((Tr.node a x y b).pcs + len) ≤ 0
            · go_wp2_with (first | (refine wpList_min rfl _ _ _ rfl _ _ rfl rfl ?_) | (go_at_call 63; refine (pieces_any _ _ (Tr.node a x y b) (by exact Tree.drewN hl _)).mono ?_; rintro e w' ⟨rfl, n1, rfl⟩))
              go_ret
              exact ⟨congrArg (fun z => Ending.returned (Value.int .i64 z)) (by have h := HE.out; rw [if_pos h3] at h; omega), _, rfl⟩
            · go_wp2_with (first | (refine wpList_min rfl _ _ _ rfl _ _ rfl rfl ?_) | (go_at_call 63; refine (pieces_any _ _ (Tr.node a x y b) (by exact Tree.drewN hl _)).mono ?_; rintro e w' ⟨rfl, n1, rfl⟩))
              go_roundw
              case rel => exact ⟨r, pr, _, _, rfl, rfl, rfl, hr, o2, by omega, q2, by omega, by omega, by omega, by show _ = _; have h := HE.out; rw [if_neg (by omega)] at h; omega, _, rfl⟩
              case measure => exact HmR.out
end Go.Proofs.Ytfmplibjhohpgaa
