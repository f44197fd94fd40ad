/- The journal layer: the walk over write, a Commit. -/
import Derived.Test.YtkljfampkkfgdaaJWorldC
import Derived.Deep.DeepCutAuto
import Derived.Deep.CutRange
namespace Go.Proofs.Ytkljfampkkfgdaa
open Go.RowKit
section
variable {W0 W : World} {wb N n : Nat} {X : Wd}
theorem cellsMd_far (w : World) (wb k : Nat) (m : Md) (rv av : Value) (hk : 9 ≤ k) : (w.setCells wb 2 (cellsMd m rv av).toList).cell? ⟨wb, k, none⟩ = w.cell? ⟨wb, k, none⟩ := World.cell?_setCells_out wb _ 2 w ⟨wb, k, none⟩ (fun _ _ => .inr (by simpa [cellsMd] using hk))
theorem cellsMd_size (m : Md) (rv av : Value) : (cellsMd m rv av).size = 7 := rfl
theorem szModelC (m : Md) (rv av : Value) : (Try.prog.info? 74).map (·.size) = some (cellsMd m rv av).size := by rw [cellsMd_size]; exact szModel
theorem WdAt.thereC {w1 : World} (h : WdAt W0 W wb X) (hB : Below W.heap.size W w1) (m : Md) (rv av : Value) : w1.there wb 2 (cellsMd m rv av).size := by rw [cellsMd_size]; exact h.there hB
theorem wd_same {X : Wd} {J : Jn} (hJ : X.J = some J) : ({ X with D := X.D, J := some J } : Wd) = X := by cases X; simp only at hJ; rw [hJ]
theorem refM_none (hi : WI N n X) (hJ : X.J = none) (a b c : Int) : refM X a b c = 1 := by simp [refM, hi.has, hJ]
theorem refM_broken {J : Jn} (hi : WI N n X) (hJ : X.J = some J) (hb : X.broken = true) (a b c : Int) : refM X a b c = 72 := by simp [refM, hi.has, hJ, hb]
theorem refM_arg {J : Jn} (hi : WI N n X) (hJ : X.J = some J) (hb : X.broken = false) {a b c : Int} (hab : a > b) : refM X a b c = 2 := by
  have := (hi.ok J hJ hb).on
  simp [refM, hi.has, hJ, hb, this, hab]
theorem refM_full {J : Jn} (hi : WI N n X) (hJ : X.J = some J) (hb : X.broken = false) {a b c : Int} (hab : ¬ a > b) (hc : c > (capM N : Nat)) : refM X a b c = 5 := by
  have := (hi.ok J hJ hb).on
  unfold refM
  rw [hi.ws.len, if_neg (by simp [hi.has, hJ]), if_neg (by simp [hb]), if_neg (by simp [this]), if_neg hab, if_pos hc]
theorem refM_ok {J : Jn} (hi : WI N n X) (hJ : X.J = some J) (hb : X.broken = false) {a b c : Int} (hab : ¬ a > b) (hc : ¬ c > (capM N : Nat)) : refM X a b c = 0 := by
  have := (hi.ok J hJ hb).on
  unfold refM
  rw [hi.ws.len, if_neg (by simp [hi.has, hJ]), if_neg (by simp [hb]), if_neg (by simp [this]), if_neg hab, if_neg hc]
set_option maxRecDepth 100000 in
set_option maxHeartbeats 500000 in
theorem write_commit (h : WdAt W0 W wb X) (hi : WI N n X) (kd : Int) (hk : kd.tmod 8 = 2) (T : Bs) (Nn : Int) (A : Option Addr) (kn kc : Nat) : Calls Try.prog 69 #[.pointer (some ⟨wb, 0, none⟩), .agg #[.int .u8 kd, .string ⟨T.toArray⟩, .int .i64 Nn, .slice A kn kc]] W fun e w' => e = .returned (.bool true) ∧ ∃ X', WdAt W0 w' wb X' ∧ WI N n X' := by
  obtain ⟨w1, hw1⟩ : ∃ w1, W.alloc (.cells #[.int .u8 kd, .string ⟨T.toArray⟩, .int .i64 Nn, .slice A kn kc] 70) = w1 := ⟨_, rfl⟩
  have hB1 : Below W.heap.size W w1 := hw1 ▸ Below.new1 _ _
  have hr1 : w1.heap[W.heap.size]? = some (.cells #[.int .u8 kd, .string ⟨T.toArray⟩, .int .i64 Nn, .slice A kn kc] 70 (0, 0)) := hw1 ▸ heap_alloc_new W _
  have g0 : w1.cell? ⟨W.heap.size, 0, none⟩ = some (.int .u8 kd) := (cell_of_row w1 _ 0 _ _ _ hr1).trans rfl
  have h1 := h.next hB1
  have hlen := hi.ws.len
  have hlow := hi.ws.low
  have hhigh := hi.ws.high
  have hrf := refused_any h1 (by omega) (by omega) 0 0 0
  obtain ⟨jp, k1, hdu, -, -, -, hnone, hcm, -, -⟩ := h1.jp
  have H1 := Lib.hid h1
  have HI := Lib.hid hi
  have HDU := Lib.hid hdu
  clear hr1 h hB1 hlen hlow hhigh
  cases hJ : X.J with
  | none =>
    have e1 : refM X 0 0 0 = 1 := refM_none hi hJ 0 0 0
    rw [e1] at hrf
    obtain rfl := hnone hJ
    have hst := settle_no h1 1 (by decide) (by decide)
    have HRF := Lib.hid hrf
    have HST := Lib.hid hst
    clear hrf hst h1 hi e1 hcm hdu hnone hJ
    go_enter Try.func69, Try.ntmps69
    go_upto_region 9 with (first
      | (go_at_call 19; refine HDU.out.mono ?_; rintro x w2 ⟨rfl, hw2⟩; obtain rfl := hw2.symm)
      | (go_at_call 79; refine HRF.out.mono ?_; rintro x w2 ⟨rfl, hw2⟩; obtain rfl := hw2.symm)
      | (go_at_call 18; refine (commit_nil _).mono ?_; rintro x w2 ⟨rfl, hw2⟩; obtain rfl := hw2.symm)
      | (go_at_call 80; refine HST.out.mono ?_; rintro x w2 ⟨rfl, hw2⟩; obtain rfl := hw2.symm))
    go_quiet (fail)
    go_wp2_with (fail)
    go_ret
    exact ⟨rfl, X, H1.out.next (Below.drawn _ nq _), HI.out⟩
  | some J =>
    clear hnone
    cases hb : X.broken with
    | true =>
      have e1 : refM X 0 0 0 = 72 := refM_broken hi hJ hb 0 0 0
      rw [e1] at hrf
      have hc := hcm J 72 X.D J hJ (hi.bd J hJ).1 (commit_no (hi.bad J hJ hb))
      rw [wd_same hJ] at hc
      have hst := fun w (h : WdAt W0 w wb X) => settle_no h 72 (by decide) (by decide)
      have HRF := Lib.hid hrf
      have HST := Lib.hid hst
      have HC := Lib.hid hc
      clear hrf hst h1 hi e1 hcm hdu hc hJ hb
      go_enter Try.func69, Try.ntmps69
      go_upto_region 9 with (first
        | (go_at_call 19; refine HDU.out.mono ?_; rintro x w2 ⟨rfl, hw2⟩; obtain rfl := hw2.symm)
        | (go_at_call 79; refine HRF.out.mono ?_; rintro x w2 ⟨rfl, hw2⟩; obtain rfl := hw2.symm)
        | (go_at_call 18; refine HC.out.mono ?_; rintro x w3 ⟨rfl, h3⟩)
        | (go_at_call 80; refine (HST.out _ h3).mono ?_; rintro x w2 ⟨rfl, hw2⟩; obtain rfl := hw2.symm))
      go_quiet (fail)
      go_wp2_with (fail)
      go_ret
      exact ⟨rfl, X, h3.next (Below.drawn _ nq _), HI.out⟩
    | false =>
      have e1 : refM X 0 0 0 = 0 := refM_ok hi hJ hb (by decide) (by omega)
      rw [e1] at hrf
      obtain ⟨er, D', J', q1, q2⟩ := hi.commit hJ hb
      have hc := hcm J er D' J' hJ (hi.bd J hJ).1 q1
      have hdr := hi.durO
      rcases q2 with ⟨rfl, q3, q4, q5⟩ | ⟨rfl, q3, q4, q5, q6⟩
      · have hst := fun w (h : WdAt W0 w wb { X with D := D', J := some J' }) => settle_ok h q3 (durO X.J : Nat)
        have hsm := hi.small.1
        have e2 : durO (some J') = X.recs.length := q4
        have HRF := Lib.hid hrf
        have HST := Lib.hid hst
        have HC := Lib.hid hc
        have HW := Lib.hid q5
        have HE2 := Lib.hid e2
        have HSM := Lib.hid hsm
        clear hrf hst h1 hi e1 hcm hdu hc q1 q3 q4 q5 hJ hb hdr e2 hsm
        generalize durO X.J = du at *
        go_enter Try.func69, Try.ntmps69
        go_upto_region 7 with (first
          | (go_at_call 19; refine HDU.out.mono ?_; rintro x w2 ⟨rfl, hw2⟩; obtain rfl := hw2.symm)
          | (go_at_call 79; refine HRF.out.mono ?_; rintro x w2 ⟨rfl, hw2⟩; obtain rfl := hw2.symm)
          | (go_at_call 18; refine HC.out.mono ?_; rintro x w3 ⟨rfl, h3⟩)
          | (go_at_call 80; refine (HST.out _ h3).mono ?_; rintro x w2 ⟨rfl, hw2⟩; obtain rfl := hw2.symm))
        have h3d : WdAt W0 w3.drew wb { X with D := D', J := some J' } := h3.next (Below.drawn w3 1 _)
        obtain ⟨RA, rc, AA, ac, CA, cc, -, -, k13, -, -, s3, -, -, t3, -, -, -, -, -, k12, -, -, -, -⟩ := h3d.rows
        simp only at k13 k12 s3
        have hop := opened_any w3.drew X.st CA X.recs X.recs.length cc s3 rfl t3 (by have := HSM.out; omega)
        simp only [cellsMd, openedM] at hop
        have HOP := Lib.hid hop
        have H3D := Lib.hid h3d
        clear hop h3d s3 t3 h3
        go_cut [42] from 42 to 53 (fun u wx => u = .pointer (some ⟨wb, 0, none⟩) ∧ WdAt W0 wx wb { X with D := D', J := some J', m := openedM X.st X.recs })
        case first =>
          go_region_with (first
            | (go_at_call 68; refine HOP.out.mono ?_; rintro x w6 ⟨v6, rfl, hv6, b6⟩
               obtain ⟨A6, c6, rfl, -, -⟩ := hv6.slice
               have h6 := H3D.out.next b6
               obtain ⟨RA6, rc6, AA6, ac6, -, -, k3, k4, -, -, -, -, -, -, -, k2, k5, k6, k7, k8, -, -, -, -, -⟩ := h6.rows
               have f2 := h6.f 2
               have f3 := h6.f 3
               have f4 := h6.f 4
               have f5 := h6.f 5
               have f6 := h6.f 6
               have f7 := h6.f 7
               have f8 := h6.f 8
               have H7 := Lib.hid (H3D.out.model (m' := openedM X.st X.recs) b6 hv6 (OwnStrs.none _ _))))
          all_goals
            go_wp2_with (fail)
            go_meet
            exact ⟨rfl, H7.out⟩
        case rest =>
          obtain ⟨rfl, h7⟩ := hcut
          have f14 := h7.f 14
          obtain ⟨RA7, rc7, AA7, ac7, CA7, cc7, -, -, k13, -, -, -, -, -, -, -, -, -, -, -, -, k14, -, -, -⟩ := h7.rows
          simp only at k13 k14
          have h8 := h7.setSure X.recs.length
          have H8 := Lib.hid h8
          clear h7 h8
          go_upto_region 9 with (fail)
          generalize wc.setCell ⟨wb, 14, none⟩ (.int .i64 (X.recs.length : Nat)) = w8 at *
          obtain ⟨-, -, -, -, CA8, cc8, -, -, k13', -, -, -, -, -, -, -, -, -, -, -, -, -, -, -, -⟩ := H8.out.rows
          simp only at k13'
          obtain ⟨K8, dk8, jp8, rv8, av8, cv8, hw8, -, -, -⟩ := id H8.out
          have k1' := hw8.c1
          have hd8 := fun w (b : Below w8.heap.size w8 w) => durable_dj (hw8.next b).dj
          simp only [HE2.out] at hd8
          have HD8 := Lib.hid hd8
          have b4 : ((X.recs.length : Int) == (X.recs.length : Int)) = true := by simp
          clear hw8 hd8 k13 k14 f14
          go_quiet ((go_at_call 19; exact Calls.quiet_of_same (HD8.out _ (Below.drawn w8 _ _))))
          go_wp2_with (fail)
          go_ret
          exact ⟨rfl, _, H8.out.next (Below.drawn _ nq _), HW.out⟩
      · have hst := fun w (h : WdAt W0 w wb { X with D := D', J := some J' }) => settle_off h q3 q4
        have e2 : durO (some J') = durO X.J := by rw [hdr]; exact q5
        simp only [e2] at hst
        have HRF := Lib.hid hrf
        have HST := Lib.hid hst
        have HC := Lib.hid hc
        have HW := Lib.hid q6
        clear hrf hst h1 hi e1 hcm hdu hc q1 q3 q4 q5 q6 e2 hJ hb hdr
        generalize durO X.J = du at *
        go_enter Try.func69, Try.ntmps69
        go_upto_region 9 with (first
          | (go_at_call 19; refine HDU.out.mono ?_; rintro x w2 ⟨rfl, hw2⟩; obtain rfl := hw2.symm)
          | (go_at_call 79; refine HRF.out.mono ?_; rintro x w2 ⟨rfl, hw2⟩; obtain rfl := hw2.symm)
          | (go_at_call 18; refine HC.out.mono ?_; rintro x w3 ⟨rfl, h3⟩)
          | (go_at_call 80; refine (HST.out _ h3).mono ?_; rintro x w4 ⟨rfl, h4⟩))
        go_quiet (fail)
        go_wp2_with (fail)
        go_ret
        exact ⟨rfl, _, h4.next (Below.drawn _ nq _), HW.out⟩
end
end Go.Proofs.Ytkljfampkkfgdaa
