/- The journal layer: the walk over JournalReplaces. -/
import Derived.Test.YtkljfampkkfgdaaJFills
import Derived.Test.YtkljfampkkfgdaaJOpenB
namespace Go.Proofs.Ytkljfampkkfgdaa
open Go.RowKit
theorem max_fuse {c : Int} (h : 0 ≤ max c (-1)) : 0 ≤ c := by omega
/-- A fuse is set on the disk of an open journal. -/
theorem WJ.fuse {N n : Nat} {D : Dk} {J : Jn} {m : Md} (h : WJ N n D J m) (c : Int) : ∃ E, setM D c = (0, E) ∧ E.fuse = max c (-1) ∧ WJ N n E J m := by
  obtain ⟨h1, h2, h3, h4, h5, h6⟩ := h.ws.fuse c
  rw [h.on] at h4
  refine ⟨(setM D c).2, by rw [show (0 : Int) = (setM D c).1 from h4.symm], h5 h.on, h1, h2.trans h.on, ?_, h3 ▸ h.same, h.whole, h.ep, h.mS, h.mR, h.mA, h.mK, h.mW⟩
  have hg : getM (setM D c).2 = getM D := by funext i; unfold getM; rw [h6]
  have hp : ∀ j y, poss (setM D c).2 j y ↔ poss D j y := fun j y => by unfold poss; rw [h6]
  have hl : (setM D c).2.sec.length = D.sec.length := by rw [h6]
  exact ⟨by rw [hg]; exact h.live.cur, h.live.ep, h.live.used, by rw [hl]; exact h.live.fit, h.live.dur, h.live.small, by rw [hl, hg]; exact h.live.laid, by rw [hl, hg]; exact h.live.zero, fun j y hy => by rw [hg, hl]; exact h.live.sure j y ((hp j y).1 hy)⟩
theorem allows_exact {st : Bs} {rs : List Bs} {st' : Bs} {rs' : List Bs} (h : allowsM (openedM st rs) st' rs' = true) : st' = st ∧ rs' = rs := by
  simp only [allowsM, openedM, Bool.false_and, Bool.false_or, Bool.true_and, Bool.and_eq_true, beq_iff_eq, List.append_nil] at h
  obtain ⟨⟨h1, h2⟩, h3⟩ := h
  obtain ⟨t, ht⟩ := begins_iff.1 h2
  obtain ⟨u, hu⟩ := begins_iff.1 h3
  refine ⟨h1, ?_⟩
  have : t = [] := by
    have e1 := congrArg List.length ht
    have e2 := congrArg List.length hu
    simp only [List.length_append] at e1 e2
    exact List.eq_nil_of_length_eq_zero (by omega)
  rw [ht, this, List.append_nil]
/-- Open behind a crash: what it returns is allowed, or nothing is sure. -/
theorem WS.opens {N n : Nat} {D : Dk} {m : Md} (h : WS N n D m) (hn : n + 1 < 160) (ho : D.off = false) (hf : D.fuse < 0) (hs : m.Sure = true) : ∃ E K, openM D = (0, E, some K) ∧ E.fuse < 0 ∧ allowsM m K.st K.recs = true ∧ K.dur = K.recs.length ∧ WJ N (n + 2) E K (openedM K.st K.recs) := by
  obtain ⟨_, r2⟩ := h.open_ hn
  rcases r2 with ⟨J, b1, b2, b3, b4, b5, b6, b7⟩ | ⟨_, _, b3, _⟩ | ⟨_, _, b3, _⟩
  · exact ⟨_, J, b1, b3 hf, b4, b6, b7⟩
  · rw [hs] at b3; cases b3
  · rcases b3 with b3 | b3
    · rw [ho] at b3; cases b3
    · omega
theorem replaces_facts {N : Nat} {D2 : Dk} {J : Jn} (w2 : WJ N 4 D2 J (openedM [] [])) (f2 : D2.fuse < 0) {one two rec : Bs} (h1 : one.length ≤ 500) (h2 : two.length ≤ 500) (h3 : rec.length ≤ 500) (hu : unitsM one.length + unitsM rec.length ≤ capM N) (hv : unitsM two.length ≤ capM N) (fuse : Int) :
    ∃ D3 J3 D4 J4 D5 J5 D6 e D7 J7, checkM D2 J one = (0, D3, J3) ∧ Bd D2 ∧ Bd D3 ∧ JBd J3 ∧ appendM D3 J3 rec = (0, D4, J4) ∧ JBd J4 ∧ commitM D4 J4 = (0, D5, J5) ∧ setM D5 fuse = (0, D6) ∧ Bd D6 ∧ checkM D6 J5 two = (e, D7, J7) ∧ (e = 0 ∨ (e = 70 ∧ 0 ≤ fuse)) ∧
      ∀ keep, ∃ E K, openM (crashM D7 keep) = (0, E, some K) ∧ Bd (crashM D7 keep) ∧ JBd K ∧ Bd E ∧ ((K.st = two ∧ K.recs = []) ∨ (e = 70 ∧ K.st = one ∧ K.recs = [rec])) := by
  rcases w2.check (by decide) one with ⟨q, _⟩ | ⟨_, q, _⟩ | ⟨_, _, _, ⟨c1, c2, c3, c4, c5, c6⟩ | ⟨_, _, q, _⟩⟩
  · omega
  · omega
  · obtain ⟨D3, hD3⟩ : ∃ D3, (checkM D2 J one).2.1 = D3 := ⟨_, rfl⟩
    obtain ⟨J3, hJ3⟩ : ∃ J3, (checkM D2 J one).2.2 = J3 := ⟨_, rfl⟩
    rw [hD3, hJ3] at c1
    rw [hD3] at c2
    rw [hJ3] at c3 c4 c5
    rw [hD3, hJ3] at c6
    have hu3 := c6.live.used
    rw [c3, c4] at hu3
    simp only [usedM] at hu3
    rcases c6.append (by decide) rec with ⟨q, _⟩ | ⟨_, q, _⟩ | ⟨_, _, _, ⟨d1, d2, d3⟩ | ⟨_, _, q, _⟩⟩
    · omega
    · omega
    · obtain ⟨D4, hD4⟩ : ∃ D4, (appendM D3 J3 rec).2.1 = D4 := ⟨_, rfl⟩
      rw [hD4] at d1 d2 d3
      have f4 := d2 (c2 f2)
      obtain ⟨_, ⟨e1, e2, e3⟩ | ⟨_, _, q, _⟩⟩ := d3.commit
      · obtain ⟨D5, hD5⟩ : ∃ D5, (commitM D4 { J3 with recs := J3.recs ++ [rec], used := J3.used + unitsM rec.length }).2.1 = D5 := ⟨_, rfl⟩
        rw [hD5] at e1 e2 e3
        obtain ⟨D6, g1, g2, g3⟩ := e3.fuse fuse
        simp only [c3, c4, List.nil_append] at g3 e1
        rcases g3.check (by decide) two with ⟨q, _⟩ | ⟨_, q, _⟩ | ⟨_, _, _, ⟨i1, i2, i3, i4, i5, i6⟩ | ⟨i1, i2, i3, i4⟩⟩
        · omega
        · omega
        · refine ⟨D3, J3, D4, _, D5, _, D6, _, _, _, c1, w2.ws.bd, c6.ws.bd, c6.jbd, d1, d3.jbd, by simpa only [c3, c4, List.nil_append] using e1, g1, g3.ws.bd, i1, .inl rfl, fun keep => ?_⟩
          obtain ⟨k1, k2, k3, _⟩ := i6.ws.crash (by decide) keep
          obtain ⟨E, K, l1, l2, l3, l4, l5⟩ := k1.opens (by decide) k2 k3 rfl
          obtain ⟨l6, l7⟩ := allows_exact l3
          exact ⟨E, K, l1, k1.bd, l5.jbd, l5.ws.bd, .inl ⟨l6, l7⟩⟩
        · refine ⟨D3, J3, D4, _, D5, _, D6, _, _, _, c1, w2.ws.bd, c6.ws.bd, c6.jbd, d1, d3.jbd, by simpa only [c3, c4, List.nil_append] using e1, g1, g3.ws.bd, i1, .inr ⟨rfl, by rw [g2] at i3; exact max_fuse i3⟩, fun keep => ?_⟩
          obtain ⟨k1, k2, k3, _⟩ := i4.crash (by decide) keep
          obtain ⟨E, K, l1, l2, l3, l4, l5⟩ := k1.opens (by decide) k2 k3 rfl
          refine ⟨E, K, l1, k1.bd, l5.jbd, l5.ws.bd, ?_⟩
          by_cases hk : K.st = two ∧ K.recs = []
          · exact .inl hk
          · right
            have h0 : allowsM (openedM one [rec]) K.st K.recs = true := by
              simp only [allowsM, openedM, Bool.or_eq_true, Bool.and_eq_true] at l3 ⊢
              rcases l3 with (l3 | l3) | l3
              · simp only [beq_iff_eq, List.length_eq_zero_iff] at l3
                exact absurd ⟨l3.1.2, l3.2⟩ hk
              · exact absurd l3.1.1 (by decide)
              · exact .inr l3
            obtain ⟨l6, l7⟩ := allows_exact h0
            exact ⟨rfl, l6, l7⟩
      · omega
    · have := c2 f2; omega
  · omega
set_option maxRecDepth 100000 in
set_option maxHeartbeats 8000000 in
theorem replaces_any (W : World) (z : Int) (_hz : IntKind.i64.min ≤ z ∧ z ≤ IntKind.i64.max) (one two rec : Bs) (fuse : Int) (hfu : IntKind.i64.min ≤ fuse ∧ fuse ≤ IntKind.i64.max) (A : Option Addr) (c : Nat) (l : List Int) (hS : Ints W A l) (hc : l.length ≤ c) (hA : ((∃ a, A = some a) ∨ (A = none ∧ c = 0)) ∧ c ≤ maxLen ∧ ∀ z ∈ l, I64 z) :
    Calls Try.prog 7 #[.int .i64 z, .string ⟨one.toArray⟩, .string ⟨two.toArray⟩, .string ⟨rec.toArray⟩, .int .i64 fuse, .slice A l.length c] W fun e w' => e = .returned (.bool true) ∧ Below W.heap.size W w' := by
  have HA := Lib.hid awake_any
  have hfu2 : fuse < 9223372036854775808 := by
    have e : IntKind.i64.max = 9223372036854775807 := by decide
    omega
  by_cases hb : z < 8 ∨ 200 < z
  · have hf := fresh_bad W z hb
    have HF := Lib.hid hf
    clear hb hf hS hc hA hfu
    go_enter Try.func7, Try.ntmps7
    go_wp2_with (first
      | (go_at_call 11; refine HF.out.mono ?_; rintro x w1 ⟨rfl, hw1⟩; obtain rfl := hw1.symm)
      | (go_at_call 12; refine (HA.out _).mono ?_; rintro e w2 ⟨rfl, b2⟩))
    go_ret
    exact ⟨rfl, b2⟩
  · obtain ⟨N, rfl⟩ : ∃ N : Nat, z = N := ⟨z.toNat, by omega⟩
    have h8 : 8 ≤ N := by omega
    have h2 : N ≤ 200 := by omega
    obtain ⟨D1, D2, J, a1, a2, b0, b1, f2, js, jr, jd, ju, w2⟩ := fresh_ok h8 h2
    have hf := fresh_any W N h8 h2 a1 a2 b0 b1
    have HF := Lib.hid hf
    have hcap : capM N ≤ 99 := by unfold capM; omega
    have hto := fun w => total_any w N (by omega) (by omega)
    have HTO := Lib.hid hto
    clear hb hf a1 a2 b0 b1 hto js jr jd ju
    have early : ∀ w dk jb, Kp (Old W) W w → JD (Old W) w dk jb D2 J → Calls Try.prog 12 #[] w fun e w' => e = .returned (.bool true) ∧ Below W.heap.size W w' := fun w dk jb k1 _ => (awake_any w).mono fun e w' ⟨h1, h2⟩ => ⟨h1, (k1.next h2).old⟩
    have HE := Lib.hid early
    clear early
    by_cases hl1 : 500 < one.length
    · have t1 : (one.length : Int) > 500 := by omega
      clear hl1 hS hc hA hfu w2 f2
      go_enter Try.func7, Try.ntmps7
      go_wp2_with (first
        | (go_at_call 11; refine HF.out.mono ?_; rintro x w1 ⟨dk, jb, rfl, k1, j1⟩)
        | (go_at_call 12; refine (HE.out _ dk jb k1 j1).mono ?_; rintro e w3 ⟨rfl, b3⟩))
      go_ret
      exact ⟨rfl, b3⟩
    have t1 : ¬ (one.length : Int) > 500 := by omega
    by_cases hl2 : 500 < two.length
    · have t2 : (two.length : Int) > 500 := by omega
      clear hl1 hl2 hS hc hA hfu w2 f2
      go_enter Try.func7, Try.ntmps7
      go_wp2_with (first
        | (go_at_call 11; refine HF.out.mono ?_; rintro x w1 ⟨dk, jb, rfl, k1, j1⟩)
        | (go_at_call 12; refine (HE.out _ dk jb k1 j1).mono ?_; rintro e w3 ⟨rfl, b3⟩))
      go_ret
      exact ⟨rfl, b3⟩
    have t2 : ¬ (two.length : Int) > 500 := by omega
    by_cases hl3 : 500 < rec.length
    · have t3 : (rec.length : Int) > 500 := by omega
      clear hl1 hl2 hl3 hS hc hA hfu w2 f2
      go_enter Try.func7, Try.ntmps7
      go_wp2_with (first
        | (go_at_call 11; refine HF.out.mono ?_; rintro x w1 ⟨dk, jb, rfl, k1, j1⟩)
        | (go_at_call 12; refine (HE.out _ dk jb k1 j1).mono ?_; rintro e w3 ⟨rfl, b3⟩))
      go_ret
      exact ⟨rfl, b3⟩
    have t3 : ¬ (rec.length : Int) > 500 := by omega
    have u1 := fun w => runits_any w one.length (by omega)
    have u2 := fun w => runits_any w two.length (by omega)
    have u3 := fun w => runits_any w rec.length (by omega)
    have n1 : unitsM one.length ≤ 20 := by unfold unitsM; omega
    have n2 : unitsM two.length ≤ 20 := by unfold unitsM; omega
    have n3 : unitsM rec.length ≤ 20 := by unfold unitsM; omega
    have hl1' : one.length ≤ 500 := by omega
    have hl2' : two.length ≤ 500 := by omega
    have hl3' : rec.length ≤ 500 := by omega
    have facts := fun (hu : unitsM one.length + unitsM rec.length ≤ capM N) (hv : unitsM two.length ≤ capM N) => replaces_facts w2 f2 hl1' hl2' hl3' hu hv fuse
    obtain ⟨x1, hx1⟩ : ∃ x, unitsM one.length = x := ⟨_, rfl⟩
    obtain ⟨x2, hx2⟩ : ∃ x, unitsM two.length = x := ⟨_, rfl⟩
    obtain ⟨x3, hx3⟩ : ∃ x, unitsM rec.length = x := ⟨_, rfl⟩
    obtain ⟨C, hC⟩ : ∃ C, capM N = C := ⟨_, rfl⟩
    rw [hx1] at u1 n1 facts
    rw [hx2] at u2 n2 facts
    rw [hx3] at u3 n3 facts
    rw [hC] at hcap HTO facts
    have HU1 := Lib.hid u1
    have HU2 := Lib.hid u2
    have HU3 := Lib.hid u3
    have m1 : IntKind.i64.wrap ((x1 : Int) + (x3 : Int)) = (x1 : Int) + (x3 : Int) := IntWalk.i64_in _ (by omega)
    clear hl1 hl2 hl3 u1 u2 u3 hx1 hx2 hx3 hC
    have hmx : ((x1 : Int) + x3 < x2 ∧ max ((x1 : Int) + x3) x2 = x2) ∨ (¬ (x1 : Int) + x3 < x2 ∧ max ((x1 : Int) + x3) x2 = (x1 : Int) + x3) := by omega
    by_cases hl4 : C < max (x1 + x3) x2
    · have t4 : ((x1 : Int) + x3 < x2 ∧ (x2 : Int) > C) ∨ (¬ (x1 : Int) + x3 < x2 ∧ (x1 : Int) + x3 > C) := by omega
      clear hmx hl4 hS hc hA hfu w2 f2 facts n1 n2 n3 hl1' hl2' hl3' hcap
      rcases t4 with ⟨t4, t5⟩ | ⟨t4, t5⟩
      all_goals
        go_enter Try.func7, Try.ntmps7
        go_wp2_with (first
          | (go_at_call 11; refine HF.out.mono ?_; rintro x w1 ⟨dk, jb, rfl, k1, j1⟩)
          | (go_at_call_of 17 (Value.int .i64 (one.length : Int)); refine (HU1.out _).mono ?_; rintro x w9 ⟨rfl, hw9⟩; obtain rfl := hw9.symm)
          | (go_at_call_of 17 (Value.int .i64 (rec.length : Int)); refine (HU3.out _).mono ?_; rintro x w9 ⟨rfl, hw9⟩; obtain rfl := hw9.symm)
          | (go_at_call_of 17 (Value.int .i64 (two.length : Int)); refine (HU2.out _).mono ?_; rintro x w9 ⟨rfl, hw9⟩; obtain rfl := hw9.symm)
          | (go_at_call 14; refine (HTO.out _).mono ?_; rintro x w9 ⟨rfl, hw9⟩; obtain rfl := hw9.symm)
          | (go_at_call 12; refine (HE.out _ dk jb k1 j1).mono ?_; rintro e w3 ⟨rfl, b3⟩))
        go_ret
        exact ⟨rfl, b3⟩
    · obtain ⟨D3, J3, D4, J4, D5, J5, D6, e, D7, J7, y1, y2, y3, y4, y5, y6, y7, y8, y9, y10, y11, y12⟩ := facts (by omega) (by omega)
      obtain ⟨E, K, o1, o2, o3, o4, o5⟩ := y12 l
      have t4 : ((x1 : Int) + x3 < x2 ∧ ¬ (x2 : Int) > C) ∨ (¬ (x1 : Int) + x3 < x2 ∧ ¬ (x1 : Int) + x3 > C) := by omega
      have c1 := fun w dk jb K' (h : JD K' w dk jb D2 J) => check_jd h y2 one (by omega)
      have c2 := fun w dk jb K' (h : JD K' w dk jb D3 J3) => append_jd h y3 y4 rec (by omega)
      have c3 := fun w dk jb K' (h : JD K' w dk jb D4 J4) => commit_jd h y6
      have c4 := fun w dk K' (h : DD K' w dk D5) => fuse_dd h fuse hfu2
      have c5 := fun w dk jb K' (h : JD K' w dk jb D6 J5) => check_jd h y9 two (by omega)
      have c6 := fun w dk K' (h : DD K' w dk D7) (hw : Below W.heap.size W w) (hk : ∀ i, Old W i → K' i) => crash_dd h A l l.length c rfl (hS.next hw) (fun h0 a e => hk _ (by subst e; exact block_lt_of_cell (hS.cell (i := 0) h0))) (by have := hA.2.1; unfold maxLen at this; omega)
      have c7 := fun w dk K' (h : DD K' w dk (crashM D7 l)) => open_dd h o2
      have c8 := fun w dk jb K' (h : JD K' w dk jb E K) => records_jd h (by have := o3.recs; omega)
      have c9 := fun w dk jb K' (h : JD K' w dk jb E K) => state_jd h
      simp only [y1] at c1
      simp only [y5] at c2
      simp only [y7] at c3
      simp only [y8] at c4
      simp only [y10] at c5
      simp only [OpenD, o1] at c7
      have q0 : (two == two) = true := by simp
      have q1 : (one == one) = true := by simp
      have q2 : (rec == rec) = true := by simp
      obtain ⟨qe, hqe⟩ : ∃ qe, (one == two) = qe := ⟨_, rfl⟩
      have HC1 := Lib.hid c1
      have HC2 := Lib.hid c2
      have HC3 := Lib.hid c3
      have HC4 := Lib.hid c4
      have HC5 := Lib.hid c5
      have HC6 := Lib.hid c6
      have HC7 := Lib.hid c7
      have HC8 := Lib.hid c8
      have HC9 := Lib.hid c9
      clear hmx hl4 hS hc hA hfu w2 f2 facts n1 n2 n3 hl1' hl2' hl3' hcap y1 y2 y3 y4 y5 y6 y7 y8 y9 y10 y12 o1 o2 o3 o4 c1 c2 c3 c4 c5 c6 c7 c8 c9
      rcases t4 with ⟨t4, t5⟩ | ⟨t4, t5⟩
      all_goals
        go_enter Try.func7, Try.ntmps7
        go_upto_region 4 with (first
          | (go_at_call 11; refine HF.out.mono ?_; rintro x w1 ⟨dk, jb, rfl, k1, j1⟩)
          | (go_at_call_of 17 (Value.int .i64 (one.length : Int)); refine (HU1.out _).mono ?_; rintro x w9 ⟨rfl, hw9⟩; obtain rfl := hw9.symm)
          | (go_at_call_of 17 (Value.int .i64 (rec.length : Int)); refine (HU3.out _).mono ?_; rintro x w9 ⟨rfl, hw9⟩; obtain rfl := hw9.symm)
          | (go_at_call_of 17 (Value.int .i64 (two.length : Int)); refine (HU2.out _).mono ?_; rintro x w9 ⟨rfl, hw9⟩; obtain rfl := hw9.symm)
          | (go_at_call 14; refine (HTO.out _).mono ?_; rintro x w9 ⟨rfl, hw9⟩; obtain rfl := hw9.symm))
        go_upto_region 6 with (first
          | (go_at_call 30; refine (HC1.out _ _ _ _ j1).mono ?_; rintro x w2 ⟨rfl, j2, k2⟩)
          | (go_at_call 16; refine (HC2.out _ _ _ _ j2).mono ?_; rintro x w3 ⟨rfl, j3, k3⟩)
          | (go_at_call 18; refine (HC3.out _ _ _ _ j3).mono ?_; rintro x w4 ⟨rfl, j4, k4⟩; obtain ⟨K4, hk4, d4, cl4⟩ := j4.lift)
          | (go_at_call 32; refine (HC4.out _ _ _ d4).mono ?_; rintro x w5 ⟨rfl, d5, k5⟩; obtain ⟨j5, k45⟩ := cl4 _ _ d5 k5))
        have HK5 := Lib.hid (((((k1.trans k2).trans k3).trans k4).trans k45))
        clear j1 j2 j3 j4 d4 cl4 d5 k5 k1 k2 k3 k4 k45
        go_upto_region 7 with (go_at_call 30; refine (HC5.out _ _ _ _ j5).mono ?_; rintro x w6 ⟨rfl, j6, k6⟩)
        have HK6 := Lib.hid (HK5.out.trans k6)
        have d6 := j6.dd
        rcases y11 with rfl | ⟨rfl, hfz⟩
        all_goals
          first
            | have tf : ¬ fuse < 0 := by omega
            | skip
          go_upto_region 9 with (go_at_call 28; refine (HC6.out _ _ _ d6 HK6.out.old fun i hi => hi).mono ?_; rintro x w7 ⟨rfl, d7, k7⟩)
          go_upto_region 13 with (first
            | (go_at_call 21; refine (HC7.out _ _ _ d7).mono ?_; rintro x w8 ⟨k8, d8, kb, rfl, j8⟩)
            | (go_at_call 15; refine (HC8.out _ _ _ _ j8).mono ?_; rintro x w9 ⟨v9, rfl, hv9, b9⟩; have j9 := j8.next b9))
          have HK9 := Lib.hid (((HK6.out.trans k7).trans k8).next b9)
          rcases o5 with ⟨p1, p2⟩ | ⟨p0, p1, p2⟩
          · rw [p2] at hv9
            have hst := HC9.out _ _ _ _ j9
            rw [p1] at hst
            obtain ⟨A9, c9, rfl, -, -⟩ := hv9.slice
            have HST := Lib.hid hst
            clear d6 d7 k7 k8 d8 j8 b9 j9 hst hv9
            go_wp2_with (first
              | (go_at_call 31; refine HST.out.mono ?_; rintro x w10 ⟨rfl, hw10⟩; obtain rfl := hw10.symm)
              | (go_at_call 12; refine (HA.out _).mono ?_; rintro e w11 ⟨rfl, b11⟩))
            go_ret
            exact ⟨rfl, (HK9.out.next b11).old⟩
          · first
              | exact absurd p0 (by decide)
              | (rw [p2] at hv9
                 have hst := HC9.out _ _ _ _ j9
                 rw [p1] at hst
                 obtain ⟨A9, c9, rfl, S9, -⟩ := hv9.slice
                 obtain ⟨pa, rfl⟩ := strs_some S9 (by simp)
                 have g9 := S9.cell (i := 0) (by simp)
                 rw [List.getElem_cons_zero, show pa.add 0 = pa from rfl] at g9
                 have HST := Lib.hid hst
                 clear d6 d7 k7 k8 d8 j8 b9 j9 hst hv9 S9
                 cases qe
                 all_goals
                   go_wp2_with (first
                     | (go_at_call 31; refine HST.out.mono ?_; rintro x w10 ⟨rfl, hw10⟩; obtain rfl := hw10.symm)
                     | (go_at_call 12; refine (HA.out _).mono ?_; rintro e w11 ⟨rfl, b11⟩))
                   go_ret
                   exact ⟨rfl, (HK9.out.next b11).old⟩)
end Go.Proofs.Ytkljfampkkfgdaa
