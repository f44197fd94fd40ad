/- The journal layer: the walks over Append, Commit, Checkpoint. -/
import Derived.Test.YtkljfampkkfgdaaJOpen
namespace Go.Proofs.Ytkljfampkkfgdaa
open Go.RowKit
/-- An append of a string onto a row. -/
theorem run_append_s (w : World) (v : Value) (H : List Bs) (ty : TypeId) (x : Bs) (g2 c2 : Nat) (hO : OwnStrs w 0 v H) (h2 : w.cell? ⟨g2, 0, none⟩ = some (.string ⟨x.toArray⟩)) (h1 : H.length ≤ 1000000) :
    ∃ v' w', (Builtin.append_ #[22, 22] ty #[v, .slice (some ⟨g2, 0, none⟩) 1 c2]).run Try.prog w = .ok v' w' ∧ OwnStrs w' 0 v' (H ++ [x]) ∧ ButS (fun i => v.ownBlock = some i) w w' ∧ OldNew w v v' := by
  obtain ⟨i0, hi0, hz0, hz1, hz2⟩ := info_parts infoStr
  have hl : ([.string ⟨x.toArray⟩] : List Value).length = 1 := rfl
  have h2' : ∀ j u, ([.string ⟨x.toArray⟩] : List Value)[j]? = some u → w.cell? ((⟨g2, 0, none⟩ : Addr).add j) = some u := by
    intro j u hu
    match j, hu with
    | 0, hu => cases hu; exact h2
    | j + 1, hu => cases hu
  have h3' : ∀ u ∈ ([.string ⟨x.toArray⟩] : List Value), u.oneCell' = true := fun u hu => by rw [List.mem_singleton.1 hu]; rfl
  have e1 : cellsT H ++ [.string ⟨x.toArray⟩] = cellsT (H ++ [x]) := by simp [cellsT]
  have e2 : (H ++ [x]).length = H.length + 1 := by simp
  rcases hO.2 with ⟨hv, hl0⟩ | ⟨g, cap, cur, hv, hbg, hg, hnc, hcm, hcs, htake⟩
  · subst hv
    have hO' : w.ownsRow w.heap.size 9 1 (.slice none 0 0) H.length (cellsT H) := ⟨hO.1, .inl ⟨rfl, hl0⟩⟩
    obtain ⟨v', w', hr, r1, r2, _⟩ := run_append_own (P := Try.prog) (w := w) w.heap.size 22 ty 9 i0 (.string ⟨#[]⟩) 1 16 (by kernel_rfl) hi0 hz0 hz1 hz2 rfl (by decide) _ H.length (cellsT H) hO' ⟨g2, 0, none⟩ 1 c2 _ hl h2' h3' (by unfold maxLen; omega) (by omega) (Nat.le_refl _)
    rw [e1] at r1
    refine ⟨v', w', hr, ?_, ButS.grown r2 fun k hk => hk, .inr fun k hk => (World.ownsRow.lt r1 k hk).1⟩
    unfold OwnStrs
    rw [e2]
    exact ⟨r1.1, by
      rcases r1.2 with h | ⟨g', cap', cur', q1, q2, q3⟩
      · exact .inl h
      · exact .inr ⟨g', cap', cur', q1, Nat.zero_le _, q3⟩⟩
  · by_cases hroom : H.length + 1 ≤ cap
    · have hfit : H.length * i0.size + ([.string ⟨x.toArray⟩] : List Value).length ≤ cur.size := by rw [hl, hcs, hz1]; omega
      have hr := run_append_room (P := Try.prog) w 22 ty 9 i0 (by kernel_rfl) hi0 g H.length cap cur hg ⟨g2, 0, none⟩ 1 c2 [.string ⟨x.toArray⟩] (by rw [hl, hz1]) h2' h3' hroom hfit
      subst hv
      refine ⟨_, _, hr, ?_, ButS.setRow (F := fun i => (Value.slice (some { block := g, off := 0 }) H.length cap).ownBlock = some i) _ rfl _, .inl rfl⟩
      unfold OwnStrs
      rw [e2]
      refine ⟨by rw [cellsT_length, e2, Nat.mul_one], .inr ⟨g, cap, _, rfl, Nat.zero_le _, setRow_heap w g cur _ 9 _ hg, hroom, hcm, ?_, ?_⟩⟩
      · rw [hz1] at hfit ⊢
        simp only [List.size_toArray, List.length_append, List.length_take, List.length_drop, Array.length_toList]
        omega
      · rw [hz1, htake, e1, show (H.length + 1) * 1 = (cellsT (H ++ [x])).length from by rw [cellsT_length, e2, Nat.mul_one]]
        exact List.take_left
    · have holds : ∀ j u, (cellsT H)[j]? = some u → w.cell? ((⟨g, 0, none⟩ : Addr).add j) = some u := World.ownsRow.cells hO (g := g) (by rw [hv]; rfl)
      subst hv
      obtain ⟨v', w', hr, r1, r2⟩ := run_append_arg_grows (P := Try.prog) w 22 ty 9 i0 (.string ⟨#[]⟩) 1 16 (by kernel_rfl) hi0 hz0 hz1 hz2 rfl (by decide) ⟨g, 0, none⟩ H.length cap (cellsT H) hO.1 holds ⟨g2, 0, none⟩ 1 c2 [.string ⟨x.toArray⟩] hl h2' (by omega) (by unfold maxLen; omega) (by omega)
      rw [e1] at r1
      refine ⟨v', w', hr, ?_, ButS.grown r2 (fun k hk => by cases hk), .inr fun k hk => (World.ownsRow.lt r1 k hk).1⟩
      unfold OwnStrs
      rw [e2]
      exact ⟨r1.1, by
        rcases r1.2 with h | ⟨g', cap', cur', q1, q2, q3⟩
        · exact .inl h
        · exact .inr ⟨g', cap', cur', q1, Nat.zero_le _, q3⟩⟩
theorem wpList_append_s {ops : Array Oper} {rest : List Oper} {o : Oper} {a : Act} {w : World} {Q : Exit → Act → World → Prop} (hgd : o.guard = none) (s y : Operand) (ho : o.op = .call { callee := .builtin .append, args := #[s, y], argTypes := #[22, 22] }) (v : Value) (H : List Bs) (x : Bs) (g2 c2 : Nat)
    (hs : a.eval s = v) (hy : a.eval y = .slice (some ⟨g2, 0, none⟩) 1 c2) (hO : OwnStrs w 0 v H) (h2 : w.cell? ⟨g2, 0, none⟩ = some (.string ⟨x.toArray⟩)) (h1 : H.length ≤ 1000000)
    (K : ∀ v' w', OwnStrs w' 0 v' (H ++ [x]) → ButS (fun i => v.ownBlock = some i) w w' → OldNew w v v' → wpList Try.prog ops Q rest (a.put o.dst v') w') : wpList Try.prog ops Q (o :: rest) a w := by
  obtain ⟨v', w', hr, h3, h4, h5⟩ := run_append_s w v H o.type x g2 c2 hO h2 h1
  refine wpList_plain hgd fun _ hK => ?_
  unfold Oper.wp
  rw [show (execOp a.eval o).run Try.prog w = .ok (.value v') w' from by
    unfold execOp
    simp only [ho, resolve, invoke, builtin, Sem.run_bind, Sem.run_pure, Result.andThen_ok, List.map_toArray, List.map_cons, List.map_nil, hs, hy, hr]]
  exact hK _ _ (K v' w' h3 h4 h5)
/-- What Append, Commit, Checkpoint do. -/
def appendM (D : Dk) (J : Jn) (s : Bs) : Int × Dk × Jn :=
  if (jreadyM D J).1 ≠ 0 then ((jreadyM D J).1, D, (jreadyM D J).2)
  else if 1024 < s.length then (2, D, J)
  else if capM D.sec.length < J.used + unitsM s.length then (5, D, J)
  else if (storeM D ((baseM D.sec.length J.reg + J.used : Nat) : Int) J.ep ((J.recs.length + 1 : Nat) : Int) s).1 ≠ 0 then
    ((storeM D ((baseM D.sec.length J.reg + J.used : Nat) : Int) J.ep ((J.recs.length + 1 : Nat) : Int) s).1, (storeM D ((baseM D.sec.length J.reg + J.used : Nat) : Int) J.ep ((J.recs.length + 1 : Nat) : Int) s).2, endsM J (storeM D ((baseM D.sec.length J.reg + J.used : Nat) : Int) J.ep ((J.recs.length + 1 : Nat) : Int) s).1)
  else (0, (storeM D ((baseM D.sec.length J.reg + J.used : Nat) : Int) J.ep ((J.recs.length + 1 : Nat) : Int) s).2, { J with recs := J.recs ++ [s], used := J.used + unitsM s.length })
def commitM (D : Dk) (J : Jn) : Int × Dk × Jn :=
  if (jreadyM D J).1 ≠ 0 then ((jreadyM D J).1, D, (jreadyM D J).2)
  else if (syncM D).1 ≠ 0 then ((syncM D).1, (syncM D).2, endsM J (syncM D).1)
  else (0, (syncM D).2, { J with dur := J.recs.length })
def checkM (D : Dk) (J : Jn) (s : Bs) : Int × Dk × Jn :=
  if (jreadyM D J).1 ≠ 0 then ((jreadyM D J).1, D, (jreadyM D J).2)
  else if 65536 < s.length then (2, D, J)
  else if capM D.sec.length < unitsM s.length then (5, D, J)
  else ((beginM D [s]).1, (beginM D [s]).2, endsM (if (beginM D [s]).1 = 0 then begunJ D J s [] else J) (beginM D [s]).1)
section
variable {W W' : World} {jb dk : Nat} {v : Value} {J : Jn} {G F : Nat → Prop} {D : Dk}
/-- Only the journal has changed. -/
theorem Mj.own {J' : Jn} (hd : DiskAt W dk D F) (hj : JAt W' jb dk J' G) (hG : ∀ i, F i → ¬ G i) (hb : ButS (fun i => i = jb) W W') : Mj W F G dk jb W' D J' :=
  ⟨F, G, hd.but hb fun i hi e => hG i hi (e ▸ hj.self), hj, hG, hb.mono fun _i _ e => .inr (e ▸ hj.self), fun _i h => .inl h, fun _i h => .inl h⟩
/-- The disk has changed, then the journal. -/
theorem Mj.ends {w : World} {J' : Jn} (h : Mj w F G dk jb W D J) (hk : ∀ G', JAt W jb dk J G' → JAt W' jb dk J' G') (hb : ButS (fun i => i = jb) W W') : Mj w F G dk jb W' D J' := by
  obtain ⟨F', G', h1, h2, h3, h4, h5, h6⟩ := h
  refine ⟨F', G', h1.but hb fun i hi e => h3 i hi (e ▸ h2.self), hk G' h2, h3, h4.trans hb fun i e => ?_, h5, h6⟩
  rcases h6 jb h2.self with h | h
  · exact .inl (.inr (e ▸ h))
  · exact .inr (e ▸ h)
theorem Mj.after {w w1 : World} (h : Mj w1 F G dk jb W D J) (hb : ButS (fun i => F i ∨ G i) w w1) : Mj w F G dk jb W D J := by
  obtain ⟨F', G', h1, h2, h3, h4, h5, h6⟩ := h
  exact ⟨F', G', h1, h2, h3, hb.trans h4 fun i h => .inl h, fun i hi => (h5 i hi).imp id fun h => Nat.le_trans hb.size h, fun i hi => (h6 i hi).imp id fun h => Nat.le_trans hb.size h⟩
theorem Mj.next {w : World} (h : Mj w F G dk jb W D J) (hb : Below W.heap.size W W') : Mj w F G dk jb W' D J := by
  obtain ⟨F', G', h1, h2, h3, h4, h5, h6⟩ := h
  exact ⟨F', G', h1.next hb, h2.next hb, h3, h4.next hb, h5, h6⟩
theorem jends_mj {w : World} (h : Mj w F G dk jb W D J) (er : Int) : Calls Try.prog 50 #[.pointer (some ⟨jb, 0, none⟩), .int .i64 er] W fun e w' => e = .returned (.int .i64 er) ∧ Mj w F G dk jb w' D (endsM J er) := by
  obtain ⟨F', G', h1, h2, h3, h4, h5, h6⟩ := h
  refine (jends_any h2 er).mono ?_
  rintro e w' ⟨rfl, q1, q2⟩
  refine ⟨rfl, F', G', h1.but q2 fun i hi e => h3 i hi (e ▸ h2.self), q1, h3, h4.trans q2 fun i e => ?_, h5, h6⟩
  rcases h6 jb h2.self with h | h
  · exact .inl (.inr (e ▸ h))
  · exact .inr (e ▸ h)
/-- One cell of the journal has changed. -/
theorem Mj.set {w : World} {J' : Jn} {W' : World} (h : Mj w F G dk jb W D J) (hb : ButS (fun i => i = jb) W W') (hk : ∀ v, JB W jb dk v J → JB W' jb dk v J') : Mj w F G dk jb W' D J' :=
  h.ends (fun _ ⟨v, h, e⟩ => ⟨v, hk v h, e⟩) hb
theorem jready_ok (h1 : (jreadyM D J).1 = 0) : (jreadyM D J).2 = J := by
  unfold jreadyM at h1 ⊢
  split at h1
  · cases h1
  · split at h1
    · cases h1
    · rename_i q1 q2; rw [if_neg q1, if_neg q2]
theorem jready_on (h1 : (jreadyM D J).1 = 0) : J.broken = false ∧ J.own = D.own ∧ D.off = false := by
  unfold jreadyM at h1
  split at h1
  · cases h1
  · rename_i q1
    split at h1
    · cases h1
    · rename_i q2
      exact ⟨by cases h : J.broken with | false => rfl | true => exact absurd (.inl h) q1, Classical.not_not.1 fun h => q1 (.inr h), by simpa using q2⟩
set_option maxRecDepth 100000 in
set_option maxHeartbeats 2000000 in
theorem commit_any (hd : DiskAt W dk D F) (hj : JAt W jb dk J G) (hdis : ∀ i, F i → ¬ G i) (_hr1 : J.recs.length ≤ 1000000) :
    Calls Try.prog 18 #[.pointer (some ⟨jb, 0, none⟩)] W fun e w' => e = .returned (.int .i64 (commitM D J).1) ∧ Mj W F G dk jb w' (commitM D J).2.1 (commitM D J).2.2 := by
  have hre := jready_any hj hd
  have hsu := fun w (b : ButS (fun i => i = jb) W w) => sure_any (hd.but b fun i hi e => hdis i hi (e ▸ hj.self)) (.pointer (some ⟨jb, 0, none⟩))
  have how := fun w (J' : Jn) (h : JAt w jb dk J' G) (b : ButS (fun i => i = jb) W w) => Mj.own hd h hdis b
  unfold commitM
  by_cases h0 : (jreadyM D J).1 ≠ 0
  · rw [if_pos h0]
    obtain ⟨er, J', hR⟩ : ∃ er J', jreadyM D J = (er, J') := ⟨_, _, rfl⟩
    rw [hR] at hre h0 ⊢
    simp only at hre h0 ⊢
    have b0 : (er != 0) = true := by simpa using h0
    have HRE := Lib.hid hre
    have HOW := Lib.hid how
    clear hre how hsu hd hj hdis hR h0
    go_enter Try.func18, Try.ntmps18
    go_wp2_with (go_at_call 46; refine HRE.out.mono ?_; rintro x w1 ⟨rfl, hj1, hb1⟩)
    go_ret
    exact ⟨rfl, HOW.out _ _ hj1 hb1⟩
  · rw [if_neg h0]
    have h1 : (jreadyM D J).1 = 0 := Classical.not_not.1 h0
    have h2 := jready_ok h1
    rw [h1, h2] at hre
    obtain ⟨er, E, hR⟩ : ∃ er E, syncM D = (er, E) := ⟨_, _, rfl⟩
    rw [hR] at hsu ⊢
    simp only at hsu ⊢
    have HRE := Lib.hid hre
    have HSU := Lib.hid hsu
    have HDIS := Lib.hid hdis
    have HJ := Lib.hid hj
    clear hre hsu h0 h1 h2 hd hj hdis hR
    by_cases he : er ≠ 0
    · rw [if_pos he]
      have b0 : (er != 0) = true := by simpa using he
      clear he
      go_enter Try.func18, Try.ntmps18
      go_upto_region 4 with (go_at_call 46; refine HRE.out.mono ?_; rintro x w1 ⟨rfl, hj1, hb1⟩)
      obtain ⟨v, hjb, rfl⟩ := hj1
      have c0 := hjb.c0
      have HJB := Lib.hid hjb
      clear hjb
      go_upto_region 6 with (go_at_call 51; refine (HSU.out _ hb1).mono ?_; rintro x w2 ⟨rfl, mv2⟩)
      have hen := jends_mj ((mv2.mj ⟨v, HJB.out, rfl⟩ HDIS.out).after (hb1.mono fun i _ e => .inr (e ▸ .inl rfl))) er
      have HEN := Lib.hid hen
      clear hen mv2
      go_wp2_with (go_at_call 50; refine HEN.out.mono ?_; rintro x w3 ⟨rfl, hm3⟩)
      go_ret
      exact ⟨rfl, hm3⟩
    · rw [if_neg he]
      obtain rfl : er = 0 := Classical.not_not.1 he
      clear he
      go_enter Try.func18, Try.ntmps18
      go_upto_region 4 with (go_at_call 46; refine HRE.out.mono ?_; rintro x w1 ⟨rfl, hj1, hb1⟩)
      obtain ⟨v, hjb, rfl⟩ := hj1
      have c0 := hjb.c0
      have HJB := Lib.hid hjb
      clear hjb
      go_upto_region 7 with (go_at_call 51; refine (HSU.out _ hb1).mono ?_; rintro x w2 ⟨rfl, mv2⟩)
      have hm := (mv2.mj ⟨v, HJB.out, rfl⟩ HDIS.out).after (hb1.mono fun i _ e => .inr (e ▸ .inl rfl))
      obtain ⟨F', G', h1, ⟨v', hj2, rfl⟩, h3, h4, h5, h6⟩ := hm
      have c6 := hj2.c6
      have c7 := hj2.c7
      have f7 := hj2.f 7
      obtain ⟨A, c, rfl, -, -⟩ := hj2.own.slice
      have hm3 : Mj W F (Fj jb v) dk jb (w2.setCell ⟨jb, 7, none⟩ (.int .i64 (J.recs.length : Int))) E { J with dur := J.recs.length } :=
        Mj.set ⟨F', _, h1, ⟨_, hj2, rfl⟩, h3, h4, h5, h6⟩ (ButS.setCell (F := fun i => i = jb) _ (p := ⟨jb, 7, none⟩) rfl _) fun v h => h.setDur _
      have HM3 := Lib.hid hm3
      clear hm3 mv2 h1 hj2 h3 h4 h5 h6
      go_wp2_with (fail)
      go_ret
      exact ⟨rfl, HM3.out⟩
set_option maxRecDepth 100000 in
set_option maxHeartbeats 2000000 in
theorem checkpoint_all (hd : DiskAt W dk D F) (hj : JAt W jb dk J G) (hdis : ∀ i, F i → ¬ G i) (h8 : 8 ≤ D.sec.length) (s : Bs) (hep : (curC (getM D)).1 < 4611686018427387904) (hfew : Few 50000 D) :
    Calls Try.prog 30 #[.pointer (some ⟨jb, 0, none⟩), .string ⟨s.toArray⟩] W fun e w' => e = .returned (.int .i64 (checkM D J s).1) ∧ Mj W F G dk jb w' (checkM D J s).2.1 (checkM D J s).2.2 := by
  have hre := jready_any hj hd
  have how := fun w (J' : Jn) (h : JAt w jb dk J' G) (b : ButS (fun i => i = jb) W w) => Mj.own hd h hdis b
  obtain ⟨R, hR⟩ : ∃ R, checkM D J s = R := ⟨_, rfl⟩
  rw [hR]
  unfold checkM at hR
  by_cases h0 : (jreadyM D J).1 ≠ 0
  · rw [if_pos h0] at hR
    obtain ⟨er, J', hq⟩ : ∃ er J', jreadyM D J = (er, J') := ⟨_, _, rfl⟩
    rw [hq] at hre h0 hR
    simp only at hre h0 hR
    have b0 : (er != 0) = true := by simpa using h0
    have HRE := Lib.hid hre
    have HOW := Lib.hid how
    have HR := Lib.hid hR
    clear hre how hd hj hdis hR h0 hq
    go_enter Try.func30, Try.ntmps30
    go_wp2_with (go_at_call 46; refine HRE.out.mono ?_; rintro x w1 ⟨rfl, hj1, hb1⟩)
    go_ret
    rw [← HR.out]
    exact ⟨rfl, HOW.out _ _ hj1 hb1⟩
  · rw [if_neg h0] at hR
    have h1 : (jreadyM D J).1 = 0 := Classical.not_not.1 h0
    rw [h1, jready_ok h1] at hre
    have ho := (jready_on h1).2.2
    have HRE := Lib.hid hre
    have HOW := Lib.hid how
    clear hre how h0 h1
    by_cases h2 : 65536 < s.length
    · rw [if_pos h2] at hR
      have t2 : (s.length : Int) > 65536 := by omega
      have HR := Lib.hid hR
      clear hd hj hdis hR h2
      go_enter Try.func30, Try.ntmps30
      go_wp2_with (go_at_call 46; refine HRE.out.mono ?_; rintro x w1 ⟨rfl, hj1, hb1⟩)
      go_ret
      rw [← HR.out]
      exact ⟨rfl, HOW.out _ _ hj1 hb1⟩
    · rw [if_neg h2] at hR
      have t2 : ¬ (s.length : Int) > 65536 := by omega
      have hs : s.length ≤ 1000000 := by omega
      have hun := fun W => units_any s W hs
      have hcp := fun w (b : ButS (fun i => i = jb) W w) => capacity_any (hd.but b fun i hi e => hdis i hi (e ▸ hj.self)) h8
      have hcpl : capM D.sec.length ≤ 2047 := by have := hd.ok.few; unfold capM; omega
      have hbe := fun w (hd : DiskAt w dk D F) (hj : JAt w jb dk J G) (hu : usedM [s] ≤ capM D.sec.length) => begin_any hd hj hdis ho h8 s [] none 0 0 rfl (.inl rfl) (.inr ⟨rfl, rfl⟩) nofun nofun hu (by intro x hx; rw [List.mem_singleton.1 hx]; omega) hep hfew
      have huu : usedM [s] = unitsM s.length := by simp [usedM]
      rw [huu] at hbe
      generalize capM D.sec.length = C at *
      generalize unitsM s.length = us at *
      have HUN := Lib.hid hun
      have HCP := Lib.hid hcp
      have HBE := Lib.hid hbe
      have HD := Lib.hid hd
      have HDIS := Lib.hid hdis
      have HJ := Lib.hid hj
      by_cases h3 : C < us
      · rw [if_pos h3] at hR
        have t3 : (us : Int) > (C : Int) := by omega
        have HR := Lib.hid hR
        clear hd hj hdis hR h3 hun hcp hbe huu
        go_enter Try.func30, Try.ntmps30
        go_upto_region 6 with (go_at_call 46; refine HRE.out.mono ?_; rintro x w1 ⟨rfl, hj1, hb1⟩)
        have HOW1 := Lib.hid (HOW.out _ _ hj1 hb1)
        obtain ⟨v, hjb, rfl⟩ := hj1
        have c0 := hjb.c0
        have HB1 := Lib.hid hb1
        clear hjb hb1
        go_region_held3 (fun w => w.cell? ⟨jb, 0, none⟩ = some (.pointer (some ⟨dk, 0, none⟩))) (exact c0) (first
          | (go_at_call 47; refine (HUN.out _).mono ?_; rintro x w2 ⟨rfl, hw2⟩; obtain rfl := hw2.symm)
          | (go_at_call 44; refine (HCP.out _ (HB1.out.next (Below.drawn w1 1 _))).mono ?_; rintro x w3 ⟨rfl, hw3⟩; obtain rfl := hw3.symm))
        all_goals
          go_wp2_with (fail)
          go_ret
          rw [← HR.out]
          exact ⟨rfl, HOW1.out.next (Below.drawn w1 1 _)⟩
      · rw [if_neg h3] at hR
        have t3 : ¬ (us : Int) > (C : Int) := by omega
        obtain ⟨er, E, hX⟩ : ∃ er E, beginM D [s] = (er, E) := ⟨_, _, rfl⟩
        obtain ⟨JJ, hJJ⟩ : ∃ JJ, (if er = 0 then begunJ D J s [] else J) = JJ := ⟨_, rfl⟩
        rw [hX] at hR
        have hbe2 := fun w hd hj => hbe w hd hj (Nat.le_of_not_lt h3)
        rw [hX] at hbe2
        simp only at hR hbe2
        rw [hJJ] at hR hbe2
        have HR := Lib.hid hR
        have HBE2 := Lib.hid hbe2
        clear hd hj hdis hR h3 hun hcp hbe huu HBE hbe2 hX hJJ ho
        go_enter Try.func30, Try.ntmps30
        go_upto_region 6 with (go_at_call 46; refine HRE.out.mono ?_; rintro x w1 ⟨rfl, hj1, hb1⟩)
        have hd1 := HD.out.but hb1 fun i hi e => HDIS.out i hi (e ▸ HJ.out.self)
        have HB := Lib.hid (HBE2.out _ (hd1.next (Below.drawn w1 1 _)) (hj1.next (Below.drawn w1 1 _)))
        obtain ⟨v, hjb, rfl⟩ := hj1
        have c0 := hjb.c0
        have HB1 := Lib.hid hb1
        clear hjb hb1 hd1
        go_region_held3 (fun w => w.cell? ⟨jb, 0, none⟩ = some (.pointer (some ⟨dk, 0, none⟩))) (exact c0) (first
          | (go_at_call 47; refine (HUN.out _).mono ?_; rintro x w2 ⟨rfl, hw2⟩; obtain rfl := hw2.symm)
          | (go_at_call 44; refine (HCP.out _ (HB1.out.next (Below.drawn w1 1 _))).mono ?_; rintro x w3 ⟨rfl, hw3⟩; obtain rfl := hw3.symm))
        all_goals
          go_wp2_with (first
            | (go_at_call 58; refine HB.out.mono ?_; rintro x w4 ⟨rfl, hm4⟩
               have HEN := Lib.hid (jends_mj (hm4.after ((HB1.out.next (Below.drawn w1 1 _)).mono fun i _ e => .inr (e ▸ .inl rfl))) er)
               clear hm4)
            | (go_at_call 50; refine HEN.out.mono ?_; rintro x w5 ⟨rfl, hm5⟩))
          go_ret
          rw [← HR.out]
          exact ⟨rfl, hm5⟩
theorem commit_nil (W : World) : Calls Try.prog 18 #[.pointer none] W fun e w' => e = .returned (.int .i64 1) ∧ w' = W := by
  go_enter Try.func18, Try.ntmps18
  go_wp2_with (go_at_call 46; refine (jready_nil _).mono ?_; rintro x w1 ⟨rfl, hw1⟩; obtain rfl := hw1.symm)
  go_ret
  exact ⟨rfl, rfl⟩
theorem checkpoint_nil (W : World) (s : Value) : Calls Try.prog 30 #[.pointer none, s] W fun e w' => e = .returned (.int .i64 1) ∧ w' = W := by
  go_enter Try.func30, Try.ntmps30
  go_wp2_with (go_at_call 46; refine (jready_nil _).mono ?_; rintro x w1 ⟨rfl, hw1⟩; obtain rfl := hw1.symm)
  go_ret
  exact ⟨rfl, rfl⟩
theorem append_nil (W : World) (s : Value) : Calls Try.prog 16 #[.pointer none, s] W fun e w' => e = .returned (.int .i64 1) ∧ w' = W := by
  go_enter Try.func16, Try.ntmps16
  go_wp2_with (go_at_call 46; refine (jready_nil _).mono ?_; rintro x w1 ⟨rfl, hw1⟩; obtain rfl := hw1.symm)
  go_ret
  exact ⟨rfl, rfl⟩
end
end Go.Proofs.Ytkljfampkkfgdaa
