/- The journal layer: what is known of a world of the law, call by call. The journal layer: calls and stores on a world of the law. -/
import Derived.Test.YtkljfampkkfgdaaJSettle
namespace Go.Proofs.Ytkljfampkkfgdaa
section
open Go.RowKit
/-- What is known of a world. -/
structure WI (N n : Nat) (X : Wd) : Prop where
  ws : WS N n X.D X.m
  fu : X.fused = false → X.D.fuse < 0
  no : X.J = none → X.st = [] ∧ X.recs = [] ∧ X.sure = 0
  con : ∀ J, X.J = some J → X.st = J.st ∧ X.recs = J.recs ∧ X.sure = J.dur
  bd : ∀ J, X.J = some J → JBd J ∧ J.used = usedM (J.st :: J.recs) ∧ J.used ≤ 100 ∧ J.own ≤ X.D.own
  ok : ∀ J, X.J = some J → X.broken = false → WJ N n X.D J X.m
  bad : ∀ J, X.J = some J → X.broken = true → J.broken = true ∨ J.own ≠ X.D.own
  sz : X.m.R.length ≤ 200 ∧ X.m.A.length ≤ 200
  has : X.has = X.J.isSome
section
variable {N n : Nat} {X : Wd} {J : Jn}
theorem WJ.used_ok {D : Dk} {m : Md} (h : WJ N n D J m) : J.used = usedM (J.st :: J.recs) ∧ J.used ≤ 99 ∧ J.recs.length ≤ 99 := by
  have h1 := h.live.used
  have h2 := h.live.fit
  have h3 := h.ws.len
  have h4 := h.ws.high
  have h5 : capM D.sec.length ≤ 99 := by rw [h3]; unfold capM; omega
  have h6 := usedM_len (J.st :: J.recs)
  rw [List.length_cons] at h6
  exact ⟨h1, by omega, by omega⟩
theorem WJ.sz {D : Dk} {m : Md} (h : WJ N n D J m) : m.R.length ≤ 99 ∧ m.A.length ≤ 99 := by
  have h1 := h.used_ok.2.2
  rw [h.mR, h.mA]
  simp only [List.length_take, List.length_drop]
  omega
/-- A world whose journal can be written. -/
theorem WI.of_ok {X : Wd} (hJ : X.J = some J) (hh : X.has = true) (hb : X.broken = false) (h : WJ N n X.D J X.m) (hf : X.fused = false → X.D.fuse < 0) (hc : X.st = J.st ∧ X.recs = J.recs ∧ X.sure = J.dur) : WI N n X :=
  ⟨h.ws, hf, fun e => (by rw [hJ] at e; cases e), fun J' e => (by rw [hJ] at e; cases e; exact hc),
    fun J' e => (by
      rw [hJ] at e; cases e
      have := h.used_ok
      exact ⟨h.jbd, this.1, by omega, by rw [h.same]; exact Int.le_refl _⟩),
    fun J' e _ => (by rw [hJ] at e; cases e; exact h), fun J' _ e => (by rw [hb] at e; cases e), by have := h.sz; omega, by rw [hJ, hh]; rfl⟩
theorem WI.more {n' : Nat} (h : WI N n X) (hn : n ≤ n') (hn' : n' ≤ 160) : WI N n' X :=
  ⟨h.ws.more hn hn', h.fu, h.no, h.con, h.bd, fun J e b => (h.ok J e b).more hn hn', h.bad, h.sz, h.has⟩
theorem WI.jbo (h : WI N n X) : JBo X.J := fun J e => (h.bd J e).1
theorem WI.hasJ (h : WI N n X) (hJ : X.J = some J) : X.has = true := by rw [h.has, hJ]; rfl
theorem WI.durO (h : WI N n X) : durO X.J = X.sure := by
  cases e : X.J with
  | none => exact (h.no e).2.2.symm
  | some J => exact (h.con J e).2.2.symm
theorem WI.recsO (h : WI N n X) : recsO X.J = X.recs := by
  cases e : X.J with
  | none => exact (h.no e).2.1.symm
  | some J => exact (h.con J e).2.1.symm
theorem WI.stO (h : WI N n X) : stO X.J = X.st := by
  cases e : X.J with
  | none => exact (h.no e).1.symm
  | some J => exact (h.con J e).1.symm
theorem WI.fused (h : WI N n X) (hf : 0 ≤ X.D.fuse) : X.fused = true := by
  cases e : X.fused with
  | true => rfl
  | false => have := h.fu e; omega
theorem WI.small (h : WI N n X) : X.recs.length ≤ 100 ∧ ∀ x ∈ X.st :: X.recs, x.length ≤ 1000000 := by
  have hu : usedM (X.st :: X.recs) ≤ 100 := by
    cases e : X.J with
    | none => obtain ⟨e1, e2, _⟩ := h.no e; rw [e1, e2]; decide
    | some J => obtain ⟨e1, e2, _⟩ := h.con J e; obtain ⟨_, e3, e4, _⟩ := h.bd J e; rw [e1, e2]; omega
  have h1 := usedM_len (X.st :: X.recs)
  rw [List.length_cons] at h1
  refine ⟨by omega, fun x hx => ?_⟩
  have key : ∀ l : List Bs, x ∈ l → unitsM x.length ≤ usedM l := by
    intro l
    induction l with
    | nil => intro hx; cases hx
    | cons y l ih =>
      intro hx
      simp only [usedM]
      rcases List.mem_cons.1 hx with e | e
      · rw [e]; omega
      · have := ih e; omega
  have h2 := key _ hx
  have h3 : unitsM x.length ≤ 100 := by omega
  unfold unitsM at h3
  omega
/-- Commit. -/
theorem WI.commit (h : WI N n X) (hJ : X.J = some J) (hb : X.broken = false) :
    ∃ er D' J', commitM X.D J = (er, D', J') ∧
      ((er = 0 ∧ D'.off = false ∧ J'.dur = X.recs.length ∧ WI N n { X with D := D', J := some J', m := openedM X.st X.recs, sure := X.recs.length }) ∨
       (er = 70 ∧ X.fused = true ∧ D'.off = true ∧ J'.dur = X.sure ∧ WI N n { X with D := D', J := some J', broken := true })) := by
  have hw := h.ok J hJ hb
  obtain ⟨c1, c2, c3⟩ := h.con J hJ
  obtain ⟨b1, b2, b3, b4⟩ := h.bd J hJ
  obtain ⟨ho, ⟨q1, q2, q3⟩ | ⟨q1, q2, q3, q4⟩⟩ := hw.commit
  · refine ⟨_, _, _, q1, .inl ⟨rfl, q3.on, by rw [c2], ?_⟩⟩
    refine WI.of_ok rfl (h.hasJ hJ) hb ?_ (fun e => q2 (h.fu e)) ⟨c1, c2, by rw [c2]⟩
    rw [c1, c2]; exact q3
  · exact ⟨_, _, _, q1, .inr ⟨rfl, h.fused q3, q2, c3.symm, q4, fun e => (by have := h.fused q3; simp only at e; rw [this] at e; cases e), nofun,
      fun J' e => (by cases e; exact ⟨c1, c2, c3⟩), fun J' e => (by cases e; exact ⟨b1.brk, b2, b3, by rw [ho]; exact b4⟩), nofun, fun J' e _ => (by cases e; exact .inl rfl), h.sz, h.hasJ hJ⟩⟩
theorem used_snoc (st : Bs) (l : List Bs) (s : Bs) : usedM (st :: (l ++ [s])) = usedM (st :: l) + unitsM s.length := by
  simp only [usedM]
  have : ∀ l : List Bs, usedM (l ++ [s]) = usedM l + unitsM s.length := by
    intro l
    induction l with
    | nil => simp [usedM]
    | cons x l ih => simp only [List.cons_append, usedM, ih]; omega
  rw [this]; omega
/-- Append. -/
theorem WI.append (h : WI N n X) (hn : n < 150) (hJ : X.J = some J) (hb : X.broken = false) (s : Bs) :
    (1024 < s.length ∧ appendM X.D J s = (2, X.D, J)) ∨ (s.length ≤ 1024 ∧ capM N < usedM (X.st :: X.recs) + unitsM s.length ∧ appendM X.D J s = (5, X.D, J)) ∨
    (s.length ≤ 1024 ∧ usedM (X.st :: X.recs) + unitsM s.length ≤ capM N ∧ ∃ er D' J', appendM X.D J s = (er, D', J') ∧
      ((er = 0 ∧ D'.off = false ∧ WI N (n + 1) { X with D := D', J := some J', m := addedM X.m s, recs := X.recs ++ [s] }) ∨
       (er = 70 ∧ X.fused = true ∧ D'.off = true ∧ J'.dur = X.sure ∧ WI N (n + 1) { X with D := D', J := some J', m := addedM X.m s, broken := true }))) := by
  have hw := h.ok J hJ hb
  obtain ⟨c1, c2, c3⟩ := h.con J hJ
  obtain ⟨b1, b2, b3, b4⟩ := h.bd J hJ
  rw [c1, c2, ← b2]
  rcases hw.append (by omega) s with q | q | ⟨q1, q2, ho, ⟨q3, q4, q5⟩ | ⟨q3, q4, q5, q6⟩⟩
  · exact .inl q
  · exact .inr (.inl q)
  · refine .inr (.inr ⟨q1, q2, _, _, _, q3, .inl ⟨rfl, q5.on, WI.of_ok rfl (h.hasJ hJ) hb q5 (fun e => q4 (h.fu e)) ⟨rfl, rfl, c3⟩⟩⟩)
  · exact .inr (.inr ⟨q1, q2, _, _, _, q3, .inr ⟨rfl, h.fused q5, q4, c3.symm, q6, fun e => (by have := h.fused q5; simp only at e; rw [this] at e; cases e), nofun,
      fun J' e => (by cases e; exact ⟨rfl, rfl, c3⟩), fun J' e => (by cases e; exact ⟨b1.brk, b2, b3, by rw [ho]; exact b4⟩), nofun, fun J' e _ => (by cases e; exact .inl rfl), by
        have := hw.sz
        simp only [addedM, List.length_append, List.length_singleton]
        omega, h.hasJ hJ⟩⟩)
/-- Checkpoint. -/
theorem WI.check (h : WI N n X) (hn : n < 150) (hJ : X.J = some J) (hb : X.broken = false) (s : Bs) :
    (65536 < s.length ∧ checkM X.D J s = (2, X.D, J)) ∨ (s.length ≤ 65536 ∧ capM N < unitsM s.length ∧ checkM X.D J s = (5, X.D, J)) ∨
    (s.length ≤ 65536 ∧ unitsM s.length ≤ capM N ∧ ∃ er D' J', checkM X.D J s = (er, D', J') ∧
      ((er = 0 ∧ D'.off = false ∧ WI N (n + 1) { X with D := D', J := some J', m := openedM s [], st := s, recs := [], sure := 0 }) ∨
       (er = 70 ∧ X.fused = true ∧ D'.off = true ∧ J'.dur = X.sure ∧ WI N (n + 1) { X with D := D', J := some J', m := { X.m with Swap := true, Next := s }, broken := true }))) := by
  have hw := h.ok J hJ hb
  obtain ⟨c1, c2, c3⟩ := h.con J hJ
  obtain ⟨b1, b2, b3, b4⟩ := h.bd J hJ
  rcases hw.check (by omega) s with q | q | ⟨q1, q2, ho, ⟨q3, q4, q5, q6, q7, q8⟩ | ⟨q3, q4, q5, q6⟩⟩
  · exact .inl q
  · exact .inr (.inl q)
  · exact .inr (.inr ⟨q1, q2, _, _, _, q3, .inl ⟨rfl, q8.on, WI.of_ok rfl (h.hasJ hJ) hb q8 (fun e => q4 (h.fu e)) ⟨q5.symm, q6.symm, q7.symm⟩⟩⟩)
  · exact .inr (.inr ⟨q1, q2, _, _, _, q3, .inr ⟨rfl, h.fused q5, q4, c3.symm, q6, fun e => (by have := h.fused q5; simp only at e; rw [this] at e; cases e), nofun,
      fun J' e => (by cases e; exact ⟨c1, c2, c3⟩), fun J' e => (by cases e; exact ⟨b1.brk, b2, b3, by rw [ho]; exact b4⟩), nofun, fun J' e _ => (by cases e; exact .inl rfl), h.sz, h.hasJ hJ⟩⟩)
/-- What the disk alone does. -/
theorem WI.aside {D' : Dk} {m' : Md} {n' : Nat} {f : Bool} (h : WI N n X) (ws : WS N n' D' m') (ho : X.D.own < D'.own) (hf : f = false → D'.fuse < 0) (hs : m'.R.length ≤ 200 ∧ m'.A.length ≤ 200) :
    WI N n' { X with D := D', m := m', fused := f, broken := true } :=
  ⟨ws, hf, h.no, h.con, fun J e => (by have := h.bd J e; exact ⟨this.1, this.2.1, this.2.2.1, by simp only; omega⟩), nofun, fun J e _ => .inr (by have := (h.bd J e).2.2.2; simp only; omega), hs, h.has⟩
theorem WI.crash (h : WI N n X) (hn : n < 150) (keep : List Int) : (crashM X.D keep).off = false ∧ WI N (n + 1) { X with D := crashM X.D keep, fused := false, broken := true } := by
  obtain ⟨q1, q2, q3, q4⟩ := h.ws.crash (by omega) keep
  exact ⟨q2, h.aside q1 (by omega) (fun _ => q3) h.sz⟩
theorem WI.fuse (h : WI N n X) (c : Int) : ((setM X.D c).1 = if X.D.off then 70 else 0) ∧ (X.D.off = true → setM X.D c = (70, X.D)) ∧ (X.D.off = false → WI N n { X with D := (setM X.D c).2, fused := decide (0 ≤ c) }) := by
  obtain ⟨q1, q2, q3, q4, q5, q6⟩ := h.ws.fuse c
  refine ⟨q4, fun e => (by unfold setM; rw [if_pos e]), fun e => ⟨q1, fun hf => ?_, h.no, h.con, fun J e2 => (by have := h.bd J e2; exact ⟨this.1, this.2.1, this.2.2.1, by simp only; omega⟩), fun J e2 hb => ?_, fun J e2 hb => ?_, h.sz, h.has⟩⟩
  · rw [q5 e]
    have : ¬ 0 ≤ c := of_decide_eq_false hf
    omega
  · obtain ⟨E, g1, g2, g3⟩ := (h.ok J e2 hb).fuse c
    rw [g1]; exact g3
  · have := h.bad J e2 hb
    simp only; rw [q3]; exact this
theorem WI.format (h : WI N n X) (hn : n < 150) :
    (formatM X.D).1 = 0 ∧ X.D.off = false ∧ (formatM X.D).2.off = false ∧ WI N (n + 2) { X with D := (formatM X.D).2, m := openedM [] [], broken := true } ∨
    (formatM X.D).1 = 70 ∧ (formatM X.D).2.off = true ∧ (X.D.off = true ∨ X.fused = true) ∧ WI N (n + 2) { X with D := (formatM X.D).2, m := { X.m with Empty := true }, broken := true } := by
  obtain ⟨ho, ⟨q1, q2, q3, q4, q5⟩ | ⟨q1, q2, q3, q4⟩⟩ := h.ws.format (by omega)
  · exact .inl ⟨q1, q2, q3, h.aside q5 (by omega) (fun e => q4 (h.fu e)) (by simp [openedM])⟩
  · refine .inr ⟨q1, q2, q3.imp id h.fused, ?_⟩
    have hf : X.fused = false → (formatM X.D).2.fuse < 0 := fun e => by
      rcases q3 with e2 | e2
      · have e3 := h.fu e
        unfold formatM
        rw [if_pos e2]; exact e3
      · have := h.fu e; omega
    exact h.aside q4 (by omega) hf h.sz
theorem WI.open_ (h : WI N n X) (hn : n < 150) :
    (∃ D' J', openM X.D = (0, D', some J') ∧ X.D.off = false ∧ D'.off = false ∧ allowsM X.m J'.st J'.recs = true ∧ J'.dur = J'.recs.length ∧ WI N (n + 2) { X with D := D', J := some J', m := openedM J'.st J'.recs, has := true, broken := false, st := J'.st, recs := J'.recs, sure := J'.recs.length }) ∨
    (∃ D', openM X.D = (71, D', none) ∧ X.D.off = false ∧ X.m.Sure = false ∧ WI N (n + 2) { X with D := D', broken := true }) ∨
    (∃ D', openM X.D = (70, D', none) ∧ D'.off = true ∧ (X.D.off = true ∨ X.fused = true) ∧ WI N (n + 2) { X with D := D', broken := true }) := by
  obtain ⟨ho, ⟨J', q1, q2, q3, q4, q5, q6, q7⟩ | ⟨q1, q2, q3, q4, q5, q6, q7⟩ | ⟨q1, q2, q3, q4⟩⟩ := h.ws.open_ (by omega)
  · exact .inl ⟨_, J', q1, q2, q7.on, q4, q6, WI.of_ok rfl rfl rfl q7 (fun e => q3 (h.fu e)) ⟨rfl, rfl, q6.symm⟩⟩
  · exact .inr (.inl ⟨_, q1, q2, q3, h.aside q7 (by omega) (fun e => q6 (h.fu e)) h.sz⟩)
  · refine .inr (.inr ⟨_, q1, q2, q3.imp id h.fused, ?_⟩)
    have hf : X.fused = false → (openM X.D).2.1.fuse < 0 := fun e => by
      rcases q3 with e2 | e2
      · have e3 := h.fu e
        unfold openM
        rw [if_pos e2]; exact e3
      · have := h.fu e; omega
    exact h.aside q4 (by omega) hf h.sz
end
end
section
open Go.RowKit
section
variable {W0 W w1 : World} {wb : Nat} {X : Wd}
theorem WdAt.next (h : WdAt W0 W wb X) (hB : Below W.heap.size W w1) : WdAt W0 w1 wb X := by
  obtain ⟨K, dk, jp, rv, av, cv, hw, h1, h2, h3⟩ := h
  exact ⟨K, dk, jp, rv, av, cv, hw.next hB, h1, h2, h3.next hB⟩
theorem WdAt.old (h : WdAt W0 W wb X) : Below W0.heap.size W0 W := by
  obtain ⟨K, dk, jp, rv, av, cv, hw, h1, h2, h3⟩ := h
  exact h3.below (Nat.le_refl _) fun i hi => hi
theorem WdAt.f (h : WdAt W0 W wb X) (i : Nat) : W.frozen? ⟨wb, i, none⟩ = false := by
  obtain ⟨K, dk, jp, rv, av, cv, hw, h1, h2, h3⟩ := h
  exact hw.f i
theorem WdAt.jp (h : WdAt W0 W wb X) : ∃ jp, W.cell? ⟨wb, 1, none⟩ = some jp ∧ (Calls Try.prog 19 #[jp] W fun e w' => e = .returned (.int .i64 (durO X.J : Nat)) ∧ w' = W)
    ∧ (Calls Try.prog 31 #[jp] W fun e w' => e = .returned (.string ⟨(stO X.J).toArray⟩) ∧ w' = W)
    ∧ (JBo X.J → Calls Try.prog 15 #[jp] W fun e w' => ∃ v, e = .returned v ∧ OwnStrs w' W.heap.size v (recsO X.J) ∧ Below W.heap.size W w')
    ∧ (8 ≤ X.D.sec.length → JBo X.J → Calls Try.prog 13 #[jp] W fun e w' => e = .returned (.int .i64 (roomO (capM X.D.sec.length : Nat) X.J)) ∧ Below W.heap.size W w')
    ∧ (X.J = none → jp = .pointer none)
    ∧ (∀ J er D' J', X.J = some J → JBd J → commitM X.D J = (er, D', J') → Calls Try.prog 18 #[jp] W fun e w' => e = .returned (.int .i64 er) ∧ WdAt W0 w' wb { X with D := D', J := some J' })
    ∧ (∀ J s er D' J', X.J = some J → Bd X.D → checkM X.D J s = (er, D', J') → Calls Try.prog 30 #[jp, .string ⟨s.toArray⟩] W fun e w' => e = .returned (.int .i64 er) ∧ WdAt W0 w' wb { X with D := D', J := some J' })
    ∧ (∀ J s er D' J', X.J = some J → Bd X.D → JBd J → appendM X.D J s = (er, D', J') → Calls Try.prog 16 #[jp, .string ⟨s.toArray⟩] W fun e w' => e = .returned (.int .i64 er) ∧ WdAt W0 w' wb { X with D := D', J := some J' }) := by
  obtain ⟨K, dk, jp, rv, av, cv, hw, h1, h2, h3⟩ := h
  refine ⟨jp, hw.c1, durable_dj hw.dj, state_dj hw.dj, records_dj hw.dj, room_dj hw.dj, fun e => ?_, fun J er D' J' e b q => ?_, fun J s er D' J' e b q => ?_, fun J s er D' J' e b bj q => ?_⟩
  · have := hw.dj; rw [e] at this; exact this.1
  · have hd := hw.dj
    rw [e] at hd
    obtain ⟨jb, rfl, hd⟩ := hd
    refine (commit_jd hd b).mono ?_
    rw [q]
    rintro x w' ⟨rfl, q1, q2⟩
    exact ⟨rfl, K, dk, _, rv, av, cv, hw.call (J' := some J') ⟨jb, rfl, q1⟩ q2, h1, h2, h3.trans (q2.mono h1)⟩
  · have hd := hw.dj
    rw [e] at hd
    obtain ⟨jb, rfl, hd⟩ := hd
    refine (check_jdL hd b s).mono ?_
    rw [q]
    rintro x w' ⟨rfl, q1, q2⟩
    exact ⟨rfl, K, dk, _, rv, av, cv, hw.call (J' := some J') ⟨jb, rfl, q1⟩ q2, h1, h2, h3.trans (q2.mono h1)⟩
  · have hd := hw.dj
    rw [e] at hd
    obtain ⟨jb, rfl, hd⟩ := hd
    refine (append_jdL hd b bj s).mono ?_
    rw [q]
    rintro x w' ⟨rfl, q1, q2⟩
    exact ⟨rfl, K, dk, _, rv, av, cv, hw.call (J' := some J') ⟨jb, rfl, q1⟩ q2, h1, h2, h3.trans (q2.mono h1)⟩
/-- What the disk does alone. -/
theorem WdAt.dk (h : WdAt W0 W wb X) : ∃ p, W.cell? ⟨wb, 0, none⟩ = some p ∧ (Calls Try.prog 42 #[p] W fun e w' => e = .returned (.bool X.D.off) ∧ w' = W)
    ∧ (Calls Try.prog 41 #[p] W fun e w' => e = .returned (.int .i64 X.D.sec.length) ∧ w' = W)
    ∧ (Bd X.D → Calls Try.prog 23 #[p] W fun e w' => e = .returned (.int .i64 (formatM X.D).1) ∧ WdAt W0 w' wb { X with D := (formatM X.D).2 })
    ∧ (∀ n, n < 9223372036854775808 → Calls Try.prog 32 #[p, .int .i64 n] W fun e w' => e = .returned (.int .i64 (setM X.D n).1) ∧ WdAt W0 w' wb { X with D := (setM X.D n).2 })
    ∧ (∀ A keep n c2, keep.length = n → Ints W A keep → (∀ a, 0 < n → A = some a → a.block < W0.heap.size) → n ≤ 9223372036854775807 → Calls Try.prog 28 #[p, .slice A n c2] W fun e w' => e = .returned (.int .i64 0) ∧ WdAt W0 w' wb { X with D := crashM X.D keep }) := by
  obtain ⟨K, dk, jp, rv, av, cv, hw, h1, h2, h3⟩ := h
  refine ⟨_, hw.c0, off_dj hw.dj, blocks_dj hw.dj, fun b => (format_dj hw.dj b).mono ?_, fun n hn => (fuse_dj hw.dj n hn).mono ?_, fun A keep n c2 e hA hK hn => (crash_dj hw.dj A keep n c2 e hA (fun h0 a ha => h1 _ (hK a h0 ha)) hn).mono ?_⟩
  all_goals
    rintro x w' ⟨rfl, q1, q2⟩
    exact ⟨rfl, K, dk, jp, rv, av, cv, hw.call q1 q2, h1, h2, h3.trans (q2.mono h1)⟩
/-- One cell of the world has changed that bears no row and no pointer. -/
theorem WdAt.set (h : WdAt W0 W wb X) (k : Nat) (u : Value) (X' : Wd) (hD : X'.D = X.D) (hJ : X'.J = X.J) (hR : X'.m.R = X.m.R) (hA : X'.m.A = X.m.A) (hC : X'.recs = X.recs)
    (hc : ∀ dk jp rv av cv, (cellsWd dk jp rv av cv X).set! k u = cellsWd dk jp rv av cv X') : WdAt W0 (W.setCell ⟨wb, k, none⟩ u) wb X' := by
  obtain ⟨K, dk, jp, rv, av, cv, hw, h1, h2, h3⟩ := h
  refine ⟨K, dk, jp, rv, av, cv, hw.setCell k u (hc _ _ _ _ _) (hR ▸ hw.rR) (hA ▸ hw.rA) (hC ▸ hw.rC) (hD ▸ hJ ▸ hw.dj), h1, h2, h3.trans ((ButS.setCell (F := fun i => i = wb) W (p := ⟨wb, k, none⟩) rfl u).mono fun i hi e hn => by simp only [Old] at hn; omega)⟩
theorem WdAt.setSure (h : WdAt W0 W wb X) (n : Nat) : WdAt W0 (W.setCell ⟨wb, 14, none⟩ (.int .i64 (n : Int))) wb { X with sure := n } := h.set 14 _ _ rfl rfl rfl rfl rfl fun _ _ _ _ _ => rfl
theorem WdAt.setSt (h : WdAt W0 W wb X) (s : Bs) : WdAt W0 (W.setCell ⟨wb, 12, none⟩ (.string ⟨s.toArray⟩)) wb { X with st := s } := h.set 12 _ _ rfl rfl rfl rfl rfl fun _ _ _ _ _ => rfl
theorem WdAt.setFused (h : WdAt W0 W wb X) (b : Bool) : WdAt W0 (W.setCell ⟨wb, 9, none⟩ (.bool b)) wb { X with fused := b } := h.set 9 _ _ rfl rfl rfl rfl rfl fun _ _ _ _ _ => rfl
theorem WdAt.setHas (h : WdAt W0 W wb X) (b : Bool) : WdAt W0 (W.setCell ⟨wb, 10, none⟩ (.bool b)) wb { X with has := b } := h.set 10 _ _ rfl rfl rfl rfl rfl fun _ _ _ _ _ => rfl
theorem WdAt.setEmpty (h : WdAt W0 W wb X) (b : Bool) : WdAt W0 (W.setCell ⟨wb, 6, none⟩ (.bool b)) wb { X with m := { X.m with Empty := b } } := h.set 6 _ _ rfl rfl rfl rfl rfl fun _ _ _ _ _ => rfl
theorem WdAt.setSwap (h : WdAt W0 W wb X) (b : Bool) : WdAt W0 (W.setCell ⟨wb, 7, none⟩ (.bool b)) wb { X with m := { X.m with Swap := b } } := h.set 7 _ _ rfl rfl rfl rfl rfl fun _ _ _ _ _ => rfl
theorem WdAt.setNext (h : WdAt W0 W wb X) (s : Bs) : WdAt W0 (W.setCell ⟨wb, 8, none⟩ (.string ⟨s.toArray⟩)) wb { X with m := { X.m with Next := s } } := h.set 8 _ _ rfl rfl rfl rfl rfl fun _ _ _ _ _ => rfl
/-- A new row of records. -/
theorem WdAt.setRecs (h : WdAt W0 W wb X) (hB : Below W.heap.size W w1) {v : Value} {l : List Bs} (hO : OwnStrs w1 W.heap.size v l) : WdAt W0 (w1.setCell ⟨wb, 13, none⟩ v) wb { X with recs := l } := by
  obtain ⟨K, dk, jp, rv, av, cv, hw, h1, h2, h3⟩ := h
  have hlt := hw.lt
  have hm := hw.more hB
  refine ⟨_, dk, jp, rv, av, v, hm.setCell (X' := { X with recs := l }) 13 v rfl hm.rR hm.rA ((RowK.own hO).mono fun i hi => ⟨.inr hi, by omega⟩) hm.dj, fun i hi => .inl (h1 i hi), h2, (h3.next hB).trans ((ButS.setCell (F := fun i => i = wb) w1 (p := ⟨wb, 13, none⟩) rfl v).mono fun i hi e hn => by simp only [Old] at hn; omega)⟩
theorem setCells7 (w : World) (wb dk : Nat) (jp rv av cv rv' av' : Value) (X : Wd) (m' : Md) (h : w.heap[wb]? = some (.cells (cellsWd dk jp rv av cv X) 76 (0, 0))) :
    (w.setCells wb 2 (cellsMd m' rv' av').toList).heap[wb]? = some (.cells (cellsWd dk jp rv' av' cv { X with m := m' }) 76 (0, 0)) := by
  simp [cellsMd, World.setCells, World.setCell, Array.getElem?_modify, h, cellsWd]
theorem WdAt.there (h : WdAt W0 W wb X) (hB : Below W.heap.size W w1) : w1.there wb 2 7 := by
  obtain ⟨K, dk, jp, rv, av, cv, hw, h1, h2, h3⟩ := h
  have hn := hw.next hB
  intro j hj
  refine ⟨?_, hn.f _⟩
  have : j = 0 ∨ j = 1 ∨ j = 2 ∨ j = 3 ∨ j = 4 ∨ j = 5 ∨ j = 6 := by omega
  rcases this with rfl | rfl | rfl | rfl | rfl | rfl | rfl
  · rw [hn.c2]; rfl
  · rw [hn.c3]; rfl
  · rw [hn.c4]; rfl
  · rw [hn.c5]; rfl
  · rw [hn.c6]; rfl
  · rw [hn.c7]; rfl
  · rw [hn.c8]; rfl
/-- Another model with new rows. -/
theorem WdAt.model (h : WdAt W0 W wb X) (hB : Below W.heap.size W w1) {m' : Md} {rv' av' : Value} (hR : OwnStrs w1 W.heap.size rv' m'.R) (hA : OwnStrs w1 W.heap.size av' m'.A) : WdAt W0 (w1.setCells wb 2 (cellsMd m' rv' av').toList) wb { X with m := m' } := by
  obtain ⟨K, dk, jp, rv, av, cv, hw, h1, h2, h3⟩ := h
  have hlt := hw.lt
  have hm := hw.more hB
  have hb := ButS.setCells (F := fun i => i = wb) wb rfl (cellsMd m' rv' av').toList 2 w1
  exact ⟨_, dk, jp, rv', av', cv, hm.set (X' := { X with m := m' }) hb (setCells7 _ _ _ _ _ _ _ _ _ _ _ hm.head) ((RowK.own hR).mono fun i hi => ⟨.inr hi, by omega⟩) ((RowK.own hA).mono fun i hi => ⟨.inr hi, by omega⟩) hm.rC hm.dj, fun i hi => .inl (h1 i hi), h2, (h3.next hB).trans (hb.mono fun i hi e hn => by simp only [Old] at hn; omega)⟩
/-- Another model, with a new row of what may be there besides. -/
theorem WdAt.modelA (h : WdAt W0 W wb X) (hB : Below W.heap.size W w1) {m' : Md} {rv' av' : Value} (hR : m'.R = X.m.R) (hrv : W.cell? ⟨wb, 3, none⟩ = some rv') (hA : OwnStrs w1 W.heap.size av' m'.A) : WdAt W0 (w1.setCells wb 2 (cellsMd m' rv' av').toList) wb { X with m := m' } := by
  obtain ⟨K, dk, jp, rv, av, cv, hw, h1, h2, h3⟩ := h
  obtain rfl : rv = rv' := by rw [hw.c3] at hrv; exact Option.some.inj hrv
  have hlt := hw.lt
  have hm := hw.more hB
  have hb := ButS.setCells (F := fun i => i = wb) wb rfl (cellsMd m' rv av').toList 2 w1
  exact ⟨_, dk, jp, rv, av', cv, hm.set (X' := { X with m := m' }) hb (setCells7 _ _ _ _ _ _ _ _ _ _ _ hm.head) (hR ▸ hm.rR) ((RowK.own hA).mono fun i hi => ⟨.inr hi, by omega⟩) hm.rC hm.dj, fun i hi => .inl (h1 i hi), h2, (h3.next hB).trans (hb.mono fun i hi e hn => by simp only [Old] at hn; omega)⟩
/-- The rows of a world. -/
theorem WdAt.rows (h : WdAt W0 W wb X) : ∃ RA rc AA ac CA cc, W.cell? ⟨wb, 3, none⟩ = some (.slice RA X.m.R.length rc) ∧ W.cell? ⟨wb, 4, none⟩ = some (.slice AA X.m.A.length ac) ∧ W.cell? ⟨wb, 13, none⟩ = some (.slice CA X.recs.length cc) ∧ Strs W RA X.m.R ∧ Strs W AA X.m.A ∧ Strs W CA X.recs
    ∧ ((∃ x, RA = some x) ∨ (RA = none ∧ rc = 0)) ∧ ((∃ x, AA = some x) ∨ (AA = none ∧ ac = 0)) ∧ ((∃ x, CA = some x) ∨ (CA = none ∧ cc = 0)) ∧ W.cell? ⟨wb, 2, none⟩ = some (.string ⟨X.m.S.toArray⟩) ∧ W.cell? ⟨wb, 5, none⟩ = some (.bool X.m.Sure) ∧ W.cell? ⟨wb, 6, none⟩ = some (.bool X.m.Empty) ∧ W.cell? ⟨wb, 7, none⟩ = some (.bool X.m.Swap)
    ∧ W.cell? ⟨wb, 8, none⟩ = some (.string ⟨X.m.Next.toArray⟩) ∧ W.cell? ⟨wb, 12, none⟩ = some (.string ⟨X.st.toArray⟩) ∧ W.cell? ⟨wb, 14, none⟩ = some (.int .i64 (X.sure : Nat)) ∧ W.cell? ⟨wb, 10, none⟩ = some (.bool X.has) ∧ W.cell? ⟨wb, 11, none⟩ = some (.bool X.broken) ∧ W.cell? ⟨wb, 9, none⟩ = some (.bool X.fused) := by
  obtain ⟨K, dk, jp, rv, av, cv, hw, h1, h2, h3⟩ := h
  obtain ⟨RA, rc, rfl, s1, s2, _⟩ := hw.rR
  obtain ⟨AA, ac, rfl, s3, s4, _⟩ := hw.rA
  obtain ⟨CA, cc, rfl, s5, s6, _⟩ := hw.rC
  exact ⟨RA, rc, AA, ac, CA, cc, hw.c3, hw.c4, hw.c13, s1, s3, s5, s2, s4, s6, hw.c2, hw.c5, hw.c6, hw.c7, hw.c8, hw.c12, hw.c14, hw.c10, hw.c11, hw.c9⟩
end
end
end Go.Proofs.Ytkljfampkkfgdaa
