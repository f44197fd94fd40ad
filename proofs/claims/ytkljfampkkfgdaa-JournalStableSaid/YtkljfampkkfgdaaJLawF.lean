/- The journal layer: what may be on a disk, call by call. -/
import Derived.Test.YtkljfampkkfgdaaJLawE
namespace Go.Proofs.Ytkljfampkkfgdaa
/-- What may be on a disk, as the reference says it. -/
structure Md where
  S : Bs
  R : List Bs
  A : List Bs
  Sure : Bool
  Empty : Bool
  Swap : Bool
  Next : Bs
def beginsM (a b : List Bs) : Bool := b.isPrefixOf a
def allowsM (m : Md) (st : Bs) (rs : List Bs) : Bool := (m.Swap && st == m.Next && rs.length == 0) || (m.Empty && st == [] && rs.length == 0) || (m.Sure && st == m.S && beginsM rs m.R && beginsM (m.R ++ m.A) rs)
def openedM (st : Bs) (rs : List Bs) : Md := ⟨st, rs, [], true, false, false, []⟩
def addedM (m : Md) (s : Bs) : Md := { m with A := m.A ++ [s] }
def GoodM (m : Md) (c : Nat → Bs) (N : Nat) : Prop := match parseC c N with
  | none => m.Sure = false
  | some (st, rs) => allowsM m st rs = true
theorem begins_iff {a b : List Bs} : beginsM a b = true ↔ ∃ t, a = b ++ t := by
  unfold beginsM
  rw [List.isPrefixOf_iff_prefix]
  exact ⟨fun ⟨t, h⟩ => ⟨t, h.symm⟩, fun ⟨t, h⟩ => ⟨t, h.symm⟩⟩
theorem begins_self (a : List Bs) : beginsM a a = true := begins_iff.2 ⟨[], (List.append_nil a).symm⟩
theorem allows_opened (st : Bs) (rs : List Bs) : allowsM (openedM st rs) st rs = true := by
  simp [allowsM, openedM, begins_self]
theorem good_some {m : Md} {c : Nat → Bs} {N : Nat} {st : Bs} {rs : List Bs} (h : parseC c N = some (st, rs)) (ha : allowsM m st rs = true) : GoodM m c N := by
  unfold GoodM; rw [h]; exact ha
theorem good_eq {m : Md} {c c' : Nat → Bs} {N : Nat} (h : parseC c N = parseC c' N) (hg : GoodM m c' N) : GoodM m c N := by
  unfold GoodM at hg ⊢; rw [h]; exact hg
theorem good_mono {m m' : Md} {c : Nat → Bs} {N : Nat} (h : GoodM m c N) (h1 : m.Sure = false → m'.Sure = false) (h2 : ∀ st rs, allowsM m st rs = true → allowsM m' st rs = true) : GoodM m' c N := by
  unfold GoodM at h ⊢
  split
  · rename_i e; rw [e] at h; exact h1 h
  · rename_i e; rw [e] at h; exact h2 _ _ h
theorem allows_empty (m : Md) (st : Bs) (rs : List Bs) (h : allowsM m st rs = true) : allowsM { m with Empty := true } st rs = true := by
  simp only [allowsM, Bool.or_eq_true, Bool.and_eq_true] at h ⊢
  rcases h with (h | h) | h
  · exact .inl (.inl h)
  · exact .inl (.inr ⟨⟨trivial, h.1.2⟩, h.2⟩)
  · exact .inr h
/-- The disk D: what may be on it, and bounds. -/
structure WS (N n : Nat) (D : Dk) (m : Md) : Prop where
  len : D.sec.length = N
  low : 8 ≤ N
  high : N ≤ 200
  good : ∀ c, Choice D c → GoodM m c N ∧ (curC c).1 ≤ n
  heads : D.off = false → ∀ j, j < 2 → ∀ y, poss D j y → y = getM D j
  own : 0 ≤ D.own ∧ D.own ≤ n
  few : Few (300 * n) D
  bud : n ≤ 160
theorem WS.cur {N n : Nat} {D : Dk} {m : Md} (h : WS N n D m) : (curC (getM D)).1 ≤ n := (h.good _ (choice_lat D)).2
theorem WS.bd {N n : Nat} {D : Dk} {m : Md} (h : WS N n D m) : Bd D := ⟨by rw [h.len]; exact h.low, by have := h.cur; have := h.bud; omega, h.few.mono (by have := h.bud; omega)⟩
theorem bump_own {N n : Nat} {D : Dk} {m : Md} (h : WS N n D m) : (bumpM D).own = D.own + 1 := IntWalk.i64_in _ (by have := h.own; have := h.bud; omega)
theorem WS.bump {N n : Nat} {D : Dk} {m : Md} (h : WS N n D m) (hn : n < 160) : WS N (n + 1) (bumpM D) m :=
  ⟨h.len, h.low, h.high, fun c hc => ⟨(h.good c hc).1, by have := (h.good c hc).2; omega⟩, h.heads, by rw [bump_own h]; have := h.own; omega, h.few.mono (by omega), by omega⟩
theorem WS.model {N n : Nat} {D : Dk} {m m' : Md} (h : WS N n D m) (h1 : m.Sure = false → m'.Sure = false) (h2 : ∀ st rs, allowsM m st rs = true → allowsM m' st rs = true) : WS N n D m' :=
  ⟨h.len, h.low, h.high, fun c hc => ⟨good_mono (h.good c hc).1 h1 h2, (h.good c hc).2⟩, h.heads, h.own, h.few, h.bud⟩
theorem WS.more {N n n' : Nat} {D : Dk} {m : Md} (h : WS N n D m) (hn : n ≤ n') (hn' : n' ≤ 160) : WS N n' D m :=
  ⟨h.len, h.low, h.high, fun c hc => ⟨(h.good c hc).1, by have := (h.good c hc).2; omega⟩, h.heads, by have := h.own; omega, h.few.mono (by omega), hn'⟩
theorem WS.crash {N n : Nat} {D : Dk} {m : Md} (h : WS N n D m) (hn : n < 160) (keep : List Int) : WS N (n + 1) (crashM D keep) m ∧ (crashM D keep).off = false ∧ (crashM D keep).fuse < 0 ∧ (crashM D keep).own = D.own + 1 := by
  have hown : (crashM D keep).own = D.own + 1 := IntWalk.i64_in _ (by have := h.own; have := h.bud; omega)
  have hlen : (crashM D keep).sec.length = N := by rw [crash_length]; exact h.len
  refine ⟨⟨hlen, h.low, h.high, fun c hc => ?_, fun _ j _ y hy => (crash_clean hy).1, by rw [hown]; have := h.own; omega, fun s hs => by rw [crash_pend s hs]; exact Nat.zero_le _, by omega⟩, rfl, by show (-1 : Int) < 0; decide, hown⟩
  have hcc : Choice D c := fun i hi => (crash_clean (hc i (by rw [crash_length]; exact hi))).2
  exact ⟨(h.good c hcc).1, by have := (h.good c hcc).2; omega⟩
theorem WS.fuse {N n : Nat} {D : Dk} {m : Md} (h : WS N n D m) (c : Int) : WS N n (setM D c).2 m ∧ (setM D c).2.off = D.off ∧ (setM D c).2.own = D.own ∧ ((setM D c).1 = if D.off then 70 else 0) ∧ (D.off = false → (setM D c).2.fuse = max c (-1)) ∧ (setM D c).2.sec = D.sec := by
  unfold setM
  split
  · exact ⟨h, rfl, rfl, rfl, fun hf => (by rename_i ho; rw [hf] at ho; cases ho), rfl⟩
  · exact ⟨⟨h.len, h.low, h.high, h.good, h.heads, h.own, h.few, h.bud⟩, rfl, rfl, rfl, fun _ => rfl, rfl⟩
/-- An open journal that can be written, and what may be on its disk. -/
structure WJ (N n : Nat) (D : Dk) (J : Jn) (m : Md) : Prop where
  ws : WS N n D m
  on : D.off = false
  live : Live D J
  same : J.own = D.own
  whole : J.broken = false
  ep : J.ep ≤ n
  mS : m.S = J.st
  mR : m.R = J.recs.take J.dur
  mA : m.A = J.recs.drop J.dur
  mK : m.Sure = true
  mW : m.Swap = false
theorem WJ.ready {N n : Nat} {D : Dk} {J : Jn} {m : Md} (h : WJ N n D J m) : jreadyM D J = (0, J) := by
  unfold jreadyM
  rw [if_neg (by rw [h.whole, h.same]; simp), if_neg (by rw [h.on]; simp)]
theorem WJ.jbd {N n : Nat} {D : Dk} {J : Jn} {m : Md} (h : WJ N n D J m) : JBd J := by
  have h1 := h.live.ep
  have h2 := h.ep
  have h3 := h.ws.bud
  have h4 := h.live.fit
  have h5 := usedM_len (J.st :: J.recs)
  have h6 := h.live.used
  have h7 := h.ws.high
  have h8 := h.ws.len
  have hc : capM D.sec.length ≤ 100 := by unfold capM; omega
  rw [List.length_cons] at h5
  exact ⟨h.live.regOk, by omega, by omega, by omega⟩
/-- What may be on the disk follows from what is known of the journal. -/
theorem WS.of_live {N n : Nat} {D : Dk} {J : Jn} {m : Md} (hl : Live D J) (hN : D.sec.length = N) (h8 : 8 ≤ N) (h2 : N ≤ 200) (hep : J.ep ≤ n) (hn : n ≤ 160) (mS : m.S = J.st) (mR : m.R = J.recs.take J.dur) (mA : m.A = J.recs.drop J.dur) (mK : m.Sure = true) (hown : 0 ≤ D.own ∧ D.own ≤ n) (hf : Few (300 * n) D) : WS N n D m := by
  refine ⟨hN, h8, h2, fun c hc => ?_, fun _ => hl.heads, hown, hf, hn⟩
  obtain ⟨k, k1, k2, k3⟩ := hl.read (by omega) (by omega) (by omega) hc
  rw [hN] at k3
  refine ⟨good_some k3 ?_, by rw [hl.curC (by omega) hc]; exact hep⟩
  have b1 : beginsM (J.recs.take k) (J.recs.take J.dur) = true := begins_iff.2 ⟨(J.recs.take k).drop J.dur, by
    have : J.recs.take J.dur = (J.recs.take k).take J.dur := by rw [List.take_take, Nat.min_eq_left k1]
    rw [this, List.take_append_drop]⟩
  have b2 : beginsM J.recs (J.recs.take k) = true := begins_iff.2 ⟨J.recs.drop k, (List.take_append_drop k _).symm⟩
  simp only [allowsM, mS, mR, mA, mK, List.take_append_drop, b1, b2]
  simp
theorem begin_few {D : Dk} {m : Nat} (h : Few m D) {l : List Bs} (hu : usedM l ≤ capM D.sec.length) : Few (m + 2 * capM D.sec.length + 1) (beginM D l).2 := by
  unfold beginM bindE
  have f1 := storesM_few (baseM D.sec.length (nextR (curC (getM D)))) ((curC (getM D)).1 + 1) l D m 0 0 h
  split
  · have f2 := clearM_few (capM D.sec.length - usedM l) _ _ (baseM D.sec.length (nextR (curC (getM D))) + usedM l) f1
    try dsimp only
    split
    · have f3 := syncM_few f2
      try dsimp only
      split
      · have f4 := writeM_few f3 (((curC (getM D)).1 + 1) % 2) (hdrM ((curC (getM D)).1 + 1) (nextR (curC (getM D))))
        try dsimp only
        split
        · exact (syncM_few f4).mono (by omega)
        · exact f4.mono (by omega)
      · exact f3.mono (by omega)
    · exact f2.mono (by omega)
  · exact f1.mono (by omega)
/-- A new epoch on a disk that is on. -/
theorem WS.begin_ {N n : Nat} {D : Dk} {m : Md} (h : WS N n D m) (hn : n < 160) (ho : D.off = false) {st : Bs} {rs : List Bs} (huse : usedM (st :: rs) ≤ capM N) (hs : ∀ s ∈ st :: rs, s.length ≤ 65536) (J : Jn) (hJ : J.own = D.own ∧ J.broken = false) :
    (beginM D (st :: rs)).2.own = D.own ∧
    (((beginM D (st :: rs)).1 = 0 ∧ (D.fuse < 0 → (beginM D (st :: rs)).2.fuse < 0) ∧ WJ N (n + 1) (beginM D (st :: rs)).2 (begunJ D J st rs) (openedM st rs)) ∨
     ((beginM D (st :: rs)).1 = 70 ∧ (beginM D (st :: rs)).2.off = true ∧ 0 ≤ D.fuse ∧ ∀ m' : Md, (m.Sure = false → m'.Sure = false) → (∀ st rs, allowsM m st rs = true → allowsM m' st rs = true) → allowsM m' st rs = true → WS N (n + 1) (beginM D (st :: rs)).2 m')) := by
  have hlen := h.len
  have h8 := h.low
  have h2 := h.high
  have hcur := h.cur
  have hck := curC_ok (getM D)
  have hcap : capM N ≤ 99 := by unfold capM; omega
  have hb := begin_spec ho (by omega) (l := st :: rs) (by rw [hlen]; exact huse)
  have hf := begin_few h.few (l := st :: rs) (by rw [hlen]; exact huse)
  rw [hlen] at hf
  have hbl := hb.len
  rw [hlen] at hbl
  refine ⟨hb.own, ?_⟩
  have hch := fun c hc => begin_choice (by omega) (by omega) hb (by omega) (by rw [hlen]; exact huse) hs (h.heads ho) (c := c) hc
  rw [hlen] at hch
  rcases hb.res with ⟨r1, r2, r3, r4, r5⟩ | ⟨r1, r2, r3, _⟩
  · refine .inl ⟨r1, r3, ?_⟩
    have hl := begin_live hb r1 (by omega) (by rw [hlen]; exact huse) hs J
    have hown : 0 ≤ (beginM D (st :: rs)).2.own ∧ (beginM D (st :: rs)).2.own ≤ ((n + 1 : Nat) : Int) := by rw [hb.own]; have := h.own; omega
    have hep : (begunJ D J st rs).ep ≤ ((n + 1 : Nat) : Int) := by simp only [begunJ]; omega
    exact ⟨WS.of_live hl hbl h8 h2 hep (by omega) rfl (by simp [openedM, begunJ]) (by simp [openedM, begunJ]) rfl hown (hf.mono (by omega)), r2, hl, by simp only [begunJ]; rw [hb.own]; exact hJ.1, hJ.2, hep, rfl, by simp [openedM, begunJ], by simp [openedM, begunJ], rfl, rfl⟩
  · refine .inr ⟨r1, r2, r3, fun m' k1 k2 k3 => ⟨hbl, h8, h2, fun c hc => ?_, fun hoff => (by rw [r2] at hoff; cases hoff), by rw [hb.own]; have := h.own; omega, hf.mono (by omega), by omega⟩⟩
    rcases hch c hc with ⟨_, c0, q1, q2, q3⟩ | ⟨q1, q2⟩
    · have := h.good c0 q1
      exact ⟨good_eq q2 (good_mono this.1 k1 k2), by rw [q3]; omega⟩
    · exact ⟨good_some q1 k3, by rw [q2]; omega⟩
theorem WS.format {N n : Nat} {D : Dk} {m : Md} (h : WS N n D m) (hn : n + 1 < 160) :
    (formatM D).2.own = D.own + 1 ∧
    (((formatM D).1 = 0 ∧ D.off = false ∧ (formatM D).2.off = false ∧ (D.fuse < 0 → (formatM D).2.fuse < 0) ∧ WS N (n + 2) (formatM D).2 (openedM [] [])) ∨
     ((formatM D).1 = 70 ∧ (formatM D).2.off = true ∧ (D.off = true ∨ 0 ≤ D.fuse) ∧ WS N (n + 2) (formatM D).2 { m with Empty := true })) := by
  unfold formatM
  have hb := h.bump (by omega)
  have hbo := bump_own h
  by_cases ho : D.off = true
  · rw [if_pos ho]
    exact ⟨hbo, .inr ⟨rfl, ho, .inl ho, (hb.more (by omega) (by omega)).model (fun h => h) (allows_empty m)⟩⟩
  · rw [if_neg ho]
    have ho' : D.off = false := by simpa using ho
    have hc : 1 ≤ capM N := by have := h.low; unfold capM; omega
    obtain ⟨e1, e2⟩ := hb.begin_ (by omega) ho' (st := []) (rs := []) (by simpa [usedM, unitsM] using hc) (by simp) (newJ (bumpM D).own) ⟨rfl, rfl⟩
    refine ⟨e1.trans hbo, ?_⟩
    rcases e2 with ⟨a1, a2, a3⟩ | ⟨a1, a2, a3, a4⟩
    · exact .inl ⟨a1, ho', a3.on, a2, a3.ws⟩
    · exact .inr ⟨a1, a2, .inr a3, a4 _ (fun h => h) (allows_empty m) (by simp [allowsM])⟩
theorem WS.open_ {N n : Nat} {D : Dk} {m : Md} (h : WS N n D m) (hn : n + 1 < 160) :
    (openM D).2.1.own = D.own + 1 ∧
    ((∃ J, openM D = (0, (openM D).2.1, some J) ∧ D.off = false ∧ (D.fuse < 0 → (openM D).2.1.fuse < 0) ∧ allowsM m J.st J.recs = true ∧ parseC (getM D) N = some (J.st, J.recs) ∧ J.dur = J.recs.length ∧ WJ N (n + 2) (openM D).2.1 J (openedM J.st J.recs)) ∨
     (openM D = (71, (openM D).2.1, none) ∧ D.off = false ∧ m.Sure = false ∧ parseC (getM D) N = none ∧ (openM D).2.1.off = false ∧ (D.fuse < 0 → (openM D).2.1.fuse < 0) ∧ WS N (n + 2) (openM D).2.1 m) ∨
     (openM D = (70, (openM D).2.1, none) ∧ (openM D).2.1.off = true ∧ (D.off = true ∨ 0 ≤ D.fuse) ∧ WS N (n + 2) (openM D).2.1 m)) := by
  unfold openM
  have hb := h.bump (by omega)
  have hbo := bump_own h
  by_cases ho : D.off = true
  · rw [if_pos ho]
    exact ⟨hbo, .inr (.inr ⟨rfl, ho, .inl ho, hb.more (by omega) (by omega)⟩)⟩
  · rw [if_neg ho]
    have ho' : D.off = false := by simpa using ho
    have hg := (h.good _ (choice_lat D)).1
    unfold GoodM at hg
    rw [h.len]
    cases hp : parseC (getM D) N with
    | none =>
      rw [hp] at hg
      exact ⟨hbo, .inr (.inl ⟨rfl, ho', hg, rfl, ho', fun h => h, hb.more (by omega) (by omega)⟩)⟩
    | some x =>
      obtain ⟨st, rs⟩ := x
      rw [hp] at hg
      obtain ⟨f1, f2⟩ := parse_fits hp
      obtain ⟨e1, e2⟩ := hb.begin_ (by omega) ho' f1 f2 (newJ (bumpM D).own) ⟨rfl, rfl⟩
      rcases e2 with ⟨a1, a2, a3⟩ | ⟨a1, a2, a3, a4⟩
      · simp only [if_pos a1]
        exact ⟨e1.trans hbo, .inl ⟨_, rfl, ho', a2, hg, rfl, rfl, a3⟩⟩
      · simp only [if_neg (show ¬ (beginM (bumpM D) (st :: rs)).1 = 0 from by rw [a1]; decide)]
        exact ⟨e1.trans hbo, .inr (.inr ⟨by rw [a1], a2, .inr a3, a4 m (fun h => h) (fun _ _ h => h) hg⟩)⟩
theorem endsM_off (J : Jn) : endsM J 70 = { J with broken := true } := by unfold endsM; simp
theorem WJ.append {N n : Nat} {D : Dk} {J : Jn} {m : Md} (h : WJ N n D J m) (hn : n < 160) (s : Bs) :
    (1024 < s.length ∧ appendM D J s = (2, D, J)) ∨ (s.length ≤ 1024 ∧ capM N < J.used + unitsM s.length ∧ appendM D J s = (5, D, J)) ∨
    (s.length ≤ 1024 ∧ J.used + unitsM s.length ≤ capM N ∧ (appendM D J s).2.1.own = D.own ∧
      ((appendM D J s = (0, (appendM D J s).2.1, { J with recs := J.recs ++ [s], used := J.used + unitsM s.length }) ∧ (D.fuse < 0 → (appendM D J s).2.1.fuse < 0) ∧ WJ N (n + 1) (appendM D J s).2.1 { J with recs := J.recs ++ [s], used := J.used + unitsM s.length } (addedM m s)) ∨
       (appendM D J s = (70, (appendM D J s).2.1, { J with broken := true }) ∧ (appendM D J s).2.1.off = true ∧ 0 ≤ D.fuse ∧ WS N (n + 1) (appendM D J s).2.1 (addedM m s)))) := by
  have hlen := h.ws.len
  have h8 := h.ws.low
  have h2 := h.ws.high
  have hbd := h.jbd
  have hbud := h.ws.bud
  unfold appendM
  rw [h.ready, if_neg (by simp)]
  by_cases h1 : 1024 < s.length
  · rw [if_pos h1]; exact .inl ⟨h1, rfl⟩
  · rw [if_neg h1]
    by_cases h3 : capM D.sec.length < J.used + unitsM s.length
    · rw [if_pos h3]; rw [hlen] at h3; exact .inr (.inl ⟨by omega, h3, rfl⟩)
    · rw [if_neg h3]
      refine .inr (.inr ⟨by omega, by rw [← hlen]; omega, ?_⟩)
      obtain ⟨R, hR⟩ : ∃ R, storeM D ((baseM D.sec.length J.reg + J.used : Nat) : Int) J.ep ((J.recs.length + 1 : Nat) : Int) s = R := ⟨_, rfl⟩
      have hu30 : unitsM s.length ≤ 30 := by unfold unitsM; omega
      have hfew := storeM_few h.ws.few ((baseM D.sec.length J.reg + J.used : Nat) : Int) J.ep ((J.recs.length + 1 : Nat) : Int) s
      obtain ⟨q1, q2, q3⟩ := append_live h.live h.on (by omega) (by omega) (by have := hbd.ep; omega) (by omega) (by omega) hR
      rw [hR] at hfew ⊢
      rw [hlen] at q1 q3
      have hown : 0 ≤ R.2.own ∧ R.2.own ≤ ((n + 1 : Nat) : Int) := by rw [q2]; have := h.ws.own; omega
      have hd := h.live.dur
      rcases q3 with ⟨a1, a2, a3, a4⟩ | ⟨a1, a2, a3, a4⟩
      · rw [if_neg (by rw [a1]; simp)]
        refine ⟨q2, .inl ⟨rfl, a3, ?_⟩⟩
        have tk : (J.recs ++ [s]).take J.dur = J.recs.take J.dur := List.take_append_of_le_length hd
        have dr : (J.recs ++ [s]).drop J.dur = J.recs.drop J.dur ++ [s] := List.drop_append_of_le_length hd
        have hep : J.ep ≤ ((n + 1 : Nat) : Int) := by have := h.ep; omega
        exact ⟨WS.of_live a4 q1 h8 h2 hep (by omega) h.mS (by simp only [addedM]; rw [h.mR, tk]) (by simp only [addedM]; rw [h.mA, dr]) h.mK hown (hfew.mono (by omega)), a2, a4, by rw [q2]; exact h.same, h.whole, hep, h.mS, by simp only [addedM]; rw [h.mR, tk], by simp only [addedM]; rw [h.mA, dr], h.mK, h.mW⟩
      · rw [if_pos (by rw [a1]; decide), a1, endsM_off]
        refine ⟨q2, .inr ⟨rfl, a2, a3, ⟨q1, h8, h2, fun c hc => ?_, fun hoff => (by rw [a2] at hoff; cases hoff), hown, hfew.mono (by omega), by omega⟩⟩⟩
        obtain ⟨c1, k, k1, k2, k3⟩ := a4 c hc
        refine ⟨good_some k3 ?_, by rw [c1]; have := h.ep; simp only; omega⟩
        have tk : J.recs.take J.dur = ((J.recs ++ [s]).take k).take J.dur := by rw [List.take_take, Nat.min_eq_left k1]; exact (List.take_append_of_le_length hd).symm
        have b1 : beginsM ((J.recs ++ [s]).take k) (J.recs.take J.dur) = true := begins_iff.2 ⟨((J.recs ++ [s]).take k).drop J.dur, by rw [tk, List.take_append_drop]⟩
        have b2 : beginsM (J.recs ++ [s]) ((J.recs ++ [s]).take k) = true := begins_iff.2 ⟨(J.recs ++ [s]).drop k, (List.take_append_drop k _).symm⟩
        have e : J.recs.take J.dur ++ (J.recs.drop J.dur ++ [s]) = J.recs ++ [s] := by rw [← List.append_assoc, List.take_append_drop]
        simp only [allowsM, addedM, h.mS, h.mR, h.mA, h.mK, e, b1, b2]
        simp
theorem WJ.commit {N n : Nat} {D : Dk} {J : Jn} {m : Md} (h : WJ N n D J m) :
    (commitM D J).2.1.own = D.own ∧
    ((commitM D J = (0, (commitM D J).2.1, { J with dur := J.recs.length }) ∧ (D.fuse < 0 → (commitM D J).2.1.fuse < 0) ∧ WJ N n (commitM D J).2.1 { J with dur := J.recs.length } (openedM J.st J.recs)) ∨
     (commitM D J = (70, (commitM D J).2.1, { J with broken := true }) ∧ (commitM D J).2.1.off = true ∧ 0 ≤ D.fuse ∧ WS N n (commitM D J).2.1 m)) := by
  have hlen := h.ws.len
  unfold commitM
  rw [h.ready, if_neg (by simp)]
  obtain ⟨q1, q2, q3⟩ := commit_live h.live h.on
  have hfew := syncM_few h.ws.few
  have hown : 0 ≤ (syncM D).2.own ∧ (syncM D).2.own ≤ (n : Int) := by rw [q1]; exact h.ws.own
  rcases q3 with ⟨a1, a2, a3, a4⟩ | ⟨a1, a2, a3, a4⟩
  · rw [if_neg (by rw [a1]; simp)]
    refine ⟨q1, .inl ⟨rfl, a3, ?_⟩⟩
    exact ⟨WS.of_live a4 (q2.trans hlen) h.ws.low h.ws.high h.ep h.ws.bud rfl (by simp [openedM]) (by simp [openedM]) rfl hown hfew, a2, a4, by rw [q1]; exact h.same, h.whole, h.ep, rfl, by simp [openedM], by simp [openedM], rfl, rfl⟩
  · rw [if_pos (by rw [a1]; decide), a1, endsM_off]
    refine ⟨q1, .inr ⟨rfl, a2, a4, ⟨q2.trans hlen, h.ws.low, h.ws.high, fun c hc => ?_, fun hoff => (by rw [a2] at hoff; cases hoff), hown, hfew, h.ws.bud⟩⟩⟩
    refine h.ws.good c fun i hi => ?_
    have := hc i (by rw [a3]; exact hi)
    unfold poss at this ⊢
    rw [a3] at this
    exact this
theorem WJ.check {N n : Nat} {D : Dk} {J : Jn} {m : Md} (h : WJ N n D J m) (hn : n < 160) (s : Bs) :
    (65536 < s.length ∧ checkM D J s = (2, D, J)) ∨ (s.length ≤ 65536 ∧ capM N < unitsM s.length ∧ checkM D J s = (5, D, J)) ∨
    (s.length ≤ 65536 ∧ unitsM s.length ≤ capM N ∧ (checkM D J s).2.1.own = D.own ∧
      ((checkM D J s = (0, (checkM D J s).2.1, (checkM D J s).2.2) ∧ (D.fuse < 0 → (checkM D J s).2.1.fuse < 0) ∧ (checkM D J s).2.2.st = s ∧ (checkM D J s).2.2.recs = [] ∧ (checkM D J s).2.2.dur = 0 ∧ WJ N (n + 1) (checkM D J s).2.1 (checkM D J s).2.2 (openedM s [])) ∨
       (checkM D J s = (70, (checkM D J s).2.1, { J with broken := true }) ∧ (checkM D J s).2.1.off = true ∧ 0 ≤ D.fuse ∧ WS N (n + 1) (checkM D J s).2.1 { m with Swap := true, Next := s }))) := by
  have hlen := h.ws.len
  unfold checkM
  rw [h.ready, if_neg (by simp)]
  by_cases h1 : 65536 < s.length
  · rw [if_pos h1]; exact .inl ⟨h1, rfl⟩
  · rw [if_neg h1, hlen]
    by_cases h3 : capM N < unitsM s.length
    · rw [if_pos h3]; exact .inr (.inl ⟨by omega, h3, rfl⟩)
    · rw [if_neg h3]
      refine .inr (.inr ⟨by omega, by omega, ?_⟩)
      obtain ⟨e1, e2⟩ := h.ws.begin_ hn h.on (st := s) (rs := []) (by simp only [usedM]; omega) (fun x hx => by rw [List.mem_singleton.1 hx]; omega) J ⟨h.same, h.whole⟩
      refine ⟨e1, ?_⟩
      rcases e2 with ⟨a1, a2, a3⟩ | ⟨a1, a2, a3, a4⟩
      · have e : endsM (if (beginM D [s]).1 = 0 then begunJ D J s [] else J) (beginM D [s]).1 = begunJ D J s [] := by
          rw [if_pos a1, a1]
          unfold endsM
          simp
        rw [e]
        exact .inl ⟨by rw [a1], a2, rfl, rfl, rfl, a3⟩
      · have e : endsM (if (beginM D [s]).1 = 0 then begunJ D J s [] else J) (beginM D [s]).1 = { J with broken := true } := by
          rw [if_neg (by rw [a1]; decide), a1, endsM_off]
        rw [e]
        refine .inr ⟨by rw [a1], a2, a3, a4 _ (fun h => h) (fun st rs hh => ?_) (by simp [allowsM])⟩
        simp only [allowsM, h.mW, Bool.false_and, Bool.false_or] at hh
        simp only [allowsM, Bool.or_eq_true] at hh ⊢
        rcases hh with hh | hh
        · exact .inl (.inr hh)
        · exact .inr hh
/-- A new disk. -/
def noneM : Md := ⟨[], [], [], false, false, false, []⟩
theorem new_ws {N : Nat} (h8 : 8 ≤ N) (h2 : N ≤ 200) : WS N 0 (newM N) noneM := by
  have hlen : (newM N).sec.length = N := by simp [newM]
  have hp : ∀ j y, poss (newM N) j y → y = zeroB := by
    rintro j y ⟨s, h1, h2⟩
    have hs : s = zeroS := by
      simp only [newM] at h1
      exact (List.mem_replicate.1 (List.mem_of_getElem? h1)).2
    subst hs
    rcases h2 with rfl | h2
    · rfl
    · cases h2
  have hz : ∀ p, seeM zeroB p = p := fun p => by unfold seeM; rw [if_neg (by decide)]
  refine ⟨hlen, h8, h2, fun c hc => ?_, fun _ j hj y hy => ?_, ⟨Int.le_refl _, Int.le_refl _⟩, fun s hs => ?_, by decide⟩
  · have c0 := hp 0 _ (hc 0 (by omega))
    have c1 := hp 1 _ (hc 1 (by omega))
    have hcur : curC c = (0, 0) := by rw [curC_eq, c0, c1, hz, hz]
    have hpar : parseC c N = none := by unfold parseC; rw [hcur, if_pos rfl]
    exact ⟨by unfold GoodM; rw [hpar]; rfl, by rw [hcur]; decide⟩
  · rw [hp j y hy, hp j _ (poss_lat (by omega))]
  · simp only [newM] at hs
    rw [(List.mem_replicate.1 hs).2]
    exact Nat.zero_le _
/-- A disk without a fuse: Format and Open go through. -/
theorem fresh_ok {N : Nat} (h8 : 8 ≤ N) (h2 : N ≤ 200) : ∃ D1 D2 J, formatM (newM N) = (0, D1) ∧ openM D1 = (0, D2, some J) ∧ Bd (newM N) ∧ Bd D1 ∧ D2.fuse < 0 ∧ J.st = [] ∧ J.recs = [] ∧ J.dur = 0 ∧ J.used = 1 ∧ WJ N 4 D2 J (openedM [] []) := by
  have w0 := new_ws h8 h2
  obtain ⟨q1, q2⟩ := w0.format (by decide)
  have hf0 : (newM N).fuse < 0 := by show (-1 : Int) < 0; decide
  rcases q2 with ⟨a1, _, a3, a4, a5⟩ | ⟨_, _, a3, _⟩
  · obtain ⟨r1, r2⟩ := a5.open_ (by decide)
    have hf1 := a4 hf0
    rcases r2 with ⟨J, b1, b2, b3, b4, b5, b6, b7⟩ | ⟨_, _, b3, _⟩ | ⟨_, _, b3, _⟩
    · have hj : J.st = [] ∧ J.recs = [] := by
        simp only [allowsM, openedM, Bool.false_and, Bool.false_or, Bool.true_and, Bool.and_eq_true, beq_iff_eq, List.append_nil] at b4
        refine ⟨b4.1.1, ?_⟩
        obtain ⟨t, ht⟩ := begins_iff.1 b4.2
        have := (List.append_eq_nil_iff.1 ht.symm).1
        exact this
      have hu := b7.live.used
      rw [hj.1, hj.2] at hu b7
      exact ⟨_, _, J, by rw [← a1], b1, w0.bd, a5.bd, b3 hf1, hj.1, hj.2, by rw [b6, hj.2]; rfl, by rw [hu]; rfl, b7⟩
    · cases b3
    · rcases b3 with b3 | b3
      · rw [a3] at b3; cases b3
      · omega
  · rcases a3 with a3 | a3
    · cases a3
    · omega
end Go.Proofs.Ytkljfampkkfgdaa
