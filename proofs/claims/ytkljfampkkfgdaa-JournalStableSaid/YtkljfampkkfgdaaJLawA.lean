/- The journal layer: contents of blocks, what a crash may leave, what is read of it. -/
import Derived.Test.YtkljfampkkfgdaaJParse
namespace Go.Proofs.Ytkljfampkkfgdaa
/-- The contents that a block may have after a crash. -/
def poss (D : Dk) (i : Nat) (y : Bs) : Prop := ∃ s, D.sec[i]? = some s ∧ (y = s.dur ∨ y ∈ s.pend)
def Choice (D : Dk) (c : Nat → Bs) : Prop := ∀ i, i < D.sec.length → poss D i (c i)
theorem getM_at {D : Dk} {i : Nat} {s : Sec} (h : D.sec[i]? = some s) : getM D i = s.latest := by unfold getM; rw [List.getD_eq_getElem?_getD, h]; rfl
theorem latest_mem (s : Sec) : s.latest = s.dur ∨ s.latest ∈ s.pend := by
  unfold Sec.latest
  cases hp : s.pend with
  | nil => exact .inl rfl
  | cons a l =>
    right
    rw [List.getLastD_cons]
    cases l with
    | nil => simp
    | cons b l => rw [List.getLastD_eq_getLast?, List.getLast?_eq_some_getLast (by simp)]; simp
theorem poss_lat {D : Dk} {i : Nat} (h : i < D.sec.length) : poss D i (getM D i) := by
  have e := List.getElem?_eq_getElem h
  exact ⟨_, e, by rw [getM_at e]; exact latest_mem _⟩
theorem choice_lat (D : Dk) : Choice D (getM D) := fun _ h => poss_lat h
theorem poss_lt {D : Dk} {i : Nat} {y : Bs} (h : poss D i y) : i < D.sec.length := by
  obtain ⟨s, h, _⟩ := h
  exact (List.getElem?_eq_some_iff.1 h).1
theorem poss_same {D E : Dk} {i : Nat} {y : Bs} (h : E.sec[i]? = D.sec[i]?) : poss E i y ↔ poss D i y := by unfold poss; rw [h]
theorem getM_same {D E : Dk} {i : Nat} (h : E.sec[i]? = D.sec[i]?) : getM E i = getM D i := by unfold getM; rw [List.getD_eq_getElem?_getD, List.getD_eq_getElem?_getD, h]
theorem crashS_get (keep : List Int) : ∀ (l : List Sec) (c i : Nat) (s : Sec), l[i]? = some s → ∃ y, (crashS keep c l)[i]? = some ⟨y, []⟩ ∧ (y = s.dur ∨ y ∈ s.pend) := by
  intro l
  induction l with
  | nil => intro c i s h; simp at h
  | cons x l ih =>
    intro c i s h
    rw [crashS]
    cases i with
    | zero =>
      simp only [List.getElem?_cons_zero, Option.some.injEq] at h
      subst h
      split
      · rename_i hp
        refine ⟨x.dur, ?_, .inl rfl⟩
        simp only [List.getElem?_cons_zero]
        rw [← hp]
      · rename_i hp
        refine ⟨_, rfl, ?_⟩
        split
        · rename_i hk
          right
          have hm : keepM keep c x.pend.length ≤ x.pend.length := by unfold keepM; split <;> omega
          rw [List.getD_eq_getElem?_getD, List.getElem?_eq_getElem (by omega)]
          exact List.getElem_mem _
        · exact .inl rfl
    | succ i =>
      simp only [List.getElem?_cons_succ] at h
      split
      · simpa using ih c i s h
      · simpa using ih (c + 1) i s h
theorem crash_length (D : Dk) (keep : List Int) : (crashM D keep).sec.length = D.sec.length := crashS_length keep D.sec 0
theorem crash_clean {D : Dk} {keep : List Int} {i : Nat} {y : Bs} (h : poss (crashM D keep) i y) : y = getM (crashM D keep) i ∧ poss D i y := by
  have hi := poss_lt h
  rw [crash_length] at hi
  obtain ⟨s, h1, h2⟩ := h
  obtain ⟨z, h3, h4⟩ := crashS_get keep D.sec 0 i _ (List.getElem?_eq_getElem hi)
  have h5 : (crashM D keep).sec[i]? = some ⟨z, []⟩ := h3
  rw [h5] at h1
  cases h1
  rcases h2 with rfl | h2
  · exact ⟨by rw [getM_at h5]; rfl, _, List.getElem?_eq_getElem hi, h4⟩
  · cases h2
theorem crash_choice {D : Dk} {keep : List Int} : Choice D (getM (crashM D keep)) := fun i hi => by
  have := poss_lat (D := crashM D keep) (i := i) (by rw [crash_length]; exact hi)
  exact (crash_clean this).2
theorem crash_pend {D : Dk} {keep : List Int} : ∀ s ∈ (crashM D keep).sec, s.pend = [] := by
  intro s hs
  obtain ⟨i, hi, rfl⟩ := List.getElem_of_mem hs
  rw [crash_length] at hi
  obtain ⟨z, h3, h4⟩ := crashS_get keep D.sec 0 i _ (List.getElem?_eq_getElem hi)
  have h5 : (crashM D keep).sec[i]? = some ⟨z, []⟩ := h3
  rw [(List.getElem?_eq_some_iff.1 h5).2]
/-- What is read depends on the headers and one region. -/
theorem loadK_congr {g g' : Nat → Bs} {base cap : Nat} (e : Int) (a q : Nat) (h : ∀ j, j < cap → g (base + j) = g' (base + j)) : ∀ (f i : Nat) (t : Bs) (len : Int), loadK g base cap e a q f i t len = loadK g' base cap e a q f i t len := by
  intro f
  induction f with
  | zero => intro i t len; rfl
  | succ f ih =>
    intro i t len
    rw [loadK, loadK]
    by_cases hc : cap ≤ a + i
    · rw [if_pos hc, if_pos hc]
    · have := h (a + i) (by omega)
      rw [← Nat.add_assoc] at this
      rw [this, ih]
theorem loadC_congr {g g' : Nat → Bs} {base cap : Nat} (e : Int) (a q : Nat) (h : ∀ j, j < cap → g (base + j) = g' (base + j)) : loadC g base cap e a q = loadC g' base cap e a q := loadK_congr e a q h _ _ _ _
theorem recsK_congr {g g' : Nat → Bs} {base cap : Nat} (e : Int) (h : ∀ j, j < cap → g (base + j) = g' (base + j)) : ∀ (f a q : Nat), recsK g base cap e f a q = recsK g' base cap e f a q := by
  intro f
  induction f with
  | zero => intro a q; rfl
  | succ f ih =>
    intro a q
    rw [recsK, recsK, loadC_congr e a q h]
    split
    · rfl
    · rw [ih]
theorem curC_congr {g g' : Nat → Bs} (h0 : g 0 = g' 0) (h1 : g 1 = g' 1) : curC g = curC g' := by simp only [curC, curK, h0, h1]
theorem parse_congr {g g' : Nat → Bs} {N : Nat} (h0 : g 0 = g' 0) (h1 : g 1 = g' 1) (h : (curC g).1 ≠ 0 → ∀ j, j < capM N → g (baseM N (curC g).2 + j) = g' (baseM N (curC g).2 + j)) : parseC g N = parseC g' N := by
  unfold parseC
  rw [← curC_congr h0 h1]
  by_cases hc : (curC g).1 = 0
  · rw [if_pos hc, if_pos hc]
  · rw [if_neg hc, if_neg hc, loadC_congr _ _ _ (h hc)]
    split
    · rfl
    · rw [recsK_congr _ (h hc)]
/-- Numbers in blocks. -/
theorem numM_eight (n : Int) (h0 : 0 ≤ n) (h1 : n < 9223372036854775808) : numM (eightM n) = n := by
  unfold numM eightM
  have hb : ∀ x : Int, (((x % 256).toNat.toUInt8.toNat : Nat) : Int) = x % 256 := byte_of
  simp only [List.foldl_cons, List.foldl_nil, hb]
  have w : ∀ x : Int, 0 ≤ x → x < 9223372036854775808 → IntKind.i64.wrap x = x := fun x a b => IntWalk.i64_in _ (by omega)
  rw [w (0 * 256 + n / 2 ^ 56 % 256) (by omega) (by omega)]
  rw [w ((0 * 256 + n / 2 ^ 56 % 256) * 256 + n / 2 ^ 48 % 256) (by omega) (by omega)]
  rw [w (((0 * 256 + n / 2 ^ 56 % 256) * 256 + n / 2 ^ 48 % 256) * 256 + n / 2 ^ 40 % 256) (by omega) (by omega)]
  rw [w ((((0 * 256 + n / 2 ^ 56 % 256) * 256 + n / 2 ^ 48 % 256) * 256 + n / 2 ^ 40 % 256) * 256 + n / 2 ^ 32 % 256) (by omega) (by omega)]
  rw [w (((((0 * 256 + n / 2 ^ 56 % 256) * 256 + n / 2 ^ 48 % 256) * 256 + n / 2 ^ 40 % 256) * 256 + n / 2 ^ 32 % 256) * 256 + n / 2 ^ 24 % 256) (by omega) (by omega)]
  rw [w ((((((0 * 256 + n / 2 ^ 56 % 256) * 256 + n / 2 ^ 48 % 256) * 256 + n / 2 ^ 40 % 256) * 256 + n / 2 ^ 32 % 256) * 256 + n / 2 ^ 24 % 256) * 256 + n / 2 ^ 16 % 256) (by omega) (by omega)]
  rw [w (((((((0 * 256 + n / 2 ^ 56 % 256) * 256 + n / 2 ^ 48 % 256) * 256 + n / 2 ^ 40 % 256) * 256 + n / 2 ^ 32 % 256) * 256 + n / 2 ^ 24 % 256) * 256 + n / 2 ^ 16 % 256) * 256 + n / 2 ^ 8 % 256) (by omega) (by omega)]
  rw [w _ (by omega) (by omega)]
  omega
theorem unit_a (e q : Int) (i : Nat) (s : Bs) : (unitM e q i s).take 8 = eightM e := by simp [unitM, eightM]
theorem unit_b (e q : Int) (i : Nat) (s : Bs) : ((unitM e q i s).drop 8).take 8 = eightM (q * 65536 + i) := by simp [unitM, eightM]
theorem unit_c (e q : Int) (i : Nat) (s : Bs) : ((unitM e q i s).drop 16).take 8 = eightM s.length := by simp [unitM, eightM]
theorem unit_d (e q : Int) (i : Nat) (s : Bs) : ((unitM e q i s).drop 24).take (min 40 ((s.length : Int) - 40 * (i : Int)).toNat) = chunkM s i := by
  have h1 : (unitM e q i s).drop 24 = chunkM s i ++ List.replicate (40 - (chunkM s i).length) 0 := by simp [unitM, eightM]
  have h2 : (chunkM s i).length = min 40 ((s.length : Int) - 40 * (i : Int)).toNat := by simp [chunkM]; omega
  rw [h1, ← h2, List.take_left]
theorem zero_num : numM (zeroB.take 8) = 0 := by decide
theorem chunk_take (s : Bs) (i : Nat) : s.take (40 * i) ++ chunkM s i = s.take (40 * (i + 1)) := by
  unfold chunkM
  rw [show 40 * (i + 1) = 40 * i + 40 from by omega, List.take_add]
/-- A string whose units all lie there is read. -/
theorem loadK_all {g : Nat → Bs} {base cap : Nat} {e : Int} {a q : Nat} {s : Bs} (he : 1 ≤ e) (he2 : e < 9223372036854775808) (hq : q < 1000000) (hs : s.length ≤ 65536) (hfit : a + unitsM s.length ≤ cap) :
    ∀ (f i : Nat), unitsM s.length < f + i → i ≤ unitsM s.length → (∀ k, i ≤ k → k < unitsM s.length → g (base + a + k) = unitM e q k s) →
      loadK g base cap e a q f i (s.take (40 * i)) (if i = 0 then 0 else s.length) = some s := by
  intro f
  induction f with
  | zero => intro i h1 h2; omega
  | succ f ih =>
    intro i h1 h2 h
    rw [loadK]
    by_cases hi : i = unitsM s.length
    · have hlen : s.length ≤ 40 * i := by rw [hi]; unfold unitsM; omega
      have hpos := unitsM_pos s.length
      rw [if_neg (by rw [if_neg (by omega)]; omega), List.take_of_length_le hlen]
    · have hx := h i (Nat.le_refl _) (by omega)
      have hlt : i = 0 ∨ 40 * i < s.length := by unfold unitsM at h2 hi; omega
      rw [if_pos (show i = 0 ∨ (i : Int) * 40 < (if i = 0 then 0 else (s.length : Int)) from by by_cases h : i = 0; exact .inl h; right; rw [if_neg h]; omega), if_neg (by omega), hx, unit_a, unit_b, unit_c, numM_eight e (by omega) he2, if_pos rfl,
        numM_eight ((q : Int) * 65536 + i) (by omega) (by unfold unitsM at h2; omega), if_pos (by omega), numM_eight s.length (by omega) (by omega), unit_d, if_neg (by omega), if_neg (by omega), if_neg (by rintro ⟨p1, p2⟩; rw [if_neg (by omega)] at p2; exact p2 rfl), chunk_take]
      have := ih (i + 1) (by omega) (by omega) (fun k hk => h k (by omega))
      rw [if_neg (by omega)] at this
      exact this
theorem loadC_all {g : Nat → Bs} {base cap : Nat} {e : Int} {a q : Nat} {s : Bs} (he : 1 ≤ e) (he2 : e < 9223372036854775808) (hq : q < 1000000) (hs : s.length ≤ 65536) (hfit : a + unitsM s.length ≤ cap) (h : ∀ k, k < unitsM s.length → g (base + (a + k)) = unitM e q k s) :
    loadC g base cap e a q = some s := by
  have := loadK_all (g := g) (base := base) he he2 hq hs hfit (cap + 1) 0 (by omega) (Nat.zero_le _) fun k _ hk => by rw [Nat.add_assoc]; exact h k hk
  simpa [loadC] using this
/-- A string of which a unit is missing is not read. -/
theorem loadK_part {g : Nat → Bs} {base cap : Nat} {e : Int} {a q : Nat} {s : Bs} (he : 1 ≤ e) (he2 : e < 9223372036854775808) (hq : q < 1000000) (hs : s.length ≤ 65536) (hfit : a + unitsM s.length ≤ cap) :
    ∀ (f i : Nat), i ≤ unitsM s.length → (∀ k, i ≤ k → k < unitsM s.length → g (base + a + k) = unitM e q k s ∨ g (base + a + k) = zeroB) → (∃ k, i ≤ k ∧ k < unitsM s.length ∧ g (base + a + k) = zeroB) →
      loadK g base cap e a q f i (s.take (40 * i)) (if i = 0 then 0 else s.length) = none := by
  intro f
  induction f with
  | zero => intro i h1 h2; intros; rfl
  | succ f ih =>
    intro i h2 h ⟨k, hk1, hk2, hk3⟩
    rw [loadK]
    have hlt : i = 0 ∨ 40 * i < s.length := by
      have : i < unitsM s.length := by omega
      unfold unitsM at this; omega
    rw [if_pos (show i = 0 ∨ (i : Int) * 40 < (if i = 0 then 0 else (s.length : Int)) from by by_cases h : i = 0; exact .inl h; right; rw [if_neg h]; omega), if_neg (by omega)]
    have hz : g (base + a + i) = zeroB → (if numM ((g (base + a + i)).take 8) = e then (if numM (((g (base + a + i)).drop 8).take 8) = ((q * 65536 + i : Nat) : Int) then
          if numM (((g (base + a + i)).drop 16).take 8) < 0 then none
          else if 65536 < numM (((g (base + a + i)).drop 16).take 8) then none
          else if 0 < i ∧ numM (((g (base + a + i)).drop 16).take 8) ≠ (if i = 0 then 0 else (s.length : Int)) then none
          else loadK g base cap e a q f (i + 1) (s.take (40 * i) ++ ((g (base + a + i)).drop 24).take (min 40 (numM (((g (base + a + i)).drop 16).take 8) - 40 * (i : Int)).toNat)) (numM (((g (base + a + i)).drop 16).take 8))
        else none) else none) = none := fun hz => by rw [hz, zero_num, if_neg (by omega)]
    rcases h i (Nat.le_refl _) (by omega) with hx | hx
    · by_cases hki : k = i
      · subst hki
        exact hz hk3
      · rw [hx, unit_a, unit_b, unit_c, numM_eight e (by omega) he2, if_pos rfl,
          numM_eight ((q : Int) * 65536 + i) (by omega) (by unfold unitsM at h2; omega), if_pos (by omega), numM_eight s.length (by omega) (by omega), unit_d, if_neg (by omega), if_neg (by omega), if_neg (by rintro ⟨p1, p2⟩; rw [if_neg (by omega)] at p2; exact p2 rfl), chunk_take]
        have := ih (i + 1) (by omega) (fun k hk => h k (by omega)) ⟨k, by omega, hk2, hk3⟩
        rw [if_neg (by omega)] at this
        exact this
    · exact hz hx
theorem loadC_part {g : Nat → Bs} {base cap : Nat} {e : Int} {a q : Nat} {s : Bs} (he : 1 ≤ e) (he2 : e < 9223372036854775808) (hq : q < 1000000) (hs : s.length ≤ 65536) (hfit : a + unitsM s.length ≤ cap) (h : ∀ k, k < unitsM s.length → g (base + (a + k)) = unitM e q k s ∨ g (base + (a + k)) = zeroB)
    (hz : ∃ k, k < unitsM s.length ∧ g (base + (a + k)) = zeroB) : loadC g base cap e a q = none := by
  obtain ⟨k, hk, hz⟩ := hz
  have := loadK_part (g := g) (base := base) he he2 hq hs hfit (cap + 1) 0 (Nat.zero_le _) (fun k _ hk => by rw [Nat.add_assoc]; exact h k hk) ⟨k, Nat.zero_le _, hk, by rw [Nat.add_assoc]; exact hz⟩
  simpa [loadC] using this
/-- Nothing is read of an empty block, or behind the end. -/
theorem loadC_end {g : Nat → Bs} {base cap : Nat} {e : Int} {a q : Nat} (he : 1 ≤ e) (h : a < cap → g (base + a) = zeroB) : loadC g base cap e a q = none := by
  unfold loadC
  rw [loadK, if_pos (.inl rfl)]
  by_cases hc : cap ≤ a + 0
  · rw [if_pos hc]
  · rw [if_neg hc, Nat.add_zero, h (by omega), zero_num, if_neg (by omega)]
/-- Strings lie in consecutive units. -/
def Laid (P : Nat → Bs → Prop) (e : Int) : Nat → Nat → List Bs → Prop
  | _, _, [] => True
  | a, q, s :: l => (∀ k, k < unitsM s.length → P (a + k) (unitM e q k s)) ∧ Laid P e (a + unitsM s.length) (q + 1) l
theorem Laid.mono {P P' : Nat → Bs → Prop} {e : Int} {l : List Bs} : ∀ {a q : Nat}, Laid P e a q l → (∀ p x, a ≤ p → p < a + usedM l → P p x → P' p x) → Laid P' e a q l := by
  induction l with
  | nil => intro a q _ _; trivial
  | cons s l ih =>
    intro a q h hp
    refine ⟨fun k hk => hp _ _ (by omega) (by simp only [usedM]; omega) (h.1 k hk), ih h.2 fun p x h1 h2 => hp p x (by omega) (by simp only [usedM]; omega)⟩
theorem Laid.append {P : Nat → Bs → Prop} {e : Int} {l m : List Bs} : ∀ {a q : Nat}, Laid P e a q (l ++ m) ↔ Laid P e a q l ∧ Laid P e (a + usedM l) (q + l.length) m := by
  induction l with
  | nil => intro a q; simp [Laid, usedM]
  | cons s l ih =>
    intro a q
    simp only [List.cons_append, Laid, ih, usedM, List.length_cons]
    rw [show a + unitsM s.length + usedM l = a + (unitsM s.length + usedM l) from by omega, show q + 1 + l.length = q + (l.length + 1) from by omega, and_assoc]
/-- The records that are read are the first ones of those that were laid, and all that lie there whole ahead of a missing one. -/
theorem recs_live {g : Nat → Bs} {base cap : Nat} {e : Int} (he : 1 ≤ e) (he2 : e < 9223372036854775808) : ∀ (l : List Bs) (f a q : Nat), l.length < f → q + l.length ≤ 1000000 → (∀ s ∈ l, s.length ≤ 65536) → a + usedM l ≤ cap →
    Laid (fun p x => g (base + p) = x ∨ g (base + p) = zeroB) e a q l → (∀ p, a + usedM l ≤ p → p < cap → g (base + p) = zeroB) →
    ∃ k, k ≤ l.length ∧ recsK g base cap e f a q = l.take k ∧ ∀ m, m ≤ l.length → Laid (fun p x => g (base + p) = x) e a q (l.take m) → m ≤ k := by
  intro l
  induction l with
  | nil =>
    intro f a q hf _ _ _ _ hz
    refine ⟨0, Nat.le_refl _, ?_, fun m hm _ => hm⟩
    cases f with
    | zero => rfl
    | succ f => rw [recsK, loadC_end he fun h => hz a (by simp [usedM]) h]; rfl
  | cons s l ih =>
    intro f a q hf hq hs hfit hl hz
    simp only [usedM] at hfit hz
    simp only [List.length_cons] at hf hq
    cases f with
    | zero => omega
    | succ f =>
      rw [recsK]
      by_cases hall : ∀ k, k < unitsM s.length → g (base + (a + k)) = unitM e q k s
      · rw [loadC_all he he2 (by omega) (hs s (by simp)) (by omega) hall]
        obtain ⟨k, h1, h2, h3⟩ := ih f (a + unitsM s.length) (q + 1) (by omega) (by omega) (fun x hx => hs x (by simp [hx])) (by omega) hl.2 (fun p h1 h2 => hz p (by omega) h2)
        refine ⟨k + 1, by simp; omega, by simp only [h2, List.take_succ_cons], fun m hm hlm => ?_⟩
        cases m with
        | zero => omega
        | succ m =>
          rw [List.take_succ_cons] at hlm
          have := h3 m (by simp only [List.length_cons] at hm; omega) hlm.2
          omega
      · have hmiss : ∃ k, k < unitsM s.length ∧ g (base + (a + k)) = zeroB := by
          refine Classical.byContradiction fun hn => hall fun k hk => ?_
          rcases hl.1 k hk with h | h
          · exact h
          · exact absurd ⟨k, hk, h⟩ hn
        rw [loadC_part he he2 (by omega) (hs s (by simp)) (by omega) hl.1 hmiss]
        refine ⟨0, Nat.zero_le _, rfl, fun m hm hlm => ?_⟩
        cases m with
        | zero => exact Nat.le_refl _
        | succ m =>
          rw [List.take_succ_cons] at hlm
          exact absurd hlm.1 hall
/-- What is read of a region in which a state lies, and records, of which some are sure. -/
theorem parse_live {g : Nat → Bs} {N : Nat} {st : Bs} {l : List Bs} (he : 1 ≤ (curC g).1) (he2 : (curC g).1 < 9223372036854775808) (hs : ∀ s ∈ st :: l, s.length ≤ 65536) (hfit : usedM (st :: l) ≤ capM N) (hN : N ≤ 4096)
    (h0 : Laid (fun p x => g (baseM N (curC g).2 + p) = x) (curC g).1 0 0 [st]) (hl : Laid (fun p x => g (baseM N (curC g).2 + p) = x ∨ g (baseM N (curC g).2 + p) = zeroB) (curC g).1 (unitsM st.length) 1 l)
    (hz : ∀ p, usedM (st :: l) ≤ p → p < capM N → g (baseM N (curC g).2 + p) = zeroB) :
    ∃ k, k ≤ l.length ∧ parseC g N = some (st, l.take k) ∧ ∀ m, m ≤ l.length → Laid (fun p x => g (baseM N (curC g).2 + p) = x) (curC g).1 (unitsM st.length) 1 (l.take m) → m ≤ k := by
  have hcap : capM N ≤ 2047 := by unfold capM; omega
  simp only [usedM] at hfit hz
  have hul := usedM_len l
  have hup := unitsM_pos st.length
  obtain ⟨k, h1, h2, h3⟩ := recs_live (g := g) (base := baseM N (curC g).2) (cap := capM N) he he2 l (capM N + 1) (unitsM st.length) 1 (by omega) (by omega) (fun s h => hs s (by simp [h])) (by omega) hl fun p h1 h2 => hz p (by omega) h2
  refine ⟨k, h1, ?_, h3⟩
  unfold parseC
  rw [if_neg (by omega), loadC_all he he2 (by decide) (hs st (by simp)) (by omega) (fun k hk => h0.1 k hk)]
  simp only [h2]
end Go.Proofs.Ytkljfampkkfgdaa
