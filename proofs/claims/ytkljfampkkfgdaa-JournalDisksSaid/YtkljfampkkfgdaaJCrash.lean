/- The journal layer: the walk over Crash. -/
import Derived.Test.YtkljfampkkfgdaaJNew
namespace Go.Proofs.Ytkljfampkkfgdaa
open Go.RowKit
/-- The numbers l lie at A. -/
def Ints (w : World) (A : Option Addr) (l : List Int) : Prop := l = [] ∨ ∃ a, A = some a ∧ ∀ i u, (l.map (Value.int .i64))[i]? = some u → w.cell? (a.add i) = some u
theorem Ints.next {w w' : World} {A : Option Addr} {l : List Int} (h : Ints w A l) (hB : Below w.heap.size w w') : Ints w' A l := by
  rcases h with h | ⟨a, e, h⟩
  · exact .inl h
  · exact .inr ⟨a, e, fun i u hu => cell_kept hB (h i u hu)⟩
theorem Ints.but {w w' : World} {A : Option Addr} {l : List Int} {F : Nat → Prop} (h : Ints w A l) (hB : ButS F w w') (hf : ∀ a, A = some a → ¬ F a.block) : Ints w' A l := by
  rcases h with h | ⟨a, e, h⟩
  · exact .inl h
  · refine .inr ⟨a, e, fun i u hu => hB.cell (h i u hu) ?_⟩
    have : (a.add i).block = a.block := by unfold Addr.add; split <;> rfl
    rw [this]; exact hf a e
theorem Ints.cell {w : World} {a : Addr} {l : List Int} (h : Ints w (some a) l) {i : Nat} (hi : i < l.length) : w.cell? (a.add i) = some (.int .i64 (l.getD i 0)) := by
  rcases h with h | ⟨a', e, h⟩
  · rw [h] at hi; simp at hi
  · cases e
    refine h i _ ?_
    rw [List.getElem?_map, List.getElem?_eq_getElem hi, List.getD_eq_getElem?_getD, List.getElem?_eq_getElem hi]; rfl
/-- How many sectors have pending writes. -/
def cntS (l : List Sec) : Nat := (l.filter fun s => !s.pend.isEmpty).length
theorem cntS_le (l : List Sec) : cntS l ≤ l.length := List.length_filter_le ..
theorem cntS_snoc (l : List Sec) (s : Sec) : cntS (l ++ [s]) = cntS l + if s.pend = [] then 0 else 1 := by
  unfold cntS
  rw [List.filter_append, List.length_append]
  congr 1
  by_cases h : s.pend = []
  · simp [h]
  · simp [h]
theorem crashS_append (keep : List Int) (l m : List Sec) : ∀ c, crashS keep c (l ++ m) = crashS keep c l ++ crashS keep (c + cntS l) m := by
  induction l with
  | nil => intro c; simp [crashS, cntS]
  | cons s l ih =>
    intro c
    by_cases h : s.pend = []
    · have e : cntS (s :: l) = cntS l := by simp [cntS, h]
      rw [List.cons_append, crashS, crashS, if_pos h, if_pos h, ih, e]; rfl
    · have e : cntS (s :: l) = 1 + cntS l := by simp [cntS, h]; omega
      rw [List.cons_append, crashS, crashS, if_neg h, if_neg h, ih, e, Nat.add_assoc]; rfl
theorem crashS_length (keep : List Int) : ∀ (l : List Sec) (c : Nat), (crashS keep c l).length = l.length
  | [], _ => rfl
  | s :: l, c => by
    unfold crashS
    split
    · simp [crashS_length keep l c]
    · simp [crashS_length keep l (c + 1)]
/-- What a crash makes of a sector. -/
def crash1 (keep : List Int) (c : Nat) (s : Sec) : Sec := if s.pend = [] then s else ⟨if 0 < keepM keep c s.pend.length then s.pend.getD (keepM keep c s.pend.length - 1) [] else s.dur, []⟩
theorem crashS_one (keep : List Int) (c : Nat) (s : Sec) : crashS keep c [s] = [crash1 keep c s] := by
  unfold crash1
  by_cases h : s.pend = []
  · rw [crashS, if_pos h, if_pos h]; rfl
  · rw [crashS, if_neg h, if_neg h]; rfl
/-- The first k sectors have lost power. -/
def crashK (keep : List Int) (l : List Sec) (k : Nat) : List Sec := crashS keep 0 (l.take k) ++ l.drop k
theorem crashK_length (keep : List Int) (l : List Sec) (k : Nat) : (crashK keep l k).length = l.length := by simp [crashK, crashS_length]; omega
theorem crashK_get {keep : List Int} {l : List Sec} {k : Nat} {s : Sec} (h : l[k]? = some s) : (crashK keep l k)[k]? = some s := by
  have hk : k < l.length := (List.getElem?_eq_some_iff.1 h).1
  unfold crashK
  rw [List.getElem?_append_right (by rw [crashS_length]; simp; omega), List.getElem?_drop, crashS_length, List.length_take, Nat.min_eq_left (by omega), Nat.sub_self, Nat.add_zero]; exact h
theorem crashK_succ {keep : List Int} {l : List Sec} {k : Nat} {s : Sec} (h : l[k]? = some s) : (crashK keep l k).set k (crash1 keep (cntS (l.take k)) s) = crashK keep l (k + 1) := by
  have hk : k < l.length := (List.getElem?_eq_some_iff.1 h).1
  have e : l[k] = s := (List.getElem?_eq_some_iff.1 h).2
  have hm : (crashS keep 0 (l.take k)).length = k := by rw [crashS_length]; simp; omega
  unfold crashK
  rw [List.set_append_right _ _ (by omega), hm, Nat.sub_self, List.drop_eq_getElem_cons hk, List.set_cons_zero, List.take_succ_eq_append_getElem hk, crashS_append, e, Nat.zero_add, crashS_one]
  simp
theorem crashK_all (keep : List Int) (l : List Sec) : crashK keep l l.length = crashS keep 0 l := by simp [crashK]
theorem cntS_take {l : List Sec} {k : Nat} {s : Sec} (h : l[k]? = some s) : cntS (l.take (k + 1)) = cntS (l.take k) + if s.pend = [] then 0 else 1 := by
  have hk : k < l.length := (List.getElem?_eq_some_iff.1 h).1
  have e : l[k] = s := (List.getElem?_eq_some_iff.1 h).2
  rw [List.take_succ_eq_append_getElem hk, e, cntS_snoc]
theorem keepM_le (keep : List Int) (c m : Nat) : keepM keep c m ≤ m := by unfold keepM; split <;> omega
theorem exec_rem {ev : Operand → Value} {o : Oper} {w : World} {p q : Operand} {t t' : TypeId} (ho : o.op = .binOp .rem t p q t') {x y : Nat} (hx : ev p = .int .i64 (x : Int)) (hy : ev q = .int .i64 (y : Int)) (h0 : 0 < y) (_h1 : y < 9223372036854775808) : (execOp ev o).run Try.prog w = .ok (.value (.int .i64 ((x % y : Nat) : Int))) w := by
  have e1 : ((x : Int).tmod (y : Int)) = ((x % y : Nat) : Int) := by rw [Int.tmod_eq_emod_of_nonneg (by omega)]; omega
  unfold execOp
  have e4 : y ≠ 0 := by omega
  have e5 : (eqGuard .rem t p q (Value.int IntKind.i64 (x : Int)) (Value.int IntKind.i64 (y : Int))).run Try.prog w = .ok () w := rfl
  simp [ho, hx, hy, binOp, Op.intDiv, e1, e4, e5]
theorem exec_max {ev : Operand → Value} {o : Oper} {w : World} (p q : Operand) (ho : o.op = .call { callee := .builtin .max, args := #[p, q], argTypes := #[3, 3] }) {x y : Int} (hx : ev p = .int .i64 x) (hy : ev q = .int .i64 y) : (execOp ev o).run Try.prog w = .ok (.value (.int .i64 (max x y))) w := by
  unfold execOp
  simp only [ho, resolve, invoke, builtin, Sem.run_bind, Sem.run_pure, Result.andThen_ok, List.map_toArray, List.map_cons, List.map_nil, hx, hy, run_max_int2]
  congr 3
  split <;> omega
theorem exec_min {ev : Operand → Value} {o : Oper} {w : World} (p q : Operand) (ho : o.op = .call { callee := .builtin .min, args := #[p, q], argTypes := #[3, 3] }) {x y : Int} (hx : ev p = .int .i64 x) (hy : ev q = .int .i64 y) : (execOp ev o).run Try.prog w = .ok (.value (.int .i64 (min x y))) w := by
  unfold execOp
  simp only [ho, resolve, invoke, builtin, Sem.run_bind, Sem.run_pure, Result.andThen_ok, List.map_toArray, List.map_cons, List.map_nil, hx, hy, run_min_int2]
  congr 3
  split <;> omega
theorem elemI : Try.prog.underlying 51 = some (.slice (Try.prog.elem 51)) := by kernel_rfl
theorem sizeI (W : World) : (sizeOf (Try.prog.elem 51)).run Try.prog W = .ok 1 W := by kernel_rfl
theorem exec_indexI {ev : Operand → Value} {o : Oper} {W : World} {x y : Operand} {a : Addr} {n c i : Nat} (ho : o.op = .indexAddr 51 x y) (hx : ev x = .slice (some a) n c) (hy : ev y = .int .i64 (i : Int)) (hi : i < n) :
    (execOp ev o).run Try.prog W = .ok (.value (.pointer (some (a.add i)))) W := by
  have h := run_indexAt_slice (P := Try.prog) W 51 a n c .i64 (i : Int) elemI
  rw [if_pos (by omega), sizeI, Int.toNat_natCast] at h
  simp [execOp, ho, hx, hy, h]
section
variable {W W' : World} {d b c : Nat} {vs : List Value} {D : Dk} {F : Nat → Prop}
/-- What a crash has done so far. -/
def CrashI (W : World) (dk b c : Nat) (vs : List Value) (D : Dk) (keep : List Int) (w : World) (k : Nat) : Prop :=
  ∃ vs', DiskB w dk b c vs' { D with sec := crashK keep D.sec k } ∧ (∀ v ∈ vs', v = .slice none 0 0 ∨ v ∈ vs) ∧ ButS (Fp dk b vs) W w
theorem CrashI.skip {dk : Nat} {keep : List Int} {w : World} {k : Nat} {s : Sec} (h : CrashI W dk b c vs D keep w k) (hs : D.sec[k]? = some s) (hp : s.pend = []) : CrashI W dk b c vs D keep w (k + 1) := by
  obtain ⟨vs', h1, h2, h3⟩ := h
  refine ⟨vs', ?_, h2, h3⟩
  have e := crashK_succ (keep := keep) hs
  have hg := crashK_get (keep := keep) hs
  have : crash1 keep (cntS (D.sec.take k)) s = s := by unfold crash1; rw [if_pos hp]
  rw [this] at e
  rw [← e, show (crashK keep D.sec k).set k s = crashK keep D.sec k from by
    refine List.ext_getElem? fun j => ?_
    rw [List.getElem?_set]
    by_cases q : k = j
    · subst q
      rw [if_pos rfl, hg]
      have := (List.getElem?_eq_some_iff.1 hg).1
      rw [if_pos this]
    · rw [if_neg q]]
  exact h1
theorem CrashI.next {dk : Nat} {keep : List Int} {w w' : World} {k : Nat} (h : CrashI W dk b c vs D keep w k) (hB : Below w.heap.size w w') : CrashI W dk b c vs D keep w' k := by
  obtain ⟨vs', h1, h2, h3⟩ := h
  exact ⟨vs', h1.next hB, h2, h3.next hB⟩
theorem CrashI.sec_ {dk : Nat} {keep : List Int} {w : World} {k : Nat} {s : Sec} (h : CrashI W dk b c vs D keep w k) (hs : D.sec[k]? = some s) :
    ∃ v, W.heap.size ≤ w.heap.size ∧ w.cell? ⟨dk, 0, none⟩ = some (.slice (some ⟨b, 0, none⟩) D.sec.length c) ∧ w.cell? ⟨b, k * 65 + 64, none⟩ = some v ∧ OwnHs w 0 v s.pend ∧ w.there b (k * 65) 64 ∧ (∀ o, w.frozen? ⟨b, o, none⟩ = false) ∧ s.dur.length = 64 := by
  obtain ⟨vs', hd, hvs, hbs⟩ := h
  have hk : k < D.sec.length := (List.getElem?_eq_some_iff.1 hs).1
  have hsk := crashK_get (keep := keep) hs
  obtain ⟨s', v, es, ev, r1, r2, r3, r4⟩ := hd.sec_ (i := k) (by simp only [crashK_length]; exact hk)
  simp only at es
  rw [hsk] at es
  cases es
  have c0 := hd.c0
  simp only [crashK_length] at c0
  exact ⟨v, hbs.size, c0, r2, r3, hd.there_ (by simp only [crashK_length]; exact hk), hd.free, r4⟩
theorem CrashI.step0 {dk : Nat} {keep : List Int} {w : World} {k : Nat} {s : Sec} (h : CrashI W dk b c vs D keep w k) (hs : D.sec[k]? = some s) (hc : crash1 keep (cntS (D.sec.take k)) s = ⟨s.dur, []⟩) :
    CrashI W dk b c vs D keep (w.setCell ⟨b, k * 65 + 64, none⟩ (.slice none 0 0)) (k + 1) := by
  obtain ⟨vs', hd, hvs, hbs⟩ := h
  have hk : k < D.sec.length := (List.getElem?_eq_some_iff.1 hs).1
  have hsk := crashK_get (keep := keep) hs
  obtain ⟨s', v, es, ev, -⟩ := hd.sec_ (i := k) (by simp only [crashK_length]; exact hk)
  have e := crashK_succ (keep := keep) hs
  rw [hc] at e
  have := hd.pended (i := k) hsk ev [] w (ButS.refl _ _) (OwnHs.none_ _ _) (.inr fun g e => by cases e)
  simp only [e] at this
  refine ⟨_, this, fun u hu => ?_, hbs.trans (ButS.setCell (F := fun i => i = b) _ (p := ⟨b, k * 65 + 64, none⟩) rfl _) fun _ e => .inl (.inr (.inl e))⟩
  rcases List.mem_or_eq_of_mem_set hu with m | rfl
  · exact hvs u m
  · exact .inl rfl
theorem CrashI.step1 {dk : Nat} {keep : List Int} {w : World} {k : Nat} {s : Sec} (h : CrashI W dk b c vs D keep w k) (hs : D.sec[k]? = some s) (x : Bs) (hx : x.length = 64) (hc : crash1 keep (cntS (D.sec.take k)) s = ⟨x, []⟩) :
    CrashI W dk b c vs D keep ((w.setCells b (k * 65) (cellsB x)).setCell ⟨b, k * 65 + 64, none⟩ (.slice none 0 0)) (k + 1) := by
  obtain ⟨vs', hd, hvs, hbs⟩ := h
  have hk : k < D.sec.length := (List.getElem?_eq_some_iff.1 hs).1
  have hsk := crashK_get (keep := keep) hs
  obtain ⟨s', v, es, ev, -⟩ := hd.sec_ (i := k) (by simp only [crashK_length]; exact hk)
  have e := crashK_succ (keep := keep) hs
  rw [hc] at e
  have := hd.flushed (i := k) hsk ev x hx
  simp only [e] at this
  have B4 := hbs.trans (ButS.setCells (F := fun i => i = b) b rfl (cellsB x) (k * 65) w) fun _ e => .inl (.inr (.inl e))
  refine ⟨_, this, fun u hu => ?_, B4.trans (ButS.setCell (F := fun i => i = b) _ (p := ⟨b, k * 65 + 64, none⟩) rfl _) fun _ e => .inl (.inr (.inl e))⟩
  rcases List.mem_or_eq_of_mem_set hu with m | rfl
  · exact hvs u m
  · exact .inl rfl
set_option maxRecDepth 100000 in
set_option maxHeartbeats 4000000 in
theorem dcrash_any {Wi : World} {dk : Nat} (h : DiskAt Wi dk D F) (A : Option Addr) (keep : List Int) (n c2 : Nat) (hn : keep.length = n) (hK : Ints Wi A keep) (hA : 0 < n → ∀ a, A = some a → ¬ F a.block) (hn1 : n ≤ 9223372036854775807) :
    Calls Try.prog 28 #[.pointer (some ⟨dk, 0, none⟩), .slice A n c2] Wi fun e w' => e = .returned (.int .i64 0) ∧ Mv Wi F dk w' (crashM D keep) := by
  have hu := dusable_any h
  obtain ⟨b, c, vs, h, rfl⟩ := h
  obtain ⟨N, hN⟩ : ∃ N, D.sec.length = N := ⟨_, rfl⟩
  have hN4 : N ≤ 4096 := by rw [← hN]; exact h.ok.few
  have c0 := h.c0
  rw [hN] at c0
  have start : CrashI Wi dk b c vs D keep Wi 0 := ⟨vs, by rw [show crashK keep D.sec 0 = D.sec from by simp [crashK, crashS]]; exact h, fun v h => .inr h, ButS.refl _ _⟩
  have H0 := Lib.hid h
  have HN := Lib.hid hN
  have START := Lib.hid start
  clear h start hN
  go_enter Try.func28, Try.ntmps28
  go_wp2_with (go_at_call 52; refine hu.mono ?_; rintro e w1 ⟨rfl, hw1⟩; obtain rfl := hw1.symm)
  clear c0 hu
  go_loopw [5, 6, 7, 8, 17] (fun ct _ _ _ i w => ∃ k : Nat, k ≤ N ∧ i = .int .i64 k ∧ ct = .int .i64 (cntS (D.sec.take k)) ∧ CrashI Wi dk b c vs D keep w k) (fun _ _ _ _ i _ => N - (intOf i).toNat)
  case atStart => exact ⟨0, by omega, rfl, rfl, START.out⟩
  case round =>
    obtain ⟨k, hk, rfl, rfl, hI⟩ := hrel
    by_cases hlt : k < N
    · have k1 : (k : Int) < N := by omega
      have k0 : 0 ≤ (k : Int) := by omega
      obtain ⟨s, hs⟩ : ∃ s, D.sec[k]? = some s := ⟨_, List.getElem?_eq_getElem (by rw [HN.out]; exact hlt)⟩
      have hct := cntS_take hs
      have hcl : cntS (D.sec.take k) ≤ 4096 := Nat.le_trans (cntS_le _) (by rw [List.length_take]; omega)
      generalize hcnt : cntS (D.sec.take k) = cnt at *
      obtain ⟨v, _, c0, r2, r3, r5, r6, r7⟩ := hI.sec_ hs
      rw [HN.out] at c0
      have hml := r3.few
      have hmx := maxLen_lt
      have h64 := r3.1
      obtain ⟨ap0, cp, rfl, hcp, hHs⟩ := r3.toHs
      have HLT := Lib.hid (show k + 1 ≤ N ∧ N - (k + 1) < N - k from by omega)
      by_cases hp : s.pend = []
      · have HSK := Lib.hid (hI.skip hs hp)
        rw [hp] at r2
        rw [if_pos hp, Nat.add_zero] at hct
        have HCT := Lib.hid hct
        clear r3 r5 r6 r7 hHs hct hI
        go_wp2_with (fail)
        exact ⟨⟨k + 1, HLT.out.1, by go_num, by rw [HCT.out]; rfl, HSK.out⟩, by have := HLT.out.2; simp [intOf]; omega⟩
      · rw [if_neg hp] at hct
        have hmp : 0 < s.pend.length := List.length_pos_iff.2 hp
        obtain ⟨ap, rfl⟩ : ∃ a, ap0 = some a := by
          rcases hHs.2 with h | ⟨a, e, _⟩
          · exact absurd h hp
          · exact ⟨a, e⟩
        have hc1 : crash1 keep cnt s = ⟨if 0 < keepM keep cnt s.pend.length then s.pend.getD (keepM keep cnt s.pend.length - 1) [] else s.dur, []⟩ := by unfold crash1; rw [if_neg hp]
        have hkl := keepM_le keep cnt s.pend.length
        obtain ⟨kk, hkk⟩ : ∃ kk, keepM keep cnt s.pend.length = kk := ⟨_, rfl⟩
        rw [hkk] at hc1 hkl
        have S0 : kk = 0 → Hid (∀ w', CrashI Wi dk b c vs D keep w' k → CrashI Wi dk b c vs D keep (w'.setCell ⟨b, k * 65 + 64, none⟩ (.slice none 0 0)) (k + 1)) := fun h0 w' hw => by
          refine hw.step0 hs ?_
          rw [hcnt, hc1, h0]; rfl
        have S1 : 0 < kk → Hid (∀ w', CrashI Wi dk b c vs D keep w' k → CrashI Wi dk b c vs D keep ((w'.setCells b (k * 65) (cellsB (s.pend.getD (kk - 1) []))).setCell ⟨b, k * 65 + 64, none⟩ (.slice none 0 0)) (k + 1)) := fun h0 w' hw => by
          refine hw.step1 hs _ ?_ ?_
          · rw [List.getD_eq_getElem?_getD, List.getElem?_eq_getElem (by omega)]
            exact h64 _ (List.getElem_mem _)
          · rw [hcnt, hc1, if_pos h0]
        generalize hm : s.pend.length = m at *
        have HI := Lib.hid hI
        have HCT := Lib.hid hct
        have HH := Lib.hid hHs
        have HP := Lib.hid h64
        have HM := Lib.hid hm
        have HTH := Lib.hid r5
        have p0 : ((m : Nat) : Int) ≠ 0 := by omega
        clear hI hct hHs h64 r3 hc1 r5 hm
        by_cases hn0 : n = 0
        · subst hn0
          obtain rfl : kk = 0 := by rw [← hkk]; unfold keepM; rw [if_pos (List.eq_nil_of_length_eq_zero hn)]
          have S := S0 rfl
          clear S0 S1
          go_wp2_with (fail)
          exact ⟨⟨k + 1, HLT.out.1, by go_num, by rw [HCT.out]; rfl, S.out _ HI.out⟩, by have := HLT.out.2; simp [intOf]; omega⟩
        · have hnp : ((n : Nat) : Int) > 0 := by omega
          obtain ⟨ka, rfl⟩ : ∃ a, A = some a := by
            rcases hK with h | ⟨a, e, _⟩
            · rw [h] at hn; exact absurd hn.symm hn0
            · exact ⟨a, e⟩
          have hrl : cnt % n < n := Nat.mod_lt _ (by omega)
          have hrem : (cnt : Int) % (n : Int) = ((cnt % n : Nat) : Int) := by omega
          have hn0' : (n : Int) ≠ 0 := by omega
          have hcnt0 : 0 ≤ (cnt : Int) := by omega
          obtain ⟨vs'', -, -, hbs⟩ := HI.out
          have ck := (hK.but hbs (hA (by omega))).cell (i := cnt % n) (by omega)
          obtain ⟨x, hx⟩ : ∃ x, keep.getD (cnt % n) 0 = x := ⟨_, rfl⟩
          rw [hx] at ck
          have hkx : (kk : Int) = min (max x 0) m := by
            rw [← hkk]; unfold keepM; rw [if_neg (fun e => by rw [e] at hn; exact hn0 hn.symm), hn, hx]; omega
          clear hbs vs'' hkk hx
          go_upto_region 11 with (fail)
          generalize hw0 : wr = w0 at *
          have cv := r2
          refine wp_name fun a0 ha0 => ?_
          have e1 : a0.eval (.tmp 1) = .slice (some ka) n c2 := by rw [ha0]; rfl
          have e5 : a0.eval (.tmp 5) = .int .i64 (cnt : Int) := by rw [ha0]; rfl
          have e7 : a0.eval (.tmp 7) = .pointer (some ⟨b, k * 65, none⟩) := by rw [ha0]; rfl
          have hz : a0.tmps.size = 81 := by rw [ha0]; rfl
          have HA0 := Lib.hid ha0
          clear ha0
          have SG : ∀ (d d' : Nat → Prop) (W W' : World), (fun (_ : Nat → Prop) (W : World) => Below w0.heap.size w0 W) d W → (∀ j, d j → d' j) → Below W.heap.size W W' → (fun (_ : Nat → Prop) (W : World) => Below w0.heap.size w0 W) d' W' := fun _ _ _ _ h _ b => Below.next h b
          have St : ∀ xc ∈ [(⟨some 0, 35, none, fun v _ => v = .slice (some ka) n c2⟩ : Cl), ⟨some 1, 36, none, fun v _ => v = .int .i64 (cnt : Int)⟩, ⟨some 2, 37, none, fun v _ => v = .slice (some ka) n c2⟩, ⟨some 3, 38, none, fun v _ => v = .int .i64 (n : Nat)⟩, ⟨some 4, 39, none, fun v _ => v = .int .i64 ((cnt % n : Nat) : Int)⟩, ⟨some 5, 40, none, fun v _ => v = .pointer (some (ka.add (cnt % n)))⟩, ⟨some 6, 41, none, fun v _ => v = .int .i64 x⟩, ⟨some 7, 42, none, fun v _ => v = .int .i64 (max x 0)⟩, ⟨some 8, 43, none, fun v _ => v = .pointer (some ⟨b, k * 65, none⟩)⟩, ⟨some 9, 44, none, fun v _ => v = .pointer (some ⟨b, k * 65, none⟩)⟩, ⟨some 10, 45, none, fun v _ => v = .pointer (some ⟨b, k * 65 + 64, none⟩)⟩, ⟨some 11, 46, none, fun v _ => v = .slice (some ap) m cp⟩, ⟨some 12, 47, none, fun v _ => v = .int .i64 (m : Nat)⟩, ⟨some 13, 48, none, fun v _ => v = .int .i64 (min (max x 0) m)⟩, ⟨some 14, 8, none, fun v _ => v = .int .i64 (min (max x 0) m)⟩], Lasts xc := AllC.mem ⟨lastsV0 _ _ _ _, lastsV0 _ _ _ _, lastsV0 _ _ _ _, lastsV0 _ _ _ _, lastsV0 _ _ _ _, lastsV0 _ _ _ _, lastsV0 _ _ _ _, lastsV0 _ _ _ _, lastsV0 _ _ _ _, lastsV0 _ _ _ _, lastsV0 _ _ _ _, lastsV0 _ _ _ _, lastsV0 _ _ _ _, lastsV0 _ _ _ _, lastsV0 _ _ _ _, trivial⟩
          refine wp_region_steps (Inv [35, 36, 37, 38, 39, 40, 41, 42, 43, 44, 45, 46, 47, 48, 8] a0 (fun (_ : Nat → Prop) (W : World) => Below w0.heap.size w0 W) (lst St)) (by kernel_rfl) (by kernel_rfl) (Inv.start (Below.refl _ _).drew ⟨nofun, nofun, nofun, nofun, nofun, nofun, nofun, nofun, nofun, nofun, nofun, nofun, nofun, nofun, nofun, trivial⟩) ?_ ?_
          · clear HA0
            refine ⟨?_, ?_, ?_, ?_, ?_, ?_, ?_, ?_, ?_, ?_, ?_, ?_, ?_, ?_, ?_, trivial⟩
            · refine stepB rfl rfl (by decide) (by rw [hz]; decide) rfl rfl (by kernel_rfl) St SG fun d a W hF hG hH hn hcl hw => ?_
              have q1 := (hF.same 1 (by decide)).trans e1
              exact ⟨.slice (some ka) n c2, W, by clear hF hG hH hn hcl hw; generalize a.eval = ρ at *; go_simp, Below.refl _ _, rfl⟩
            · refine stepB rfl rfl (by decide) (by rw [hz]; decide) rfl rfl (by kernel_rfl) St SG fun d a W hF hG hH hn hcl hw => ?_
              have q5 := (hF.same 5 (by decide)).trans e5
              exact ⟨.int .i64 (cnt : Int), W, by clear hF hG hH hn hcl hw; generalize a.eval = ρ at *; go_simp, Below.refl _ _, rfl⟩
            · refine stepB rfl rfl (by decide) (by rw [hz]; decide) rfl rfl (by kernel_rfl) St SG fun d a W hF hG hH hn hcl hw => ?_
              have q1 := (hF.same 1 (by decide)).trans e1
              exact ⟨.slice (some ka) n c2, W, by clear hF hG hH hn hcl hw; generalize a.eval = ρ at *; go_simp, Below.refl _ _, rfl⟩
            · refine stepB rfl rfl (by decide) (by rw [hz]; decide) rfl rfl (by kernel_rfl) St SG fun d a W hF hG hH hn hcl hw => ?_
              have q37 : a.eval (.tmp 37) = .slice (some ka) n c2 := hH.at_ (i := 2) rfl (hw 2 rfl) id
              exact ⟨.int .i64 (n : Nat), W, by clear hF hG hH hn hcl hw; generalize a.eval = ρ at *; go_simp, Below.refl _ _, rfl⟩
            · refine stepB rfl rfl (by decide) (by rw [hz]; decide) rfl rfl (by kernel_rfl) St SG fun d a W hF hG hH hn hcl hw => ?_
              have q36 : a.eval (.tmp 36) = .int .i64 (cnt : Int) := hH.at_ (i := 1) rfl (hw 1 rfl) id
              have q38 : a.eval (.tmp 38) = .int .i64 (n : Nat) := hH.at_ (i := 3) rfl (hw 3 rfl) id
              refine ⟨.int .i64 ((cnt % n : Nat) : Int), W, ?_, Below.refl _ _, ?_⟩
              · exact exec_rem rfl q36 q38 (by omega) (by omega)
              · rfl
            · refine stepB rfl rfl (by decide) (by rw [hz]; decide) rfl rfl (by kernel_rfl) St SG fun d a W hF hG hH hn hcl hw => ?_
              have q35 : a.eval (.tmp 35) = .slice (some ka) n c2 := hH.at_ (i := 0) rfl (hw 0 rfl) id
              have q39 : a.eval (.tmp 39) = .int .i64 ((cnt % n : Nat) : Int) := hH.at_ (i := 4) rfl (hw 4 rfl) id
              refine ⟨.pointer (some (ka.add (cnt % n))), W, ?_, Below.refl _ _, ?_⟩
              · exact exec_indexI rfl q35 q39 hrl
              · rfl
            · refine stepB rfl rfl (by decide) (by rw [hz]; decide) rfl rfl (by kernel_rfl) St SG fun d a W hF hG hH hn hcl hw => ?_
              have q40 : a.eval (.tmp 40) = .pointer (some (ka.add (cnt % n))) := hH.at_ (i := 5) rfl (hw 5 rfl) id
              have cc := cell_kept hG ck
              exact ⟨.int .i64 x, W, by clear hF hG hH hn hcl hw; generalize a.eval = ρ at *; go_simp, Below.refl _ _, rfl⟩
            · refine stepB rfl rfl (by decide) (by rw [hz]; decide) rfl rfl (by kernel_rfl) St SG fun d a W hF hG hH hn hcl hw => ?_
              have q41 : a.eval (.tmp 41) = .int .i64 x := hH.at_ (i := 6) rfl (hw 6 rfl) id
              have qc0 : a.eval (.const (.int .i64 0)) = .int .i64 0 := rfl
              refine ⟨.int .i64 (max x 0), W, ?_, Below.refl _ _, ?_⟩
              · exact exec_max (.tmp 41) _ rfl q41 rfl
              · rfl
            · refine stepB rfl rfl (by decide) (by rw [hz]; decide) rfl rfl (by kernel_rfl) St SG fun d a W hF hG hH hn hcl hw => ?_
              have q7 := (hF.same 7 (by decide)).trans e7
              exact ⟨.pointer (some ⟨b, k * 65, none⟩), W, by clear hF hG hH hn hcl hw; generalize a.eval = ρ at *; go_simp, Below.refl _ _, rfl⟩
            · refine stepB rfl rfl (by decide) (by rw [hz]; decide) rfl rfl (by kernel_rfl) St SG fun d a W hF hG hH hn hcl hw => ?_
              have q43 : a.eval (.tmp 43) = .pointer (some ⟨b, k * 65, none⟩) := hH.at_ (i := 8) rfl (hw 8 rfl) id
              exact ⟨.pointer (some ⟨b, k * 65, none⟩), W, by clear hF hG hH hn hcl hw; generalize a.eval = ρ at *; go_simp, Below.refl _ _, rfl⟩
            · refine stepB rfl rfl (by decide) (by rw [hz]; decide) rfl rfl (by kernel_rfl) St SG fun d a W hF hG hH hn hcl hw => ?_
              have q44 : a.eval (.tmp 44) = .pointer (some ⟨b, k * 65, none⟩) := hH.at_ (i := 9) rfl (hw 9 rfl) id
              exact ⟨.pointer (some ⟨b, k * 65 + 64, none⟩), W, by clear hF hG hH hn hcl hw; generalize a.eval = ρ at *; go_simp, Below.refl _ _, rfl⟩
            · refine stepB rfl rfl (by decide) (by rw [hz]; decide) rfl rfl (by kernel_rfl) St SG fun d a W hF hG hH hn hcl hw => ?_
              have q45 : a.eval (.tmp 45) = .pointer (some ⟨b, k * 65 + 64, none⟩) := hH.at_ (i := 10) rfl (hw 10 rfl) id
              have cc := cell_kept hG cv
              exact ⟨.slice (some ap) m cp, W, by clear hF hG hH hn hcl hw; generalize a.eval = ρ at *; go_simp, Below.refl _ _, rfl⟩
            · refine stepB rfl rfl (by decide) (by rw [hz]; decide) rfl rfl (by kernel_rfl) St SG fun d a W hF hG hH hn hcl hw => ?_
              have q46 : a.eval (.tmp 46) = .slice (some ap) m cp := hH.at_ (i := 11) rfl (hw 11 rfl) id
              exact ⟨.int .i64 (m : Nat), W, by clear hF hG hH hn hcl hw; generalize a.eval = ρ at *; go_simp, Below.refl _ _, rfl⟩
            · refine stepB rfl rfl (by decide) (by rw [hz]; decide) rfl rfl (by kernel_rfl) St SG fun d a W hF hG hH hn hcl hw => ?_
              have q42 : a.eval (.tmp 42) = .int .i64 (max x 0) := hH.at_ (i := 7) rfl (hw 7 rfl) id
              have q47 : a.eval (.tmp 47) = .int .i64 (m : Nat) := hH.at_ (i := 12) rfl (hw 12 rfl) id
              refine ⟨.int .i64 (min (max x 0) m), W, ?_, Below.refl _ _, ?_⟩
              · exact exec_min (.tmp 42) (.tmp 47) rfl q42 q47
              · rfl
            · refine stepB rfl rfl (by decide) (by rw [hz]; decide) rfl rfl (by kernel_rfl) St SG fun d a W hF hG hH hn hcl hw => ?_
              have q48 : a.eval (.tmp 48) = .int .i64 (min (max x 0) m) := hH.at_ (i := 13) rfl (hw 13 rfl) id
              exact ⟨.int .i64 (min (max x 0) m), W, by clear hF hG hH hn hcl hw; generalize a.eval = ρ at *; go_simp, Below.refl _ _, rfl⟩
          · intro d a W ⟨hF, hB, hH⟩ hall
            have k8 : a.eval (.tmp 8) = .int .i64 (min (max x 0) m) := hH.at_ (i := 14) rfl (hall 14 (by decide)) id
            clear hH hall
            rw [hF.shape (by rw [hz]; decide)]
            clear hF
            simp only [List.foldl]
            generalize a.eval (.tmp 35) = z35, a.eval (.tmp 36) = z36, a.eval (.tmp 37) = z37, a.eval (.tmp 38) = z38, a.eval (.tmp 39) = z39, a.eval (.tmp 40) = z40, a.eval (.tmp 41) = z41, a.eval (.tmp 42) = z42, a.eval (.tmp 43) = z43, a.eval (.tmp 44) = z44, a.eval (.tmp 45) = z45, a.eval (.tmp 46) = z46, a.eval (.tmp 47) = z47, a.eval (.tmp 48) = z48, a.eval (.tmp 8) = z8 at *
            subst k8
            rw [HA0.out]
            simp only [Act.put, List.setIfInBounds_toArray, List.set_cons_zero, List.set_cons_succ]
            clear hz HA0 St SG e1 e5 e7
            clear a a0
            rw [← hkx]
            have HI2 := HI.out.next hB
            obtain ⟨-, -, -, -, -, d5, d6, -⟩ := HI2.sec_ hs
            have d2 := cell_kept hB r2
            have hs2 := HH.out.next hB
            have HI3 := Lib.hid HI2
            have HS2 := Lib.hid hs2
            have HTH := Lib.hid d5
            clear HI HH HI2 hs2 hkx ck cv r2 r6 hB d5
            generalize W = w1 at *
            clear d
            by_cases h0 : kk = 0
            · have S := S0 h0
              subst h0
              clear S0 S1
              go_wp2_with (fail)
              exact ⟨⟨k + 1, HLT.out.1, by go_num, by rw [HCT.out]; rfl, S.out _ HI3.out⟩, by have := HLT.out.2; simp [intOf]; omega⟩
            · have S := S1 (Nat.pos_of_ne_zero h0)
              clear S0 S1
              have kp : (kk : Int) > 0 := by omega
              have hge : s.pend.getD (kk - 1) [] = s.pend[kk - 1]'(by have := HM.out; omega) := by rw [List.getD_eq_getElem?_getD, List.getElem?_eq_getElem (by have := HM.out; omega)]; rfl
              have hld := HS2.out.load (i := kk - 1) (by have := HM.out; omega) 95 64 5 (by kernel_rfl) szHash
              have hy64 := HP.out _ (List.getElem_mem (show kk - 1 < s.pend.length from by have := HM.out; omega))
              rw [← hge] at hld hy64
              clear hge
              generalize s.pend.getD (kk - 1) [] = y at *
              have hl0 : (cellsB y).length = 64 := by rw [cellsB_length, hy64]
              have m1 : IntKind.i64.wrap ((kk : Int) - 1) = ((kk - 1 : Nat) : Int) := by rw [IntWalk.i64_in _ (by omega)]; omega
              have p2 : ((kk - 1 : Nat) : Int) < (m : Nat) := by omega
              have p3 : 0 ≤ ((kk - 1 : Nat) : Int) := by omega
              generalize kk - 1 = q at *
              have HLD := Lib.hid hld
              clear hld
              go_wp2_with (first
                | (refine wpList_load_at rfl 95 (.tmp 58) rfl (hashV y) (by exact HLD.out) ?_)
                | (refine wpList_store_mid rfl 95 (.tmp 61) (.tmp 59) rfl b (k * 65) (cellsB y).toArray rfl rfl (by rw [List.size_toArray, hl0]; exact HTH.out) (by rw [List.size_toArray, hl0]; exact szHash) (all_oneCell_toArray (cellsB_one _)) ?_
                   rw [List.toList_toArray]
                   have hcc := (World.cell?_setCells_out b (cellsB y) (k * 65) w1 ⟨b, k * 65 + 64, none⟩ (fun _ _ => .inr (by rw [hl0]; exact Nat.le_refl _))).trans d2
                   have hff := (World.frozen?_setCells b (cellsB y) (k * 65) w1 ⟨b, k * 65 + 64, none⟩).trans (d6 _)
                   have SS := Lib.hid (S.out _ HI3.out)
                   generalize hw4 : World.setCells w1 b (k * 65) (cellsB y) = w4 at *
                   clear hw4))
              exact ⟨⟨k + 1, HLT.out.1, by go_num, by rw [HCT.out]; rfl, SS.out⟩, by have := HLT.out.2; simp [intOf]; omega⟩
    · obtain rfl : k = N := by omega
      clear START
      obtain ⟨vs', hd, hvs, hbs⟩ := hI
      have c1 := hd.c1
      have c2' := hd.c2
      have c3 := hd.c3
      have f1 := hd.f 1
      have f2 := hd.f 2
      have f3 := hd.f 3
      simp only at c1 c2' c3
      have hfin := ((hd.setOff false).setFuse (-1) (by omega) (by omega)).setOwn (IntKind.i64.wrap (D.own + 1))
      have HFIN := Lib.hid hfin
      have HBS := Lib.hid hbs
      clear hd hbs hfin
      go_wp2_with (fail)
      go_ret
      have hd := HFIN.out
      simp only [← HN.out, crashK_all] at hd
      rw [IntWalk.i64_left] at hd
      have EC : ({ sec := crashS keep 0 D.sec, off := false, fuse := -1, own := wrap64 (D.own + 1) } : Dk) = crashM D keep := by unfold crashM; rw [IntWalk.i64_left]
      rw [EC] at hd
      refine ⟨rfl, H0.out.mv hd (((HBS.out.trans (ButS.setCell (F := fun i => i = dk) _ (p := ⟨dk, 1, none⟩) rfl _) fun _ e => .inl (.inl e)).trans (ButS.setCell (F := fun i => i = dk) _ (p := ⟨dk, 2, none⟩) rfl _) fun _ e => .inl (.inl e)).trans (ButS.setCell (F := fun i => i = dk) _ (p := ⟨dk, 3, none⟩) rfl _) fun _ e => .inl (.inl e)) fun j hj => ?_⟩
      rcases hj with e | e | ⟨u, hu, e⟩
      · exact .inl (.inl e)
      · exact .inl (.inr (.inl e))
      · rcases hvs u hu with rfl | m
        · cases e
        · exact .inl (.inr (.inr ⟨u, m, e⟩))
end
end Go.Proofs.Ytkljfampkkfgdaa
