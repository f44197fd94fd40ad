/- The journal layer: steps of drawn regions that change known blocks; an append of one block. -/
import Derived.Test.YtkljfampkkfgdaaJRead
import Derived.Lib.BufferWrite
namespace Go.Proofs.Ytkljfampkkfgdaa
open Go.RowKit
section
variable {P : Program} {Q : Exit → Act → World → Prop} {T : List Tmp} {a0 : Act} {G : (Nat → Prop) → World → Prop} {l : List Cl}
/-- An operation that yields a value and changes the blocks F at most. -/
theorem stepF {ops : Array Oper} {k : Nat} {o : Oper} {t : Tmp} {c : Cl} {F : Nat → Prop} (hg : o.guard = none) (hd : o.dst = some t) (hT : t ∈ T) (hz : t < a0.tmps.size) (hc : l.filter (fun c => c.op == some k) = [c]) (hct : c.slot = t)
    (hso : slotsOk ops l k t = true) (St : ∀ c' ∈ l, c'.op = some k ∨ c'.used = some k ∨ (∀ u W W', c'.p u W → ButS F W W' → c'.p u W') ∨ (∀ d, Closed ops d → (∀ j, waits o j = true → d j) → gone d c'.used)) (SG : ∀ d d' W W', G d W → (∀ j, d j → d' j) → d' k → ButS F W W' → G d' W')
    (run : ∀ d a W, Fr T a0 a → G d W → Held d a W l → ¬ d k → Closed ops d → (∀ j, waits o j = true → d j) → ∃ v W', (execOp a.eval o).run P W = .ok (.value v) W' ∧ ButS F W W' ∧ c.p v W') :
    StepOk P Q ops (Inv T a0 G l) k o := by
  refine ⟨hg, fun d d' a W ⟨hF, hG, hH⟩ hn hcl hw hk hu hself => ?_⟩
  obtain ⟨v, W', hr, hb, hv⟩ := run d a W hF hG hH hn hcl hw
  refine wp_yields hr ?_
  rw [hd]
  refine ⟨hF.put hT v, SG _ _ _ _ hG hu hself hb, hH.put hc hct hso hcl hn hk hu hself (by rw [hF.size]; exact hz) (fun x hx h1 _ h3 u q => ?_) hv⟩
  rcases St x hx with e | e | e | e
  · exact (h1 e).elim
  · exact (h3 (by rw [e]; exact hself)).elim
  · exact e u W W' q hb
  · exact (h3 (gone_mono hu (e d hcl hw))).elim
/-- An operation that calls a function which changes the blocks F at most. -/
theorem stepFC {ops : Array Oper} {k : Nat} {o : Oper} {t : Tmp} {c : Cl} {F : Nat → Prop} (hg : o.guard = none) (hd : o.dst = some t) (hT : t ∈ T) (hz : t < a0.tmps.size) (hc : l.filter (fun c => c.op == some k) = [c]) (hct : c.slot = t)
    (hso : slotsOk ops l k t = true) (St : ∀ c' ∈ l, c'.op = some k ∨ c'.used = some k ∨ (∀ u W W', c'.p u W → ButS F W W' → c'.p u W') ∨ (∀ d, Closed ops d → (∀ j, waits o j = true → d j) → gone d c'.used)) (SG : ∀ d d' W W', G d W → (∀ j, d j → d' j) → d' k → ButS F W W' → G d' W')
    (run : ∀ d a W, Fr T a0 a → G d W → Held d a W l → ¬ d k → Closed ops d → (∀ j, waits o j = true → d j) → ∃ f args, (execOp a.eval o).run P W = .ok (.enter f args) W ∧ Calls P f args W fun e W' => ∃ v, e = .returned v ∧ ButS F W W' ∧ c.p v W') :
    StepOk P Q ops (Inv T a0 G l) k o := by
  refine ⟨hg, fun d d' a W ⟨hF, hG, hH⟩ hn hcl hw hk hu hself => ?_⟩
  obtain ⟨f, args, hr, hcall⟩ := run d a W hF hG hH hn hcl hw
  refine wp_enters hr hcall fun e W' ⟨v, he, hb, hv⟩ => ⟨v, he, ?_⟩
  rw [hd]
  refine ⟨hF.put hT v, SG _ _ _ _ hG hu hself hb, hH.put hc hct hso hcl hn hk hu hself (by rw [hF.size]; exact hz) (fun x hx h1 _ h3 u q => ?_) hv⟩
  rcases St x hx with e | e | e | e
  · exact (h1 e).elim
  · exact (h3 (by rw [e]; exact hself)).elim
  · exact e u W W' q hb
  · exact (h3 (gone_mono hu (e d hcl hw))).elim
end
theorem Below.next {w w0 w1 : World} (h : Below w.heap.size w w0) (hb : Below w0.heap.size w0 w1) : Below w.heap.size w w1 := Below.on h hb
/-- The block of a slice is old, or it is new. -/
def OldNew (w : World) (v v' : Value) : Prop := v'.ownBlock = v.ownBlock ∨ ∀ g, v'.ownBlock = some g → w.heap.size ≤ g
/-- An append of blocks onto a row. -/
theorem run_append_hs (w : World) (v : Value) (H : List Bs) (ty : TypeId) (x : Bs) (g2 c2 : Nat) (hO : OwnHs w 0 v H) (h2 : ∀ j u, (cellsB x)[j]? = some u → w.cell? ((⟨g2, 0, none⟩ : Addr).add j) = some u) (hx : x.length = 64) (h1 : H.length ≤ 1000000) :
    ∃ v' w', (Builtin.append_ #[96, 96] ty #[v, .slice (some ⟨g2, 0, none⟩) 1 c2]).run Try.prog w = .ok v' w' ∧ OwnHs w' 0 v' (H ++ [x]) ∧ ButS (fun i => v.ownBlock = some i) w w' ∧ OldNew w v v' := by
  obtain ⟨i0, hi0, hz0, hz1, hz2⟩ := info_parts infoHash
  have hl : (cellsB x).length = 64 := by rw [cellsB_length, hx]
  have hb64 : B64 (H ++ [x]) := hO.1.app (B64.one hx)
  have e1 : cellsH H ++ cellsB x = cellsH (H ++ [x]) := by rw [cellsH_append, cellsH_cons, cellsH_nil, List.append_nil]
  have e2 : (H ++ [x]).length = H.length + 1 := by simp
  rcases hO.2.2 with ⟨hv, hl0⟩ | ⟨g, cap, cur, hv, hbg, hg, hnc, hcm, hcs, htake⟩
  · subst hv
    have hO' : w.ownsRow w.heap.size 95 64 (.slice none 0 0) H.length (cellsH H) := ⟨hO.2.1, .inl ⟨rfl, hl0⟩⟩
    obtain ⟨v', w', hr, r1, r2, _⟩ := run_append_own (P := Try.prog) (w := w) w.heap.size 96 ty 95 i0 zero64 64 64 (by kernel_rfl) hi0 hz0 hz1 hz2 zero64_size (by decide) _ H.length (cellsH H) hO' ⟨g2, 0, none⟩ 1 c2 (cellsB x) hl h2 (cellsB_one x) (by unfold maxLen; omega) (by omega) (Nat.le_refl _)
    rw [e1] at r1
    refine ⟨v', w', hr, ⟨hb64, ?_⟩, ButS.grown r2 fun k hk => hk, .inr fun k hk => (World.ownsRow.lt r1 k hk).1⟩
    rw [e2]
    exact ⟨r1.1, by
      rcases r1.2 with h | ⟨g', cap', cur', q1, q2, q3⟩
      · exact .inl h
      · exact .inr ⟨g', cap', cur', q1, Nat.zero_le _, q3⟩⟩
  · by_cases hroom : H.length + 1 ≤ cap
    · have hfit : H.length * i0.size + (cellsB x).length ≤ cur.size := by rw [hl, hcs, hz1]; omega
      have hr := run_append_room (P := Try.prog) w 96 ty 95 i0 (by kernel_rfl) hi0 g H.length cap cur hg ⟨g2, 0, none⟩ 1 c2 (cellsB x) (by rw [hl, hz1]) h2 (cellsB_one x) hroom hfit
      subst hv
      refine ⟨_, _, hr, ⟨hb64, ?_⟩, ButS.setRow (F := fun i => (Value.slice (some { block := g, off := 0 }) H.length cap).ownBlock = some i) _ rfl _, .inl rfl⟩
      rw [e2]
      refine ⟨by rw [cellsH_length hb64, e2], .inr ⟨g, cap, _, rfl, Nat.zero_le _, setRow_heap w g cur _ 95 _ hg, hroom, hcm, ?_, ?_⟩⟩
      · rw [hz1] at hfit ⊢
        simp only [List.size_toArray, List.length_append, List.length_take, List.length_drop, Array.length_toList]
        omega
      · rw [hz1, htake, e1, show (H.length + 1) * 64 = (cellsH (H ++ [x])).length from by rw [cellsH_length hb64, e2]]
        exact List.take_left
    · have holds : ∀ j u, (cellsH H)[j]? = some u → w.cell? ((⟨g, 0, none⟩ : Addr).add j) = some u := World.ownsRow.cells hO.2 (g := g) (by rw [hv]; rfl)
      subst hv
      obtain ⟨v', w', hr, r1, r2⟩ := run_append_arg_grows (P := Try.prog) w 96 ty 95 i0 zero64 64 64 (by kernel_rfl) hi0 hz0 hz1 hz2 zero64_size (by decide) ⟨g, 0, none⟩ H.length cap (cellsH H) hO.2.1 holds ⟨g2, 0, none⟩ 1 c2 (cellsB x) hl h2 (by omega) (by unfold maxLen; omega) (by omega)
      rw [e1] at r1
      refine ⟨v', w', hr, ⟨hb64, ?_⟩, ButS.grown r2 (fun k hk => by cases hk), .inr fun k hk => (World.ownsRow.lt r1 k hk).1⟩
      rw [e2]
      exact ⟨r1.1, by
        rcases r1.2 with h | ⟨g', cap', cur', q1, q2, q3⟩
        · exact .inl h
        · exact .inr ⟨g', cap', cur', q1, Nat.zero_le _, q3⟩⟩
theorem exec_append_hs {ev : Operand → Value} {o : Oper} (s y : Operand) (ho : o.op = .call { callee := .builtin .append, args := #[s, y], argTypes := #[96, 96] }) (w : World) (v : Value) (H : List Bs) (x : Bs) (g2 c2 : Nat)
    (hs : ev s = v) (hy : ev y = .slice (some ⟨g2, 0, none⟩) 1 c2) (hO : OwnHs w 0 v H) (h2 : ∀ j u, (cellsB x)[j]? = some u → w.cell? ((⟨g2, 0, none⟩ : Addr).add j) = some u) (hx : x.length = 64) (h1 : H.length ≤ 1000000) (w0 : World) (hw0 : w0.heap.size ≤ w.heap.size) :
    ∃ v' w', (execOp ev o).run Try.prog w = .ok (.value v') w' ∧ ButS (fun i => v.ownBlock = some i) w w' ∧ (OwnHs w' 0 v' (H ++ [x]) ∧ OldNew w0 v v') := by
  obtain ⟨v', w', hr, h3, h4, h5⟩ := run_append_hs w v H o.type x g2 c2 hO h2 hx h1
  refine ⟨v', w', ?_, h4, h3, h5.imp id fun h g hg => Nat.le_trans hw0 (h g hg)⟩
  unfold execOp
  simp only [ho, resolve, invoke, builtin, Sem.run_bind, Sem.run_pure, Result.andThen_ok, List.map_toArray, List.map_cons, List.map_nil, hs, hy, hr]
/-- A row that one operation changes. -/
def GApp (w0 : World) (v : Value) (H : List Bs) (k : Nat) (d : Nat → Prop) (W : World) : Prop := ButS (fun i => v.ownBlock = some i) w0 W ∧ (¬ d k → OwnHs W 0 v H)
theorem GApp.next {w0 : World} {v : Value} {H : List Bs} {k : Nat} {d d' : Nat → Prop} {W W' : World} (h : GApp w0 v H k d W) (hm : ∀ j, d j → d' j) (hB : Below W.heap.size W W') : GApp w0 v H k d' W' :=
  ⟨h.1.next hB, fun hn => (h.2 fun hd => hn (hm _ hd)).kept fun g hg => hB.block g ((h.2 fun hd => hn (hm _ hd)).lt hg)⟩
theorem GApp.done {w0 : World} {v : Value} {H : List Bs} {k : Nat} {d d' : Nat → Prop} {W W' : World} (h : GApp w0 v H k d W) (_hm : ∀ j, d j → d' j) (hk : d' k) (hB : ButS (fun i => v.ownBlock = some i) W W') : GApp w0 v H k d' W' :=
  ⟨h.1.trans hB fun _ h => .inl h, fun hn => (hn hk).elim⟩
theorem GApp.box {w0 : World} {v : Value} {H : List Bs} {k : Nat} {d : Nat → Prop} {W : World} (h : GApp w0 v H k d W) {g : Nat} {t : TypeId} {kd : IntKind} {l : List Int} (x : BoxA w0 g t kd l) (hn : ¬ v.ownBlock = some g) : BoxA W g t kd l := (h.1.block g x.lt hn).trans x
/-- A store of one cell. -/
theorem exec_store1 {P : Program} {ev : Operand → Value} {o : Oper} {w : World} (ty : TypeId) (x y : Operand) (ho : o.op = .store ty x y) (b off : Nat) (v old : Value) (hx : ev x = .pointer (some ⟨b, off, none⟩)) (hy : ev y = v)
    (hc : w.cell? ⟨b, off, none⟩ = some old) (hf : w.frozen? ⟨b, off, none⟩ = false) (h1 : v.oneCell' = true) (hs : (P.info? ty).map (·.size) = some 1) : (execOp ev o).run P w = .ok .skip (w.setCell ⟨b, off, none⟩ v) := by
  have hv : v.cells = #[v] := by cases v <;> first | rfl | cases h1
  have hst := run_store P w ⟨b, off, none⟩ v .plain h1
  rw [hc] at hst
  simp only [hf] at hst
  cases hq : P.info? ty with
  | none => simp [hq] at hs
  | some i =>
    have hi : i.size = 1 := by simpa [hq] using hs
    have ha : (⟨b, off, none⟩ : Addr).add 0 = ⟨b, off, none⟩ := by simp [Addr.add]
    unfold execOp
    simp [ho, hx, hy, Instr.storeAt, Instr.sureAddr, storeVar, sizeOf, typeInfo, hq, hi, hv, storeCells, ha, hst]
theorem wp_store1 {P : Program} {o : Oper} {a : Act} {w : World} {K : Act → World → Prop} {Q : Exit → Act → World → Prop} (ty : TypeId) (x y : Operand) (ho : o.op = .store ty x y) (b off : Nat) (v old : Value) (hx : a.eval x = .pointer (some ⟨b, off, none⟩)) (hy : a.eval y = v)
    (hc : w.cell? ⟨b, off, none⟩ = some old) (hf : w.frozen? ⟨b, off, none⟩ = false) (h1 : v.oneCell' = true) (hs : (P.info? ty).map (·.size) = some 1) (H : K (a.put o.dst undef) (w.setCell ⟨b, off, none⟩ v)) : o.wp P a w K Q :=
  wp_skips (exec_store1 ty x y ho b off v old hx hy hc hf h1 hs) H
/-- A string is copied into an array. -/
theorem exec_copyB {ev : Operand → Value} {o : Oper} {w : World} (x y : Operand) (ho : o.op = .call { callee := .builtin .copy, args := #[x, y], argTypes := #[119, 9] }) (g off n c : Nat) (s : Bs) {t : TypeId} (l : List Int)
    (hx : ev x = .slice (some ⟨g, off, none⟩) n c) (hy : ev y = .string ⟨s.toArray⟩) (hg : BoxA w g t .u8 l) (hle : s.length ≤ n) (hfit : off + s.length ≤ l.length) :
    (execOp ev o).run Try.prog w = .ok (.value (.int .i64 s.length)) (w.setRow g (ints .u8 (l.take off ++ nums s ++ l.drop (off + s.length)))) := by
  have h := Lib.run_copy_row_string (P := Try.prog) w 119 9 o.type 5 g off n c ⟨s.toArray⟩ (ints .u8 l) t (by kernel_rfl) (by kernel_rfl) hg (by rw [bs_size]; exact hle) (by rw [bs_size, ints_size]; exact hfit)
  rw [bs_size] at h
  have e : ((ints .u8 l).toList.take off ++ Lib.byteCells (ByteArray.mk s.toArray).data.toList ++ (ints .u8 l).toList.drop (off + s.length)).toArray = ints .u8 (l.take off ++ nums s ++ l.drop (off + s.length)) := by
    simp [ints, nums, Lib.byteCells, Function.comp_def, List.map_take, List.map_drop]
  rw [e] at h
  unfold execOp
  simp only [ho, resolve, invoke, builtin, Sem.run_bind, Sem.run_pure, Result.andThen_ok, List.map_toArray, List.map_cons, List.map_nil, hx, hy, h]
  rfl
end Go.Proofs.Ytkljfampkkfgdaa
