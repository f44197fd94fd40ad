/- The journal layer: slices.Clone of rows of strings, blocks, sectors. -/
import Derived.Test.YtkljfampkkfgdaaJCrash
namespace Go.Proofs.Ytkljfampkkfgdaa
open Go.RowKit
/-- append([]E{}, xs...): a new row. -/
theorem exec_clone {P : Program} {ev : Operand → Value} {o : Oper} (w0 : World) (s x : Operand) (t : TypeId) (ho : o.op = .call { callee := .builtin .append, args := #[s, x], argTypes := #[t, t] }) (e : TypeId) (i : TypeInfo) (z : Value) (size bytes : Nat)
    (ht : P.underlying t = some (.slice e)) (hi : P.info? e = some i) (hz : i.zero = some z) (hsize : i.size = size) (hby : i.bytes = bytes) (hzs : z.cells.size = size) (hsz : 0 < size)
    (hs : ev s = .slice (some ⟨w0.heap.size, 0, none⟩) 0 0) (a : Addr) (m c : Nat) (news : List Value) (hx : ev x = .slice (some a) m c) (hl : news.length = m * size) (hnews : ∀ j u, news[j]? = some u → w0.cell? (a.add j) = some u) (h1 : ∀ u ∈ news, u.oneCell' = true)
    (h63 : m ≤ maxLen) (hbytes : m * bytes ≤ 140737488355328) :
    ∃ v' w', (execOp ev o).run P (w0.alloc (.cells #[] e)) = .ok (.value v') w' ∧ w'.ownsRow w0.heap.size e size v' m news ∧ Below w0.heap.size w0 w' ∧ v' ≠ .slice none 0 0 := by
  have hown : (w0.alloc (.cells #[] e)).ownsRow w0.heap.size e size (.slice (some ⟨w0.heap.size, 0, none⟩) 0 0) 0 [] :=
    ⟨by simp, .inr ⟨w0.heap.size, 0, #[], rfl, Nat.le_refl _, heap_alloc_new w0 _, Nat.le_refl _, Nat.zero_le _, by simp, by simp⟩⟩
  obtain ⟨v', w', hr, r1, r2, r3⟩ := run_append_own (P := P) (w := w0.alloc (.cells #[] e)) w0.heap.size t o.type e i z size bytes ht hi hz hsize hby hzs hsz _ 0 [] hown a m c news hl (fun j u hu => cell_kept (Below.new1 _ _) (hnews j u hu)) h1 (by omega) (by rw [Nat.zero_add]; exact hbytes) (by simp)
  rw [Nat.zero_add, List.nil_append] at r1
  refine ⟨v', w', ?_, r1, (Below.new1 w0 _).grown r2 (by simp) (fun k hk => by simp [Value.ownBlock] at hk; omega), fun h => by have := (r3.1 h).1; cases this⟩
  unfold execOp
  simp only [ho, resolve, invoke, builtin, Sem.run_bind, Sem.run_pure, Result.andThen_ok, List.map_toArray, List.map_cons, List.map_nil, hs, hx, hr]
theorem wpList_clone {P : Program} {ops : Array Oper} {rest : List Oper} {o : Oper} {ac : Act} {Q : Exit → Act → World → Prop} (w0 : World) (hg : o.guard = none) (s x : Operand) (t : TypeId) (ho : o.op = .call { callee := .builtin .append, args := #[s, x], argTypes := #[t, t] }) (e : TypeId) (i : TypeInfo) (z : Value) (size bytes : Nat)
    (ht : P.underlying t = some (.slice e)) (hi : P.info? e = some i) (hz : i.zero = some z) (hsize : i.size = size) (hby : i.bytes = bytes) (hzs : z.cells.size = size) (hsz : 0 < size)
    (hs : ac.eval s = .slice (some ⟨w0.heap.size, 0, none⟩) 0 0) (a : Addr) (m c : Nat) (news : List Value) (hx : ac.eval x = .slice (some a) m c) (hl : news.length = m * size) (hnews : ∀ j u, news[j]? = some u → w0.cell? (a.add j) = some u) (h1 : ∀ u ∈ news, u.oneCell' = true)
    (h63 : m ≤ maxLen) (hbytes : m * bytes ≤ 140737488355328)
    (K : ∀ v' w', w'.ownsRow w0.heap.size e size v' m news → Below w0.heap.size w0 w' → wpList P ops Q rest (ac.put o.dst v') w') : wpList P ops Q (o :: rest) ac (w0.alloc (.cells #[] e)) := by
  obtain ⟨v', w', hr, r1, r2, _⟩ := exec_clone (P := P) (ev := ac.eval) w0 s x t ho e i z size bytes ht hi hz hsize hby hzs hsz hs a m c news hx hl hnews h1 h63 hbytes
  exact wpList_exec hg v' hr (K v' w' r1 r2)
theorem clone_strs_eq0 (W : World) : (binOp .eql 22 (.slice none 0 0) (.slice none 0 0)).run Try.prog W = .ok (.bool true) W := by kernel_rfl
theorem clone_strs_eq1 (a : Addr) (m c : Nat) (W : World) : (binOp .eql 22 (.slice (some a) m c) (.slice none 0 0)).run Try.prog W = .ok (.bool false) W := by kernel_rfl
set_option maxRecDepth 100000 in
set_option maxHeartbeats 1000000 in
theorem clone_strs_nil (W : World) : Calls Try.prog 45 #[.slice none 0 0] W fun e w' => e = .returned (.slice none 0 0) ∧ w' = W := by
  have q0 := clone_strs_eq0 W
  go_enter Try.func45, Try.ntmps45
  go_wp2_with (fail)
  go_ret
  exact ⟨rfl, rfl⟩
set_option maxRecDepth 100000 in
set_option maxHeartbeats 1000000 in
theorem clone_strs_some (W : World) (a : Addr) (m c : Nat) (news : List Value) (hl : news.length = m * 1) (hnews : ∀ j u, news[j]? = some u → W.cell? (a.add j) = some u) (h1 : ∀ u ∈ news, u.oneCell' = true) (hm : m ≤ 1000000) :
    Calls Try.prog 45 #[.slice (some a) m c] W fun e w' => ∃ v, e = .returned v ∧ w'.ownsRow W.heap.size 9 1 v m news ∧ Below W.heap.size W w' := by
  obtain ⟨i0, hi0, hz0, hz1, hz2⟩ := info_parts infoStr
  have HN := Lib.hid hnews
  have H1 := Lib.hid h1
  have HL := Lib.hid hl
  have HI := Lib.hid hi0
  have HZ := Lib.hid hz0
  have q1 := clone_strs_eq1 a m c W
  clear hnews h1 hl hi0 hz0
  go_enter Try.func45, Try.ntmps45
  go_wp2_with (
    (refine wpList_clone W rfl (.tmp 5) (.tmp 6) 22 rfl 9 i0 _ 1 16 (by kernel_rfl) HI.out HZ.out hz1 hz2 rfl (by decide) rfl a m c news rfl HL.out HN.out H1.out (by unfold maxLen; omega) (by omega) ?_
     intro v' w' r1 r2))
  go_ret
  exact ⟨_, rfl, r1, r2⟩
theorem clone_blocks_eq0 (W : World) : (binOp .eql 96 (.slice none 0 0) (.slice none 0 0)).run Try.prog W = .ok (.bool true) W := by kernel_rfl
theorem clone_blocks_eq1 (a : Addr) (m c : Nat) (W : World) : (binOp .eql 96 (.slice (some a) m c) (.slice none 0 0)).run Try.prog W = .ok (.bool false) W := by kernel_rfl
set_option maxRecDepth 100000 in
set_option maxHeartbeats 1000000 in
theorem clone_blocks_nil (W : World) : Calls Try.prog 54 #[.slice none 0 0] W fun e w' => e = .returned (.slice none 0 0) ∧ w' = W := by
  have q0 := clone_blocks_eq0 W
  go_enter Try.func54, Try.ntmps54
  go_wp2_with (fail)
  go_ret
  exact ⟨rfl, rfl⟩
set_option maxRecDepth 100000 in
set_option maxHeartbeats 1000000 in
theorem clone_blocks_some (W : World) (a : Addr) (m c : Nat) (news : List Value) (hl : news.length = m * 64) (hnews : ∀ j u, news[j]? = some u → W.cell? (a.add j) = some u) (h1 : ∀ u ∈ news, u.oneCell' = true) (hm : m ≤ 1000000) :
    Calls Try.prog 54 #[.slice (some a) m c] W fun e w' => ∃ v, e = .returned v ∧ w'.ownsRow W.heap.size 95 64 v m news ∧ Below W.heap.size W w' := by
  obtain ⟨i0, hi0, hz0, hz1, hz2⟩ := info_parts infoHash
  have HN := Lib.hid hnews
  have H1 := Lib.hid h1
  have HL := Lib.hid hl
  have HI := Lib.hid hi0
  have HZ := Lib.hid hz0
  have q1 := clone_blocks_eq1 a m c W
  clear hnews h1 hl hi0 hz0
  go_enter Try.func54, Try.ntmps54
  go_wp2_with (
    (refine wpList_clone W rfl (.tmp 5) (.tmp 6) 96 rfl 95 i0 _ 64 64 (by kernel_rfl) HI.out HZ.out hz1 hz2 zero64_size (by decide) rfl a m c news rfl HL.out HN.out H1.out (by unfold maxLen; omega) (by omega) ?_
     intro v' w' r1 r2))
  go_ret
  exact ⟨_, rfl, r1, r2⟩
theorem clone_secs_eq0 (W : World) : (binOp .eql 92 (.slice none 0 0) (.slice none 0 0)).run Try.prog W = .ok (.bool true) W := by kernel_rfl
theorem clone_secs_eq1 (a : Addr) (m c : Nat) (W : World) : (binOp .eql 92 (.slice (some a) m c) (.slice none 0 0)).run Try.prog W = .ok (.bool false) W := by kernel_rfl
set_option maxRecDepth 100000 in
set_option maxHeartbeats 1000000 in
theorem clone_secs_nil (W : World) : Calls Try.prog 53 #[.slice none 0 0] W fun e w' => e = .returned (.slice none 0 0) ∧ w' = W := by
  have q0 := clone_secs_eq0 W
  go_enter Try.func53, Try.ntmps53
  go_wp2_with (fail)
  go_ret
  exact ⟨rfl, rfl⟩
set_option maxRecDepth 100000 in
set_option maxHeartbeats 1000000 in
theorem clone_secs_some (W : World) (a : Addr) (m c : Nat) (news : List Value) (hl : news.length = m * 65) (hnews : ∀ j u, news[j]? = some u → W.cell? (a.add j) = some u) (h1 : ∀ u ∈ news, u.oneCell' = true) (hm : m ≤ 1000000) :
    Calls Try.prog 53 #[.slice (some a) m c] W fun e w' => ∃ v, e = .returned v ∧ w'.ownsRow W.heap.size 98 65 v m news ∧ Below W.heap.size W w' := by
  obtain ⟨i0, hi0, hz0, hz1, hz2⟩ := info_parts infoSec
  have HN := Lib.hid hnews
  have H1 := Lib.hid h1
  have HL := Lib.hid hl
  have HI := Lib.hid hi0
  have HZ := Lib.hid hz0
  have q1 := clone_secs_eq1 a m c W
  clear hnews h1 hl hi0 hz0
  go_enter Try.func53, Try.ntmps53
  go_wp2_with (
    (refine wpList_clone W rfl (.tmp 5) (.tmp 6) 92 rfl 98 i0 _ 65 88 (by kernel_rfl) HI.out HZ.out hz1 hz2 (by rw [zeroSec_cells]; simp [cellsB_length]) (by decide) rfl a m c news rfl HL.out HN.out H1.out (by unfold maxLen; omega) (by omega) ?_
     intro v' w' r1 r2))
  go_ret
  exact ⟨_, rfl, r1, r2⟩
end Go.Proofs.Ytkljfampkkfgdaa
