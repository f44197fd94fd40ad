/- Trees of package span in memory: a node is one block of 23 cells, which never changes once it is made. -/
import Derived.Test.YtfmplibjhohpgaaRows
import Derived.Test.YtfmplibjhohpgaaSpPure
import Derived.WalkKit
import Derived.WalkSpells
import Derived.WalkLawsBesides
import Derived.Deep.QuietTactic
import Derived.BigQuiet
import Derived.LoopTactic
import Derived.RegionTactic
import Derived.Deep.Cut
import Derived.Lib.Hide
namespace Go.Proofs.Ytfmplibjhohpgaa
open Go.RowKit

/-- The cells of a node. -/
def nodeCells (pl pr : Option Addr) (len tag h n p : Int) (c : Int → Int) : Array Value :=
  #[.pointer pl, .pointer pr, .int .i64 len, .int .i64 tag, .int .i64 h, .int .i64 n, .int .i64 p,
    .int .i64 (c 0), .int .i64 (c 1), .int .i64 (c 2), .int .i64 (c 3), .int .i64 (c 4), .int .i64 (c 5), .int .i64 (c 6), .int .i64 (c 7),
    .int .i64 (c 8), .int .i64 (c 9), .int .i64 (c 10), .int .i64 (c 11), .int .i64 (c 12), .int .i64 (c 13), .int .i64 (c 14), .int .i64 (c 15)]

theorem cases16 {k : Nat} (h : k < 16) : k = 0 ∨ k = 1 ∨ k = 2 ∨ k = 3 ∨ k = 4 ∨ k = 5 ∨ k = 6 ∨ k = 7 ∨ k = 8 ∨ k = 9 ∨ k = 10 ∨ k = 11 ∨ k = 12 ∨ k = 13 ∨ k = 14 ∨ k = 15 := by omega
theorem nodeCells_count {pl pr : Option Addr} {len tag h n p : Int} {c : Int → Int} {k : Nat} (hk : k < 16) : (nodeCells pl pr len tag h n p c)[7 + k]? = some (.int .i64 (c k)) := by
  rcases cases16 hk with rfl | rfl | rfl | rfl | rfl | rfl | rfl | rfl | rfl | rfl | rfl | rfl | rfl | rfl | rfl | rfl <;> rfl
theorem nodeCells_store {pl pr : Option Addr} {len tag h n p : Int} {c : Int → Int} {k : Nat} (hk : k < 16) (v : Int) :
    (nodeCells pl pr len tag h n p c).setIfInBounds (7 + k) (.int .i64 v) = nodeCells pl pr len tag h n p (fun j => if j = k then v else c j) := by
  rcases cases16 hk with rfl | rfl | rfl | rfl | rfl | rfl | rfl | rfl | rfl | rfl | rfl | rfl | rfl | rfl | rfl | rfl <;> simp [nodeCells]
/-- Block b is a node in the making: its counts are c. -/
def Made (W : World) (b : Nat) (pl pr : Option Addr) (len tag h n p : Int) (c : Int → Int) : Prop := W.heap[b]? = some (.cells (nodeCells pl pr len tag h n p c) 116 (0, 0))
section
variable {W : World} {b : Nat} {pl pr : Option Addr} {len tag h n p : Int} {c : Int → Int}
theorem Made.count (hm : Made W b pl pr len tag h n p c) {k : Nat} (hk : k < 16) : W.cell? ⟨b, 7 + k, none⟩ = some (.int .i64 (c k)) := by
  have := nodeCells_count (pl := pl) (pr := pr) (len := len) (tag := tag) (h := h) (n := n) (p := p) (c := c) hk
  unfold Made at hm; simp [World.cell?, hm, this]
theorem Made.frozen (hm : Made W b pl pr len tag h n p c) (k : Nat) : W.frozen? ⟨b, k, none⟩ = false := by
  unfold Made at hm; simp [World.frozen?, hm]
theorem Made.store (hm : Made W b pl pr len tag h n p c) {k : Nat} (hk : k < 16) (v : Int) : Made (W.setCell ⟨b, 7 + k, none⟩ (.int .i64 v)) b pl pr len tag h n p (fun j => if j = k then v else c j) := by
  unfold Made at hm ⊢
  simp [World.setCell, Array.getElem?_modify, hm, nodeCells_store hk]
theorem Made.lt (hm : Made W b pl pr len tag h n p c) : b < W.heap.size := by
  rcases Nat.lt_or_ge b W.heap.size with hlt | hge
  · exact hlt
  · unfold Made at hm; rw [Array.getElem?_eq_none hge] at hm; cases hm
theorem Made.congr {c' : Int → Int} (hm : Made W b pl pr len tag h n p c) (hc : ∀ j, 0 ≤ j → j < 16 → c j = c' j) : Made W b pl pr len tag h n p c' := by
  have e : nodeCells pl pr len tag h n p c = nodeCells pl pr len tag h n p c' := by
    unfold nodeCells
    rw [hc 0 (by omega) (by omega), hc 1 (by omega) (by omega), hc 2 (by omega) (by omega), hc 3 (by omega) (by omega), hc 4 (by omega) (by omega), hc 5 (by omega) (by omega), hc 6 (by omega) (by omega), hc 7 (by omega) (by omega),
      hc 8 (by omega) (by omega), hc 9 (by omega) (by omega), hc 10 (by omega) (by omega), hc 11 (by omega) (by omega), hc 12 (by omega) (by omega), hc 13 (by omega) (by omega), hc 14 (by omega) (by omega), hc 15 (by omega) (by omega)]
  unfold Made at hm ⊢; rw [← e]; exact hm
theorem Made.below {n₀ : Nat} {W' : World} (hm : Made W b pl pr len tag h n p c) (hB : Below n₀ W W') (hb : b < n₀) : Made W' b pl pr len tag h n p c := (hB.block b hb).trans hm
theorem Made.c0 (hm : Made W b pl pr len tag h n p c) : W.cell? ⟨b, 0, none⟩ = some (.pointer pl) := by unfold Made at hm; simp [World.cell?, hm, nodeCells]
theorem Made.c1 (hm : Made W b pl pr len tag h n p c) : W.cell? ⟨b, 1, none⟩ = some (.pointer pr) := by unfold Made at hm; simp [World.cell?, hm, nodeCells]
theorem Made.c2 (hm : Made W b pl pr len tag h n p c) : W.cell? ⟨b, 2, none⟩ = some (.int .i64 len) := by unfold Made at hm; simp [World.cell?, hm, nodeCells]
theorem Made.c3 (hm : Made W b pl pr len tag h n p c) : W.cell? ⟨b, 3, none⟩ = some (.int .i64 tag) := by unfold Made at hm; simp [World.cell?, hm, nodeCells]
theorem Made.c4 (hm : Made W b pl pr len tag h n p c) : W.cell? ⟨b, 4, none⟩ = some (.int .i64 h) := by unfold Made at hm; simp [World.cell?, hm, nodeCells]
theorem Made.c5 (hm : Made W b pl pr len tag h n p c) : W.cell? ⟨b, 5, none⟩ = some (.int .i64 n) := by unfold Made at hm; simp [World.cell?, hm, nodeCells]
theorem Made.c6 (hm : Made W b pl pr len tag h n p c) : W.cell? ⟨b, 6, none⟩ = some (.int .i64 p) := by unfold Made at hm; simp [World.cell?, hm, nodeCells]
end

/-- Block b is a node. -/
abbrev IsNode (W : World) (b : Nat) (pl pr : Option Addr) (T : Tr) (len tag : Int) : Prop := Made W b pl pr len tag T.hgt T.num T.pcs fun k => T.cnt k

/-- The memory holds the tree T at p, in blocks below n₀. -/
def IsTree (n₀ : Nat) (W : World) : Option Addr → Tr → Prop
  | p, .nil => p = none
  | p, .node l len tag r => ∃ (b : Nat) (pl pr : Option Addr), p = some ⟨b, 0, none⟩ ∧ b < n₀ ∧ IsNode W b pl pr (.node l len tag r) len tag ∧ IsTree n₀ W pl l ∧ IsTree n₀ W pr r

theorem IsNode.below {n₀ : Nat} {A B : World} {b : Nat} {pl pr : Option Addr} {T : Tr} {len tag : Int} (h : Below n₀ A B) (hb : b < n₀) (hn : IsNode A b pl pr T len tag) : IsNode B b pl pr T len tag :=
  (h.block b hb).trans hn
theorem IsTree.below {n₀ : Nat} {A B : World} (h : Below n₀ A B) : ∀ {p : Option Addr} {T : Tr}, IsTree n₀ A p T → IsTree n₀ B p T
  | _, .nil, ht => ht
  | _, .node _ _ _ _, ⟨b, pl, pr, hp, hb, hn, hl, hr⟩ => ⟨b, pl, pr, hp, hb, hn.below h hb, IsTree.below h hl, IsTree.below h hr⟩
theorem IsTree.mono {n n' : Nat} {W : World} (h : n ≤ n') : ∀ {p : Option Addr} {T : Tr}, IsTree n W p T → IsTree n' W p T
  | _, .nil, ht => ht
  | _, .node _ _ _ _, ⟨b, pl, pr, hp, hb, hn, hl, hr⟩ => ⟨b, pl, pr, hp, by omega, hn, IsTree.mono h hl, IsTree.mono h hr⟩
/-- The memory holds the tree T at p. -/
def Tree (W : World) (p : Option Addr) (T : Tr) : Prop := IsTree W.heap.size W p T
theorem Tree.below {A B : World} (h : Below A.heap.size A B) {p : Option Addr} {T : Tr} (ht : Tree A p T) : Tree B p T := IsTree.mono h.size (IsTree.below h ht)
theorem Tree.nil_iff {W : World} {p : Option Addr} : Tree W p .nil ↔ p = none := Iff.rfl

/-! ### sums, high, pieces -/
set_option maxHeartbeats 400000 in
theorem sums_nil (w : World) : Calls Try.prog 73 #[.pointer none] w fun e w' =>
    e = .returned (.tuple #[.int .i64 0, .int .i64 0, .int .i64 0]) ∧ w = w' := by
  go_enter Try.func73, Try.ntmps73
  go_wp2
  go_ret3
  exact ⟨rfl, rfl⟩
/-- The world w' is w after some draws. -/
def Quiet (w w' : World) : Prop := ∃ n, w' = w.drewN n
theorem Quiet.refl (w : World) : Quiet w w := ⟨0, rfl⟩
theorem Quiet.heap {w w' : World} (h : Quiet w w') : w'.heap = w.heap := by obtain ⟨n, rfl⟩ := h; rfl
theorem Quiet.below {w w' : World} (h : Quiet w w') (B : Nat) : Below B w w' := by obtain ⟨n, rfl⟩ := h; exact ⟨rfl, rfl, rfl, Nat.le_refl _, fun _ _ => rfl⟩

set_option maxHeartbeats 400000 in
theorem sums_node (w : World) (b : Nat) (h n p : Int) (c4 : w.cell? ⟨b, 4, none⟩ = some (.int .i64 h)) (c5 : w.cell? ⟨b, 5, none⟩ = some (.int .i64 n)) (c6 : w.cell? ⟨b, 6, none⟩ = some (.int .i64 p)) :
    Calls Try.prog 73 #[.pointer (some ⟨b, 0, none⟩)] w fun e w' =>
    e = .returned (.tuple #[.int .i64 h, .int .i64 n, .int .i64 p]) ∧ Quiet w w' := by
  go_enter Try.func73, Try.ntmps73
  go_wp2
  go_quiet (fail)
  go_wp2
  go_ret3
  exact ⟨rfl, _, rfl⟩
theorem sums_any (w : World) (p : Option Addr) (T : Tr) (h : Tree w p T) :
    Calls Try.prog 73 #[.pointer p] w fun e w' => e = .returned (.tuple #[.int .i64 T.hgt, .int .i64 T.num, .int .i64 T.pcs]) ∧ Quiet w w' := by
  cases T with
  | nil => obtain rfl : p = none := h; exact (sums_nil w).mono fun _ _ ⟨h1, h2⟩ => ⟨h1, 0, h2 ▸ rfl⟩
  | node l len tag r =>
    obtain ⟨b, pl, pr, rfl, hb, hn, hl, hr⟩ := h
    exact sums_node w b _ _ _ hn.c4 hn.c5 hn.c6
set_option maxHeartbeats 400000 in
theorem high_any (w : World) (p : Option Addr) (T : Tr) (h : Tree w p T) :
    Calls Try.prog 85 #[.pointer p] w fun e w' => e = .returned (.int .i64 T.hgt) ∧ Quiet w w' := by
  go_enter Try.func85, Try.ntmps85
  go_wp2_with (go_at_call 73; refine (sums_any _ _ _ h).mono ?_; rintro e w' ⟨rfl, n, rfl⟩)
  go_ret
  exact ⟨rfl, _, rfl⟩
set_option maxHeartbeats 400000 in
theorem pieces_any (w : World) (p : Option Addr) (T : Tr) (h : Tree w p T) :
    Calls Try.prog 63 #[.pointer p] w fun e w' => e = .returned (.int .i64 T.pcs) ∧ Quiet w w' := by
  go_enter Try.func63, Try.ntmps63
  go_wp2_with (go_at_call 73; refine (sums_any _ _ _ h).mono ?_; rintro e w' ⟨rfl, n, rfl⟩)
  go_ret
  exact ⟨rfl, _, rfl⟩
theorem Quiet.tree {w w' : World} (h : Quiet w w') {p : Option Addr} {T : Tr} (ht : Tree w p T) : Tree w' p T := ht.below (h.below _)
theorem Tree.drewN {w : World} {p : Option Addr} {T : Tr} (ht : Tree w p T) (n : Nat) : Tree (w.drewN n) p T := Quiet.tree ⟨n, rfl⟩ ht
/-! ### Two builtins -/
section
variable {P : Program} {ops : Array Oper} {rest : List Oper} {o : Oper} {a : Act} {w : World} {Q : Exit → Act → World → Prop}
theorem run_max (ts : Array TypeId) (ty : TypeId) (p q : Int) (w : World) : (Builtin.max_ ts ty #[.int .i64 p, .int .i64 q]).run P w = .ok (.int .i64 (max p q)) w := by
  have : max p q = if q > p then q else p := by split <;> omega
  rw [this]; rfl
theorem run_min (ts : Array TypeId) (ty : TypeId) (p q : Int) (w : World) : (Builtin.min_ ts ty #[.int .i64 p, .int .i64 q]).run P w = .ok (.int .i64 (min p q)) w := by
  have : min p q = if q < p then q else p := by split <;> omega
  rw [this]; rfl
theorem wpList_max (hgd : o.guard = none) (x y : Operand) (ts : Array TypeId)
    (ho : o.op = .call { callee := .builtin .max, args := #[x, y], argTypes := ts }) (p q : Int) (hx : a.eval x = .int .i64 p) (hy : a.eval y = .int .i64 q)
    (h : wpList P ops Q rest (a.put o.dst (.int .i64 (max p q))) w) : wpList P ops Q (o :: rest) a w :=
  wpList_plain hgd fun _ hK => by
    unfold Oper.wp execOp
    simp only [ho, resolve, invoke, builtin, Sem.run_bind, Sem.run_pure, Result.andThen_ok, List.map_toArray, List.map_cons, List.map_nil, hx, hy, run_max]
    exact hK _ _ h
theorem wpList_min (hgd : o.guard = none) (x y : Operand) (ts : Array TypeId)
    (ho : o.op = .call { callee := .builtin .min, args := #[x, y], argTypes := ts }) (p q : Int) (hx : a.eval x = .int .i64 p) (hy : a.eval y = .int .i64 q)
    (h : wpList P ops Q rest (a.put o.dst (.int .i64 (min p q))) w) : wpList P ops Q (o :: rest) a w :=
  wpList_plain hgd fun _ hK => by
    unfold Oper.wp execOp
    simp only [ho, resolve, invoke, builtin, Sem.run_bind, Sem.run_pure, Result.andThen_ok, List.map_toArray, List.map_cons, List.map_nil, hx, hy, run_min]
    exact hK _ _ h
end

/-! ### link -/
set_option maxRecDepth 100000 in
set_option maxHeartbeats 1000000 in
theorem link_any (w : World) (pl pr : Option Addr) (len tag : Int) (L R : Tr) (hL : Tree w pl L) (hR : Tree w pr R) (hl0 : 1 ≤ len) (ht0 : 0 ≤ tag) (ht1 : tag < 16)
   (oL : L.Ok) (oR : R.Ok) (hp : L.pcs + R.pcs + len ≤ 1099511627776) :
    Calls Try.prog 78 #[.pointer pl, .int .i64 len, .int .i64 tag, .pointer pr] w fun e w' => ∃ p, e = .returned (.pointer p) ∧ Tree w' p (.node L len tag R) ∧ Below w.heap.size w w' := by
  have b1 := Tr.hgt_nonneg L
  have b2 := Tr.hgt_nonneg R
  have b3 := Tr.hgt_le_num L
  have b4 := Tr.hgt_le_num R
  have b5 := Tr.num_le_pcs L oL
  have b6 := Tr.num_le_pcs R oR
  go_enter Try.func78, Try.ntmps78
  go_wp2_with (fail)
  go_at_call 73
  refine (sums_any _ _ _ hL).mono ?_
  rintro e w' ⟨rfl, n1, rfl⟩
  go_wp2_with (fail)
  go_at_call 73
  refine (sums_any _ _ R (hR.drewN _)).mono ?_
  rintro e w' ⟨rfl, n2, rfl⟩
  go_upto_region 4 with (first | (refine wpList_max rfl _ _ _ rfl _ _ rfl rfl ?_))
  generalize hwa : World.alloc _ _ = wa
  have hm : Made wa w.heap.size pl pr len tag (max L.hgt R.hgt + 1) (L.num + R.num + 1) (L.pcs + R.pcs + len) (fun _ => 0) := by
    rw [← hwa]; exact heap_alloc_new _ _
  have hbl : Below w.heap.size w wa := by
    rw [← hwa]; exact (Quiet.below ⟨_, rfl⟩ _).alloc (Nat.le_refl _) _
  clear hwa
  obtain ⟨tg, rfl⟩ := Int.eq_ofNat_of_zero_le ht0
  have hc := hm.count (k := tg) (by omega)
  have hf := hm.frozen (7 + tg)
  go_upto_region 5 with (fail)
  generalize hwb : World.setCell _ _ _ = wb
  have hm1 : Made wb w.heap.size pl pr len tg (max L.hgt R.hgt + 1) (L.num + R.num + 1) (L.pcs + R.pcs + len) (fun j => if j = (tg : Int) then len else 0) := by
    rw [← hwb]; exact hm.store (by omega) _
  have hbl1 : Below w.heap.size w wb := by
    rw [← hwb]; exact hbl.setCell (p := ⟨w.heap.size, 7 + tg, none⟩) (Nat.le_refl _) _
  clear hwb hm hbl hc hf
  go_wp2_with (fail)
  go_loopw [59] (fun i wr => ∃ (k : Nat) (c : Int → Int), k ≤ 2 ∧ i = .int .i64 k ∧ Made wr w.heap.size pl pr len tg (max L.hgt R.hgt + 1) (L.num + R.num + 1) (L.pcs + R.pcs + len) c ∧ Below w.heap.size w wr ∧ (∀ j, 0 ≤ j → j < 16 → c j = (if (tg : Int) = j then len else 0) + (if 0 < k then L.cnt j else 0) + (if 1 < k then R.cnt j else 0))) (fun i _ => 2 - (intOf i).toNat)
  case atStart => exact ⟨0, _, by omega, rfl, hm1, hbl1, fun j _ _ => by simp [eq_comm]⟩
  case round =>
    obtain ⟨k, c, hk, rfl, hm, hbl, hc⟩ := hrel
    by_cases hlt : k < 2
    · have hside : ∃ (S : Tr) (ps : Option Addr), Tree w ps S ∧ (∀ wx, Sem.run Try.prog (Instr.index 137 (Value.agg #[Value.pointer pl, Value.pointer pr]) (Value.int IntKind.i64 (k : Int))) wx = .ok (.pointer ps) wx) ∧ (∀ j, 0 ≤ S.cnt j ∧ S.cnt j ≤ S.pcs) ∧ S.pcs ≤ L.pcs + R.pcs ∧
          ∀ j, (if (tg : Int) = j then len else 0) + (if 0 < k then L.cnt j else 0) + (if 1 < k then R.cnt j else 0) + S.cnt j = (if (tg : Int) = j then len else 0) + (if 0 < k + 1 then L.cnt j else 0) + (if 1 < k + 1 then R.cnt j else 0) := by
        have q1 := Tr.pcs_nonneg L oL
        have q2 := Tr.pcs_nonneg R oR
        rcases (by omega : k = 0 ∨ k = 1) with rfl | rfl
        · exact ⟨L, pl, hL, fun _ => by kernel_rfl, fun j => ⟨Tr.cnt_nonneg j L oL, Tr.cnt_le_pcs j L oL⟩, by omega, fun j => by simp⟩
        · exact ⟨R, pr, hR, fun _ => by kernel_rfl, fun j => ⟨Tr.cnt_nonneg j R oR, Tr.cnt_le_pcs j R oR⟩, by omega, fun j => by simp⟩
      obtain ⟨S, ps, hS, hix, hSc, hSp, hsum⟩ := hside
      have Hc := Lib.hid hc
      have Hsum := Lib.hid hsum
      have HSc := Lib.hid hSc
      clear hc hsum hSc
      cases S with
      | nil =>
        obtain rfl : ps = none := hS
        go_wp2_with (fail)
        go_roundw
        case rel => exact ⟨k + 1, c, by omega, by go_num, hm, hbl, fun j j0 j1 => by rw [← Hsum.out, Hc.out j j0 j1]; simp [Tr.cnt]⟩
        case measure => simp [intOf]; omega
      | node sl slen stag sr =>
        obtain ⟨bs, pl', pr', rfl, hbs, hn, _, _⟩ := hS
        go_wp2_with (fail)
        go_loopw [64] (fun i wx => ∃ (q : Nat) (c2 : Int → Int), q ≤ 16 ∧ i = .int .i64 q ∧ Made wx w.heap.size pl pr len tg (max L.hgt R.hgt + 1) (L.num + R.num + 1) (L.pcs + R.pcs + len) c2 ∧ Below w.heap.size w wx ∧ (∀ j, 0 ≤ j → j < 16 → c2 j = c j + (if j < (q : Int) then (sl.node slen stag sr).cnt j else 0))) (fun i _ => 16 - (intOf i).toNat)
        case atStart => exact ⟨0, c, by omega, rfl, hm, hbl, fun j j0 j1 => by rw [if_neg (by omega)]; omega⟩
        case round =>
          obtain ⟨q, c2, hq, rfl, hm2, hbl2, hc2⟩ := hrel
          by_cases hlq : q < 16
          · have hcq := hm2.count (k := q) hlq
            have hfq := hm2.frozen (7 + q)
            have hsq := (hn.below hbl2 hbs).count (k := q) hlq
            have v1 : 0 ≤ c2 q ∧ c2 q ≤ 4398046511104 := by
              have e1 := hc2 q (by omega) (by omega)
              have e2 := Hc.out q (by omega) (by omega)
              have e3 := Tr.cnt_nonneg q L oL; have e4 := Tr.cnt_le_pcs q L oL
              have e5 := Tr.cnt_nonneg q R oR; have e6 := Tr.cnt_le_pcs q R oR
              rw [if_neg (by omega)] at e1
              rw [e1, e2]
              constructor <;> (split <;> split <;> split <;> omega)
            obtain ⟨v2, v3⟩ := v1
            have v4 := (HSc.out q).1
            have v5 := (HSc.out q).2
            have Hc2 := Lib.hid hc2
            clear hc2
            go_wp2_with (fail)
            go_region
            go_wp2_with (fail)
            go_roundw
            case rel =>
              refine ⟨q + 1, _, by omega, by go_num, hm2.store hlq _, (hbl2.setCell (p := ⟨w.heap.size, 7 + q, none⟩) (Nat.le_refl _) _).drew, fun j j0 j1 => ?_⟩
              have e1 := Hc2.out j j0 j1
              have e2 := Hc2.out q (by omega) (by omega)
              by_cases hj : j = (q : Int)
              · subst hj
                rw [if_pos rfl, if_pos (by omega), e2, if_neg (by omega)]; omega
              · rw [if_neg hj, e1]
                by_cases hj2 : j < (q : Int)
                · rw [if_pos hj2, if_pos (by omega)]
                · rw [if_neg hj2, if_neg (by omega)]
            case measure => simp [intOf]; omega
          · go_wp2_with (fail)
            go_roundw
            case rel =>
              refine ⟨k + 1, c2, by omega, by go_num, hm2, hbl2, fun j j0 j1 => ?_⟩
              rw [hc2 j j0 j1, if_pos (by omega), Hc.out j j0 j1, Hsum.out]
            case measure => simp [intOf]; omega
    · obtain rfl : k = 2 := by omega
      go_wp2_with (fail)
      go_ret
      exact ⟨_, rfl, ⟨w.heap.size, pl, pr, rfl, hm.lt, hm.congr fun j j0 j1 => by rw [hc j j0 j1]; simp [Tr.cnt], hL.below hbl, hR.below hbl⟩, hbl⟩
end Go.Proofs.Ytfmplibjhohpgaa
