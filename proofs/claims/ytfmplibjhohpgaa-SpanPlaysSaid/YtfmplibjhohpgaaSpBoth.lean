/- Two variables that hold the program's map and the document's, with the same runs. -/
import Derived.Test.YtfmplibjhohpgaaSpDoAny
namespace Go.Proofs.Ytfmplibjhohpgaa
open Go.RowKit Go.Shelf

/-- Two boxes hold both maps, with the runs L. -/
def Both (W : World) (a b : Nat) (L : List (Int × Int)) (p : Option Addr) (A : Option Addr) (c : Nat) : Prop :=
  Boxed W a 26 (.pointer p) ∧ BoxM W b (Tr.total L) (.slice A L.length c) ∧ Rep W p L ∧ RunsT W A (lay 0 L) ∧ L.length ≤ c
theorem Both.next {W W' : World} {a b : Nat} {L : List (Int × Int)} {p A : Option Addr} {c : Nat} (h : Both W a b L p A c) (hB : Below W.heap.size W W') : Both W' a b L p A c :=
  ⟨bx_next h.1 hB, h.2.1.next hB, h.2.2.1.below hB, h.2.2.2.1.below hB, h.2.2.2.2⟩
theorem Both.set {W : World} {a b : Nat} {L : List (Int × Int)} {p A : Option Addr} {c : Nat} (h : Both W a b L p A c) {g : Nat} {cs : Array Value} {t : TypeId} {fr : Nat × Nat} (hg : W.heap[g]? = some (.cells cs t fr)) (h1 : t ≠ 35) (h2 : t ≠ 116) (ha : ¬ a = g) (hb : ¬ b = g) (i : Nat) (v : Value) : Both (W.setCell ⟨g, i, none⟩ v) a b L p A c :=
  ⟨boxed_far h.1 ha, h.2.1.far hb _ _ _, h.2.2.1.set_ ⟨_, _, _, hg, h2⟩ _ _ _, h.2.2.2.1.set hg h1 _ _, h.2.2.2.2⟩
section
variable {W : World} {a b : Nat} {q : Value} {x : Int} {u : Value} {L : List (Int × Int)} {p A : Option Addr} {c : Nat}
variable (ha : Boxed W a 26 q) (hb : BoxM W b x u) (hab : ¬ a = b) (hr : Rep W p L) (hR : RunsT W A (lay 0 L)) (hc : L.length ≤ c)
include ha hb hab hr hR hc
/-- The map is stored, then the document's. -/
theorem both_a : Both (((W.setCell ⟨a, 0, none⟩ (.pointer p)).setCell ⟨b, 0, none⟩ (.int .i64 (Tr.total L))).setCell ⟨b, 1, none⟩ (.slice A L.length c)) a b L p A c := by
  have v1 : BoxM (W.setCell ⟨a, 0, none⟩ (.pointer p)) b x u := hb.far (by omega) _ _ _
  have v2 := boxM_set0 v1 (Tr.total L)
  refine ⟨boxed_far (boxed_far (ha.set (.pointer p)) hab) hab, boxM_set v1 _ _, ?_, ?_, hc⟩
  · exact ((hr.set_ ⟨_, _, _, ha, by decide⟩ _ _ _).set_ ⟨_, _, _, v1, by decide⟩ _ _ _).set_ ⟨_, _, _, v2, by decide⟩ _ _ _
  · exact ((hR.set ha (by decide) _ _).set v1 (by decide) _ _).set v2 (by decide) _ _
/-- The document's map is stored, then the map. -/
theorem both_b : Both (((W.setCell ⟨b, 0, none⟩ (.int .i64 (Tr.total L))).setCell ⟨b, 1, none⟩ (.slice A L.length c)).setCell ⟨a, 0, none⟩ (.pointer p)) a b L p A c := by
  have v2 := boxM_set0 hb (Tr.total L)
  have v3 := boxM_set hb (Tr.total L) (.slice A L.length c)
  have w3 : Boxed ((W.setCell ⟨b, 0, none⟩ (.int .i64 (Tr.total L))).setCell ⟨b, 1, none⟩ (.slice A L.length c)) a 26 q := boxed_far (boxed_far ha hab) hab
  refine ⟨w3.set _, v3.far (by omega) _ _ _, ?_, ?_, hc⟩
  · exact ((hr.set_ ⟨_, _, _, hb, by decide⟩ _ _ _).set_ ⟨_, _, _, v2, by decide⟩ _ _ _).set_ ⟨_, _, _, w3, by decide⟩ _ _ _
  · exact ((hR.set hb (by decide) _ _).set v2 (by decide) _ _).set w3 (by decide) _ _
omit ha hb hab hr hR hc
theorem below_a {n : Nat} {w : World} (hB : Below n w W) (ha : n ≤ a) (hb : n ≤ b) (v1 v2 v3 : Value) : Below n w (((W.setCell ⟨a, 0, none⟩ v1).setCell ⟨b, 0, none⟩ v2).setCell ⟨b, 1, none⟩ v3) :=
  ((hB.setCell (p := ⟨a, 0, none⟩) ha _).setCell (p := ⟨b, 0, none⟩) hb _).setCell (p := ⟨b, 1, none⟩) hb _
theorem below_b {n : Nat} {w : World} (hB : Below n w W) (ha : n ≤ a) (hb : n ≤ b) (v1 v2 v3 : Value) : Below n w (((W.setCell ⟨b, 0, none⟩ v2).setCell ⟨b, 1, none⟩ v3).setCell ⟨a, 0, none⟩ v1) :=
  ((hB.setCell (p := ⟨b, 0, none⟩) hb _).setCell (p := ⟨b, 1, none⟩) hb _).setCell (p := ⟨a, 0, none⟩) ha _
end
/-- do, of an update in a list. -/
theorem do_both (w : World) {W : World} {a b : Nat} {L : List (Int × Int)} {p A : Option Addr} {c : Nat} (h : Both W a b L p A c) (hL : L = [] ∨ Good L) (x : Ac) {W' : World} (hB : Below W.heap.size W W') :
    Calls Try.prog 32 #[.agg #[.pointer p], .agg #[.int .i64 (Tr.total L), .slice A L.length c], .agg #[.bool x.swap, .int .i64 x.lo, .int .i64 x.hi, .int .i64 x.frm, .int .i64 x.to]] W' (DoPost W' (actL L x)) :=
  do_any W' p A c x L hL (h.2.2.1.below hB) (h.2.2.2.1.below hB) h.2.2.2.2
theorem moreL_good (l : List Ac) : ∀ {L : List (Int × Int)}, (L = [] ∨ Good L) → (moreL L l = [] ∨ Good (moreL L l)) := by
  induction l with
  | nil => exact fun h => h
  | cons x l ih => exact fun h => ih (actL_good h x)
end Go.Proofs.Ytfmplibjhohpgaa
