/- What the reference's Get, Runs, Count and Find compute on plain lists of runs. No program in sight. -/
import Derived.Test.YtfmplibjhohpgaaSpRefL
import Derived.Test.YtfmplibjhohpgaaSpCntL
namespace Go.Proofs.Ytfmplibjhohpgaa
open Tr (total totalOf OkL)

theorem lay_get (L : List (Int × Int)) : ∀ (j : Int) (k : Nat) (h : k < (lay j L).length) (h' : k < L.length), (lay j L)[k] = ⟨j + total (L.take k), j + total (L.take k) + L[k].1, L[k].2⟩ := by
  induction L with
  | nil => intro j k h h'; simp at h'
  | cons x L ih =>
    intro j k h h'
    cases k with
    | zero => simp [lay, Tr.total_nil]
    | succ k =>
      have h2 : k < L.length := by simpa using h'
      have := ih (j + x.1) k (by rw [lay_length]; exact h2) h2
      simp only [lay, List.getElem_cons_succ, List.take_succ_cons, Tr.total_cons]
      rw [this]
      refine Rn.ext_ ?_ ?_ rfl <;> dsimp only <;> omega
theorem total_take_succ {L : List (Int × Int)} {k : Nat} (h : k < L.length) : total (L.take (k + 1)) = total (L.take k) + L[k].1 := by
  rw [List.take_succ_eq_append_getElem h, Tr.total_append, Tr.total_cons, Tr.total_nil]; omega
theorem OkL.take_ {L : List (Int × Int)} (h : OkL L) (k : Nat) : OkL (L.take k) := fun x hx => h x (List.mem_of_mem_take hx)
theorem atL_take {L : List (Int × Int)} (h : OkL L) {k : Nat} (hk : k < L.length) {p : Int} (h0 : total (L.take k) ≤ p) (h1 : p < total (L.take k) + L[k].1) : atL L p = L[k].2 := by
  have t := total_nonneg (OkL.take_ h k)
  have e : L = L.take k ++ (L[k] :: L.drop (k + 1)) := by rw [← List.drop_eq_getElem_cons hk, List.take_append_drop]
  have := atL_append (OkL.take_ h k) (b := L[k] :: L.drop (k + 1)) p (by omega)
  rw [← e, if_neg (by omega)] at this
  rw [this]
  simp only [atL]
  rw [if_pos (by omega)]
theorem take_ok {L : List (Int × Int)} (h : OkL L) {k : Nat} (hk : k < L.length) : 1 ≤ L[k].1 := (h _ (List.getElem_mem hk)).1
def rrunsL (lo hi : Int) (V : List Rn) : List Rn := V.foldl (fun l x => joinRn l ⟨max lo x.lo, min hi x.hi, x.tag⟩) []
theorem rrunsL_snoc (lo hi : Int) (V : List Rn) (x : Rn) : rrunsL lo hi (V ++ [x]) = joinRn (rrunsL lo hi V) ⟨max lo x.lo, min hi x.hi, x.tag⟩ := by simp [rrunsL]
theorem norm_last {A : List (Int × Int)} {a b : Int × Int} (h : Norm (A ++ [a] ++ [b])) : a.2 ≠ b.2 := by
  induction A with
  | nil => exact h.1 b rfl
  | cons x A ih => exact ih h.2
theorem pushRn_norm {l : List Rn} {r : Rn} (h : Norm (segs (l ++ [r]))) : pushRn l r = l ++ [r] := by
  rcases nil_or_snoc l with rfl | ⟨l, y, rfl⟩
  · rfl
  · rw [pushRn_snoc, if_neg]
    rw [segs_append, segs_append] at h
    exact norm_last (a := (y.hi - y.lo, y.tag)) (b := (r.hi - r.lo, r.tag)) h
/-- The reference's Runs computes the clipped runs. -/
theorem rrunsL_clip {lo hi : Int} {P : List (Int × Int)} (h : OkL P) (hn : Norm P) : rrunsL lo hi (lay 0 P) = clipL lo hi 0 P := by
  obtain ⟨n, hl⟩ : ∃ n, P.length = n := ⟨_, rfl⟩
  induction n generalizing P with
  | zero => obtain rfl := List.eq_nil_of_length_eq_zero hl; rfl
  | succ n ih =>
    rcases nil_or_snoc P with rfl | ⟨P, x, rfl⟩
    · simp at hl
    obtain ⟨o1, o2⟩ := OkL.append.1 h
    have n1 : Norm P := by
      clear ih h hl o1 o2
      induction P with
      | nil => trivial
      | cons z P ih2 =>
        refine ⟨fun y hy => hn.1 y ?_, ih2 hn.2⟩
        cases P with
        | nil => simp at hy
        | cons y' P => simpa using hy
    have i := ih o1 n1 (by simpa using hl)
    have nn := clipL_norm (lo := lo) (hi := hi) h hn 0
    rw [lay_snoc, rrunsL_snoc, i, clipL_append]
    rw [clipL_append] at nn
    simp only [clipL, List.append_nil, Int.zero_add] at nn ⊢
    unfold joinRn
    dsimp only
    rw [show max lo (total P) = max (total P) lo from by omega, show min hi (total P + x.1) = min (total P + x.1) hi from by omega]
    by_cases c : max (total P) lo < min (total P + x.1) hi
    · rw [if_pos c, if_pos c]
      rw [if_pos c] at nn
      exact pushRn_norm nn
    · rw [if_neg c, if_neg c, List.append_nil]
theorem findL_step (tag : Int) {L : List (Int × Int)} {k : Nat} (hk : k < L.length) (q a : Int) : findL tag (L.drop k) q a = if L[k].2 = tag then (if q < L[k].1 then (a + q, true) else findL tag (L.drop (k + 1)) (q - L[k].1) (a + L[k].1)) else findL tag (L.drop (k + 1)) q (a + L[k].1) := by
  rw [List.drop_eq_getElem_cons hk]; rfl
end Go.Proofs.Ytfmplibjhohpgaa
