/- The walk over SpanPieces: the good updates by either. -/
import Derived.Test.YtfmplibjhohpgaaSpPiecesB
import Derived.Test.YtfmplibjhohpgaaSpPiecesD
namespace Go.Proofs.Ytfmplibjhohpgaa
open Go.RowKit Go.Shelf

/-- SpanPieces answers true. -/
theorem spanPieces_any (w : World) (size : Int) (A : Option Addr) (l : List Ac) (c : Nat) (x : Ac) (at_ : Int) (hA : Acts w A l) (hlc : l.length ≤ c) :
    Calls Try.prog 4 #[.int .i64 size, .slice A l.length c, .agg #[.bool x.swap, .int .i64 x.lo, .int .i64 x.hi, .int .i64 x.frm, .int .i64 x.to], .int .i64 at_] w (FromsPost w) := by
  by_cases h : (1 ≤ size ∧ size ≤ 1099511627776) ∧ (l.length : Int) ≤ 60
  · obtain ⟨⟨h1, h2⟩, hl⟩ := h
    by_cases ha : at_ < 0 ∨ (0 ≤ at_ ∧ size ≤ at_)
    · exact pieces_at w size A l c x at_ h1 h2 hA hlc hl ha
    · obtain ⟨gM, tM⟩ := bltL_facts h1 h2 l
      have hc := actR_cases gM x
      obtain ⟨R, hR⟩ : ∃ R, actR (moreL [(size, 0)] l) x = R := ⟨_, rfl⟩
      rw [hR] at hc
      obtain ⟨err, N⟩ := R
      rcases hc with ⟨herr, hN⟩ | ⟨herr, gN, tN, law⟩
      · dsimp only at herr hN
        subst hN
        cases hs : x.swap with
        | true => have := pieces_swap_err w size A l c x at_ h1 h2 hA hlc hl (by omega) (by omega) hs _ rfl gM tM err hR herr; rwa [hs] at this
        | false => have := pieces_set_err w size A l c x at_ h1 h2 hA hlc hl (by omega) (by omega) hs _ rfl gM tM err hR herr; rwa [hs] at this
      · dsimp only at herr gN tN law
        subst herr
        have law := law at_ (by omega)
        cases hs : x.swap with
        | true => have := pieces_swap_ok w size A l c x at_ h1 h2 hA hlc hl (by omega) (by omega) hs _ rfl gM tM N hR gN tN _ _ rfl rfl law; rwa [hs] at this
        | false => have := pieces_set_ok w size A l c x at_ h1 h2 hA hlc hl (by omega) (by omega) hs _ rfl gM tM N hR gN tN _ _ rfl rfl law; rwa [hs] at this
  · exact pieces_no w size A l.length c x at_ h
end Go.Proofs.Ytfmplibjhohpgaa
