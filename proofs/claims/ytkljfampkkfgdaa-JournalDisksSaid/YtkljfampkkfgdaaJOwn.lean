/- The journal layer: disks and journals of a caller, and what the calls keep. -/
import Derived.Test.YtkljfampkkfgdaaJAppend2
namespace Go.Proofs.Ytkljfampkkfgdaa
open Go.RowKit
/-- The blocks K are kept. -/
def Kp (K : Nat → Prop) (w w' : World) : Prop := ButS (fun i => ¬ K i) w w'
theorem Kp.refl (K : Nat → Prop) (w : World) : Kp K w w := ButS.refl _ _
theorem Kp.trans {K : Nat → Prop} {a b c : World} (h : Kp K a b) (k : Kp K b c) : Kp K a c := ButS.trans h k fun _ h => .inl h
theorem Kp.mono {K K' : Nat → Prop} {a b : World} (h : Kp K' a b) (hk : ∀ i, K i → K' i) : Kp K a b := ButS.mono h fun i _ hn hk' => hn (hk i hk')
theorem Kp.of {K : Nat → Prop} {a b : World} (h : Below a.heap.size a b) : Kp K a b := ButS.of h
theorem Kp.next {K : Nat → Prop} {a b c : World} (h : Kp K a b) (k : Below b.heap.size b c) : Kp K a c := ButS.next h k
theorem Kp.block {K : Nat → Prop} {a b : World} (h : Kp K a b) {i : Nat} (hi : i < a.heap.size) (hk : K i) : b.heap[i]? = a.heap[i]? := ButS.block h i hi fun hn => hn hk
theorem Kp.below {K : Nat → Prop} {a b : World} (h : Kp K a b) {n : Nat} (hn : n ≤ a.heap.size) (hk : ∀ i, i < n → K i) : Below n a b := ButS.below h hn fun i hi => Nat.le_of_not_lt fun hl => hi (hk i hl)
theorem Kp.cell {K : Nat → Prop} {a b : World} (h : Kp K a b) {p : Addr} {v : Value} (hc : a.cell? p = some v) (hp : K p.block) : b.cell? p = some v := ButS.cell h hc fun hn => hn hp
theorem Strs.kp {K : Nat → Prop} {a b : World} {A : Option Addr} {l : List Bs} (h : Strs a A l) (hk : Kp K a b) (hA : ∀ p, A = some p → p.block < a.heap.size ∧ K p.block) : Strs b A l := h.kept fun p e => hk.block (hA p e).1 (hA p e).2
theorem OwnStrs.kp {K : Nat → Prop} {a b : World} {base : Nat} {v : Value} {l : List Bs} (h : OwnStrs a base v l) (hk : Kp K a b) (hv : ∀ g, v.ownBlock = some g → K g) : OwnStrs b base v l := h.kept fun g hg => hk.block (h.lt hg) (hv g hg)
/-- A disk, in blocks that are not K's. -/
def DD (K : Nat → Prop) (W : World) (dk : Nat) (D : Dk) : Prop := (∀ i, K i → i < W.heap.size) ∧ ∃ F, DiskAt W dk D F ∧ ∀ i, F i → ¬ K i
/-- A journal on it. -/
def JD (K : Nat → Prop) (W : World) (dk jb : Nat) (D : Dk) (J : Jn) : Prop := (∀ i, K i → i < W.heap.size) ∧ ∃ F G, DiskAt W dk D F ∧ JAt W jb dk J G ∧ (∀ i, F i → ¬ G i) ∧ (∀ i, F i → ¬ K i) ∧ ∀ i, G i → ¬ K i
/-- What calls ask of a disk, of a journal. -/
structure Bd (D : Dk) : Prop where
  h8 : 8 ≤ D.sec.length
  ep : (curC (getM D)).1 < 4611686018427387904
  few : Few 50000 D
structure JBd (J : Jn) : Prop where
  reg : 0 ≤ J.reg ∧ J.reg ≤ 1
  ep : 0 ≤ J.ep ∧ J.ep < 4611686018427387904
  recs : J.recs.length ≤ 900000
  used : J.used ≤ 900000
section
variable {K : Nat → Prop} {W W' : World} {dk jb : Nat} {D D' : Dk} {J J' : Jn} {F G : Nat → Prop}
theorem DD.next (h : DD K W dk D) (hB : Below W.heap.size W W') : DD K W' dk D := by
  obtain ⟨h1, F, h2, h3⟩ := h
  exact ⟨fun i hi => Nat.lt_of_lt_of_le (h1 i hi) hB.size, F, h2.next hB, h3⟩
theorem JD.next (h : JD K W dk jb D J) (hB : Below W.heap.size W W') : JD K W' dk jb D J := by
  obtain ⟨h1, F, G, h2, h3, h4⟩ := h
  exact ⟨fun i hi => Nat.lt_of_lt_of_le (h1 i hi) hB.size, F, G, h2.next hB, h3.next hB, h4⟩
theorem JD.dd (h : JD K W dk jb D J) : DD K W dk D := by
  obtain ⟨h1, F, G, h2, h3, h4, h5, h6⟩ := h
  exact ⟨h1, F, h2, h5⟩
theorem DD.ok (h : DD K W dk D) : D.Ok := by
  obtain ⟨h1, F, h2, h3⟩ := h
  exact h2.ok
/-- The blocks that are new since are kept from now on. -/
theorem DD.more (h : DD K W dk D) (hB : Below W.heap.size W W') : DD (fun i => K i ∨ (W.heap.size ≤ i ∧ i < W'.heap.size)) W' dk D := by
  obtain ⟨h1, F, h2, h3⟩ := h
  exact ⟨fun i hi => hi.elim (fun hi => Nat.lt_of_lt_of_le (h1 i hi) hB.size) fun hi => hi.2, F, h2.next hB, fun i hi hk => hk.elim (h3 i hi) fun hk => by have := h2.lt i hi; omega⟩
theorem JD.more (h : JD K W dk jb D J) (hB : Below W.heap.size W W') : JD (fun i => K i ∨ (W.heap.size ≤ i ∧ i < W'.heap.size)) W' dk jb D J := by
  obtain ⟨h1, F, G, h2, h3, h4, h5, h6⟩ := h
  exact ⟨fun i hi => hi.elim (fun hi => Nat.lt_of_lt_of_le (h1 i hi) hB.size) fun hi => hi.2, F, G, h2.next hB, h3.next hB, h4, fun i hi hk => hk.elim (h5 i hi) fun hk => by have := h2.lt i hi; omega, fun i hi hk => hk.elim (h6 i hi) fun hk => by have := h3.lt i hi; omega⟩
theorem DD.less {K' : Nat → Prop} (h : DD K W dk D) (hk : ∀ i, K' i → K i) : DD K' W dk D := by
  obtain ⟨h1, F, h2, h3⟩ := h
  exact ⟨fun i hi => h1 i (hk i hi), F, h2, fun i hi hh => h3 i hi (hk i hh)⟩
theorem JD.less {K' : Nat → Prop} (h : JD K W dk jb D J) (hk : ∀ i, K' i → K i) : JD K' W dk jb D J := by
  obtain ⟨h1, F, G, h2, h3, h4, h5, h6⟩ := h
  exact ⟨fun i hi => h1 i (hk i hi), F, G, h2, h3, h4, fun i hi hh => h5 i hi (hk i hh), fun i hi hh => h6 i hi (hk i hh)⟩
theorem Mv.dd (h : Mv W F dk W' D') (hK : ∀ i, K i → i < W.heap.size) (hF : ∀ i, F i → ¬ K i) : DD K W' dk D' ∧ Kp K W W' := by
  obtain ⟨F', h1, h2, h3⟩ := h
  exact ⟨⟨fun i hi => Nat.lt_of_lt_of_le (hK i hi) h2.size, F', h1, fun i hi hk => (h3 i hi).elim (fun h => hF i h hk) fun h => by have := hK i hk; omega⟩, h2.mono fun i _ hi => hF i hi⟩
theorem Mj.jd (h : Mj W F G dk jb W' D' J') (hK : ∀ i, K i → i < W.heap.size) (hF : ∀ i, F i → ¬ K i) (hG : ∀ i, G i → ¬ K i) : JD K W' dk jb D' J' ∧ Kp K W W' := by
  obtain ⟨F', G', h1, h2, h3, h4, h5, h6⟩ := h
  exact ⟨⟨fun i hi => Nat.lt_of_lt_of_le (hK i hi) h4.size, F', G', h1, h2, h3, fun i hi hk => (h5 i hi).elim (fun h => hF i h hk) fun h => (by have := hK i hk; omega), fun i hi hk => (h6 i hi).elim (fun h => hG i h hk) fun h => (by have := hK i hk; omega)⟩, h4.mono fun i _ hi => hi.elim (hF i) (hG i)⟩
/-- A call on the disk alone keeps the journal. -/
theorem JD.lift (h : JD K W dk jb D J) : ∃ K', (∀ i, K i → K' i) ∧ DD K' W dk D ∧ ∀ w' D', DD K' w' dk D' → Kp K' W w' → JD K w' dk jb D' J ∧ Kp K W w' := by
  obtain ⟨h1, F, G, h2, h3, h4, h5, h6⟩ := h
  refine ⟨fun i => K i ∨ G i, fun i => .inl, ⟨fun i hi => hi.elim (h1 i) (h3.lt i), F, h2, fun i hi hk => hk.elim (h5 i hi) (h4 i hi)⟩, fun w' D' hd hk => ?_⟩
  obtain ⟨q1, F', q2, q3⟩ := hd
  exact ⟨⟨fun i hi => q1 i (.inl hi), F', G, q2, h3.but hk fun i hi hn => hn (.inr hi), fun i hi hg => q3 i hi (.inr hg), fun i hi hh => q3 i hi (.inl hh), h6⟩, hk.mono fun i => .inl⟩
theorem dnew_dd (W : World) (K : Nat → Prop) (hK : ∀ i, K i → i < W.heap.size) (n : Nat) (h8 : 8 ≤ n) (hn : n ≤ 4096) : Calls Try.prog 24 #[.int .i64 n] W fun e w' => ∃ dk, e = .returned (.tuple #[.pointer (some ⟨dk, 0, none⟩), .int .i64 0]) ∧ Below W.heap.size W w' ∧ DD K w' dk (newM n) := by
  refine (newdisk_any W n h8 hn).mono ?_
  rintro e w' ⟨rfl, hb, hd⟩
  exact ⟨_, rfl, hb, fun i hi => Nat.lt_of_lt_of_le (hK i hi) hb.size, _, hd, fun i hi hk => by have := hK i hk; omega⟩
theorem format_dd (h : DD K W dk D) (b : Bd D) : Calls Try.prog 23 #[.pointer (some ⟨dk, 0, none⟩)] W fun e w' => e = .returned (.int .i64 (formatM D).1) ∧ DD K w' dk (formatM D).2 ∧ Kp K W w' := by
  obtain ⟨h1, F, h2, h3⟩ := h
  refine (format_any h2 b.h8 b.ep b.few).mono ?_
  rintro e w' ⟨rfl, hm⟩
  exact ⟨rfl, hm.dd h1 h3⟩
theorem fuse_dd (h : DD K W dk D) (n : Int) (hn : n < 9223372036854775808) : Calls Try.prog 32 #[.pointer (some ⟨dk, 0, none⟩), .int .i64 n] W fun e w' => e = .returned (.int .i64 (setM D n).1) ∧ DD K w' dk (setM D n).2 ∧ Kp K W w' := by
  obtain ⟨h1, F, h2, h3⟩ := h
  refine (dfuse_any h2 n hn).mono ?_
  rintro e w' ⟨rfl, hm⟩
  exact ⟨rfl, hm.dd h1 h3⟩
theorem crash_dd (h : DD K W dk D) (A : Option Addr) (keep : List Int) (n c2 : Nat) (hn : keep.length = n) (hA : Ints W A keep) (hK : 0 < n → ∀ a, A = some a → K a.block) (hn1 : n ≤ 9223372036854775807) :
    Calls Try.prog 28 #[.pointer (some ⟨dk, 0, none⟩), .slice A n c2] W fun e w' => e = .returned (.int .i64 0) ∧ DD K w' dk (crashM D keep) ∧ Kp K W w' := by
  obtain ⟨h1, F, h2, h3⟩ := h
  refine (dcrash_any h2 A keep n c2 hn hA (fun h0 a e hf => h3 _ hf (hK h0 a e)) hn1).mono ?_
  rintro e w' ⟨rfl, hm⟩
  exact ⟨rfl, hm.dd h1 h3⟩
/-- What Open leaves to a caller. -/
def OpenD (K : Nat → Prop) (W : World) (dk : Nat) (r : Int × Dk × Option Jn) (e : Ending) (W' : World) : Prop :=
  Kp K W W' ∧ DD K W' dk r.2.1 ∧ match r.2.2 with
  | none => e = .returned (.tuple #[.pointer none, .int .i64 r.1])
  | some J => ∃ jb, e = .returned (.tuple #[.pointer (some ⟨jb, 0, none⟩), .int .i64 r.1]) ∧ JD K W' dk jb r.2.1 J
theorem open_dd (h : DD K W dk D) (b : Bd D) : Calls Try.prog 21 #[.pointer (some ⟨dk, 0, none⟩)] W fun e w' => OpenD K W dk (openM D) e w' := by
  obtain ⟨h1, F, h2, h3⟩ := h
  refine (open_any h2 b.h8 b.ep b.few).mono ?_
  intro e w' hp
  unfold OpenP at hp
  unfold OpenD
  generalize openM D = r at *
  obtain ⟨r1, r2, r3⟩ := r
  cases r3 with
  | none =>
    simp only at hp ⊢
    obtain ⟨rfl, hm⟩ := hp
    have := hm.dd h1 h3
    exact ⟨this.2, this.1, rfl⟩
  | some J =>
    simp only at hp ⊢
    obtain ⟨jb, F', G', rfl, q1, q2, q3, q4, q5, q6⟩ := hp
    have hF' : ∀ i, F' i → ¬ K i := fun i hi hk => (q5 i hi).elim (fun h => h3 i h hk) fun h => by have := h1 i hk; omega
    have hK' : ∀ i, K i → i < w'.heap.size := fun i hi => Nat.lt_of_lt_of_le (h1 i hi) q4.size
    exact ⟨q4.mono fun i _ hi => h3 i hi, ⟨hK', F', q1, hF'⟩, jb, rfl, hK', F', G', q1, q2, q3, hF', fun i hi hk => by have := q6 i hi; have := h1 i hk; omega⟩
/-- Open, with another journal on the disk. -/
theorem open_jd (h : JD K W dk jb D J) (b : Bd D) : Calls Try.prog 21 #[.pointer (some ⟨dk, 0, none⟩)] W fun e w' => OpenD K W dk (openM D) e w' ∧ JD K w' dk jb (openM D).2.1 J := by
  obtain ⟨K', hk, hd, hl⟩ := h.lift
  refine (open_dd hd b).mono ?_
  rintro e w' ⟨q1, q2, q3⟩
  refine ⟨⟨q1.mono hk, q2.less hk, ?_⟩, (hl _ _ q2 q1).1⟩
  generalize (openM D).2.2 = o at *
  cases o with
  | none => exact q3
  | some J2 =>
    obtain ⟨kb, e, q4⟩ := q3
    exact ⟨kb, e, q4.less hk⟩
theorem append_jdL (h : JD K W dk jb D J) (b : Bd D) (bj : JBd J) (s : Bs) : Calls Try.prog 16 #[.pointer (some ⟨jb, 0, none⟩), .string ⟨s.toArray⟩] W fun e w' => e = .returned (.int .i64 (appendM D J s).1) ∧ JD K w' dk jb (appendM D J s).2.1 (appendM D J s).2.2 ∧ Kp K W w' := by
  obtain ⟨h1, F, G, h2, h3, h4, h5, h6⟩ := h
  refine (append_all h2 h3 h4 b.h8 s b.few bj.reg bj.ep bj.recs bj.used).mono ?_
  rintro e w' ⟨rfl, hm⟩
  exact ⟨rfl, hm.jd h1 h5 h6⟩
theorem append_jd (h : JD K W dk jb D J) (b : Bd D) (bj : JBd J) (s : Bs) (_hs : s.length ≤ 1000000) : Calls Try.prog 16 #[.pointer (some ⟨jb, 0, none⟩), .string ⟨s.toArray⟩] W fun e w' => e = .returned (.int .i64 (appendM D J s).1) ∧ JD K w' dk jb (appendM D J s).2.1 (appendM D J s).2.2 ∧ Kp K W w' := append_jdL h b bj s
theorem commit_jd (h : JD K W dk jb D J) (bj : JBd J) : Calls Try.prog 18 #[.pointer (some ⟨jb, 0, none⟩)] W fun e w' => e = .returned (.int .i64 (commitM D J).1) ∧ JD K w' dk jb (commitM D J).2.1 (commitM D J).2.2 ∧ Kp K W w' := by
  obtain ⟨h1, F, G, h2, h3, h4, h5, h6⟩ := h
  refine (commit_any h2 h3 h4 (by have := bj.recs; omega)).mono ?_
  rintro e w' ⟨rfl, hm⟩
  exact ⟨rfl, hm.jd h1 h5 h6⟩
theorem check_jdL (h : JD K W dk jb D J) (b : Bd D) (s : Bs) : Calls Try.prog 30 #[.pointer (some ⟨jb, 0, none⟩), .string ⟨s.toArray⟩] W fun e w' => e = .returned (.int .i64 (checkM D J s).1) ∧ JD K w' dk jb (checkM D J s).2.1 (checkM D J s).2.2 ∧ Kp K W w' := by
  obtain ⟨h1, F, G, h2, h3, h4, h5, h6⟩ := h
  refine (checkpoint_all h2 h3 h4 b.h8 s b.ep b.few).mono ?_
  rintro e w' ⟨rfl, hm⟩
  exact ⟨rfl, hm.jd h1 h5 h6⟩
theorem check_jd (h : JD K W dk jb D J) (b : Bd D) (s : Bs) (_hs : s.length ≤ 1000000) : Calls Try.prog 30 #[.pointer (some ⟨jb, 0, none⟩), .string ⟨s.toArray⟩] W fun e w' => e = .returned (.int .i64 (checkM D J s).1) ∧ JD K w' dk jb (checkM D J s).2.1 (checkM D J s).2.2 ∧ Kp K W w' := check_jdL h b s
theorem state_jd (h : JD K W dk jb D J) : Calls Try.prog 31 #[.pointer (some ⟨jb, 0, none⟩)] W fun e w' => e = .returned (.string ⟨J.st.toArray⟩) ∧ w' = W := by
  obtain ⟨h1, F, G, h2, h3, h4⟩ := h
  exact jstate_any h3
theorem durable_jd (h : JD K W dk jb D J) : Calls Try.prog 19 #[.pointer (some ⟨jb, 0, none⟩)] W fun e w' => e = .returned (.int .i64 (J.dur : Nat)) ∧ w' = W := by
  obtain ⟨h1, F, G, h2, h3, h4⟩ := h
  exact jdurable_any h3
theorem records_jd (h : JD K W dk jb D J) (hl : J.recs.length ≤ 1000000) : Calls Try.prog 15 #[.pointer (some ⟨jb, 0, none⟩)] W fun e w' => ∃ v, e = .returned v ∧ OwnStrs w' W.heap.size v J.recs ∧ Below W.heap.size W w' := by
  obtain ⟨h1, F, G, h2, h3, h4⟩ := h
  exact jrecords_any h3 hl
theorem room_jd (h : JD K W dk jb D J) (h8 : 8 ≤ D.sec.length) (hu : J.used ≤ 1000000) : Calls Try.prog 13 #[.pointer (some ⟨jb, 0, none⟩)] W fun e w' => e = .returned (.int .i64 ((capM D.sec.length : Int) - (J.used : Int))) ∧ Below W.heap.size W w' := by
  obtain ⟨h1, F, G, h2, h3, h4⟩ := h
  exact jroom_any h3 h2 h8 hu
theorem off_dd (h : DD K W dk D) : Calls Try.prog 42 #[.pointer (some ⟨dk, 0, none⟩)] W fun e w' => e = .returned (.bool D.off) ∧ w' = W := by
  obtain ⟨h1, F, h2, h3⟩ := h
  exact doff_any h2
theorem blocks_dd (h : DD K W dk D) : Calls Try.prog 41 #[.pointer (some ⟨dk, 0, none⟩)] W fun e w' => e = .returned (.int .i64 D.sec.length) ∧ w' = W := by
  obtain ⟨h1, F, h2, h3⟩ := h
  exact dblocks_any h2
theorem read_dd (h : DD K W dk D) (n : Int) : Calls Try.prog 38 #[.pointer (some ⟨dk, 0, none⟩), .int .i64 n] W fun e w' => e = .returned (.tuple #[.string ⟨(readM D n).1.toArray⟩, .int .i64 (readM D n).2]) ∧ Below W.heap.size W w' := by
  obtain ⟨h1, F, h2, h3⟩ := h
  exact dread_any h2 n
theorem write_dd (h : DD K W dk D) (n : Int) (data : Bs) (hfew : Few 999999 D) : Calls Try.prog 39 #[.pointer (some ⟨dk, 0, none⟩), .int .i64 n, .string ⟨data.toArray⟩] W fun e w' => e = .returned (.int .i64 (writeM D n data).1) ∧ DD K w' dk (writeM D n data).2 ∧ Kp K W w' := by
  obtain ⟨h1, F, h2, h3⟩ := h
  refine (dwrite_any h2 n data hfew).mono ?_
  rintro e w' ⟨rfl, hm⟩
  exact ⟨rfl, hm.dd h1 h3⟩
theorem sync_dd (h : DD K W dk D) : Calls Try.prog 40 #[.pointer (some ⟨dk, 0, none⟩)] W fun e w' => e = .returned (.int .i64 (syncM D).1) ∧ DD K w' dk (syncM D).2 ∧ Kp K W w' := by
  obtain ⟨h1, F, h2, h3⟩ := h
  refine (dsync_any h2).mono ?_
  rintro e w' ⟨rfl, hm⟩
  exact ⟨rfl, hm.dd h1 h3⟩
theorem clone_dd (h : DD K W dk D) (hfew : Few 1000000 D) : Calls Try.prog 20 #[.pointer (some ⟨dk, 0, none⟩)] W fun e w' =>
    ∃ g F, e = .returned (.pointer (some ⟨g, 0, none⟩)) ∧ Below W.heap.size W w' ∧ DiskAt w' g { D with own := 0 } F ∧ ∀ i, F i → W.heap.size ≤ i := by
  obtain ⟨h1, F, h2, h3⟩ := h
  exact dclone_any h2 hfew
end
end Go.Proofs.Ytkljfampkkfgdaa
