/- The journal layer: the walks over Format and Open. -/
import Derived.Test.YtkljfampkkfgdaaJBegin
import Derived.Test.YtkljfampkkfgdaaJParse
namespace Go.Proofs.Ytkljfampkkfgdaa
open Go.RowKit
theorem Mj.mv {w0 w W : World} {F F0 G : Nat → Prop} {dk jb : Nat} {D : Dk} {J : Jn} (h : Mj w F G dk jb W D J) (hb : ButS F0 w0 w) (hF : ∀ i, F i → F0 i ∨ w0.heap.size ≤ i) (hG : ∀ i, G i → w0.heap.size ≤ i) : Mv w0 F0 dk W D := by
  obtain ⟨F', G', h1, _, _, h4, h5, _⟩ := h
  exact ⟨F', h1, hb.trans h4 fun i h => h.elim (hF i) fun h => .inr (hG i h), fun i hi => (h5 i hi).elim (hF i) fun h => .inr (Nat.le_trans hb.size h)⟩
section
variable {W W' : World} {jb dk : Nat} {v : Value} {J : Jn} {G F : Nat → Prop} {D : Dk}
theorem getM_bump (D : Dk) : getM (bumpM D) = getM D := rfl
set_option maxRecDepth 100000 in
set_option maxHeartbeats 1000000 in
theorem format_any (hd : DiskAt W dk D F) (h8 : 8 ≤ D.sec.length) (hep : (curC (getM D)).1 < 4611686018427387904) (hfew : Few 50000 D) :
    Calls Try.prog 23 #[.pointer (some ⟨dk, 0, none⟩)] W fun e w' => e = .returned (.int .i64 (formatM D).1) ∧ Mv W F dk w' (formatM D).2 := by
  have hlt := hd.lt
  by_cases ho : D.off = true
  · have hop := jopen_off hd ho
    have e0 : formatM D = (70, bumpM D) := by unfold formatM; rw [if_pos ho]
    rw [e0]
    have HOP := Lib.hid hop
    clear hop hd ho e0
    go_enter Try.func23, Try.ntmps23
    go_wp2_with (go_at_call 55; refine HOP.out.mono ?_; rintro x w1 ⟨rfl, hd1, hb1⟩)
    go_ret
    exact ⟨rfl, F, hd1, hb1, fun i h => .inl h⟩
  · have ho' : D.off = false := by simpa using ho
    have hop := jopen_any hd ho'
    have e0 : formatM D = beginM (bumpM D) [[]] := by unfold formatM; rw [if_neg ho]
    rw [e0]
    have hbe := fun jb w1 (hd1 : DiskAt w1 dk (bumpM D) F) (hj1 : JAt w1 jb dk (newJ (bumpM D).own) (fun i => i = jb)) (hdis : ∀ i, F i → ¬ i = jb) =>
      begin_any hd1 hj1 hdis ho' h8 [] [] none 0 0 rfl (.inl rfl) (.inr ⟨rfl, rfl⟩) nofun nofun (show usedM [[]] ≤ capM D.sec.length from by simp [usedM, unitsM, capM]; omega) (by simp) (by rw [getM_bump]; exact hep) hfew
    obtain ⟨R, hR⟩ : ∃ R, beginM (bumpM D) [[]] = R := ⟨_, rfl⟩
    rw [hR] at hbe ⊢
    have HOP := Lib.hid hop
    have HBE := Lib.hid hbe
    have HLT := Lib.hid hlt
    clear hop hd ho ho' e0 hbe hR hlt
    go_enter Try.func23, Try.ntmps23
    go_upto_region 4 with (go_at_call 55; refine HOP.out.mono ?_; rintro x w1 ⟨jb, rfl, hjb, hd1, hj1, hb1⟩)
    have HB := Lib.hid (HBE.out jb w1 hd1 hj1 (fun i hi e => by have := HLT.out i hi; omega))
    clear hd1 hj1
    go_upto_region 5 with (go_at_call 58; refine HB.out.mono ?_; rintro x w2 ⟨rfl, hm2⟩)
    go_ret
    exact ⟨rfl, hm2.mv hb1 (fun i h => .inl h) fun i h => h ▸ hjb⟩
theorem format_nil (W : World) : Calls Try.prog 23 #[.pointer none] W fun e w' => e = .returned (.int .i64 1) ∧ w' = W := by
  go_enter Try.func23, Try.ntmps23
  go_wp2_with (go_at_call 55; refine (jopen_nil _).mono ?_; rintro x w1 ⟨rfl, hw1⟩; obtain rfl := hw1.symm)
  go_ret
  exact ⟨rfl, rfl⟩
theorem open_nil (W : World) : Calls Try.prog 21 #[.pointer none] W fun e w' => e = .returned (.tuple #[.pointer none, .int .i64 1]) ∧ w' = W := by
  go_enter Try.func21, Try.ntmps21
  go_wp2_with (go_at_call 55; refine (jopen_nil _).mono ?_; rintro x w1 ⟨rfl, hw1⟩; obtain rfl := hw1.symm)
  go_ret2
  exact ⟨rfl, rfl⟩
theorem Strs.oneS (w : World) (x : Bs) : Strs (w.alloc (.cells #[.string ⟨x.toArray⟩] 9)) (some ⟨w.heap.size, 0, none⟩) [x] := by
  obtain ⟨A, c, e, _, h⟩ := (OwnStrs.one w w.heap.size x (Nat.le_refl _)).toStrs
  simp only [List.length_singleton, Value.slice.injEq] at e
  rw [e.1]; exact h
/-- What a call of Open leaves. -/
def OpenP (w : World) (F : Nat → Prop) (dk : Nat) (r : Int × Dk × Option Jn) (e : Ending) (W : World) : Prop :=
  match r.2.2 with
  | none => e = .returned (.tuple #[.pointer none, .int .i64 r.1]) ∧ Mv w F dk W r.2.1
  | some J => ∃ jb F' G', e = .returned (.tuple #[.pointer (some ⟨jb, 0, none⟩), .int .i64 r.1]) ∧ DiskAt W dk r.2.1 F' ∧ JAt W jb dk J G' ∧ (∀ i, F' i → ¬ G' i) ∧ ButS F w W ∧ (∀ i, F' i → F i ∨ w.heap.size ≤ i) ∧ (∀ i, G' i → w.heap.size ≤ i)
set_option maxRecDepth 100000 in
set_option maxHeartbeats 8000000 in
theorem open_any (hd : DiskAt W dk D F) (h8 : 8 ≤ D.sec.length) (hep : (curC (getM D)).1 < 4611686018427387904) (hfew : Few 50000 D) :
    Calls Try.prog 21 #[.pointer (some ⟨dk, 0, none⟩)] W fun e w' => OpenP W F dk (openM D) e w' := by
  have hlt := hd.lt
  by_cases ho : D.off = true
  · have hop := jopen_off hd ho
    have e0 : openM D = (70, bumpM D, none) := by unfold openM; rw [if_pos ho]
    rw [e0]
    have HOP := Lib.hid hop
    clear hop hd ho e0
    go_enter Try.func21, Try.ntmps21
    go_wp2_with (go_at_call 55; refine HOP.out.mono ?_; rintro x w1 ⟨rfl, hd1, hb1⟩)
    go_ret2
    exact ⟨rfl, F, hd1, hb1, fun i h => .inl h⟩
  · have ho' : D.off = false := by simpa using ho
    have hop := jopen_any hd ho'
    obtain ⟨R, hR⟩ : ∃ R, openM D = R := ⟨_, rfl⟩
    rw [hR]
    unfold openM at hR
    rw [if_neg ho] at hR
    unfold parseC at hR
    have hck := curC_ok (getM D)
    have hcur := fun w1 (hd1 : DiskAt w1 dk (bumpM D) F) => current_any hd1 ho' h8
    have hbase := baseM_eq D.sec.length hck.2.1
    have hld := fun w1 (hd1 : DiskAt w1 dk (bumpM D) F) at_ q (hat : at_ ≤ 10000) (hq : q < 1000000) => load_any hd1 ho' h8 (curC (getM D)).1 (curC (getM D)).2 (baseM D.sec.length (curC (getM D)).2) at_ q hck.2.1 hck.2.2 hbase hat hq
    have hcap : capM D.sec.length ≤ 2047 := by have := hd.ok.few; unfold capM; omega
    have hbe := fun jb w1 (hd1 : DiskAt w1 dk (bumpM D) F) (hj1 : JAt w1 jb dk (newJ (bumpM D).own) (fun i => i = jb)) (hdis : ∀ i, F i → ¬ i = jb) (st : Bs) (rs : List Bs) A c hS hA hAF hAL huse hlen =>
      begin_any hd1 hj1 hdis ho' h8 st rs A rs.length c rfl hS hA hAF hAL huse hlen (by rw [getM_bump]; exact hep) hfew
    simp only [getM_bump] at hcur hld
    have e0 : (bumpM D).sec.length = D.sec.length := rfl
    rw [e0] at hld hbe
    have hfits : ∀ st rs, parseC (getM D) D.sec.length = some (st, rs) → usedM (st :: rs) ≤ capM D.sec.length ∧ ∀ s ∈ st :: rs, s.length ≤ 65536 := fun st rs h => parse_fits h
    have hrec := fun a q h => recs_fits (getM D) (baseM D.sec.length (curC (getM D)).2) (capM D.sec.length) (curC (getM D)).1 (capM D.sec.length + 1) a q h
    have hlf := fun a q s (h : loadC (getM D) (baseM D.sec.length (curC (getM D)).2) (capM D.sec.length) (curC (getM D)).1 a q = some s) => load_fits h
    unfold parseC at hfits
    generalize capM D.sec.length = C at *
    generalize baseM D.sec.length (curC (getM D)).2 = base at *
    generalize (curC (getM D)).1 = p1 at *
    generalize (curC (getM D)).2 = p2 at *
    have HOP := Lib.hid hop
    have HBE := Lib.hid hbe
    have HLT := Lib.hid hlt
    have HLD := Lib.hid hld
    have HCUR := Lib.hid hcur
    have HR := Lib.hid hR
    have HFI := Lib.hid hfits
    have HLF := Lib.hid hlf
    clear hop hd ho ho' hbe hlt hld hcur hbase e0 hep hfew hR hfits hck hrec hlf
    go_enter Try.func21, Try.ntmps21
    go_upto_region 5 with (first
      | (go_at_call 55; refine HOP.out.mono ?_; rintro x w1 ⟨jb, rfl, hjb, hd1, hj1, hb1⟩)
      | (go_at_call 56; refine (HCUR.out _ hd1).mono ?_; rintro x w2 ⟨rfl, b2⟩))
    have hdis : ∀ i, F i → ¬ i = jb := fun i hi e => by have := HLT.out i hi; omega
    have HD1 := Lib.hid hd1
    have HJ1 := Lib.hid hj1
    have HB1 := Lib.hid hb1
    have HDIS := Lib.hid hdis
    have hjl := hj1.lt jb rfl
    by_cases e1 : p1 = 0
    · have hR := HR.out
      rw [if_pos e1] at hR
      have b1 : (p1 == 0) = true := by simpa using e1
      have HB2 := Lib.hid b2
      clear e1 hd1 hj1 hb1 hdis b2
      go_wp2_with (fail)
      go_ret2
      subst hR
      exact ⟨rfl, F, HD1.out.next HB2.out, HB1.out.next HB2.out, fun i h => .inl h⟩
    · have hR := HR.out
      rw [if_neg e1] at hR
      have b1 : (p1 == 0) = false := by simpa using e1
      have h0 := HLD.out w2 (hd1.next b2) 0 0 (by omega) (by omega)
      obtain ⟨L, hL⟩ : ∃ L, loadC (getM D) base C p1 0 0 = L := ⟨_, rfl⟩
      rw [hL] at h0 hR
      have HB2 := Lib.hid b2
      have H0 := Lib.hid h0
      cases L with
      | none =>
        clear e1 hd1 hj1 hb1 hdis b2 h0
        go_wp2_with (go_at_call 57; refine H0.out.mono ?_; rintro x w3 ⟨rfl, b3⟩; dsimp only [optV, Option.isSome, Option.getD])
        go_ret2
        subst hR
        exact ⟨rfl, F, (HD1.out.next HB2.out).next b3, (HB1.out.next HB2.out).next b3, fun i h => .inl h⟩
      | some st =>
        simp only at hR
        obtain ⟨RS, hRS⟩ : ∃ RS, recsK (getM D) base C p1 (C + 1) (unitsM st.length) 1 = RS := ⟨_, rfl⟩
        have hfit := HFI.out st RS (by rw [if_neg e1, hL]; simp only; rw [hRS])
        have hfs := HLF.out _ _ _ hL
        rw [hRS] at hR
        have hun := fun W => units_any st W (by omega)
        have HUN := Lib.hid hun
        have HFIT := Lib.hid hfit
        have HRS := Lib.hid hRS
        have HR2 := Lib.hid hR
        obtain ⟨us, hus⟩ : ∃ us, unitsM st.length = us := ⟨_, rfl⟩
        rw [hus] at HUN HRS
        have husC : us ≤ C := by omega
        clear e1 hd1 hj1 hb1 hdis b2 h0 hun hfit hRS hR hL hfs hus
        go_upto_region 12 with (first
          | (go_at_call 57; refine H0.out.mono ?_; rintro x w3 ⟨rfl, b3⟩; dsimp only [optV, Option.isSome, Option.getD])
          | (go_at_call 47; refine (HUN.out _).mono ?_; rintro x w4 ⟨rfl, hw4⟩; obtain rfl := hw4.symm))
        have hB3 : Below w1.heap.size w1 w3 := HB2.out.trans (b3.mono HB2.out.size)
        have HB3 := Lib.hid hB3
        clear b3 hB3
        go_loopw [10, 11, 12, 13] (fun rv a_ _ _ w => ∃ (acc : List Bs) (a : Nat), a ≤ C ∧ acc.length ≤ a ∧ a_ = .int .i64 a ∧ OwnStrs w w1.heap.size rv acc ∧ acc ++ recsK (getM D) base C p1 (C + 1 - acc.length) a (acc.length + 1) = RS ∧ Below w1.heap.size w1 w) (fun _ a_ _ _ _ => C - (intOf a_).toNat)
        case atStart => exact ⟨[], us, husC, Nat.zero_le _, rfl, OwnStrs.none _ _, HRS.out, HB3.out⟩
        case round =>
          obtain ⟨acc, a, ha, hal, rfl, hO, hrs, hB⟩ := hrel
          obtain ⟨A, c, rfl, hS, hA⟩ := hO.slice
          obtain ⟨na, hna⟩ : ∃ na, acc.length = na := ⟨_, rfl⟩
          have h1 := HLD.out wr (HD1.out.next hB) a (na + 1) (by omega) (by omega)
          have m1 : IntKind.i64.wrap ((na : Int) + 1) = ((na + 1 : Nat) : Int) := by rw [IntWalk.i64_in _ (by omega)]; omega
          rw [hna] at hrs hal hO ⊢
          rw [show C + 1 - na = (C - na) + 1 from by omega, recsK] at hrs
          obtain ⟨L, hL⟩ : ∃ L, loadC (getM D) base C p1 a (na + 1) = L := ⟨_, rfl⟩
          rw [hL] at h1 hrs
          have H1 := Lib.hid h1
          have HO := Lib.hid hO
          have HS := Lib.hid hS
          have HA := Lib.hid hA
          have HBR := Lib.hid hB
          have HNA := Lib.hid hna
          cases L with
          | none =>
            simp only [List.append_nil] at hrs
            have HRS2 := Lib.hid hrs
            clear h1 hO hS hA hB hna hrs hL
            have e := HRS2.out
            subst e
            go_upto_region 16 with (go_at_call 57; refine H1.out.mono ?_; rintro x w5 ⟨rfl, b5⟩; dsimp only [optV, Option.isSome, Option.getD])
            have hB5 : Below w1.heap.size w1 w5 := HBR.out.trans (b5.mono HBR.out.size)
            have hO5 := HO.out.next b5
            have hb := HBE.out jb w5 (HD1.out.next hB5) (HJ1.out.next hB5) HDIS.out st acc A c (HS.out.next b5) HA.out
              (fun a' e => by
                subst e
                have h1 := (World.ownsRow.lt hO5 a'.block rfl).1
                exact ⟨fun h => by have := HLT.out _ h; have := HB1.out.size; omega, by omega⟩)
              (fun a' e => by subst e; exact (World.ownsRow.lt hO5 a'.block rfl).2) HFIT.out.1 (fun x hx => Nat.le_trans (HFIT.out.2 x hx) (by omega))
            rw [HNA.out] at hb
            have hR := HR2.out
            obtain ⟨er, E, hX⟩ : ∃ er E, beginM (bumpM D) (st :: acc) = (er, E) := ⟨_, _, rfl⟩
            rw [hX] at hb hR
            simp only at hb hR
            obtain ⟨JJ, hJJ⟩ : ∃ JJ, (if er = 0 then begunJ (bumpM D) (newJ (bumpM D).own) st acc else newJ (bumpM D).own) = JJ := ⟨_, rfl⟩
            rw [hJJ] at hb
            have HBB := Lib.hid hb
            have HJJ := Lib.hid hJJ
            have HR3 := Lib.hid hR
            have HB5 := Lib.hid hB5
            clear hb hJJ hR hB5 hO5 b5 hX
            go_upto_region 17 with (go_at_call 58; refine HBB.out.mono ?_; rintro x w6 ⟨rfl, hm6⟩)
            have HM := Lib.hid hm6
            clear hm6
            by_cases he : er = 0
            · have he2 : (er != 0) = false := by simpa using he
              have hR := HR3.out
              rw [if_pos he] at hR
              have hJJ := HJJ.out
              rw [if_pos he] at hJJ
              go_wp2_with (fail)
              go_ret2
              subst hR
              rw [hJJ]
              obtain ⟨F', G', h1, h2, h3, h4, h5, h6⟩ := HM.out
              refine ⟨jb, F', G', rfl, h1, h2, h3, (HB1.out.trans (ButS.of (F := fun _ => False) HB5.out) fun _ h => h.elim).trans h4 fun i h => h.elim .inl fun h => .inr (h ▸ hjb), fun i hi => (h5 i hi).imp id fun h => ?_, fun i hi => (h6 i hi).elim (fun h => h ▸ hjb) fun h => ?_⟩
              · have := HB1.out.size; have := HB5.out.size; omega
              · have := HB1.out.size; have := HB5.out.size; omega
            · have he2 : (er != 0) = true := by simpa using he
              have hR := HR3.out
              rw [if_neg he] at hR
              go_wp2_with (fail)
              go_ret2
              subst hR
              exact ⟨rfl, HM.out.mv (HB1.out.trans (ButS.of (F := fun _ => False) HB5.out) fun _ h => h.elim) (fun i h => .inl h) fun i h => h ▸ hjb⟩
          | some s =>
            simp only at hrs
            have hfs := HLF.out _ _ _ hL
            have hup := unitsM_pos s.length
            have hun := fun W => units_any s W (by omega)
            have HRS2 := Lib.hid hrs
            have HUN := Lib.hid hun
            obtain ⟨us2, hus⟩ : ∃ us2, unitsM s.length = us2 := ⟨_, rfl⟩
            rw [hus] at hfs HUN HRS2 hup
            have m2 : IntKind.i64.wrap ((a : Int) + (us2 : Int)) = ((a + us2 : Nat) : Int) := by rw [IntWalk.i64_in _ (by omega)]; omega
            have hfs1 := hfs.1
            clear h1 hO hS hA hB hna hrs hL hun hus hfs
            go_wp2_with (first
              | (go_at_call 57; refine H1.out.mono ?_; rintro x w5 ⟨rfl, b5⟩; dsimp only [optV, Option.isSome, Option.getD])
              | (go_at_call 47; refine (HUN.out _).mono ?_; rintro x w6 ⟨rfl, hw6⟩; obtain rfl := hw6.symm)
              | (at_builtin; refine wpList_append_strs rfl (.tmp 54) (.tmp 56) rfl w1.heap.size _ acc [s] (some ⟨w5.heap.size, 0, none⟩) 1 1 rfl rfl rfl ((HO.out.next b5).next (Below.new1 _ _)) (Strs.oneS w5 s) (.inl ⟨_, rfl⟩) (by have := HNA.out; omega) (by simp) (by rw [World.size_alloc]; have := HBR.out.size; have := b5.size; omega) ?_
                 intro v3 w6 hO6 b6
                 obtain ⟨A6, c6, rfl, -, -⟩ := hO6.slice))
            have hn6 : (acc ++ [s]).length = na + 1 := by simp [HNA.out]
            have hO7 := hO6
            rw [List.length_append] at hO7
            exact ⟨⟨acc ++ [s], a + us2, hfs1, by rw [hn6]; omega, congrArg _ (by omega), hO7, by rw [hn6, List.append_assoc, show C + 1 - (na + 1) = C - na from by omega]; exact HRS2.out, (HBR.out.trans (b5.mono HBR.out.size)).trans (((Below.new1 w5 _).mono (by have := HBR.out.size; have := b5.size; omega)).trans b6)⟩, by simp [intOf]; omega⟩
end
end Go.Proofs.Ytkljfampkkfgdaa
