/- Contracts of functions of the given program, each proved by walking its code: part of the proof of this claim; no condition beyond those that each theorem names. -/
import Derived.Test.YtpmpomknnppnjaaDoorJnSide
set_option linter.unusedVariables false
set_option linter.unusedSimpArgs false
namespace Go.Proofs.Jn
open Go Go.RowKit Go.Proofs.Eng
structure JI (img : Bytes) (nb boots : Nat) (rs : List Bytes) (en : Nat) : Prop where
  len : img.length = 16 * nb
  at_ : At img nb 1 0 rs en
  hd : blk img 0 = headB boots
theorem JI.opened {img : Bytes} {nb boots en : Nat} {rs : List Bytes} (hl : img.length = 16 * nb) (h2 : 2 ≤ nb) (h : At img nb 1 0 rs en) : JI (setBlk img 0 (headB (boots + 1))) nb (boots + 1) rs en :=
  ⟨setBlk_length hl (by omega) (headB_length _), h.mono fun q h1 h3 => blk_setBlk_ne hl (by omega) (by have := h.le; omega) (headB_length _) (by omega), blk_setBlk_same hl (by omega) (headB_length _)⟩
theorem JI.lt {img : Bytes} {nb boots en : Nat} {rs : List Bytes} (h : JI img nb boots rs en) : rs.length < nb ∧ 1 ≤ en ∧ en < nb := by
  have := h.at_.le
  omega
theorem JI.part {img : Bytes} {nb boots en m : Nat} {rs : List Bytes} {r : Bytes} (h : JI img nb boots rs en) (hm : en + 1 + m ≤ nb) : JI (laid img (en + 1) r m) nb boots rs en :=
  ⟨laid_length h.len m hm, h.at_.part h.len hm, by rw [laid_other h.len m hm 0 (by omega) (by omega)]; exact h.hd⟩
theorem JI.full {img : Bytes} {nb boots en : Nat} {rs : List Bytes} {r : Bytes} (h : JI img nb boots rs en) (hr : r.length ≤ 131072) (hf : en + span r.length + 1 < nb) :
    JI (setBlk (laid img (en + 1) r (span r.length + 1)) en (titleB r.length (rs.length + 1))) nb boots (rs ++ [r]) (en + span r.length + 1) := by
  have hll := laid_length (r := r) (e := en + 1) h.len (span r.length + 1) (by omega)
  have hlt := h.lt
  refine ⟨setBlk_length hll (by omega) (titleB_length _ _), h.at_.full h.len hr hf, ?_⟩
  rw [blk_setBlk_ne hll (by omega) (by omega) (titleB_length _ _) (by omega), laid_other h.len _ (by omega) 0 (by omega) (by omega)]
  exact h.hd
theorem DS.ok_mono {s : DS} {m m' : Int} (h : s.ok m) (hm : m ≤ m') : s.ok m' := ⟨h.1, by have := h.2.1; omega, h.2.2⟩
theorem after_quiet {s : DS} (hf : s.fu = false) (hd : s.dn = false) : ∀ q, (s.after q).fu = false ∧ (s.after q).dn = false
  | 0 => ⟨hf, hd⟩
  | q + 1 => by
    obtain ⟨h1, h2⟩ := after_quiet hf hd q
    simp [DS.after, DS.wrote, h1, h2]
theorem span_le (m : Nat) (h : m ≤ 131072) : span m ≤ 8192 := by unfold span; omega
/-- what an Append comes to -/
def AppIs (M : Int) (nb boots : Nat) (rs : List Bytes) (r : Bytes) (down : Bool) (e : Int) (down' : Bool) (s' : DS) (img' : Bytes) (rs' : List Bytes) (en' : Nat) : Prop :=
  JI img' nb boots rs' en' ∧ s'.ok (M + 10000) ∧ ((e = 0 ∧ down = false ∧ down' = false ∧ rs' = rs ++ [r]) ∨ (e = 50 ∧ down' = true ∧ rs' = rs) ∨ (e = 51 ∧ down = false ∧ down' = false ∧ rs' = rs))
theorem c10u {w0 : World} {j d bb nb en boots : Nat} {down : Bool} {s : DS} {img r : Bytes} {v : Value} {c : Chunk} {m : Nat} {rs : List Bytes} {M : Int} (hr : Rd w0 c 1 v m (r.map byv)) (hm : m ≤ 131072) (hnb : nb ≤ 65536) (hJ : JI img nb boots rs en) (hs : s.ok M) (hM : M ≤ 100000000000000) :
    CtR Pg w0 10 #[.pointer (some ⟨j, 0, none⟩), v] [jB j d boots (rs.length : Int) (en : Int) down, dkS d bb nb s, imB bb img, c] (fun u H => ∃ e down' s' img' rs' en', u = .int .i64 e ∧ AppIs M nb boots rs r down e down' s' img' rs' en' ∧ H = [jB j d boots (rs'.length : Int) (en' : Int) down', dkS d bb nb s', imB bb img', c]) := by
  have hlt := hJ.lt
  have hml : r.length = m := by
    obtain ⟨_, _, _, _, _, h, _⟩ := hr
    simpa using h
  have hsp := span_le m hm
  have hs1 : s.ok (M + 10000) := DS.ok_mono hs (by omega)
  cases down with
  | true =>
    refine (c10a hr hm hnb hlt.2.2).ret_mono ?_
    rintro u H ⟨hu, hH⟩
    exact ⟨50, true, s, img, rs, en, hu, ⟨hJ, hs1, .inr (.inl ⟨rfl, rfl, rfl⟩)⟩, hH⟩
  | false =>
    cases hd : s.dn with
    | true =>
      refine (c10b hr hm hnb hlt.2.2 hd).ret_mono ?_
      rintro u H ⟨hu, hH⟩
      exact ⟨50, true, s, img, rs, en, hu, ⟨hJ, hs1, .inr (.inl ⟨rfl, rfl, rfl⟩)⟩, hH⟩
    | false =>
      rcases Nat.lt_or_ge (en + span m + 1) nb with hf | hf
      · refine (c10w hr hm hnb hlt.2.2 hJ.len (DS.ok_mono hs hM) hd hf (by omega)).ret_mono ?_
        subst hml
        rintro u H (⟨hu, _, hH⟩ | ⟨k, hk, hu, _, _, hH⟩)
        · exact ⟨0, false, s.after (span r.length + 2), _, rs ++ [r], en + span r.length + 1, hu, ⟨hJ.full hm hf, DS.ok_mono (DS.ok_after hs _) (by omega), .inl ⟨rfl, rfl, rfl, rfl⟩⟩, by rw [hH, List.length_append]; rfl⟩
        · exact ⟨50, true, _, _, rs, en, hu, ⟨hJ.part (by omega), DS.ok_mono (DS.ok_after hs _) (by omega), .inr (.inl ⟨rfl, rfl, rfl⟩)⟩, hH⟩
      · refine (c10c hr hm hnb hlt.2.2 hd hf).ret_mono ?_
        rintro u H ⟨hu, hH⟩
        exact ⟨51, false, s, img, rs, en, hu, ⟨hJ, hs1, .inr (.inr ⟨rfl, rfl, rfl, rfl⟩)⟩, hH⟩
theorem blk_zeros {nb i : Nat} (h : i < nb) : blk (List.replicate (16 * nb) 0) i = zb := by
  rw [blk, List.drop_replicate, List.take_replicate, Nat.min_eq_left (by omega)]
  rfl
theorem at_zeros {nb : Nat} (h : 2 ≤ nb) : At (List.replicate (16 * nb) 0) nb 1 0 [] 1 := ⟨rfl, by omega, blk_zeros (by omega)⟩
/-- Open of a disk of zeros -/
theorem c8z {w0 : World} {d bb nb : Nat} {s : DS} (h2 : 2 ≤ nb) (hnb : nb ≤ 65536) (hs : s.ok 1000000000000000) (hd : s.dn = false) :
    CtR Pg w0 8 #[.pointer (some ⟨d, 0, none⟩)] [dkS d bb nb s, imB bb (List.replicate (16 * nb) 0)] (fun v H => ∃ j vl cl img', v = .tuple #[.pointer (some ⟨j, 0, none⟩), vl, .int .i64 0] ∧ Own 31 1 cl vl 0 [] ∧ JI img' nb 1 [] 1 ∧ H = [jB j d 1 0 1 false, cl, dkS d bb nb s.wrote, imB bb img']) := by
  refine (c8f (boots := 0) h2 hnb (by simp) hs hd (blk_zeros (by omega)) rfl (at_zeros h2) (blk_zeros (by omega))).ret_regroup ?_
  rintro v H ⟨j, vl, cl, cR, vs, hv, ho, ⟨hvs, hcR⟩, hH⟩
  subst hvs hcR
  exact ⟨_, ⟨j, vl, cl, _, hv, ho, JI.opened (boots := 0) (by simp) h2 (at_zeros h2), rfl⟩, by rw [hH]; simp⟩
/-- .. and of one that a journal wrote -/
theorem c8u {w0 : World} {d bb nb en boots : Nat} {s : DS} {img : Bytes} {rs : List Bytes} (hnb : nb ≤ 65536) (hJ : JI img nb boots rs en) (hb : boots < 1000000) (hs : s.ok 1000000000000000) (hd : s.dn = false) :
    CtR Pg w0 8 #[.pointer (some ⟨d, 0, none⟩)] [dkS d bb nb s, imB bb img] (fun v H => ∃ j vl cl cR vs img', v = .tuple #[.pointer (some ⟨j, 0, none⟩), vl, .int .i64 0] ∧ Own 31 1 cl vl rs.length vs ∧ Recs rs vs cR ∧ JI img' nb (boots + 1) rs en ∧ H = [jB j d (boots + 1) (rs.length : Int) (en : Int) false, cl, cR, dkS d bb nb s.wrote, imB bb img']) := by
  have hlt := hJ.lt
  refine (c8b (by omega) hnb hJ.len hs hd hJ.hd hb hJ.at_).ret_mono ?_
  rintro v H ⟨j, vl, cl, cR, vs, hv, ho, hr, hH⟩
  exact ⟨j, vl, cl, cR, vs, _, hv, ho, hr, JI.opened hJ.len (by omega) hJ.at_, hH⟩
theorem ok0 : (⟨0, false, false, 0⟩ : DS).ok 0 := ⟨Int.le_refl _, Int.le_refl _, fun h => by cases h⟩
/-- the bytes that wakes looks at -/
theorem wakes_img {img : Bytes} (hl : img.length = 16 * 6) :
    ((setBlk (laid img 2 [97, 98, 99] 2) 1 (titleB 3 1)).drop 32).take 3 = [97, 98, 99] := by
  have hll := laid_length (r := [97, 98, 99]) (e := 2) hl 2 (by omega)
  have h1 : blk (setBlk (laid img 2 [97, 98, 99] 2) 1 (titleB 3 1)) 2 = blkZ [97, 98, 99] 0 := by
    rw [blk_setBlk_ne hll (by omega) (by omega) (titleB_length _ _) (by omega)]
    exact laid_same hl 2 (by omega) 0 (by omega)
  have h2 := congrArg (List.take 3) h1
  rw [blk, List.take_take] at h2
  exact h2.trans rfl

theorem c7 {w0 : World} : CtR Pg w0 7 #[] [] (fun v H => v = .bool true ∧ H = []) := by
  refine Ct.of_body Go.Proofs.Tryd.func7 rfl 62 rfl rfl (fun R => ?_)
  refine VC.seq ?_
  refine VC.region ?_
  refine V.assign rfl rfl rfl ?_
  refine V.nil ?_
  refine Post.nextC ?_
  refine VC.seq ?_
  refine VC.region ?_
  apply V.call rfl rfl rfl (hc := c6 (m := 6) (by omega) (by omega))
  · repeat' constructor
  rintro v Ho ⟨d, bb, rfl, rfl⟩
  refine V.move rfl rfl rfl ?_
  refine V.extract rfl rfl rfl rfl ?_
  refine V.extract rfl rfl rfl rfl ?_
  refine V.assign rfl rfl rfl ?_
  refine V.assign rfl rfl rfl ?_
  refine V.nil ?_
  refine Post.nextC ?_
  refine VC.seq ?_
  refine VC.seq ?_
  refine VC.region ?_
  refine V.move rfl rfl rfl ?_
  refine V.bin rfl rfl rfl rfl (bin_peqlNil _) ?_
  refine V.know (t := 11) (y := .bool false) rfl (rfl) ?_
  refine V.move rfl rfl rfl ?_
  refine V.move rfl rfl rfl ?_
  refine V.bin rfl rfl rfl rfl (bin_neq _ _ _) ?_
  refine V.know (t := 14) (y := .bool false) rfl (rfl) ?_
  refine V.pickF rfl rfl rfl rfl ?_
  refine V.nil ?_
  refine Post.nextC ?_
  refine VC.condF rfl ?_
  refine VC.skip ?_
  refine Post.nextC ?_
  refine VC.seq ?_
  refine VC.region ?_
  refine V.move rfl rfl rfl ?_
  apply V.call rfl rfl rfl (hc := c8z (nb := 6) (by omega) (by omega) (DS.ok_mono ok0 (by omega)) rfl)
  · repeat' constructor
  rintro v Ho ⟨j, vl, cl, img, rfl, ho, hJ, rfl⟩
  obtain ⟨al, cpl, rfl, _⟩ := id (ho.rd (w0 := w0))
  refine V.move rfl rfl rfl ?_
  refine V.extract rfl rfl rfl rfl ?_
  refine V.extract rfl rfl rfl rfl ?_
  refine V.extract rfl rfl rfl rfl ?_
  refine V.assign rfl rfl rfl ?_
  refine V.assign rfl rfl rfl ?_
  refine V.assign rfl rfl rfl ?_
  refine V.nil ?_
  refine Post.nextC ?_
  refine VC.seq ?_
  refine VC.region ?_
  refine V.move rfl rfl rfl ?_
  refine V.bin rfl rfl rfl rfl (bin_pneqNil _) ?_
  refine V.know (t := 23) (y := .bool true) rfl (rfl) ?_
  refine V.move rfl rfl rfl ?_
  refine V.move rfl rfl rfl ?_
  refine V.len rfl rfl rfl ?_
  refine V.bin rfl rfl rfl rfl (bin_eql _ _ _) ?_
  refine V.know (t := 27) (y := .bool true) rfl (rfl) ?_
  refine V.pickT rfl rfl rfl rfl ?_
  refine V.move rfl rfl rfl ?_
  refine V.move rfl rfl rfl ?_
  refine V.bin rfl rfl rfl rfl (bin_eql _ _ _) ?_
  refine V.know (t := 31) (y := .bool true) rfl (rfl) ?_
  refine V.pickT rfl rfl rfl rfl ?_
  refine V.move rfl rfl rfl ?_
  refine V.move rfl rfl rfl ?_
  refine V.buildSlice [(0, .int .u8 97), (1, .int .u8 98), (2, .int .u8 99)] (l := ([97, 98, 99] : Bytes).map byv) rfl rfl rfl rfl rfl rfl (by with_unfolding_all rfl) (fun b1 => ?_)
  apply V.convSame rfl rfl rfl
  · repeat' constructor
  apply V.call rfl rfl rfl (hc := c10w (j := j) (r := [97, 98, 99]) (nb := 6) (en := 1) (ln := 0) (m := 3) (boots := 1) (s := (⟨0, false, false, 0⟩ : DS).wrote) (c := [(b1, .cells (([97, 98, 99] : Bytes).map byv).toArray 5 (3, 4))]) (Rd.block b1 5 3 (3, 4) _ rfl (by omega)) (by omega) (by omega) (by omega) hJ.len (DS.ok_mono (DS.ok_wrote ok0) (by omega)) rfl (by decide) (by omega))
  · repeat' constructor
  rintro v Ho hpost
  obtain ⟨rfl, rfl⟩ : v = .int .i64 0 ∧ _ = Ho := by
    rcases hpost with ⟨h1, _, h2⟩ | ⟨k, _, _, h, _⟩
    · exact ⟨h1, h2.symm⟩
    · rw [(after_quiet rfl rfl k).2] at h; cases h
  have hl6 := (hJ.full (r := [97, 98, 99]) (by decide) (by decide)).len
  refine V.bin rfl rfl rfl rfl (bin_eql _ _ _) ?_
  refine V.know (t := 38) (y := .bool true) rfl (rfl) ?_
  refine V.pickT rfl rfl rfl rfl ?_
  refine V.move rfl rfl rfl ?_
  refine V.move rfl rfl rfl ?_
  apply V.call rfl rfl rfl (hc := c18)
  · repeat' constructor
  rintro v Ho ⟨rfl, rfl⟩
  refine V.bin rfl rfl rfl rfl (bin_eql _ _ _) ?_
  refine V.know (t := 43) (y := .bool true) rfl (rfl) ?_
  refine V.pickT rfl rfl rfl rfl ?_
  refine V.move rfl rfl rfl ?_
  refine V.move rfl rfl rfl ?_
  apply V.call rfl rfl rfl (hc := c20 (boots := 1) (by omega))
  · repeat' constructor
  rintro v Ho ⟨rfl, rfl⟩
  refine V.bin rfl rfl rfl rfl (bin_eql _ _ _) ?_
  refine V.know (t := 48) (y := .bool true) rfl (rfl) ?_
  refine V.pickT rfl rfl rfl rfl ?_
  refine V.move rfl rfl rfl ?_
  refine V.move rfl rfl rfl ?_
  apply V.call rfl rfl rfl (hc := c21 (nb := 6) (end_ := ((1 + span 3 + 1 : Nat) : Int)) (by omega) (by decide))
  · repeat' constructor
  rintro v Ho ⟨rfl, rfl⟩
  refine V.bin rfl rfl rfl rfl (bin_eql _ _ _) ?_
  refine V.know (t := 53) (y := .bool true) rfl (congrArg Value.bool (by decide)) ?_
  refine V.pickT rfl rfl rfl rfl ?_
  refine V.move rfl rfl rfl ?_
  refine V.move rfl rfl rfl ?_
  apply V.call rfl rfl rfl (hc := c22 (nb := 6) hl6 (by omega))
  · repeat' constructor
  rintro v Ho ⟨c9, ho9, rfl⟩
  obtain ⟨a9, cp9, rfl, h96, _⟩ := id (ho9.rd (w0 := w0))
  refine V.sliceLH (i := 32) (j := 35) rfl rfl rfl rfl rfl (by omega) (by omega) (fun a1 ha1 _ => ?_)
  have hrd := (Rd.drop (ho9.rd (w0 := w0)) (i := 32) (a1 := a1) (by omega) ha1).take (i := 3) (by omega)
  rw [← List.map_drop, ← List.map_take] at hrd
  apply V.str rfl rfl rfl (.inr ?hq) (hr := hrd)
  case hq => repeat' constructor
  refine V.bin rfl rfl rfl rfl (bin_seql _ _) ?_
  refine V.know (t := 60) (y := .bool true) rfl (congrArg Value.bool (decide_eq_true (wakes_img hJ.len))) ?_
  refine V.pickT rfl rfl rfl rfl ?_
  refine V.assign rfl rfl rfl ?_
  refine V.nil ?_
  refine Post.nextC ?_
  refine VC.ret ?_
  apply Post.ret1 rfl rfl 
  · exact ⟨rfl, rfl⟩
  · repeat' constructor

end Go.Proofs.Jn
