/- Contracts of functions of the given program, each proved by walking its code: part of the proof of this claim; no condition beyond those that each theorem names. -/
import Derived.Test.YtpmpomknnppnjaaDoorJnKeeps
set_option linter.unusedVariables false
set_option linter.unusedSimpArgs false
namespace Go.Proofs.Jn
open Go Go.RowKit Go.Proofs.Eng
theorem after_wr (s : DS) : ∀ q, (s.after q).wr = s.wr + q
  | 0 => by simp [DS.after]
  | q + 1 => by
    have h := after_wr s q
    have h2 : (s.after (q + 1)).wr = (s.after q).wr + 1 := by
      simp only [DS.after, DS.wrote]
      split <;> rfl
    rw [h2, h]
    omega
/-- Append with no fuse laid and room for it -/
theorem c10ok {w0 : World} {j d bb nb en boots : Nat} {s : DS} {img r : Bytes} {v : Value} {c : Chunk} {m : Nat} {rs : List Bytes} {M : Int} (hr : Rd w0 c 1 v m (r.map byv)) (hm : m ≤ 131072) (hnb : nb ≤ 65536) (hJ : JI img nb boots rs en) (hs : s.ok M) (hM : M ≤ 100000000000000) (hd : s.dn = false) (hfu : s.fu = false) (hf : en + span m + 1 < nb) :
    CtR Pg w0 10 #[.pointer (some ⟨j, 0, none⟩), v] [jB j d boots (rs.length : Int) (en : Int) false, dkS d bb nb s, imB bb img, c] (fun u H => ∃ img', u = .int .i64 0 ∧ JI img' nb boots (rs ++ [r]) (en + span m + 1) ∧ H = [jB j d boots ((rs ++ [r]).length : Int) ((en + span m + 1 : Nat) : Int) false, dkS d bb nb (s.after (span m + 2)), imB bb img', c]) := by
  have hlt := hJ.lt
  have hml : r.length = m := by
    obtain ⟨_, _, _, _, _, h, _⟩ := hr
    simpa using h
  refine (c10w hr hm hnb hlt.2.2 hJ.len (DS.ok_mono hs hM) hd hf (by omega)).ret_mono ?_
  subst hml
  rintro u H (⟨hu, _, hH⟩ | ⟨k, hk, hu, hdn, _⟩)
  · exact ⟨_, hu, hJ.full hm hf, by rw [hH, List.length_append]; rfl⟩
  · rw [(after_quiet hfu hd k).2] at hdn
    cases hdn
theorem after_fused {s : DS} {k : Nat} (hd : s.dn = false) (hk : 0 < k) : ∀ q, q ≤ k → ((s.fuse k).after q).fu = true ∧ ((s.fuse k).after q).lf = k - q ∧ ((s.fuse k).after q).dn = decide (q = k)
  | 0, _ => by
    have h0 : ¬ ((k : Int) = 0) := by omega
    have h1 : (0 : Int) ≤ k := by omega
    have h2 : ¬ (0 = k) := by omega
    have h3 : ¬ k = 0 := by omega
    simp [DS.after, DS.fuse, hd, h1, h2, h3]
  | q + 1, h => by
    obtain ⟨h1, h2, h3⟩ := after_fused (s := s) hd hk q (by omega)
    simp only [DS.after, DS.wrote, h1, h2, if_true]
    refine ⟨by simp; omega, by push_cast; omega, ?_⟩
    by_cases he : q + 1 = k
    · rw [decide_eq_true (by omega), decide_eq_true he]
    · rw [decide_eq_false (by omega), decide_eq_false he]
theorem fuse_wr (s : DS) (m : Int) : (s.fuse m).wr = s.wr := by
  unfold DS.fuse
  split <;> rfl
/-- Append when the power fails behind k writes -/
theorem c10cut {w0 : World} {j d bb nb en boots k : Nat} {s : DS} {img r : Bytes} {v : Value} {c : Chunk} {m : Nat} {rs : List Bytes} {M : Int} (hr : Rd w0 c 1 v m (r.map byv)) (hm : m ≤ 131072) (hnb : nb ≤ 65536) (hJ : JI img nb boots rs en) (hs : s.ok M) (hM : M ≤ 100000000000) (hd : s.dn = false) (hf : en + span m + 1 < nb) (hk : k ≤ span m + 2) :
    CtR Pg w0 10 #[.pointer (some ⟨j, 0, none⟩), v] [jB j d boots (rs.length : Int) (en : Int) false, dkS d bb nb (s.fuse k), imB bb img, c] (fun u H => ∃ e down' s' img' rs' en', u = .int .i64 e ∧ s'.wr = s.wr + k ∧ s'.ok (M + 10000) ∧ JI img' nb boots rs' en' ∧ ((k = span m + 2 ∧ e = 0 ∧ rs' = rs ++ [r]) ∨ (k < span m + 2 ∧ e = 50 ∧ rs' = rs)) ∧ H = [jB j d boots (rs'.length : Int) (en' : Int) down', dkS d bb nb s', imB bb img', c]) := by
  have hlt := hJ.lt
  have hml : r.length = m := by
    obtain ⟨_, _, _, _, _, h, _⟩ := hr
    simpa using h
  have hsp := span_le m hm
  have hs1 : (s.fuse k).ok M := DS.ok_fuse hs (by omega)
  rcases Nat.eq_zero_or_pos k with h0 | hpos
  · subst h0
    refine (c10b hr hm hnb hlt.2.2 (by simp [DS.fuse, hd])).ret_mono ?_
    rintro u H ⟨hu, hH⟩
    exact ⟨50, true, _, img, rs, en, hu, by rw [fuse_wr]; simp, DS.ok_mono hs1 (by omega), hJ, .inr ⟨by omega, rfl, rfl⟩, hH⟩
  · have haf := after_fused (s := s) hd hpos
    have hd1 : (s.fuse k).dn = false := by
      have := (haf 0 (by omega)).2.2
      rw [decide_eq_false (by omega)] at this
      exact this
    refine (c10w hr hm hnb hlt.2.2 hJ.len (DS.ok_mono hs1 (by omega)) hd1 hf (by omega)).ret_mono ?_
    subst hml
    rintro u H (⟨hu, hall, hH⟩ | ⟨q, hq, hu, hdn, hall, hH⟩)
    · have hkk : k = span r.length + 2 := by
        rcases Nat.lt_or_ge k (span r.length + 2) with h | h
        · have := hall k h
          rw [(haf k (Nat.le_refl _)).2.2] at this
          simp at this
        · omega
      refine ⟨0, false, (s.fuse k).after (span r.length + 2), _, rs ++ [r], en + span r.length + 1, hu, ?_, DS.ok_mono (DS.ok_after hs1 _) (by omega), hJ.full hm hf, .inl ⟨hkk, rfl, rfl⟩, by rw [hH, List.length_append]; rfl⟩
      rw [after_wr, fuse_wr, hkk]
    · have hqk : q = k := by
        rcases Nat.lt_trichotomy q k with h | h | h
        · rw [(haf q (by omega)).2.2] at hdn
          simp at hdn
          exact hdn
        · exact h
        · have := hall k h
          rw [(haf k (Nat.le_refl _)).2.2] at this
          simp at this
      subst hqk
      exact ⟨50, true, _, _, rs, en, hu, by rw [after_wr, fuse_wr], DS.ok_mono (DS.ok_after hs1 _) (by omega), hJ.part (by omega), .inr ⟨by omega, rfl, rfl⟩, hH⟩
structure CSt where
  i : Nat
  en : Nat
  s : DS
  img : Bytes
  rs : List Bytes
structure CSt.ok (n : Nat) (t : CSt) : Prop where
  hi : t.i ≤ n ∧ t.i ≤ 4
  hJ : JI t.img 100 1 t.rs t.en
  hr : t.rs.length = t.i
  he : t.en ≤ 1 + 14 * t.i
  hd : t.s.dn = false
  hf : t.s.fu = false
  hs : t.s.ok (20 * (t.i : Int) + 1)
theorem span_200 {m : Nat} (h : m ≤ 200) : span m ≤ 13 := by unfold span; omega
theorem Rd.at {w0 : World} {c : Chunk} {v : Value} {n : Nat} {l : List Value} {i : Nat} {u : Value} (h : Rd w0 c 1 v n l) (hi : l[i]? = some u) : i < n ∧ ∃ b o cp, v = .slice (some ⟨b, o, none⟩) n cp ∧ Cel w0 c ⟨b, o + i, none⟩ u := by
  obtain ⟨a, cp, rfl, h1, h2, h3, h4⟩ := h
  have hl := (List.getElem?_eq_some_iff.1 hi).1
  rw [Nat.mul_one] at h3
  refine ⟨by omega, ?_⟩
  rcases h4 with rfl | ⟨b, o, rfl, hc⟩
  · cases hi
  · exact ⟨b, o, cp, rfl, hc i u hi⟩

theorem c5 {w0 : World} {vf vl : Value} {n m : Nat} {vsF : List Value} {rsF : List Bytes} {xs : Bytes} (hf : Rd w0 [] 1 vf n vsF) (hF : RdL w0 [] vsF rsF) (hl : Rd w0 [] 1 vl m (xs.map byv)) : CtR Pg w0 5 #[vf, vl] [] (fun v H => v = .bool true ∧ H = []) := by
  obtain ⟨af, cf, rfl, hf1, hf2, hf3, hf4⟩ := id hf
  have hn63 : n ≤ 9223372036854775807 := by simp only [maxLen] at hf2; omega
  have hml : xs.length = m := by
      obtain ⟨_, _, _, _, _, h, _⟩ := hl
      simpa using h
  have hvl := hF.1
  rw [Nat.mul_one] at hf3
  refine Ct.of_body Go.Proofs.Tryd.func5 rfl 155 rfl rfl (fun R => ?_)
  refine VC.seq ?_
  refine VC.region ?_
  refine V.assign rfl rfl rfl ?_
  refine V.nil ?_
  refine Post.nextC ?_
  refine VC.seq ?_
  refine VC.seq ?_
  refine VC.region ?_
  apply V.call rfl rfl rfl (hc := c7)
  · repeat' constructor
  rintro v Ho ⟨rfl, rfl⟩
  refine V.not rfl rfl rfl ?_
  refine V.know (t := 22) (y := .bool false) rfl (rfl) ?_
  refine V.nil ?_
  refine Post.nextC ?_
  refine VC.condF rfl ?_
  refine VC.skip ?_
  refine Post.nextC ?_
  refine VC.seq ?_
  refine VC.region ?_
  refine V.move rfl rfl rfl ?_
  apply V.call rfl rfl rfl (hc := c9 (most := 200) hl (by omega))
  · repeat' constructor
  rintro vb Ho ⟨cb, hob, rfl⟩
  obtain ⟨ab, cpb, rfl, _⟩ := id (hob.rd (w0 := w0))
  have hsp13 := span_200 (Nat.min_le_right m 200)
  refine V.assign rfl rfl rfl ?_
  refine V.nil ?_
  refine Post.nextC ?_
  refine VC.seq ?_
  refine VC.region ?_
  refine V.assign rfl rfl rfl ?_
  refine V.nil ?_
  refine Post.nextC ?_
  refine VC.seq ?_
  refine VC.seq ?_
  refine VC.region ?_
  refine V.assign rfl rfl rfl ?_
  refine V.nil ?_
  refine Post.nextC ?_
  refine VC.block ?_
  refine VC.loop (σ := Nat) (fun k => [(0, .slice af n cf), (5, .slice ab (min m 200) cpb), (6, .int .i64 100), (7, .int .i64 (k : Int))]) (fun k => cb :: R) (fun k => k ≤ span (min m 200) + 2) (fun k => 40 - k) 0 (Nat.zero_le _) ?_ ?_ ?_
  · exact ⟨rfl, rfl, rfl, rfl, trivial⟩
  · repeat' constructor
  intro k hk
  refine VC.seq ?_
  refine VC.seq ?_
  refine VC.region ?_
  refine V.move rfl rfl rfl ?_
  refine V.bin rfl rfl rfl rfl (bin_lss _ _ _) ?_
  refine V.nil ?_
  refine Post.nextC ?_
  refine VC.cond rfl (fun h1 => ?_) (fun h1 => ?_)
  · try simp only [decide_eq_true_eq, decide_eq_false_iff_not, Bool.not_eq_true', Bool.not_eq_false', Bool.not_eq_eq_eq_not, Bool.not_true, Bool.not_false, beq_iff_eq, beq_eq_false_iff_ne, ne_eq, Int.not_lt, Int.not_le, Option.isSome_some, Option.isNone_none, Option.isSome_none, Option.isNone_some] at h1
    refine VC.skip ?_
    refine Post.nextC ?_
    refine VC.seq ?_
    refine VC.block ?_
    refine VC.seq ?_
    refine VC.region ?_
    refine V.move rfl rfl rfl ?_
    apply V.call rfl rfl rfl (hc := c6 (m := 100) (by omega) (by omega))
    · repeat' constructor
    rintro v Ho ⟨d, bb, rfl, rfl⟩
    refine V.move rfl rfl rfl ?_
    refine V.extract rfl rfl rfl rfl ?_
    refine V.extract rfl rfl rfl rfl ?_
    refine V.assign rfl rfl rfl ?_
    refine V.assign rfl rfl rfl ?_
    refine V.nil ?_
    refine Post.nextC ?_
    refine VC.seq ?_
    refine VC.seq ?_
    refine VC.region ?_
    refine V.move rfl rfl rfl ?_
    refine V.bin rfl rfl rfl rfl (bin_peqlNil _) ?_
    refine V.know (t := 35) (y := .bool false) rfl (rfl) ?_
    refine V.nil ?_
    refine Post.nextC ?_
    refine VC.condF rfl ?_
    refine VC.skip ?_
    refine Post.nextC ?_
    refine VC.seq ?_
    refine VC.region ?_
    refine V.move rfl rfl rfl ?_
    apply V.call rfl rfl rfl (hc := c8z (nb := 100) (by omega) (by omega) (DS.ok_mono ok0 (by omega)) rfl)
    · repeat' constructor
    rintro v Ho ⟨j, vl0, cl0, img0, rfl, ho0, hJ0, rfl⟩
    obtain ⟨al0, cpl0, rfl, _⟩ := id (ho0.rd (w0 := w0))
    refine V.move rfl rfl rfl ?_
    refine V.extract rfl rfl rfl rfl ?_
    refine V.extract rfl rfl rfl rfl ?_
    refine V.extract rfl rfl rfl rfl ?_
    refine V.assign rfl rfl rfl ?_
    refine V.assign rfl rfl rfl ?_
    refine V.assign rfl rfl rfl ?_
    refine V.nil ?_
    refine Post.nextC ?_
    refine VC.seq ?_
    refine VC.seq ?_
    refine VC.region ?_
    refine V.move rfl rfl rfl ?_
    refine V.bin rfl rfl rfl rfl (bin_peqlNil _) ?_
    refine V.know (t := 43) (y := .bool false) rfl (rfl) ?_
    refine V.move rfl rfl rfl ?_
    refine V.move rfl rfl rfl ?_
    refine V.bin rfl rfl rfl rfl (bin_neq _ _ _) ?_
    refine V.know (t := 46) (y := .bool false) rfl (rfl) ?_
    refine V.pickF rfl rfl rfl rfl ?_
    refine V.nil ?_
    refine Post.nextC ?_
    refine VC.condF rfl ?_
    refine VC.skip ?_
    refine Post.nextC ?_
    refine VC.seq ?_
    refine VC.region ?_
    refine V.assign rfl rfl rfl ?_
    refine V.nil ?_
    refine Post.nextC ?_
    refine VC.seq ?_
    refine VC.seq ?_
    refine VC.region ?_
    refine V.assign rfl rfl rfl ?_
    refine V.nil ?_
    refine Post.nextC ?_
    refine VC.block ?_
    refine VC.loop (σ := CSt) (fun t => [(0, .slice af n cf), (5, .slice ab (min m 200) cpb), (6, .int .i64 100), (7, .int .i64 (k : Int)), (8, .pointer (some ⟨d, 0, none⟩)), (10, .pointer (some ⟨j, 0, none⟩)), (13, .int .i64 (t.i : Int)), (14, .int .i64 (t.i : Int))]) (fun t => jB j d 1 (t.rs.length : Int) (t.en : Int) false :: dkS d bb 100 t.s :: imB bb t.img :: cb :: R) (CSt.ok n) (fun t => n - t.i) ⟨0, 1, (⟨0, false, false, 0⟩ : DS).wrote, img0, []⟩ ⟨by simp, hJ0, rfl, by simp, rfl, rfl, DS.ok_mono (DS.ok_wrote ok0) (by simp)⟩ ?_ ?_ ?_
    · exact ⟨rfl, rfl, rfl, rfl, rfl, rfl, rfl, rfl, trivial⟩
    · repeat' constructor
    rintro ⟨i, en, s, img, rs⟩ ⟨hi, hJ, hrs, hen, hd, hfu, hs⟩
    simp only at hi hJ hrs hen hd hfu hs
    dsimp only
    refine VC.seq ?_
    refine VC.seq ?_
    refine VC.region ?_
    refine V.move rfl rfl rfl ?_
    refine V.move rfl rfl rfl ?_
    refine V.len rfl rfl rfl ?_
    refine V.bin rfl rfl rfl rfl (bin_lss _ _ _) ?_
    refine V.move rfl rfl rfl ?_
    refine V.split (t := 52) rfl (fun h2 => ?_) (fun h2 => ?_)
    · try simp only [decide_eq_true_eq, decide_eq_false_iff_not, Bool.not_eq_true', Bool.not_eq_false', Bool.not_eq_eq_eq_not, Bool.not_true, Bool.not_false, beq_iff_eq, beq_eq_false_iff_ne, ne_eq, Int.not_lt, Int.not_le, Option.isSome_some, Option.isNone_none, Option.isSome_none, Option.isNone_some] at h2
      refine V.move rfl rfl rfl ?_
      refine V.bin rfl rfl rfl rfl (bin_lss _ _ _) ?_
      refine V.pickT rfl rfl rfl rfl ?_
      refine V.nil ?_
      refine Post.nextC ?_
      refine VC.cond rfl (fun h3 => ?_) (fun h3 => ?_)
      · try simp only [decide_eq_true_eq, decide_eq_false_iff_not, Bool.not_eq_true', Bool.not_eq_false', Bool.not_eq_eq_eq_not, Bool.not_true, Bool.not_false, beq_iff_eq, beq_eq_false_iff_ne, ne_eq, Int.not_lt, Int.not_le, Option.isSome_some, Option.isNone_none, Option.isSome_none, Option.isNone_some] at h3
        refine VC.skip ?_
        refine Post.nextC ?_
        refine VC.seq ?_
        refine VC.block ?_
        refine VC.seq ?_
        refine VC.seq ?_
        refine VC.region ?_
        refine V.move rfl rfl rfl ?_
        refine V.move rfl rfl rfl ?_
        refine V.move rfl rfl rfl ?_
        obtain ⟨xf, hxf⟩ : ∃ x, vsF[i]? = some x := ⟨vsF[i]'(by omega), by simp⟩
        obtain ⟨rf, hrf⟩ : ∃ x, rsF[i]? = some x := ⟨rsF[i]'(by omega), by simp⟩
        obtain ⟨_, gf, of, cpf, hvf, hcel⟩ := Rd.at hf hxf
        simp only [Value.slice.injEq] at hvf
        obtain ⟨rfl, _, rfl⟩ := hvf
        have hrdf := hF.2 i xf rf hxf hrf
        have hmin := span_200 (Nat.min_le_right rf.length 200)
        refine V.indexO (i := i) rfl rfl rfl rfl (by omega) ?_
        rw [Nat.mul_one]
        apply V.loadO rfl rfl rfl rfl
        · assumption
        apply V.call rfl rfl rfl (hc := c9 (most := 200) hrdf (by omega))
        · repeat' constructor
        rintro vr Ho ⟨cr, hor, rfl⟩
        apply V.call rfl rfl rfl (hc := c10ok (c := cr) (r := rf.take 200) (m := min rf.length 200) (M := 20 * (i : Int) + 1) hor.rd (by omega) (by omega) hJ hs (by omega) hd hfu (by omega))
        · repeat' constructor
        rintro v Ho ⟨img2, rfl, hJ2, rfl⟩
        refine V.bin rfl rfl rfl rfl (bin_neq _ _ _) ?_
        refine V.know (t := 65) (y := .bool false) rfl (rfl) ?_
        refine V.nil ?_
        refine Post.nextC ?_
        refine VC.condF rfl ?_
        refine VC.skip ?_
        refine Post.nextC ?_
        refine VC.region ?_
        refine V.move rfl rfl rfl ?_
        refine V.bin rfl rfl rfl rfl (bin_addI (by omega)) ?_
        refine V.assign rfl rfl rfl ?_
        refine V.nil ?_
        refine Post.blockNormal (Post.nextC ?_)
        refine VC.region ?_
        refine V.move rfl rfl rfl ?_
        refine V.bin rfl rfl rfl rfl (bin_addI (by omega)) ?_
        refine V.assign rfl rfl rfl ?_
        refine V.nil ?_
        refine Post.round ⟨i + 1, en + span (min rf.length 200) + 1, s.after (span (min rf.length 200) + 2), img2, rs ++ [rf.take 200]⟩ ?_ ?_ ?_ ?_
        · exact ⟨by simp only; omega, hJ2, by simp [hrs], by simp only; omega, (after_quiet hfu hd _).2, (after_quiet hfu hd _).1, DS.ok_mono (DS.ok_after hs _) (by simp only; omega)⟩
        · simp only; omega
        · exact ⟨rfl, rfl, rfl, rfl, rfl, rfl, rfl, rfl, trivial⟩
        · repeat' constructor
      · try simp only [decide_eq_true_eq, decide_eq_false_iff_not, Bool.not_eq_true', Bool.not_eq_false', Bool.not_eq_eq_eq_not, Bool.not_true, Bool.not_false, beq_iff_eq, beq_eq_false_iff_ne, ne_eq, Int.not_lt, Int.not_le, Option.isSome_some, Option.isNone_none, Option.isSome_none, Option.isNone_some] at h3
        refine VC.exit ?_
        refine Post.thenExit (Post.thenExit (Post.blockHit (Post.nextC ?_)))
        refine VC.seq ?_
        refine VC.region ?_
        refine V.move rfl rfl rfl ?_
        apply V.call rfl rfl rfl (hc := c19)
        · repeat' constructor
        rintro v Ho ⟨rfl, rfl⟩
        refine V.assign rfl rfl rfl ?_
        refine V.nil ?_
        refine Post.nextC ?_
        refine VC.seq ?_
        refine VC.region ?_
        refine V.move rfl rfl rfl ?_
        refine V.move rfl rfl rfl ?_
        apply V.call rfl rfl rfl (hc := c16u (m := (k : Int)))
        · repeat' constructor
        rintro v Ho rfl
        refine V.nil ?_
        refine Post.nextC ?_
        refine VC.seq ?_
        refine VC.region ?_
        refine V.move rfl rfl rfl ?_
        refine V.buildSlice0 rfl rfl (fun b1 => ?_)
        refine V.move rfl rfl rfl ?_
        apply V.appendR (m := 0) (l := []) (news := (xs.take 200).map byv) rfl rfl rfl rfl rfl rfl (ho := Own.empty _ 5 1) (hp1 := .inr ?hq) (hr := hob.rd) (h1 := all_byv _) (hb := by omega) (h63 := by simp only [maxLen]; omega)
        case hp => repeat' constructor
        case hq => repeat' constructor
        intro v2 c2 ho2
        rw [Nat.zero_add, List.nil_append] at ho2
        apply V.call rfl rfl rfl (hc := c10cut (k := k) (c := c2) (r := xs.take 200) (m := min m 200) (M := 20 * (i : Int) + 1) ho2.rd (by omega) (by omega) hJ hs (by omega) hd (by omega) (by omega))
        · repeat' constructor
        rintro v Ho ⟨e, down2, s2, img2, rs2, en2, rfl, hwr, hs2, hJ2, hcase, rfl⟩
        have hJ2lt := hJ2.lt
        by_cases hk3 : k = span (min m 200) + 2
        ·
          obtain ⟨rfl, rfl⟩ : e = 0 ∧ rs2 = rs ++ [xs.take 200] := by
            rcases hcase with ⟨_, h1, h2⟩ | ⟨h, _⟩
            · exact ⟨h1, h2⟩
            · omega
          refine V.assign rfl rfl rfl ?_
          refine V.nil ?_
          refine Post.nextC ?_
          refine VC.seq ?_
          refine VC.region ?_
          refine V.move rfl rfl rfl ?_
          apply V.call rfl rfl rfl (hc := c19)
          · repeat' constructor
          rintro v Ho ⟨rfl, rfl⟩
          refine V.move rfl rfl rfl ?_
          refine V.bin rfl rfl rfl rfl (bin_subI (by have := hs.1; omega)) ?_
          refine V.know (t := 81) (y := .int .i64 (k : Int)) rfl (by rw [hwr]; congr 1; omega) ?_
          refine V.assign rfl rfl rfl ?_
          refine V.nil ?_
          refine Post.nextC ?_
          refine VC.seq ?_
          refine VC.region ?_
          refine V.move rfl rfl rfl ?_
          apply V.call rfl rfl rfl (hc := c17)
          · repeat' constructor
          rintro v Ho rfl
          refine V.nil ?_
          refine Post.nextC ?_
          refine VC.seq ?_
          refine VC.region ?_
          refine V.move rfl rfl rfl ?_
          have hs3 : (⟨s2.wr, false, false, s2.lf⟩ : DS).ok (20 * (i : Int) + 1 + 10000) := DS.ok_rest hs2
          apply V.call rfl rfl rfl (hc := c8u (s := ⟨s2.wr, false, false, s2.lf⟩) (by omega) hJ2 (by omega) (DS.ok_mono hs3 (by omega)) rfl)
          · repeat' constructor
          rintro v Ho ⟨j2, vl2, cl, cR, vsl, img3, rfl, hol, hrl, hJ3, rfl⟩
          obtain ⟨al, cpl, rfl, _⟩ := id (hol.rd (w0 := w0))
          refine V.move rfl rfl rfl ?_
          refine V.extract rfl rfl rfl rfl ?_
          refine V.extract rfl rfl rfl rfl ?_
          refine V.extract rfl rfl rfl rfl ?_
          refine V.assign rfl rfl rfl ?_
          refine V.assign rfl rfl rfl ?_
          refine V.assign rfl rfl rfl ?_
          refine V.nil ?_
          refine Post.nextC ?_
          refine VC.seq ?_
          refine VC.seq ?_
          refine VC.region ?_
          refine V.move rfl rfl rfl ?_
          refine V.bin rfl rfl rfl rfl (bin_peqlNil _) ?_
          refine V.know (t := 91) (y := .bool false) rfl (rfl) ?_
          refine V.move rfl rfl rfl ?_
          refine V.move rfl rfl rfl ?_
          refine V.bin rfl rfl rfl rfl (bin_neq _ _ _) ?_
          refine V.know (t := 94) (y := .bool false) rfl (rfl) ?_
          refine V.pickF rfl rfl rfl rfl ?_
          refine V.move rfl rfl rfl ?_
          refine V.move rfl rfl rfl ?_
          refine V.len rfl rfl rfl ?_
          refine V.move rfl rfl rfl ?_
          refine V.bin rfl rfl rfl rfl (bin_neq _ _ _) ?_
          refine V.know (t := 100) (y := .bool true) rfl (by rw [decide_eq_true (by rw [List.length_append]; simp; omega)]) ?_
          refine V.move rfl rfl rfl ?_
          refine V.move rfl rfl rfl ?_
          refine V.len rfl rfl rfl ?_
          refine V.move rfl rfl rfl ?_
          refine V.bin rfl rfl rfl rfl (bin_addI (by omega)) ?_
          refine V.bin rfl rfl rfl rfl (bin_neq _ _ _) ?_
          refine V.know (t := 106) (y := .bool false) rfl (by rw [decide_eq_false (by rw [List.length_append]; simp; omega)]) ?_
          refine V.pickT rfl rfl rfl rfl ?_
          refine V.pickF rfl rfl rfl rfl ?_
          refine V.move rfl rfl rfl ?_
          refine V.move rfl rfl rfl ?_
          refine V.bin rfl rfl rfl rfl (bin_eql _ _ _) ?_
          refine V.know (t := 111) (y := .bool true) rfl (rfl) ?_
          refine V.move rfl rfl rfl ?_
          refine V.len rfl rfl rfl ?_
          refine V.move rfl rfl rfl ?_
          refine V.bin rfl rfl rfl rfl (bin_addI (by omega)) ?_
          refine V.bin rfl rfl rfl rfl (bin_eql _ _ _) ?_
          refine V.know (t := 116) (y := .bool true) rfl (by rw [decide_eq_true (by rw [List.length_append]; simp; omega)]) ?_
          refine V.bin rfl rfl rfl rfl (bin_bneq _ _) ?_
          refine V.know (t := 117) (y := .bool false) rfl (rfl) ?_
          refine V.pickF rfl rfl rfl rfl ?_
          refine V.move rfl rfl rfl ?_
          refine V.move rfl rfl rfl ?_
          refine V.move rfl rfl rfl ?_
          refine V.bin rfl rfl rfl rfl (bin_gtr _ _ _) ?_
          refine V.know (t := 122) (y := .bool false) rfl (by rw [decide_eq_false (by omega)]) ?_
          refine V.pickF rfl rfl rfl rfl ?_
          refine V.nil ?_
          refine Post.nextC ?_
          refine VC.condF rfl ?_
          refine VC.skip ?_
          refine Post.nextC ?_
          refine VC.seq ?_
          refine VC.seq ?_
          refine VC.region ?_
          refine V.move rfl rfl rfl ?_
          refine V.bin rfl rfl rfl rfl (bin_eql _ _ _) ?_
          refine V.know (t := 125) (y := .bool true) rfl (rfl) ?_
          refine V.nil ?_
          refine Post.nextC ?_
          refine VC.condT rfl ?_
          refine VC.seq ?_
          refine VC.draw mixed (by kernel_rfl) ?_
          refine V.move rfl rfl rfl ?_
          refine V.move rfl rfl rfl ?_
          obtain ⟨xv, hxv⟩ : ∃ x, vsl[i]? = some x := ⟨vsl[i]'(by have := hrl.length; rw [List.length_append] at this; simp at this; omega), by simp⟩
          obtain ⟨_, gl, ol, cpl2, hvl2, hcell⟩ := Rd.at (hol.rd (w0 := w0)) hxv
          simp only [Value.slice.injEq] at hvl2
          obtain ⟨rfl, _, rfl⟩ := hvl2
          have hrdl := (hrl.rd (w0 := w0) hJ2.at_.small).2 i xv (xs.take 200) hxv (by rw [List.getElem?_append_right (by omega)]; simp [hrs])
          refine V.indexO (i := i) rfl rfl rfl rfl (by rw [List.length_append]; simp; omega) ?_
          rw [Nat.mul_one]
          apply V.loadC (c := cl) rfl rfl rfl rfl
          · repeat' constructor
          · exact hcell
          apply V.str rfl rfl rfl (.inr ?hq) (hr := hrdl)
          case hq => repeat' constructor
          refine V.move rfl rfl rfl ?_
          apply V.str rfl rfl rfl (.inr ?hq) (hr := hob.rd)
          case hq => repeat' constructor
          refine V.bin rfl rfl rfl rfl (bin_seql _ _) ?_
          refine V.know (t := 133) (y := .bool true) rfl (by simp) ?_
          refine V.move rfl rfl rfl ?_
          refine V.move rfl rfl rfl ?_
          refine V.move rfl rfl rfl ?_
          refine V.len rfl rfl rfl ?_
          refine V.bin rfl rfl rfl rfl (bin_addI (by omega)) ?_
          refine V.bin rfl rfl rfl rfl (bin_quoI (by omega)) ?_
          refine V.bin rfl rfl rfl rfl (bin_addI (by omega)) ?_
          refine V.bin rfl rfl rfl rfl (bin_eql _ _ _) ?_
          refine V.know (t := 141) (y := .bool true) rfl (by rw [decide_eq_true (by unfold span at hk3; omega)]) ?_
          refine V.pickT rfl rfl rfl rfl ?_
          refine V.move rfl rfl rfl ?_
          refine V.move rfl rfl rfl ?_
          refine V.move rfl rfl rfl ?_
          refine V.bin rfl rfl rfl rfl (bin_eql _ _ _) ?_
          refine V.know (t := 146) (y := .bool true) rfl (by rw [decide_eq_true (by omega)]) ?_
          refine V.pickT rfl rfl rfl rfl ?_
          refine V.assign rfl rfl rfl ?_
          refine V.nil ?_
          refine Post.nextC ?_
          refine VC.ret ?_
          refine Post.thenRet (Post.blockRet (Post.thenRet (Post.thenRet (Post.blockRet (Post.thenRet (?_))))))
          apply Post.ret1 rfl rfl 
          · exact ⟨rfl, rfl⟩
          · repeat' constructor
        ·
          obtain ⟨rfl, rfl⟩ : e = 50 ∧ rs = rs2 := by
            rcases hcase with ⟨h, _⟩ | ⟨_, h1, h2⟩
            · omega
            · exact ⟨h1, h2.symm⟩
          refine V.assign rfl rfl rfl ?_
          refine V.nil ?_
          refine Post.nextC ?_
          refine VC.seq ?_
          refine VC.region ?_
          refine V.move rfl rfl rfl ?_
          apply V.call rfl rfl rfl (hc := c19)
          · repeat' constructor
          rintro v Ho ⟨rfl, rfl⟩
          refine V.move rfl rfl rfl ?_
          refine V.bin rfl rfl rfl rfl (bin_subI (by have := hs.1; omega)) ?_
          refine V.know (t := 81) (y := .int .i64 (k : Int)) rfl (by rw [hwr]; congr 1; omega) ?_
          refine V.assign rfl rfl rfl ?_
          refine V.nil ?_
          refine Post.nextC ?_
          refine VC.seq ?_
          refine VC.region ?_
          refine V.move rfl rfl rfl ?_
          apply V.call rfl rfl rfl (hc := c17)
          · repeat' constructor
          rintro v Ho rfl
          refine V.nil ?_
          refine Post.nextC ?_
          refine VC.seq ?_
          refine VC.region ?_
          refine V.move rfl rfl rfl ?_
          have hs3 : (⟨s2.wr, false, false, s2.lf⟩ : DS).ok (20 * (i : Int) + 1 + 10000) := DS.ok_rest hs2
          apply V.call rfl rfl rfl (hc := c8u (s := ⟨s2.wr, false, false, s2.lf⟩) (by omega) hJ2 (by omega) (DS.ok_mono hs3 (by omega)) rfl)
          · repeat' constructor
          rintro v Ho ⟨j2, vl2, cl, cR, vsl, img3, rfl, hol, hrl, hJ3, rfl⟩
          obtain ⟨al, cpl, rfl, _⟩ := id (hol.rd (w0 := w0))
          refine V.move rfl rfl rfl ?_
          refine V.extract rfl rfl rfl rfl ?_
          refine V.extract rfl rfl rfl rfl ?_
          refine V.extract rfl rfl rfl rfl ?_
          refine V.assign rfl rfl rfl ?_
          refine V.assign rfl rfl rfl ?_
          refine V.assign rfl rfl rfl ?_
          refine V.nil ?_
          refine Post.nextC ?_
          refine VC.seq ?_
          refine VC.seq ?_
          refine VC.region ?_
          refine V.move rfl rfl rfl ?_
          refine V.bin rfl rfl rfl rfl (bin_peqlNil _) ?_
          refine V.know (t := 91) (y := .bool false) rfl (rfl) ?_
          refine V.move rfl rfl rfl ?_
          refine V.move rfl rfl rfl ?_
          refine V.bin rfl rfl rfl rfl (bin_neq _ _ _) ?_
          refine V.know (t := 94) (y := .bool false) rfl (rfl) ?_
          refine V.pickF rfl rfl rfl rfl ?_
          refine V.move rfl rfl rfl ?_
          refine V.move rfl rfl rfl ?_
          refine V.len rfl rfl rfl ?_
          refine V.move rfl rfl rfl ?_
          refine V.bin rfl rfl rfl rfl (bin_neq _ _ _) ?_
          refine V.know (t := 100) (y := .bool false) rfl (by rw [decide_eq_false (by omega)]) ?_
          refine V.move rfl rfl rfl ?_
          refine V.skip rfl rfl ?_
          refine V.skip rfl rfl ?_
          refine V.skip rfl rfl ?_
          refine V.skip rfl rfl ?_
          refine V.skip rfl rfl ?_
          refine V.pickF rfl rfl rfl rfl ?_
          refine V.pickF rfl rfl rfl rfl ?_
          refine V.move rfl rfl rfl ?_
          refine V.move rfl rfl rfl ?_
          refine V.bin rfl rfl rfl rfl (bin_eql _ _ _) ?_
          refine V.know (t := 111) (y := .bool false) rfl (rfl) ?_
          refine V.move rfl rfl rfl ?_
          refine V.len rfl rfl rfl ?_
          refine V.move rfl rfl rfl ?_
          refine V.bin rfl rfl rfl rfl (bin_addI (by omega)) ?_
          refine V.bin rfl rfl rfl rfl (bin_eql _ _ _) ?_
          refine V.know (t := 116) (y := .bool false) rfl (by rw [decide_eq_false (by omega)]) ?_
          refine V.bin rfl rfl rfl rfl (bin_bneq _ _) ?_
          refine V.know (t := 117) (y := .bool false) rfl (rfl) ?_
          refine V.pickF rfl rfl rfl rfl ?_
          refine V.move rfl rfl rfl ?_
          refine V.move rfl rfl rfl ?_
          refine V.move rfl rfl rfl ?_
          refine V.bin rfl rfl rfl rfl (bin_gtr _ _ _) ?_
          refine V.know (t := 122) (y := .bool false) rfl (by rw [decide_eq_false (by omega)]) ?_
          refine V.pickF rfl rfl rfl rfl ?_
          refine V.nil ?_
          refine Post.nextC ?_
          refine VC.condF rfl ?_
          refine VC.skip ?_
          refine Post.nextC ?_
          refine VC.seq ?_
          refine VC.seq ?_
          refine VC.region ?_
          refine V.move rfl rfl rfl ?_
          refine V.bin rfl rfl rfl rfl (bin_eql _ _ _) ?_
          refine V.know (t := 125) (y := .bool false) rfl (rfl) ?_
          refine V.nil ?_
          refine Post.nextC ?_
          refine VC.condF rfl ?_
          refine VC.skip ?_
          refine Post.nextC ?_
          refine VC.seq ?_
          refine VC.region ?_
          refine V.move rfl rfl rfl ?_
          refine V.bin rfl rfl rfl rfl (bin_neq _ _ _) ?_
          refine V.know (t := 149) (y := .bool false) rfl (rfl) ?_
          refine V.move rfl rfl rfl ?_
          refine V.move rfl rfl rfl ?_
          refine V.move rfl rfl rfl ?_
          refine V.bin rfl rfl rfl rfl (bin_neq _ _ _) ?_
          refine V.know (t := 153) (y := .bool false) rfl (by rw [decide_eq_false (by omega)]) ?_
          refine V.pickF rfl rfl rfl rfl ?_
          refine V.nil ?_
          refine Post.nextC ?_
          refine VC.condF rfl ?_
          refine VC.skip ?_
          refine Post.blockNormal (Post.nextC ?_)
          refine VC.region ?_
          refine V.move rfl rfl rfl ?_
          refine V.bin rfl rfl rfl rfl (bin_addI (by omega)) ?_
          refine V.assign rfl rfl rfl ?_
          refine V.nil ?_
          refine Post.round (k + 1) ?_ ?_ ?_ ?_
          · omega
          · omega
          · exact ⟨rfl, rfl, rfl, rfl, trivial⟩
          · repeat' constructor
    · try simp only [decide_eq_true_eq, decide_eq_false_iff_not, Bool.not_eq_true', Bool.not_eq_false', Bool.not_eq_eq_eq_not, Bool.not_true, Bool.not_false, beq_iff_eq, beq_eq_false_iff_ne, ne_eq, Int.not_lt, Int.not_le, Option.isSome_some, Option.isNone_none, Option.isSome_none, Option.isNone_some] at h2
      refine V.skip rfl rfl ?_
      refine V.skip rfl rfl ?_
      refine V.pickF rfl rfl rfl rfl ?_
      refine V.nil ?_
      refine Post.nextC ?_
      refine VC.condF rfl ?_
      refine VC.exit ?_
      refine Post.thenExit (Post.thenExit (Post.blockHit (Post.nextC ?_)))
      refine VC.seq ?_
      refine VC.region ?_
      refine V.move rfl rfl rfl ?_
      apply V.call rfl rfl rfl (hc := c19)
      · repeat' constructor
      rintro v Ho ⟨rfl, rfl⟩
      refine V.assign rfl rfl rfl ?_
      refine V.nil ?_
      refine Post.nextC ?_
      refine VC.seq ?_
      refine VC.region ?_
      refine V.move rfl rfl rfl ?_
      refine V.move rfl rfl rfl ?_
      apply V.call rfl rfl rfl (hc := c16u (m := (k : Int)))
      · repeat' constructor
      rintro v Ho rfl
      refine V.nil ?_
      refine Post.nextC ?_
      refine VC.seq ?_
      refine VC.region ?_
      refine V.move rfl rfl rfl ?_
      refine V.buildSlice0 rfl rfl (fun b2 => ?_)
      refine V.move rfl rfl rfl ?_
      apply V.appendR (m := 0) (l := []) (news := (xs.take 200).map byv) rfl rfl rfl rfl rfl rfl (ho := Own.empty _ 5 1) (hp1 := .inr ?hq) (hr := hob.rd) (h1 := all_byv _) (hb := by omega) (h63 := by simp only [maxLen]; omega)
      case hp => repeat' constructor
      case hq => repeat' constructor
      intro v2 c2 ho2
      rw [Nat.zero_add, List.nil_append] at ho2
      apply V.call rfl rfl rfl (hc := c10cut (k := k) (c := c2) (r := xs.take 200) (m := min m 200) (M := 20 * (i : Int) + 1) ho2.rd (by omega) (by omega) hJ hs (by omega) hd (by omega) (by omega))
      · repeat' constructor
      rintro v Ho ⟨e, down2, s2, img2, rs2, en2, rfl, hwr, hs2, hJ2, hcase, rfl⟩
      have hJ2lt := hJ2.lt
      by_cases hk3 : k = span (min m 200) + 2
      ·
        obtain ⟨rfl, rfl⟩ : e = 0 ∧ rs2 = rs ++ [xs.take 200] := by
          rcases hcase with ⟨_, h1, h2⟩ | ⟨h, _⟩
          · exact ⟨h1, h2⟩
          · omega
        refine V.assign rfl rfl rfl ?_
        refine V.nil ?_
        refine Post.nextC ?_
        refine VC.seq ?_
        refine VC.region ?_
        refine V.move rfl rfl rfl ?_
        apply V.call rfl rfl rfl (hc := c19)
        · repeat' constructor
        rintro v Ho ⟨rfl, rfl⟩
        refine V.move rfl rfl rfl ?_
        refine V.bin rfl rfl rfl rfl (bin_subI (by have := hs.1; omega)) ?_
        refine V.know (t := 81) (y := .int .i64 (k : Int)) rfl (by rw [hwr]; congr 1; omega) ?_
        refine V.assign rfl rfl rfl ?_
        refine V.nil ?_
        refine Post.nextC ?_
        refine VC.seq ?_
        refine VC.region ?_
        refine V.move rfl rfl rfl ?_
        apply V.call rfl rfl rfl (hc := c17)
        · repeat' constructor
        rintro v Ho rfl
        refine V.nil ?_
        refine Post.nextC ?_
        refine VC.seq ?_
        refine VC.region ?_
        refine V.move rfl rfl rfl ?_
        have hs3 : (⟨s2.wr, false, false, s2.lf⟩ : DS).ok (20 * (i : Int) + 1 + 10000) := DS.ok_rest hs2
        apply V.call rfl rfl rfl (hc := c8u (s := ⟨s2.wr, false, false, s2.lf⟩) (by omega) hJ2 (by omega) (DS.ok_mono hs3 (by omega)) rfl)
        · repeat' constructor
        rintro v Ho ⟨j2, vl2, cl, cR, vsl, img3, rfl, hol, hrl, hJ3, rfl⟩
        obtain ⟨al, cpl, rfl, _⟩ := id (hol.rd (w0 := w0))
        refine V.move rfl rfl rfl ?_
        refine V.extract rfl rfl rfl rfl ?_
        refine V.extract rfl rfl rfl rfl ?_
        refine V.extract rfl rfl rfl rfl ?_
        refine V.assign rfl rfl rfl ?_
        refine V.assign rfl rfl rfl ?_
        refine V.assign rfl rfl rfl ?_
        refine V.nil ?_
        refine Post.nextC ?_
        refine VC.seq ?_
        refine VC.seq ?_
        refine VC.region ?_
        refine V.move rfl rfl rfl ?_
        refine V.bin rfl rfl rfl rfl (bin_peqlNil _) ?_
        refine V.know (t := 91) (y := .bool false) rfl (rfl) ?_
        refine V.move rfl rfl rfl ?_
        refine V.move rfl rfl rfl ?_
        refine V.bin rfl rfl rfl rfl (bin_neq _ _ _) ?_
        refine V.know (t := 94) (y := .bool false) rfl (rfl) ?_
        refine V.pickF rfl rfl rfl rfl ?_
        refine V.move rfl rfl rfl ?_
        refine V.move rfl rfl rfl ?_
        refine V.len rfl rfl rfl ?_
        refine V.move rfl rfl rfl ?_
        refine V.bin rfl rfl rfl rfl (bin_neq _ _ _) ?_
        refine V.know (t := 100) (y := .bool true) rfl (by rw [decide_eq_true (by rw [List.length_append]; simp; omega)]) ?_
        refine V.move rfl rfl rfl ?_
        refine V.move rfl rfl rfl ?_
        refine V.len rfl rfl rfl ?_
        refine V.move rfl rfl rfl ?_
        refine V.bin rfl rfl rfl rfl (bin_addI (by omega)) ?_
        refine V.bin rfl rfl rfl rfl (bin_neq _ _ _) ?_
        refine V.know (t := 106) (y := .bool false) rfl (by rw [decide_eq_false (by rw [List.length_append]; simp; omega)]) ?_
        refine V.pickT rfl rfl rfl rfl ?_
        refine V.pickF rfl rfl rfl rfl ?_
        refine V.move rfl rfl rfl ?_
        refine V.move rfl rfl rfl ?_
        refine V.bin rfl rfl rfl rfl (bin_eql _ _ _) ?_
        refine V.know (t := 111) (y := .bool true) rfl (rfl) ?_
        refine V.move rfl rfl rfl ?_
        refine V.len rfl rfl rfl ?_
        refine V.move rfl rfl rfl ?_
        refine V.bin rfl rfl rfl rfl (bin_addI (by omega)) ?_
        refine V.bin rfl rfl rfl rfl (bin_eql _ _ _) ?_
        refine V.know (t := 116) (y := .bool true) rfl (by rw [decide_eq_true (by rw [List.length_append]; simp; omega)]) ?_
        refine V.bin rfl rfl rfl rfl (bin_bneq _ _) ?_
        refine V.know (t := 117) (y := .bool false) rfl (rfl) ?_
        refine V.pickF rfl rfl rfl rfl ?_
        refine V.move rfl rfl rfl ?_
        refine V.move rfl rfl rfl ?_
        refine V.move rfl rfl rfl ?_
        refine V.bin rfl rfl rfl rfl (bin_gtr _ _ _) ?_
        refine V.know (t := 122) (y := .bool false) rfl (by rw [decide_eq_false (by omega)]) ?_
        refine V.pickF rfl rfl rfl rfl ?_
        refine V.nil ?_
        refine Post.nextC ?_
        refine VC.condF rfl ?_
        refine VC.skip ?_
        refine Post.nextC ?_
        refine VC.seq ?_
        refine VC.seq ?_
        refine VC.region ?_
        refine V.move rfl rfl rfl ?_
        refine V.bin rfl rfl rfl rfl (bin_eql _ _ _) ?_
        refine V.know (t := 125) (y := .bool true) rfl (rfl) ?_
        refine V.nil ?_
        refine Post.nextC ?_
        refine VC.condT rfl ?_
        refine VC.seq ?_
        refine VC.draw mixed (by kernel_rfl) ?_
        refine V.move rfl rfl rfl ?_
        refine V.move rfl rfl rfl ?_
        obtain ⟨xv, hxv⟩ : ∃ x, vsl[i]? = some x := ⟨vsl[i]'(by have := hrl.length; rw [List.length_append] at this; simp at this; omega), by simp⟩
        obtain ⟨_, gl, ol, cpl2, hvl2, hcell⟩ := Rd.at (hol.rd (w0 := w0)) hxv
        simp only [Value.slice.injEq] at hvl2
        obtain ⟨rfl, _, rfl⟩ := hvl2
        have hrdl := (hrl.rd (w0 := w0) hJ2.at_.small).2 i xv (xs.take 200) hxv (by rw [List.getElem?_append_right (by omega)]; simp [hrs])
        refine V.indexO (i := i) rfl rfl rfl rfl (by rw [List.length_append]; simp; omega) ?_
        rw [Nat.mul_one]
        apply V.loadC (c := cl) rfl rfl rfl rfl
        · repeat' constructor
        · exact hcell
        apply V.str rfl rfl rfl (.inr ?hq) (hr := hrdl)
        case hq => repeat' constructor
        refine V.move rfl rfl rfl ?_
        apply V.str rfl rfl rfl (.inr ?hq) (hr := hob.rd)
        case hq => repeat' constructor
        refine V.bin rfl rfl rfl rfl (bin_seql _ _) ?_
        refine V.know (t := 133) (y := .bool true) rfl (by simp) ?_
        refine V.move rfl rfl rfl ?_
        refine V.move rfl rfl rfl ?_
        refine V.move rfl rfl rfl ?_
        refine V.len rfl rfl rfl ?_
        refine V.bin rfl rfl rfl rfl (bin_addI (by omega)) ?_
        refine V.bin rfl rfl rfl rfl (bin_quoI (by omega)) ?_
        refine V.bin rfl rfl rfl rfl (bin_addI (by omega)) ?_
        refine V.bin rfl rfl rfl rfl (bin_eql _ _ _) ?_
        refine V.know (t := 141) (y := .bool true) rfl (by rw [decide_eq_true (by unfold span at hk3; omega)]) ?_
        refine V.pickT rfl rfl rfl rfl ?_
        refine V.move rfl rfl rfl ?_
        refine V.move rfl rfl rfl ?_
        refine V.move rfl rfl rfl ?_
        refine V.bin rfl rfl rfl rfl (bin_eql _ _ _) ?_
        refine V.know (t := 146) (y := .bool true) rfl (by rw [decide_eq_true (by omega)]) ?_
        refine V.pickT rfl rfl rfl rfl ?_
        refine V.assign rfl rfl rfl ?_
        refine V.nil ?_
        refine Post.nextC ?_
        refine VC.ret ?_
        refine Post.thenRet (Post.blockRet (Post.thenRet (Post.thenRet (Post.blockRet (Post.thenRet (?_))))))
        apply Post.ret1 rfl rfl 
        · exact ⟨rfl, rfl⟩
        · repeat' constructor
      ·
        obtain ⟨rfl, rfl⟩ : e = 50 ∧ rs = rs2 := by
          rcases hcase with ⟨h, _⟩ | ⟨_, h1, h2⟩
          · omega
          · exact ⟨h1, h2.symm⟩
        refine V.assign rfl rfl rfl ?_
        refine V.nil ?_
        refine Post.nextC ?_
        refine VC.seq ?_
        refine VC.region ?_
        refine V.move rfl rfl rfl ?_
        apply V.call rfl rfl rfl (hc := c19)
        · repeat' constructor
        rintro v Ho ⟨rfl, rfl⟩
        refine V.move rfl rfl rfl ?_
        refine V.bin rfl rfl rfl rfl (bin_subI (by have := hs.1; omega)) ?_
        refine V.know (t := 81) (y := .int .i64 (k : Int)) rfl (by rw [hwr]; congr 1; omega) ?_
        refine V.assign rfl rfl rfl ?_
        refine V.nil ?_
        refine Post.nextC ?_
        refine VC.seq ?_
        refine VC.region ?_
        refine V.move rfl rfl rfl ?_
        apply V.call rfl rfl rfl (hc := c17)
        · repeat' constructor
        rintro v Ho rfl
        refine V.nil ?_
        refine Post.nextC ?_
        refine VC.seq ?_
        refine VC.region ?_
        refine V.move rfl rfl rfl ?_
        have hs3 : (⟨s2.wr, false, false, s2.lf⟩ : DS).ok (20 * (i : Int) + 1 + 10000) := DS.ok_rest hs2
        apply V.call rfl rfl rfl (hc := c8u (s := ⟨s2.wr, false, false, s2.lf⟩) (by omega) hJ2 (by omega) (DS.ok_mono hs3 (by omega)) rfl)
        · repeat' constructor
        rintro v Ho ⟨j2, vl2, cl, cR, vsl, img3, rfl, hol, hrl, hJ3, rfl⟩
        obtain ⟨al, cpl, rfl, _⟩ := id (hol.rd (w0 := w0))
        refine V.move rfl rfl rfl ?_
        refine V.extract rfl rfl rfl rfl ?_
        refine V.extract rfl rfl rfl rfl ?_
        refine V.extract rfl rfl rfl rfl ?_
        refine V.assign rfl rfl rfl ?_
        refine V.assign rfl rfl rfl ?_
        refine V.assign rfl rfl rfl ?_
        refine V.nil ?_
        refine Post.nextC ?_
        refine VC.seq ?_
        refine VC.seq ?_
        refine VC.region ?_
        refine V.move rfl rfl rfl ?_
        refine V.bin rfl rfl rfl rfl (bin_peqlNil _) ?_
        refine V.know (t := 91) (y := .bool false) rfl (rfl) ?_
        refine V.move rfl rfl rfl ?_
        refine V.move rfl rfl rfl ?_
        refine V.bin rfl rfl rfl rfl (bin_neq _ _ _) ?_
        refine V.know (t := 94) (y := .bool false) rfl (rfl) ?_
        refine V.pickF rfl rfl rfl rfl ?_
        refine V.move rfl rfl rfl ?_
        refine V.move rfl rfl rfl ?_
        refine V.len rfl rfl rfl ?_
        refine V.move rfl rfl rfl ?_
        refine V.bin rfl rfl rfl rfl (bin_neq _ _ _) ?_
        refine V.know (t := 100) (y := .bool false) rfl (by rw [decide_eq_false (by omega)]) ?_
        refine V.move rfl rfl rfl ?_
        refine V.skip rfl rfl ?_
        refine V.skip rfl rfl ?_
        refine V.skip rfl rfl ?_
        refine V.skip rfl rfl ?_
        refine V.skip rfl rfl ?_
        refine V.pickF rfl rfl rfl rfl ?_
        refine V.pickF rfl rfl rfl rfl ?_
        refine V.move rfl rfl rfl ?_
        refine V.move rfl rfl rfl ?_
        refine V.bin rfl rfl rfl rfl (bin_eql _ _ _) ?_
        refine V.know (t := 111) (y := .bool false) rfl (rfl) ?_
        refine V.move rfl rfl rfl ?_
        refine V.len rfl rfl rfl ?_
        refine V.move rfl rfl rfl ?_
        refine V.bin rfl rfl rfl rfl (bin_addI (by omega)) ?_
        refine V.bin rfl rfl rfl rfl (bin_eql _ _ _) ?_
        refine V.know (t := 116) (y := .bool false) rfl (by rw [decide_eq_false (by omega)]) ?_
        refine V.bin rfl rfl rfl rfl (bin_bneq _ _) ?_
        refine V.know (t := 117) (y := .bool false) rfl (rfl) ?_
        refine V.pickF rfl rfl rfl rfl ?_
        refine V.move rfl rfl rfl ?_
        refine V.move rfl rfl rfl ?_
        refine V.move rfl rfl rfl ?_
        refine V.bin rfl rfl rfl rfl (bin_gtr _ _ _) ?_
        refine V.know (t := 122) (y := .bool false) rfl (by rw [decide_eq_false (by omega)]) ?_
        refine V.pickF rfl rfl rfl rfl ?_
        refine V.nil ?_
        refine Post.nextC ?_
        refine VC.condF rfl ?_
        refine VC.skip ?_
        refine Post.nextC ?_
        refine VC.seq ?_
        refine VC.seq ?_
        refine VC.region ?_
        refine V.move rfl rfl rfl ?_
        refine V.bin rfl rfl rfl rfl (bin_eql _ _ _) ?_
        refine V.know (t := 125) (y := .bool false) rfl (rfl) ?_
        refine V.nil ?_
        refine Post.nextC ?_
        refine VC.condF rfl ?_
        refine VC.skip ?_
        refine Post.nextC ?_
        refine VC.seq ?_
        refine VC.region ?_
        refine V.move rfl rfl rfl ?_
        refine V.bin rfl rfl rfl rfl (bin_neq _ _ _) ?_
        refine V.know (t := 149) (y := .bool false) rfl (rfl) ?_
        refine V.move rfl rfl rfl ?_
        refine V.move rfl rfl rfl ?_
        refine V.move rfl rfl rfl ?_
        refine V.bin rfl rfl rfl rfl (bin_neq _ _ _) ?_
        refine V.know (t := 153) (y := .bool false) rfl (by rw [decide_eq_false (by omega)]) ?_
        refine V.pickF rfl rfl rfl rfl ?_
        refine V.nil ?_
        refine Post.nextC ?_
        refine VC.condF rfl ?_
        refine VC.skip ?_
        refine Post.blockNormal (Post.nextC ?_)
        refine VC.region ?_
        refine V.move rfl rfl rfl ?_
        refine V.bin rfl rfl rfl rfl (bin_addI (by omega)) ?_
        refine V.assign rfl rfl rfl ?_
        refine V.nil ?_
        refine Post.round (k + 1) ?_ ?_ ?_ ?_
        · omega
        · omega
        · exact ⟨rfl, rfl, rfl, rfl, trivial⟩
        · repeat' constructor
  · try simp only [decide_eq_true_eq, decide_eq_false_iff_not, Bool.not_eq_true', Bool.not_eq_false', Bool.not_eq_eq_eq_not, Bool.not_true, Bool.not_false, beq_iff_eq, beq_eq_false_iff_ne, ne_eq, Int.not_lt, Int.not_le, Option.isSome_some, Option.isNone_none, Option.isSome_none, Option.isNone_some] at h1
    omega

end Go.Proofs.Jn
