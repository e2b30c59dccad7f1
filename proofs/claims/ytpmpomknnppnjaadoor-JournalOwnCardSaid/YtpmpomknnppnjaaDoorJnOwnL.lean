/- Contracts of functions of the given program, each proved by walking its code: part of the proof of this claim; no condition beyond those that each theorem names. -/
import Derived.Test.YtpmpomknnppnjaaDoorJnBook2
import Derived.Test.YtpmpomknnppnjaaDoorJnCuts
set_option linter.unusedVariables false
set_option linter.unusedSimpArgs false
namespace Go.Proofs.Jn
open Go Go.RowKit Go.Proofs.Eng
theorem Recs.append : ∀ {rs rs' : List Bytes} {vs vs' : List Value} {c c' : Chunk}, Recs rs vs c → Recs rs' vs' c' → Recs (rs ++ rs') (vs ++ vs') (c ++ c')
  | [], rs', vs, vs', c, c', ⟨h1, h2⟩, h => by
    subst h1 h2
    exact h
  | r :: rs, rs', vs, vs', c, c', ⟨v0, w, c1, c2, h1, h2, h3, h4⟩, h => by
    subst h1 h2
    exact ⟨v0, w ++ vs', c1, c2 ++ c', rfl, by simp, h3, Recs.append h4 h⟩
structure OSt where
  i : Nat
  en : Nat
  s : DS
  img : Bytes
  rs : List Bytes
  v : Value
  c : Chunk
  vs : List Value
  cX : Chunk
structure OSt.ok (w0 : World) (n : Nat) (t : OSt) : Prop where
  hi : t.i ≤ n ∧ t.i ≤ 20
  hJ : JI t.img 200 1 t.rs t.en
  hr : t.rs.length = t.i
  hs : ∀ r ∈ t.rs, r.length ≤ 100
  he : t.en ≤ 1 + 8 * t.i
  hd : t.s.dn = false
  hf : t.s.fu = false
  hok : t.s.ok (20 * (t.i : Int) + 1)
  ho : Own 31 1 t.c t.v t.i t.vs
  hX : RdL w0 t.cX t.vs t.rs
theorem span_100 {m : Nat} (h : m ≤ 100) : span m ≤ 7 := by unfold span; omega
/-- the lists that the book holds behind q openings -/
def rep (q : Nat) (rs : List Bytes) : List Bytes := (List.replicate q rs).flatten
theorem rep_succ (q : Nat) (rs : List Bytes) : rep (q + 1) rs = rep q rs ++ rs := by
  simp [rep, List.replicate_succ']
theorem rep_length (q : Nat) (rs : List Bytes) : (rep q rs).length = q * rs.length := by
  induction q with
  | zero => simp [rep]
  | succ q ih => rw [rep_succ, List.length_append, ih, Nat.succ_mul]
theorem rep_mem {q : Nat} {rs : List Bytes} {r : Bytes} (h : r ∈ rep q rs) : r ∈ rs := by
  simp only [rep, List.mem_flatten, List.mem_replicate] at h
  obtain ⟨l, ⟨_, rfl⟩, h⟩ := h
  exact h
structure PSt where
  q : Nat
  boots : Nat
  s : DS
  img : Bytes
  vB : Value
  cB : Chunk
  vsB : List Value
  cL : Chunk
  vW : Value
  cW : Chunk
  vsW : List Value
  cX : Chunk
  n : Int
structure PSt.ok (w0 : World) (en : Nat) (rs : List Bytes) (t : PSt) : Prop where
  hq : t.q ≤ 2
  hb : t.boots = t.q + 1
  hJ : JI t.img 200 t.boots rs en
  hd : t.s.dn = false
  hf : t.s.fu = false
  hok : t.s.ok (1000 + (t.q : Int))
  hB : Own 31 1 t.cB t.vB (t.q * rs.length) t.vsB
  hR : Recs (rep t.q rs) t.vsB t.cL
  hW : Own 31 1 t.cW t.vW (t.q * rs.length) t.vsW
  hX : RdL w0 t.cX t.vsW (rep t.q rs)
  hn : 0 ≤ t.n ∧ t.n ≤ 3000 * (t.q : Int)
structure QSt where
  i : Nat
  vB : Value
  cB : Chunk
  vsB : List Value
  vW : Value
  cW : Chunk
  vsW : List Value
  cX : Chunk
  n : Int
structure QSt.ok (w0 : World) (q : Nat) (rs : List Bytes) (vs0 vsl : List Value) (n0 : Int) (t : QSt) : Prop where
  hi : t.i ≤ rs.length
  hvs : t.vsB = vs0 ++ vsl.take t.i
  hB : Own 31 1 t.cB t.vB (q * rs.length + t.i) t.vsB
  hW : Own 31 1 t.cW t.vW (q * rs.length + t.i) t.vsW
  hX : RdL w0 t.cX t.vsW (rep q rs ++ rs.take t.i)
  hn : 0 ≤ t.n ∧ t.n ≤ n0 + 101 * (t.i : Int)
theorem wrote_quiet {s : DS} (hf : s.fu = false) (hd : s.dn = false) : s.wrote.fu = false ∧ s.wrote.dn = false := after_quiet hf hd 1

theorem c3 {w0 : World} {vf : Value} {n : Nat} {vsF : List Value} {rsF : List Bytes} (hf : Rd w0 [] 1 vf n vsF) (hF : RdL w0 [] vsF rsF) : CtR Pg w0 3 #[vf] [] (fun v H => v = .bool true ∧ H = []) := by
  obtain ⟨af, cf, rfl, hf1, hf2, hf3, hf4⟩ := id hf
  have hn63 : n ≤ 9223372036854775807 := by simp only [maxLen] at hf2; omega
  have hvl := hF.1
  rw [Nat.mul_one] at hf3
  refine Ct.of_body Go.Proofs.Tryd.func3 rfl 143 rfl rfl (fun R => ?_)
  refine VC.seq ?_
  refine VC.region ?_
  refine V.assign rfl rfl rfl ?_
  refine V.nil ?_
  refine Post.nextC ?_
  refine VC.seq ?_
  refine VC.region ?_
  apply V.call rfl rfl rfl (hc := c6 (m := 200) (by omega) (by omega))
  · repeat' constructor
  rintro v Ho ⟨d, bb, rfl, rfl⟩
  refine V.move rfl rfl rfl ?_
  refine V.extract rfl rfl rfl rfl ?_
  refine V.extract rfl rfl rfl rfl ?_
  refine V.assign rfl rfl rfl ?_
  refine V.assign rfl rfl rfl ?_
  refine V.nil ?_
  refine Post.nextC ?_
  refine VC.seq ?_
  refine VC.seq ?_
  refine VC.region ?_
  refine V.move rfl rfl rfl ?_
  refine V.bin rfl rfl rfl rfl (bin_peqlNil _) ?_
  refine V.know (t := 27) (y := .bool false) rfl (rfl) ?_
  refine V.move rfl rfl rfl ?_
  apply V.call rfl rfl rfl (hc := c7)
  · repeat' constructor
  rintro v Ho ⟨rfl, rfl⟩
  refine V.not rfl rfl rfl ?_
  refine V.know (t := 30) (y := .bool false) rfl (rfl) ?_
  refine V.pickF rfl rfl rfl rfl ?_
  refine V.nil ?_
  refine Post.nextC ?_
  refine VC.condF rfl ?_
  refine VC.skip ?_
  refine Post.nextC ?_
  refine VC.seq ?_
  refine VC.region ?_
  refine V.move rfl rfl rfl ?_
  apply V.call rfl rfl rfl (hc := c8z (nb := 200) (by omega) (by omega) (DS.ok_mono ok0 (by omega)) rfl)
  · repeat' constructor
  rintro v Ho ⟨j, vl0, cl0, img0, rfl, ho0, hJ0, rfl⟩
  obtain ⟨al0, cpl0, rfl, _⟩ := id (ho0.rd (w0 := w0))
  refine V.move rfl rfl rfl ?_
  refine V.extract rfl rfl rfl rfl ?_
  refine V.extract rfl rfl rfl rfl ?_
  refine V.extract rfl rfl rfl rfl ?_
  refine V.assign rfl rfl rfl ?_
  refine V.assign rfl rfl rfl ?_
  refine V.assign rfl rfl rfl ?_
  refine V.nil ?_
  refine Post.nextC ?_
  refine VC.seq ?_
  refine VC.seq ?_
  refine VC.region ?_
  refine V.move rfl rfl rfl ?_
  refine V.bin rfl rfl rfl rfl (bin_peqlNil _) ?_
  refine V.know (t := 39) (y := .bool false) rfl (rfl) ?_
  refine V.move rfl rfl rfl ?_
  refine V.move rfl rfl rfl ?_
  refine V.bin rfl rfl rfl rfl (bin_neq _ _ _) ?_
  refine V.know (t := 42) (y := .bool false) rfl (rfl) ?_
  refine V.pickF rfl rfl rfl rfl ?_
  refine V.nil ?_
  refine Post.nextC ?_
  refine VC.condF rfl ?_
  refine VC.skip ?_
  refine Post.nextC ?_
  refine VC.seq ?_
  refine VC.region ?_
  refine V.assign rfl rfl rfl ?_
  refine V.nil ?_
  refine Post.nextC ?_
  refine VC.seq ?_
  refine VC.seq ?_
  refine VC.region ?_
  refine V.assign rfl rfl rfl ?_
  refine V.nil ?_
  refine Post.nextC ?_
  refine VC.block ?_
  refine VC.loop (σ := OSt) (fun t => [(0, .slice af n cf), (3, .pointer (some ⟨d, 0, none⟩)), (5, .pointer (some ⟨j, 0, none⟩)), (8, t.v), (9, .int .i64 (t.i : Int))]) (fun t => jB j d 1 (t.rs.length : Int) (t.en : Int) false :: dkS d bb 200 t.s :: imB bb t.img :: t.c :: t.cX :: R) (OSt.ok w0 n) (fun t => n - t.i) ⟨0, 1, (⟨0, false, false, 0⟩ : DS).wrote, img0, [], .slice none 0 0, [], [], []⟩ ⟨by simp, hJ0, rfl, by simp, by simp, rfl, rfl, DS.ok_mono (DS.ok_wrote ok0) (by simp), Own.nil 31 1, RdL.nil w0⟩ ?_ ?_ ?_
  · exact ⟨rfl, rfl, rfl, rfl, rfl, trivial⟩
  · repeat' constructor
  rintro ⟨i, en, s, img, rs, vw, cw, vsw, cwx⟩ ⟨hi, hJ, hrs, hsr, hen, hd, hfu, hok, how, hwX⟩
  simp only at hi hJ hrs hsr hen hd hfu hok how hwX
  dsimp only
  refine VC.seq ?_
  refine VC.seq ?_
  refine VC.region ?_
  refine V.move rfl rfl rfl ?_
  refine V.move rfl rfl rfl ?_
  refine V.len rfl rfl rfl ?_
  refine V.bin rfl rfl rfl rfl (bin_lss _ _ _) ?_
  refine V.move rfl rfl rfl ?_
  refine V.split (t := 48) rfl (fun h1 => ?_) (fun h1 => ?_)
  · try simp only [decide_eq_true_eq, decide_eq_false_iff_not, Bool.not_eq_true', Bool.not_eq_false', Bool.not_eq_eq_eq_not, Bool.not_true, Bool.not_false, beq_iff_eq, beq_eq_false_iff_ne, ne_eq, Int.not_lt, Int.not_le, Option.isSome_some, Option.isNone_none, Option.isSome_none, Option.isNone_some] at h1
    refine V.move rfl rfl rfl ?_
    refine V.bin rfl rfl rfl rfl (bin_lss _ _ _) ?_
    refine V.pickT rfl rfl rfl rfl ?_
    refine V.nil ?_
    refine Post.nextC ?_
    refine VC.cond rfl (fun h2 => ?_) (fun h2 => ?_)
    · try simp only [decide_eq_true_eq, decide_eq_false_iff_not, Bool.not_eq_true', Bool.not_eq_false', Bool.not_eq_eq_eq_not, Bool.not_true, Bool.not_false, beq_iff_eq, beq_eq_false_iff_ne, ne_eq, Int.not_lt, Int.not_le, Option.isSome_some, Option.isNone_none, Option.isSome_none, Option.isNone_some] at h2
      refine VC.skip ?_
      refine Post.nextC ?_
      refine VC.seq ?_
      refine VC.block ?_
      refine VC.seq ?_
      refine VC.region ?_
      refine V.move rfl rfl rfl ?_
      refine V.move rfl rfl rfl ?_
      obtain ⟨xf, hxf⟩ : ∃ x, vsF[i]? = some x := ⟨vsF[i]'(by omega), by simp⟩
      obtain ⟨rf, hrf⟩ : ∃ x, rsF[i]? = some x := ⟨rsF[i]'(by omega), by simp⟩
      obtain ⟨_, gf, of, cpf, hvf, hcel⟩ := Rd.at1 hf hxf
      simp only [Value.slice.injEq] at hvf
      obtain ⟨rfl, _, rfl⟩ := hvf
      have hrdf := hF.2 i xf rf hxf hrf
      refine V.indexO (i := i) rfl rfl rfl rfl (by omega) ?_
      rw [Nat.mul_one]
      apply V.loadO rfl rfl rfl rfl
      · assumption
      apply V.call rfl rfl rfl (hc := c9 (most := 100) hrdf (by omega))
      · repeat' constructor
      rintro vx Ho ⟨cx, hox, rfl⟩
      obtain ⟨m, hm⟩ : ∃ m, min rf.length 100 = m := ⟨_, rfl⟩
      have hm100 : m ≤ 100 := by omega
      have hml : (rf.take 100).length = m := by rw [List.length_take, Nat.min_comm]; exact hm
      rw [hm] at hox
      obtain ⟨ax, cpx, rfl, _⟩ := id (hox.rd (w0 := w0))
      refine V.assign rfl rfl rfl ?_
      refine V.nil ?_
      refine Post.nextC ?_
      refine VC.seq ?_
      refine VC.region ?_
      refine V.buildSlice0 rfl rfl (fun b1 => ?_)
      refine V.move rfl rfl rfl ?_
      apply V.appendR (m := 0) (l := []) (news := (rf.take 100).map byv) rfl rfl rfl rfl rfl rfl (ho := Own.empty _ 5 1) (hp1 := .inr ?hq) (hr := hox.rd) (h1 := all_byv _) (hb := by omega) (h63 := by simp only [maxLen]; omega)
      case hp => repeat' constructor
      case hq => repeat' constructor
      intro v3 c3 ho3
      rw [Nat.zero_add, List.nil_append] at ho3
      refine V.buildSlice [(0, .int .u8 7), (1, .int .u8 8), (2, .int .u8 9)] (l := ([7, 8, 9] : Bytes).map byv) rfl rfl rfl rfl rfl rfl (by with_unfolding_all rfl) (fun b2 => ?_)
      apply V.appendR (news := ([7, 8, 9] : Bytes).map byv) rfl rfl rfl rfl rfl rfl (ho := ho3) (hp1 := .inr ?hq) (hr := Rd.block b2 5 3 (0, 0) _ rfl (by omega)) (h1 := all_byv _) (hb := by omega) (h63 := by simp only [maxLen]; omega)
      case hp => repeat' constructor
      case hq => repeat' constructor
      intro vt cl hol
      rw [← List.map_append] at hol
      obtain ⟨alt, cpt, rfl, hcpt, _⟩ := id (hol.rd (w0 := w0))
      refine V.assign rfl rfl rfl ?_
      refine V.nil ?_
      refine Post.nextC ?_
      refine VC.seq ?_
      refine VC.seq ?_
      refine VC.any ([cl, cx]) 18 18 mixed rfl ?_
      refine VA.take 0 rfl (by kernel_rfl) (by kernel_rfl) rfl (by kernel_rfl) (by kernel_rfl) (by repeat' constructor) ?_
      refine V.move rfl rfl rfl ?_
      refine V.nil ?_
      refine Post.took ?_
      refine VA.take 1 rfl (by kernel_rfl) (by kernel_rfl) rfl (by kernel_rfl) (by kernel_rfl) (by repeat' constructor) ?_
      refine V.move rfl rfl rfl ?_
      refine V.nil ?_
      refine Post.took ?_
      refine VA.take 2 rfl (by kernel_rfl) (by kernel_rfl) rfl (by kernel_rfl) (by kernel_rfl) (by repeat' constructor) ?_
      refine V.move rfl rfl rfl ?_
      refine V.nil ?_
      refine Post.took ?_
      refine VA.take 3 rfl (by kernel_rfl) (by kernel_rfl) rfl (by kernel_rfl) (by kernel_rfl) (by repeat' constructor) ?_
      refine V.len rfl rfl rfl ?_
      refine V.nil ?_
      refine Post.took ?_
      refine VA.take 4 rfl (by kernel_rfl) (by kernel_rfl) rfl (by kernel_rfl) (by kernel_rfl) (by repeat' constructor) ?_
      refine V.sliceH (j := m) rfl rfl rfl rfl (by omega) ?_
      refine V.nil ?_
      refine Post.took ?_
      refine VA.one 5 (by kernel_rfl) rfl ?_
      have hrdl := (hol.rd (w0 := w0)).take (i := m) (by omega)
      rw [Nat.mul_one, ← List.map_take, List.take_left' hml] at hrdl
      have hsp7 := span_100 hm100
      apply V.call rfl rfl rfl (hc := c10ok (c := cl) (r := rf.take 100) (m := m) (M := 20 * (i : Int) + 1) hrdl (by omega) (by omega) hJ hok (by omega) hd hfu (by omega))
      · repeat' constructor
      rintro v Ho ⟨img2, rfl, hJ2, rfl⟩
      refine V.nil ?_
      refine Post.came (by repeat' constructor) ?_
      refine VA.take 6 rfl (by kernel_rfl) (by kernel_rfl) rfl (by kernel_rfl) (by kernel_rfl) (by repeat' constructor) ?_
      refine V.bin rfl rfl rfl rfl (bin_neq _ _ _) ?_
      refine V.know (t := 70) (y := .bool false) rfl (rfl) ?_
      refine V.nil ?_
      refine Post.took ?_
      refine VA.take 7 rfl (by kernel_rfl) (by kernel_rfl) rfl (by kernel_rfl) (by kernel_rfl) (by repeat' constructor) ?_
      refine V.move rfl rfl rfl ?_
      refine V.nil ?_
      refine Post.took ?_
      refine VA.take 8 rfl (by kernel_rfl) (by kernel_rfl) rfl (by kernel_rfl) (by kernel_rfl) (by repeat' constructor) ?_
      refine V.move rfl rfl rfl ?_
      refine V.nil ?_
      refine Post.took ?_
      refine VA.take 9 rfl (by kernel_rfl) (by kernel_rfl) rfl (by kernel_rfl) (by kernel_rfl) (by repeat' constructor) ?_
      apply V.str rfl rfl rfl (.inr ?hq) (hr := hol.rd)
      case hq => repeat' constructor
      refine V.nil ?_
      refine Post.took ?_
      refine VA.take 11 rfl (by kernel_rfl) (by kernel_rfl) rfl (by kernel_rfl) (by kernel_rfl) (by repeat' constructor) ?_
      refine V.move rfl rfl rfl ?_
      refine V.nil ?_
      refine Post.took ?_
      refine VA.two 10 13 (by kernel_rfl) rfl rfl ?_ ?_
      ·
        refine V.buildSlice0 rfl rfl (fun b5 => ?_)
        refine V.nil ?_
        refine Post.came (by repeat' constructor) ?_
        refine VA.two 12 13 (by kernel_rfl) rfl rfl ?_ ?_
        ·
          apply V.appendR (m := 0) (l := []) (news := (rf.take 100).map byv) rfl rfl rfl rfl rfl rfl (ho := Own.empty _ 5 1) (hp1 := .inr ?hq) (hr := hox.rd) (h1 := all_byv _) (hb := by omega) (h63 := by simp only [maxLen]; omega)
          case hp => repeat' constructor
          case hq => repeat' constructor
          intro v5 c5 ho5
          rw [Nat.zero_add, List.nil_append] at ho5
          refine V.nil ?_
          refine Post.came (by repeat' constructor) ?_
          refine VA.one 13 (by kernel_rfl) rfl ?_
          refine V.buildSlice [(0, .int .u8 7), (1, .int .u8 8), (2, .int .u8 9)] (l := ([7, 8, 9] : Bytes).map byv) rfl rfl rfl rfl rfl rfl (by with_unfolding_all rfl) (fun b6 => ?_)
          refine V.nil ?_
          refine Post.came (by repeat' constructor) ?_
          refine VA.one 14 (by kernel_rfl) rfl ?_
          apply V.appendR (news := ([7, 8, 9] : Bytes).map byv) rfl rfl rfl rfl rfl rfl (ho := ho5) (hp1 := .inr ?hq) (hr := Rd.block b6 5 3 (0, 0) _ rfl (by omega)) (h1 := all_byv _) (hb := by omega) (h63 := by simp only [maxLen]; omega)
          case hp => repeat' constructor
          case hq => repeat' constructor
          intro v6 c6 ho6
          rw [← List.map_append] at ho6
          refine V.nil ?_
          refine Post.came (by repeat' constructor) ?_
          refine VA.one 15 (by kernel_rfl) rfl ?_
          apply V.str rfl rfl rfl (.inr ?hq) (hr := ho6.rd)
          case hq => repeat' constructor
          refine V.nil ?_
          refine Post.came (by repeat' constructor) ?_
          refine VA.take 16 rfl (by kernel_rfl) (by kernel_rfl) rfl (by kernel_rfl) (by kernel_rfl) (by repeat' constructor) ?_
          refine V.bin rfl rfl rfl rfl (bin_sneq _ _) ?_
          refine V.know (t := 80) (y := .bool false) rfl (by simp) ?_
          refine V.nil ?_
          refine Post.took ?_
          refine VA.take 17 rfl (by kernel_rfl) (by kernel_rfl) rfl (by kernel_rfl) (by kernel_rfl) (by repeat' constructor) ?_
          refine V.pickF rfl rfl rfl rfl ?_
          refine V.nil ?_
          refine Post.took ?_
          refine VA.done (by kernel_rfl) ?_
          refine Post.nextC ?_
          refine VC.condF rfl ?_
          refine VC.skip ?_
          refine Post.nextC ?_
          refine VC.seq ?_
          refine VC.seq ?_
          refine VC.region ?_
          obtain ⟨g, cap, cur, rfl, hvl2, hc1, hc2, hc3, hc4⟩ : ∃ g cap cur, cl = [(g, .cells cur 5 (0, 0))] ∧ Value.slice alt (m + 3) cpt = .slice (some ⟨g, 0, none⟩) (m + 3) cap ∧ m + 3 ≤ cap ∧ cap ≤ maxLen ∧ cur.size = cap * 1 ∧ True := by
            rcases hol.2 with ⟨_, h, _⟩ | ⟨g, cap, cur, h1, h2, h3, h4, h5, _⟩
            · simp at h
            · exact ⟨g, cap, cur, h1, h2, h3, h4, h5, trivial⟩
          simp only [Value.slice.injEq] at hvl2
          obtain ⟨rfl, _, rfl⟩ := hvl2
          refine V.assign rfl rfl rfl ?_
          refine V.nil ?_
          refine Post.nextC ?_
          refine VC.block ?_
          refine VC.loop (σ := Nat × Array Value) (fun t => [(0, .slice (some ⟨gf, of, none⟩) n cf), (3, .pointer (some ⟨d, 0, none⟩)), (5, .pointer (some ⟨j, 0, none⟩)), (8, vw), (9, .int .i64 (i : Int)), (10, .slice ax m cpx), (11, .slice (some ⟨g, 0, none⟩) (m + 3) cpt), (12, .int .i64 (t.1 : Int))]) (fun t => [(g, .cells t.2 5 (0, 0))] :: jB j d 1 ((rs ++ [rf.take 100]).length : Int) ((en + span m + 1 : Nat) : Int) false :: dkS d bb 200 (s.after (span m + 2)) :: imB bb img2 :: cw :: cwx :: cx :: R) (fun t => t.1 ≤ m + 3 ∧ m + 3 ≤ t.2.size) (fun t => m + 3 - t.1) (0, cur) ⟨Nat.zero_le _, by simp only; omega⟩ ?_ ?_ ?_
          · exact ⟨rfl, rfl, rfl, rfl, rfl, rfl, rfl, rfl, trivial⟩
          · repeat' constructor
          rintro ⟨k, cur2⟩ ⟨hk, hcs⟩
          simp only at hk hcs
          dsimp only
          refine VC.seq ?_
          refine VC.seq ?_
          refine VC.region ?_
          refine V.move rfl rfl rfl ?_
          refine V.move rfl rfl rfl ?_
          refine V.len rfl rfl rfl ?_
          refine V.bin rfl rfl rfl rfl (bin_lss _ _ _) ?_
          refine V.nil ?_
          refine Post.nextC ?_
          refine VC.cond rfl (fun h3 => ?_) (fun h3 => ?_)
          · try simp only [decide_eq_true_eq, decide_eq_false_iff_not, Bool.not_eq_true', Bool.not_eq_false', Bool.not_eq_eq_eq_not, Bool.not_true, Bool.not_false, beq_iff_eq, beq_eq_false_iff_ne, ne_eq, Int.not_lt, Int.not_le, Option.isSome_some, Option.isNone_none, Option.isSome_none, Option.isNone_some] at h3
            refine VC.skip ?_
            refine Post.nextC ?_
            refine VC.seq ?_
            refine VC.block ?_
            refine VC.region ?_
            refine V.move rfl rfl rfl ?_
            refine V.move rfl rfl rfl ?_
            refine V.indexO (i := k) rfl rfl rfl rfl (by omega) ?_
            apply V.store (v := .int .u8 99) rfl rfl rfl rfl rfl
            · repeat' constructor
            · omega
            refine V.nil ?_
            refine Post.blockNormal (Post.nextC ?_)
            refine VC.region ?_
            refine V.move rfl rfl rfl ?_
            refine V.bin rfl rfl rfl rfl (bin_addI (by omega)) ?_
            refine V.assign rfl rfl rfl ?_
            refine V.nil ?_
            refine Post.round (k + 1, cur2.setIfInBounds (0 + k * 1) (.int .u8 99)) ?_ ?_ ?_ ?_
            · exact ⟨by simp only; omega, by simpa using hcs⟩
            · simp only; omega
            · exact ⟨rfl, rfl, rfl, rfl, rfl, rfl, rfl, rfl, trivial⟩
            · repeat' constructor
          · try simp only [decide_eq_true_eq, decide_eq_false_iff_not, Bool.not_eq_true', Bool.not_eq_false', Bool.not_eq_eq_eq_not, Bool.not_true, Bool.not_false, beq_iff_eq, beq_eq_false_iff_ne, ne_eq, Int.not_lt, Int.not_le, Option.isSome_some, Option.isNone_none, Option.isSome_none, Option.isNone_some] at h3
            refine VC.exit ?_
            refine Post.thenExit (Post.thenExit (Post.blockHit (Post.nextC ?_)))
            refine VC.region ?_
            refine V.move rfl rfl rfl ?_
            refine V.move rfl rfl rfl ?_
            refine V.buildSlice1 (l := [.slice ax m cpx]) rfl rfl rfl rfl rfl rfl rfl (fun b7 => ?_)
            apply V.append1 rfl rfl rfl rfl rfl rfl (news := [.slice ax m cpx]) (ho := how) (hb := by omega) (h63 := by simp only [maxLen]; omega)
            case hp => repeat' constructor
            case hl => rfl
            case h1 => rfl
            intro vw2 cw2 how2
            refine V.assign rfl rfl rfl ?_
            refine V.nil ?_
            refine Post.blockNormal (Post.nextC ?_)
            refine VC.region ?_
            refine V.move rfl rfl rfl ?_
            refine V.bin rfl rfl rfl rfl (bin_addI (by omega)) ?_
            refine V.assign rfl rfl rfl ?_
            refine V.nil ?_
            refine Post.round ⟨i + 1, en + span m + 1, s.after (span m + 2), img2, rs ++ [rf.take 100], vw2, cw2, vsw ++ [.slice ax m cpx], cwx ++ cx⟩ ?_ ?_ ?_ ?_
            · exact ⟨by simp only; omega, hJ2, by simp [hrs], by
                intro r h
                rcases List.mem_append.1 h with h | h
                · exact hsr r h
                · simp at h; subst h; omega, by simp only; omega, (after_quiet hfu hd _).2, (after_quiet hfu hd _).1, DS.ok_mono (DS.ok_after hok _) (by simp only; omega), how2, hwX.snoc (by rw [hml]; exact hox.rd)⟩
            · simp only; omega
            · exact ⟨rfl, rfl, rfl, rfl, rfl, trivial⟩
            · repeat' constructor
        ·
          refine V.buildSlice [(0, .int .u8 7), (1, .int .u8 8), (2, .int .u8 9)] (l := ([7, 8, 9] : Bytes).map byv) rfl rfl rfl rfl rfl rfl (by with_unfolding_all rfl) (fun b6 => ?_)
          refine V.nil ?_
          refine Post.came (by repeat' constructor) ?_
          refine VA.one 12 (by kernel_rfl) rfl ?_
          apply V.appendR (m := 0) (l := []) (news := (rf.take 100).map byv) rfl rfl rfl rfl rfl rfl (ho := Own.empty _ 5 1) (hp1 := .inr ?hq) (hr := hox.rd) (h1 := all_byv _) (hb := by omega) (h63 := by simp only [maxLen]; omega)
          case hp => repeat' constructor
          case hq => repeat' constructor
          intro v5 c5 ho5
          rw [Nat.zero_add, List.nil_append] at ho5
          refine V.nil ?_
          refine Post.came (by repeat' constructor) ?_
          refine VA.one 14 (by kernel_rfl) rfl ?_
          apply V.appendR (news := ([7, 8, 9] : Bytes).map byv) rfl rfl rfl rfl rfl rfl (ho := ho5) (hp1 := .inr ?hq) (hr := Rd.block b6 5 3 (0, 0) _ rfl (by omega)) (h1 := all_byv _) (hb := by omega) (h63 := by simp only [maxLen]; omega)
          case hp => repeat' constructor
          case hq => repeat' constructor
          intro v6 c6 ho6
          rw [← List.map_append] at ho6
          refine V.nil ?_
          refine Post.came (by repeat' constructor) ?_
          refine VA.one 15 (by kernel_rfl) rfl ?_
          apply V.str rfl rfl rfl (.inr ?hq) (hr := ho6.rd)
          case hq => repeat' constructor
          refine V.nil ?_
          refine Post.came (by repeat' constructor) ?_
          refine VA.take 16 rfl (by kernel_rfl) (by kernel_rfl) rfl (by kernel_rfl) (by kernel_rfl) (by repeat' constructor) ?_
          refine V.bin rfl rfl rfl rfl (bin_sneq _ _) ?_
          refine V.know (t := 80) (y := .bool false) rfl (by simp) ?_
          refine V.nil ?_
          refine Post.took ?_
          refine VA.take 17 rfl (by kernel_rfl) (by kernel_rfl) rfl (by kernel_rfl) (by kernel_rfl) (by repeat' constructor) ?_
          refine V.pickF rfl rfl rfl rfl ?_
          refine V.nil ?_
          refine Post.took ?_
          refine VA.done (by kernel_rfl) ?_
          refine Post.nextC ?_
          refine VC.condF rfl ?_
          refine VC.skip ?_
          refine Post.nextC ?_
          refine VC.seq ?_
          refine VC.seq ?_
          refine VC.region ?_
          obtain ⟨g, cap, cur, rfl, hvl2, hc1, hc2, hc3, hc4⟩ : ∃ g cap cur, cl = [(g, .cells cur 5 (0, 0))] ∧ Value.slice alt (m + 3) cpt = .slice (some ⟨g, 0, none⟩) (m + 3) cap ∧ m + 3 ≤ cap ∧ cap ≤ maxLen ∧ cur.size = cap * 1 ∧ True := by
            rcases hol.2 with ⟨_, h, _⟩ | ⟨g, cap, cur, h1, h2, h3, h4, h5, _⟩
            · simp at h
            · exact ⟨g, cap, cur, h1, h2, h3, h4, h5, trivial⟩
          simp only [Value.slice.injEq] at hvl2
          obtain ⟨rfl, _, rfl⟩ := hvl2
          refine V.assign rfl rfl rfl ?_
          refine V.nil ?_
          refine Post.nextC ?_
          refine VC.block ?_
          refine VC.loop (σ := Nat × Array Value) (fun t => [(0, .slice (some ⟨gf, of, none⟩) n cf), (3, .pointer (some ⟨d, 0, none⟩)), (5, .pointer (some ⟨j, 0, none⟩)), (8, vw), (9, .int .i64 (i : Int)), (10, .slice ax m cpx), (11, .slice (some ⟨g, 0, none⟩) (m + 3) cpt), (12, .int .i64 (t.1 : Int))]) (fun t => [(g, .cells t.2 5 (0, 0))] :: jB j d 1 ((rs ++ [rf.take 100]).length : Int) ((en + span m + 1 : Nat) : Int) false :: dkS d bb 200 (s.after (span m + 2)) :: imB bb img2 :: cw :: cwx :: cx :: R) (fun t => t.1 ≤ m + 3 ∧ m + 3 ≤ t.2.size) (fun t => m + 3 - t.1) (0, cur) ⟨Nat.zero_le _, by simp only; omega⟩ ?_ ?_ ?_
          · exact ⟨rfl, rfl, rfl, rfl, rfl, rfl, rfl, rfl, trivial⟩
          · repeat' constructor
          rintro ⟨k, cur2⟩ ⟨hk, hcs⟩
          simp only at hk hcs
          dsimp only
          refine VC.seq ?_
          refine VC.seq ?_
          refine VC.region ?_
          refine V.move rfl rfl rfl ?_
          refine V.move rfl rfl rfl ?_
          refine V.len rfl rfl rfl ?_
          refine V.bin rfl rfl rfl rfl (bin_lss _ _ _) ?_
          refine V.nil ?_
          refine Post.nextC ?_
          refine VC.cond rfl (fun h4 => ?_) (fun h4 => ?_)
          · try simp only [decide_eq_true_eq, decide_eq_false_iff_not, Bool.not_eq_true', Bool.not_eq_false', Bool.not_eq_eq_eq_not, Bool.not_true, Bool.not_false, beq_iff_eq, beq_eq_false_iff_ne, ne_eq, Int.not_lt, Int.not_le, Option.isSome_some, Option.isNone_none, Option.isSome_none, Option.isNone_some] at h4
            refine VC.skip ?_
            refine Post.nextC ?_
            refine VC.seq ?_
            refine VC.block ?_
            refine VC.region ?_
            refine V.move rfl rfl rfl ?_
            refine V.move rfl rfl rfl ?_
            refine V.indexO (i := k) rfl rfl rfl rfl (by omega) ?_
            apply V.store (v := .int .u8 99) rfl rfl rfl rfl rfl
            · repeat' constructor
            · omega
            refine V.nil ?_
            refine Post.blockNormal (Post.nextC ?_)
            refine VC.region ?_
            refine V.move rfl rfl rfl ?_
            refine V.bin rfl rfl rfl rfl (bin_addI (by omega)) ?_
            refine V.assign rfl rfl rfl ?_
            refine V.nil ?_
            refine Post.round (k + 1, cur2.setIfInBounds (0 + k * 1) (.int .u8 99)) ?_ ?_ ?_ ?_
            · exact ⟨by simp only; omega, by simpa using hcs⟩
            · simp only; omega
            · exact ⟨rfl, rfl, rfl, rfl, rfl, rfl, rfl, rfl, trivial⟩
            · repeat' constructor
          · try simp only [decide_eq_true_eq, decide_eq_false_iff_not, Bool.not_eq_true', Bool.not_eq_false', Bool.not_eq_eq_eq_not, Bool.not_true, Bool.not_false, beq_iff_eq, beq_eq_false_iff_ne, ne_eq, Int.not_lt, Int.not_le, Option.isSome_some, Option.isNone_none, Option.isSome_none, Option.isNone_some] at h4
            refine VC.exit ?_
            refine Post.thenExit (Post.thenExit (Post.blockHit (Post.nextC ?_)))
            refine VC.region ?_
            refine V.move rfl rfl rfl ?_
            refine V.move rfl rfl rfl ?_
            refine V.buildSlice1 (l := [.slice ax m cpx]) rfl rfl rfl rfl rfl rfl rfl (fun b7 => ?_)
            apply V.append1 rfl rfl rfl rfl rfl rfl (news := [.slice ax m cpx]) (ho := how) (hb := by omega) (h63 := by simp only [maxLen]; omega)
            case hp => repeat' constructor
            case hl => rfl
            case h1 => rfl
            intro vw2 cw2 how2
            refine V.assign rfl rfl rfl ?_
            refine V.nil ?_
            refine Post.blockNormal (Post.nextC ?_)
            refine VC.region ?_
            refine V.move rfl rfl rfl ?_
            refine V.bin rfl rfl rfl rfl (bin_addI (by omega)) ?_
            refine V.assign rfl rfl rfl ?_
            refine V.nil ?_
            refine Post.round ⟨i + 1, en + span m + 1, s.after (span m + 2), img2, rs ++ [rf.take 100], vw2, cw2, vsw ++ [.slice ax m cpx], cwx ++ cx⟩ ?_ ?_ ?_ ?_
            · exact ⟨by simp only; omega, hJ2, by simp [hrs], by
                intro r h
                rcases List.mem_append.1 h with h | h
                · exact hsr r h
                · simp at h; subst h; omega, by simp only; omega, (after_quiet hfu hd _).2, (after_quiet hfu hd _).1, DS.ok_mono (DS.ok_after hok _) (by simp only; omega), how2, hwX.snoc (by rw [hml]; exact hox.rd)⟩
            · simp only; omega
            · exact ⟨rfl, rfl, rfl, rfl, rfl, trivial⟩
            · repeat' constructor
      ·
        refine V.buildSlice [(0, .int .u8 7), (1, .int .u8 8), (2, .int .u8 9)] (l := ([7, 8, 9] : Bytes).map byv) rfl rfl rfl rfl rfl rfl (by with_unfolding_all rfl) (fun b6 => ?_)
        refine V.nil ?_
        refine Post.came (by repeat' constructor) ?_
        refine VA.one 10 (by kernel_rfl) rfl ?_
        refine V.buildSlice0 rfl rfl (fun b5 => ?_)
        refine V.nil ?_
        refine Post.came (by repeat' constructor) ?_
        refine VA.one 12 (by kernel_rfl) rfl ?_
        apply V.appendR (m := 0) (l := []) (news := (rf.take 100).map byv) rfl rfl rfl rfl rfl rfl (ho := Own.empty _ 5 1) (hp1 := .inr ?hq) (hr := hox.rd) (h1 := all_byv _) (hb := by omega) (h63 := by simp only [maxLen]; omega)
        case hp => repeat' constructor
        case hq => repeat' constructor
        intro v5 c5 ho5
        rw [Nat.zero_add, List.nil_append] at ho5
        refine V.nil ?_
        refine Post.came (by repeat' constructor) ?_
        refine VA.one 14 (by kernel_rfl) rfl ?_
        apply V.appendR (news := ([7, 8, 9] : Bytes).map byv) rfl rfl rfl rfl rfl rfl (ho := ho5) (hp1 := .inr ?hq) (hr := Rd.block b6 5 3 (0, 0) _ rfl (by omega)) (h1 := all_byv _) (hb := by omega) (h63 := by simp only [maxLen]; omega)
        case hp => repeat' constructor
        case hq => repeat' constructor
        intro v6 c6 ho6
        rw [← List.map_append] at ho6
        refine V.nil ?_
        refine Post.came (by repeat' constructor) ?_
        refine VA.one 15 (by kernel_rfl) rfl ?_
        apply V.str rfl rfl rfl (.inr ?hq) (hr := ho6.rd)
        case hq => repeat' constructor
        refine V.nil ?_
        refine Post.came (by repeat' constructor) ?_
        refine VA.take 16 rfl (by kernel_rfl) (by kernel_rfl) rfl (by kernel_rfl) (by kernel_rfl) (by repeat' constructor) ?_
        refine V.bin rfl rfl rfl rfl (bin_sneq _ _) ?_
        refine V.know (t := 80) (y := .bool false) rfl (by simp) ?_
        refine V.nil ?_
        refine Post.took ?_
        refine VA.take 17 rfl (by kernel_rfl) (by kernel_rfl) rfl (by kernel_rfl) (by kernel_rfl) (by repeat' constructor) ?_
        refine V.pickF rfl rfl rfl rfl ?_
        refine V.nil ?_
        refine Post.took ?_
        refine VA.done (by kernel_rfl) ?_
        refine Post.nextC ?_
        refine VC.condF rfl ?_
        refine VC.skip ?_
        refine Post.nextC ?_
        refine VC.seq ?_
        refine VC.seq ?_
        refine VC.region ?_
        obtain ⟨g, cap, cur, rfl, hvl2, hc1, hc2, hc3, hc4⟩ : ∃ g cap cur, cl = [(g, .cells cur 5 (0, 0))] ∧ Value.slice alt (m + 3) cpt = .slice (some ⟨g, 0, none⟩) (m + 3) cap ∧ m + 3 ≤ cap ∧ cap ≤ maxLen ∧ cur.size = cap * 1 ∧ True := by
          rcases hol.2 with ⟨_, h, _⟩ | ⟨g, cap, cur, h1, h2, h3, h4, h5, _⟩
          · simp at h
          · exact ⟨g, cap, cur, h1, h2, h3, h4, h5, trivial⟩
        simp only [Value.slice.injEq] at hvl2
        obtain ⟨rfl, _, rfl⟩ := hvl2
        refine V.assign rfl rfl rfl ?_
        refine V.nil ?_
        refine Post.nextC ?_
        refine VC.block ?_
        refine VC.loop (σ := Nat × Array Value) (fun t => [(0, .slice (some ⟨gf, of, none⟩) n cf), (3, .pointer (some ⟨d, 0, none⟩)), (5, .pointer (some ⟨j, 0, none⟩)), (8, vw), (9, .int .i64 (i : Int)), (10, .slice ax m cpx), (11, .slice (some ⟨g, 0, none⟩) (m + 3) cpt), (12, .int .i64 (t.1 : Int))]) (fun t => [(g, .cells t.2 5 (0, 0))] :: jB j d 1 ((rs ++ [rf.take 100]).length : Int) ((en + span m + 1 : Nat) : Int) false :: dkS d bb 200 (s.after (span m + 2)) :: imB bb img2 :: cw :: cwx :: cx :: R) (fun t => t.1 ≤ m + 3 ∧ m + 3 ≤ t.2.size) (fun t => m + 3 - t.1) (0, cur) ⟨Nat.zero_le _, by simp only; omega⟩ ?_ ?_ ?_
        · exact ⟨rfl, rfl, rfl, rfl, rfl, rfl, rfl, rfl, trivial⟩
        · repeat' constructor
        rintro ⟨k, cur2⟩ ⟨hk, hcs⟩
        simp only at hk hcs
        dsimp only
        refine VC.seq ?_
        refine VC.seq ?_
        refine VC.region ?_
        refine V.move rfl rfl rfl ?_
        refine V.move rfl rfl rfl ?_
        refine V.len rfl rfl rfl ?_
        refine V.bin rfl rfl rfl rfl (bin_lss _ _ _) ?_
        refine V.nil ?_
        refine Post.nextC ?_
        refine VC.cond rfl (fun h5 => ?_) (fun h5 => ?_)
        · try simp only [decide_eq_true_eq, decide_eq_false_iff_not, Bool.not_eq_true', Bool.not_eq_false', Bool.not_eq_eq_eq_not, Bool.not_true, Bool.not_false, beq_iff_eq, beq_eq_false_iff_ne, ne_eq, Int.not_lt, Int.not_le, Option.isSome_some, Option.isNone_none, Option.isSome_none, Option.isNone_some] at h5
          refine VC.skip ?_
          refine Post.nextC ?_
          refine VC.seq ?_
          refine VC.block ?_
          refine VC.region ?_
          refine V.move rfl rfl rfl ?_
          refine V.move rfl rfl rfl ?_
          refine V.indexO (i := k) rfl rfl rfl rfl (by omega) ?_
          apply V.store (v := .int .u8 99) rfl rfl rfl rfl rfl
          · repeat' constructor
          · omega
          refine V.nil ?_
          refine Post.blockNormal (Post.nextC ?_)
          refine VC.region ?_
          refine V.move rfl rfl rfl ?_
          refine V.bin rfl rfl rfl rfl (bin_addI (by omega)) ?_
          refine V.assign rfl rfl rfl ?_
          refine V.nil ?_
          refine Post.round (k + 1, cur2.setIfInBounds (0 + k * 1) (.int .u8 99)) ?_ ?_ ?_ ?_
          · exact ⟨by simp only; omega, by simpa using hcs⟩
          · simp only; omega
          · exact ⟨rfl, rfl, rfl, rfl, rfl, rfl, rfl, rfl, trivial⟩
          · repeat' constructor
        · try simp only [decide_eq_true_eq, decide_eq_false_iff_not, Bool.not_eq_true', Bool.not_eq_false', Bool.not_eq_eq_eq_not, Bool.not_true, Bool.not_false, beq_iff_eq, beq_eq_false_iff_ne, ne_eq, Int.not_lt, Int.not_le, Option.isSome_some, Option.isNone_none, Option.isSome_none, Option.isNone_some] at h5
          refine VC.exit ?_
          refine Post.thenExit (Post.thenExit (Post.blockHit (Post.nextC ?_)))
          refine VC.region ?_
          refine V.move rfl rfl rfl ?_
          refine V.move rfl rfl rfl ?_
          refine V.buildSlice1 (l := [.slice ax m cpx]) rfl rfl rfl rfl rfl rfl rfl (fun b7 => ?_)
          apply V.append1 rfl rfl rfl rfl rfl rfl (news := [.slice ax m cpx]) (ho := how) (hb := by omega) (h63 := by simp only [maxLen]; omega)
          case hp => repeat' constructor
          case hl => rfl
          case h1 => rfl
          intro vw2 cw2 how2
          refine V.assign rfl rfl rfl ?_
          refine V.nil ?_
          refine Post.blockNormal (Post.nextC ?_)
          refine VC.region ?_
          refine V.move rfl rfl rfl ?_
          refine V.bin rfl rfl rfl rfl (bin_addI (by omega)) ?_
          refine V.assign rfl rfl rfl ?_
          refine V.nil ?_
          refine Post.round ⟨i + 1, en + span m + 1, s.after (span m + 2), img2, rs ++ [rf.take 100], vw2, cw2, vsw ++ [.slice ax m cpx], cwx ++ cx⟩ ?_ ?_ ?_ ?_
          · exact ⟨by simp only; omega, hJ2, by simp [hrs], by
              intro r h
              rcases List.mem_append.1 h with h | h
              · exact hsr r h
              · simp at h; subst h; omega, by simp only; omega, (after_quiet hfu hd _).2, (after_quiet hfu hd _).1, DS.ok_mono (DS.ok_after hok _) (by simp only; omega), how2, hwX.snoc (by rw [hml]; exact hox.rd)⟩
          · simp only; omega
          · exact ⟨rfl, rfl, rfl, rfl, rfl, trivial⟩
          · repeat' constructor
    · try simp only [decide_eq_true_eq, decide_eq_false_iff_not, Bool.not_eq_true', Bool.not_eq_false', Bool.not_eq_eq_eq_not, Bool.not_true, Bool.not_false, beq_iff_eq, beq_eq_false_iff_ne, ne_eq, Int.not_lt, Int.not_le, Option.isSome_some, Option.isNone_none, Option.isSome_none, Option.isNone_some] at h2
      refine VC.exit ?_
      refine Post.thenExit (Post.thenExit (Post.blockHit (Post.nextC ?_)))
      refine VC.seq ?_
      refine VC.region ?_
      subst hrs
      have hok0 : s.ok 1000 := DS.ok_mono hok (by omega)
      have hsm : ∀ r ∈ rs, r.length ≤ 131072 := fun r h => by have := hsr r h; omega
      obtain ⟨aw, cpw, rfl, _⟩ := id (how.rd (w0 := w0))
      refine V.buildS [] (l := [.slice none 0 0, .slice none 0 0, .slice none 0 0, .slice none 0 0, .slice none 0 0, .slice none 0 0, .slice none 0 0, .slice none 0 0, .slice none 0 0, .slice none 0 0, .slice none 0 0, .slice none 0 0, .int .i64 0]) rfl rfl rfl rfl rfl ?_
      refine V.box rfl rfl rfl rfl (fun bk => ?_)
      refine V.assign rfl rfl rfl ?_
      refine V.nil ?_
      refine Post.nextC ?_
      refine VC.seq ?_
      refine VC.seq ?_
      refine VC.region ?_
      refine V.assign rfl rfl rfl ?_
      refine V.nil ?_
      refine Post.nextC ?_
      refine VC.block ?_
      refine VC.loop (σ := PSt) (fun t => [(3, .pointer (some ⟨d, 0, none⟩)), (8, .slice aw rs.length cpw), (13, .pointer (some ⟨bk, 0, none⟩)), (14, .int .i64 (t.q : Int))]) (fun t => bkB bk t.vB t.vW (.slice none 0 0) (.slice none 0 0) t.n :: dkS d bb 200 t.s :: imB bb t.img :: cw :: cwx :: t.cB :: t.cL :: t.cW :: t.cX :: R) (PSt.ok w0 en rs) (fun t => 2 - t.q) ⟨0, 1, s, img, .slice none 0 0, [], [], [], .slice none 0 0, [], [], [], 0⟩ ⟨by simp, rfl, hJ, hd, hfu, DS.ok_mono hok0 (by simp), by simpa using Own.nil 31 1, ⟨rfl, rfl⟩, by simpa using Own.nil 31 1, by simpa [rep] using RdL.nil w0, by simp⟩ ?_ ?_ ?_
      · exact ⟨rfl, rfl, rfl, rfl, trivial⟩
      · repeat' constructor
      rintro ⟨q, boots, s1, img1, vB, cB, vsB, cL, vW, cW, vsW, cX, nn⟩ ⟨hq, hbo, hJ, hd, hfu, hok, hB, hR, hW, hX, hnn⟩
      simp only at hq hbo hJ hd hfu hok hB hR hW hX hnn
      dsimp only
      have hJlt := hJ.lt
      refine VC.seq ?_
      refine VC.seq ?_
      refine VC.region ?_
      refine V.move rfl rfl rfl ?_
      refine V.bin rfl rfl rfl rfl (bin_lss _ _ _) ?_
      refine V.nil ?_
      refine Post.nextC ?_
      refine VC.cond rfl (fun h6 => ?_) (fun h6 => ?_)
      · try simp only [decide_eq_true_eq, decide_eq_false_iff_not, Bool.not_eq_true', Bool.not_eq_false', Bool.not_eq_eq_eq_not, Bool.not_true, Bool.not_false, beq_iff_eq, beq_eq_false_iff_ne, ne_eq, Int.not_lt, Int.not_le, Option.isSome_some, Option.isNone_none, Option.isSome_none, Option.isNone_some] at h6
        refine VC.skip ?_
        refine Post.nextC ?_
        refine VC.seq ?_
        refine VC.block ?_
        refine VC.seq ?_
        refine VC.region ?_
        refine V.move rfl rfl rfl ?_
        apply V.call rfl rfl rfl (hc := c8u (s := s1) (by omega) hJ (by omega) (DS.ok_mono hok (by omega)) hd)
        · repeat' constructor
        rintro v Ho ⟨j2, vl, cl, cR, vsl, img2, rfl, hol, hrl, hJ2, rfl⟩
        obtain ⟨al, cpl, rfl, _⟩ := id (hol.rd (w0 := w0))
        refine V.move rfl rfl rfl ?_
        refine V.extract rfl rfl rfl rfl ?_
        refine V.extract rfl rfl rfl rfl ?_
        refine V.extract rfl rfl rfl rfl ?_
        refine V.assign rfl rfl rfl ?_
        refine V.assign rfl rfl rfl ?_
        refine V.assign rfl rfl rfl ?_
        refine V.nil ?_
        refine Post.nextC ?_
        refine VC.seq ?_
        refine VC.seq ?_
        refine VC.region ?_
        refine V.move rfl rfl rfl ?_
        refine V.bin rfl rfl rfl rfl (bin_neq _ _ _) ?_
        refine V.know (t := 108) (y := .bool false) rfl (rfl) ?_
        refine V.move rfl rfl rfl ?_
        refine V.move rfl rfl rfl ?_
        refine V.move rfl rfl rfl ?_
        apply V.call rfl rfl rfl (hc := c11s (hol.rd) (hrl.rd hsm) (how.rd) hwX)
        · repeat' constructor
        rintro v Ho ⟨rfl, rfl⟩
        refine V.not rfl rfl rfl ?_
        refine V.know (t := 113) (y := .bool false) rfl (by simp) ?_
        refine V.pickF rfl rfl rfl rfl ?_
        refine V.nil ?_
        refine Post.nextC ?_
        refine VC.condF rfl ?_
        refine VC.skip ?_
        refine Post.nextC ?_
        refine VC.seq ?_
        refine VC.region ?_
        refine V.assign rfl rfl rfl ?_
        refine V.nil ?_
        refine Post.nextC ?_
        refine VC.block ?_
        refine VC.loop (σ := QSt) (fun t => [(3, .pointer (some ⟨d, 0, none⟩)), (8, .slice aw rs.length cpw), (13, .pointer (some ⟨bk, 0, none⟩)), (14, .int .i64 (q : Int)), (16, .slice al rs.length cpl), (18, .int .i64 (t.i : Int))]) (fun t => bkB bk t.vB t.vW (.slice none 0 0) (.slice none 0 0) t.n :: cR :: cl :: dkS d bb 200 s1.wrote :: imB bb img2 :: cw :: cwx :: t.cB :: cL :: t.cW :: t.cX :: R) (QSt.ok w0 q rs vsB vsl nn) (fun t => rs.length - t.i) ⟨0, vB, cB, vsB, vW, cW, vsW, cX, nn⟩ ⟨Nat.zero_le _, by simp, by simpa using hB, by simpa using hW, by simpa using hX, by simp only; omega⟩ ?_ ?_ ?_
        · exact ⟨rfl, rfl, rfl, rfl, rfl, rfl, trivial⟩
        · repeat' constructor
        rintro ⟨i2, vB2, cB2, vsB2, vW2, cW2, vsW2, cX2, n2⟩ ⟨hi2, hvs2, hB2, hW2, hX2, hn2⟩
        simp only at hi2 hvs2 hB2 hW2 hX2 hn2
        dsimp only
        refine VC.seq ?_
        refine VC.seq ?_
        refine VC.region ?_
        refine V.move rfl rfl rfl ?_
        refine V.move rfl rfl rfl ?_
        refine V.len rfl rfl rfl ?_
        refine V.bin rfl rfl rfl rfl (bin_lss _ _ _) ?_
        refine V.nil ?_
        refine Post.nextC ?_
        refine VC.cond rfl (fun h7 => ?_) (fun h7 => ?_)
        · try simp only [decide_eq_true_eq, decide_eq_false_iff_not, Bool.not_eq_true', Bool.not_eq_false', Bool.not_eq_eq_eq_not, Bool.not_true, Bool.not_false, beq_iff_eq, beq_eq_false_iff_ne, ne_eq, Int.not_lt, Int.not_le, Option.isSome_some, Option.isNone_none, Option.isSome_none, Option.isNone_some] at h7
          refine VC.skip ?_
          refine Post.nextC ?_
          refine VC.seq ?_
          refine VC.block ?_
          refine VC.region ?_
          refine V.move rfl rfl rfl ?_
          refine V.move rfl rfl rfl ?_
          obtain ⟨xv, hxv⟩ : ∃ x, vsl[i2]? = some x := ⟨vsl[i2]'(by have := hrl.length; omega), by simp⟩
          obtain ⟨rv, hrv⟩ : ∃ x, rs[i2]? = some x := ⟨rs[i2]'(by omega), by simp⟩
          obtain ⟨_, gl, ol, cpl2, hvl2, hcell⟩ := Rd.at1 (hol.rd (w0 := w0)) hxv
          simp only [Value.slice.injEq] at hvl2
          obtain ⟨rfl, _, rfl⟩ := hvl2
          have hrdl := (hrl.rd (w0 := w0) hsm).2 i2 xv rv hxv hrv
          have hrv100 := hsr rv (List.mem_of_getElem? hrv)
          refine V.move rfl rfl rfl ?_
          refine V.indexO (i := i2) rfl rfl rfl rfl (by omega) ?_
          rw [Nat.mul_one]
          apply V.loadC (c := cl) rfl rfl rfl rfl
          · repeat' constructor
          · exact hcell
          apply V.call rfl rfl rfl (hc := c12 (N := q * rs.length + i2) (n := n2) hB2 hW2 hrdl (by have := Nat.mul_le_mul_right rs.length hq; omega) (by omega) (by omega))
          · repeat' constructor
          rintro v Ho ⟨vB3, cB3, vW3, cW3, x3, cx3, hB3, hW3, hx3, rfl⟩
          refine V.nil ?_
          refine Post.blockNormal (Post.nextC ?_)
          refine VC.region ?_
          refine V.move rfl rfl rfl ?_
          refine V.bin rfl rfl rfl rfl (bin_addI (by omega)) ?_
          refine V.assign rfl rfl rfl ?_
          refine V.nil ?_
          refine Post.round ⟨i2 + 1, vB3, cB3, vsB2 ++ [xv], vW3, cW3, vsW2 ++ [x3], cX2 ++ cx3, n2 + (rv.length : Int) + 1⟩ ?_ ?_ ?_ ?_
          · exact ⟨by simp only; omega, by simp only; rw [hvs2, List.take_add_one, hxv, List.append_assoc]; rfl, by simp only; exact hB3, by simp only; exact hW3, by simp only; rw [List.take_add_one, hrv, ← List.append_assoc]; exact hX2.snoc hx3.rd, by simp only; omega⟩
          · simp only; omega
          · exact ⟨rfl, rfl, rfl, rfl, rfl, rfl, trivial⟩
          · repeat' constructor
        · try simp only [decide_eq_true_eq, decide_eq_false_iff_not, Bool.not_eq_true', Bool.not_eq_false', Bool.not_eq_eq_eq_not, Bool.not_true, Bool.not_false, beq_iff_eq, beq_eq_false_iff_ne, ne_eq, Int.not_lt, Int.not_le, Option.isSome_some, Option.isNone_none, Option.isSome_none, Option.isNone_some] at h7
          refine VC.exit ?_
          refine Post.thenExit (Post.thenExit (Post.blockHit (Post.blockNormal (Post.nextC ?_))))
          refine VC.region ?_
          refine V.move rfl rfl rfl ?_
          refine V.bin rfl rfl rfl rfl (bin_addI (by omega)) ?_
          refine V.assign rfl rfl rfl ?_
          refine V.nil ?_
          refine Post.round ⟨q + 1, boots + 1, s1.wrote, img2, vB2, cB2, vsB2, cL ++ cR, vW2, cW2, vsW2, cX2, n2⟩ ?_ ?_ ?_ ?_
          · have hi3 : i2 = rs.length := by omega
            subst hi3
            have hvl3 := hrl.length
            rw [List.take_of_length_le (by omega)] at hvs2
            rw [List.take_of_length_le (Nat.le_refl _)] at hX2
            exact ⟨by simp only; omega, by simp only; omega, hJ2, (wrote_quiet hfu hd).2, (wrote_quiet hfu hd).1, DS.ok_mono (DS.ok_wrote hok) (by simp only; omega), by rw [Nat.succ_mul]; exact hB2, by rw [rep_succ, hvs2]; exact hR.append hrl, by rw [Nat.succ_mul]; exact hW2, by rw [rep_succ]; exact hX2, by simp only; omega⟩
          · simp only; omega
          · exact ⟨rfl, rfl, rfl, rfl, trivial⟩
          · repeat' constructor
      · try simp only [decide_eq_true_eq, decide_eq_false_iff_not, Bool.not_eq_true', Bool.not_eq_false', Bool.not_eq_eq_eq_not, Bool.not_true, Bool.not_false, beq_iff_eq, beq_eq_false_iff_ne, ne_eq, Int.not_lt, Int.not_le, Option.isSome_some, Option.isNone_none, Option.isSome_none, Option.isNone_some] at h6
        refine VC.exit ?_
        refine Post.thenExit (Post.thenExit (Post.blockHit (Post.nextC ?_)))
        refine VC.seq ?_
        refine VC.seq ?_
        refine VC.region ?_
        obtain rfl : q = 2 := by omega
        have hml2 : (rep 2 rs).length = 2 * rs.length := rep_length 2 rs
        refine V.move rfl rfl rfl ?_
        apply V.call rfl rfl rfl (hc := c13 (N := 2 * rs.length) hB hR hW hX hml2 (by omega) (fun r h => hsm r (rep_mem h)))
        · repeat' constructor
        rintro v Ho ⟨rfl, rfl⟩
        refine V.not rfl rfl rfl ?_
        refine V.know (t := 129) (y := .bool false) rfl (rfl) ?_
        refine V.nil ?_
        refine Post.nextC ?_
        refine VC.condF rfl ?_
        refine VC.skip ?_
        refine Post.nextC ?_
        refine VC.seq ?_
        refine VC.region ?_
        refine V.move rfl rfl rfl ?_
        apply V.call rfl rfl rfl (hc := c8u (s := s1) (by omega) hJ (by omega) (DS.ok_mono hok (by omega)) hd)
        · repeat' constructor
        rintro v Ho ⟨j2, vl, cl, cR, vsl, img2, rfl, hol, hrl, hJ2, rfl⟩
        obtain ⟨al, cpl, rfl, _⟩ := id (hol.rd (w0 := w0))
        refine V.move rfl rfl rfl ?_
        refine V.extract rfl rfl rfl rfl ?_
        refine V.extract rfl rfl rfl rfl ?_
        refine V.extract rfl rfl rfl rfl ?_
        refine V.assign rfl rfl rfl ?_
        refine V.assign rfl rfl rfl ?_
        refine V.assign rfl rfl rfl ?_
        refine V.nil ?_
        refine Post.nextC ?_
        refine VC.seq ?_
        refine VC.region ?_
        refine V.move rfl rfl rfl ?_
        refine V.bin rfl rfl rfl rfl (bin_eql _ _ _) ?_
        refine V.know (t := 137) (y := .bool true) rfl (rfl) ?_
        refine V.move rfl rfl rfl ?_
        refine V.move rfl rfl rfl ?_
        refine V.move rfl rfl rfl ?_
        apply V.call rfl rfl rfl (hc := c11s (hol.rd) (hrl.rd hsm) (how.rd) hwX)
        · repeat' constructor
        rintro v Ho ⟨rfl, rfl⟩
        refine V.know (t := 141) (y := .bool true) rfl (by simp) ?_
        refine V.pickT rfl rfl rfl rfl ?_
        refine V.assign rfl rfl rfl ?_
        refine V.nil ?_
        refine Post.nextC ?_
        refine VC.ret ?_
        apply Post.ret1 rfl rfl 
        · exact ⟨rfl, rfl⟩
        · repeat' constructor
  · try simp only [decide_eq_true_eq, decide_eq_false_iff_not, Bool.not_eq_true', Bool.not_eq_false', Bool.not_eq_eq_eq_not, Bool.not_true, Bool.not_false, beq_iff_eq, beq_eq_false_iff_ne, ne_eq, Int.not_lt, Int.not_le, Option.isSome_some, Option.isNone_none, Option.isSome_none, Option.isNone_some] at h1
    refine V.skip rfl rfl ?_
    refine V.skip rfl rfl ?_
    refine V.pickF rfl rfl rfl rfl ?_
    refine V.nil ?_
    refine Post.nextC ?_
    refine VC.condF rfl ?_
    refine VC.exit ?_
    refine Post.thenExit (Post.thenExit (Post.blockHit (Post.nextC ?_)))
    refine VC.seq ?_
    refine VC.region ?_
    subst hrs
    have hok0 : s.ok 1000 := DS.ok_mono hok (by omega)
    have hsm : ∀ r ∈ rs, r.length ≤ 131072 := fun r h => by have := hsr r h; omega
    obtain ⟨aw, cpw, rfl, _⟩ := id (how.rd (w0 := w0))
    refine V.buildS [] (l := [.slice none 0 0, .slice none 0 0, .slice none 0 0, .slice none 0 0, .slice none 0 0, .slice none 0 0, .slice none 0 0, .slice none 0 0, .slice none 0 0, .slice none 0 0, .slice none 0 0, .slice none 0 0, .int .i64 0]) rfl rfl rfl rfl rfl ?_
    refine V.box rfl rfl rfl rfl (fun bk => ?_)
    refine V.assign rfl rfl rfl ?_
    refine V.nil ?_
    refine Post.nextC ?_
    refine VC.seq ?_
    refine VC.seq ?_
    refine VC.region ?_
    refine V.assign rfl rfl rfl ?_
    refine V.nil ?_
    refine Post.nextC ?_
    refine VC.block ?_
    refine VC.loop (σ := PSt) (fun t => [(3, .pointer (some ⟨d, 0, none⟩)), (8, .slice aw rs.length cpw), (13, .pointer (some ⟨bk, 0, none⟩)), (14, .int .i64 (t.q : Int))]) (fun t => bkB bk t.vB t.vW (.slice none 0 0) (.slice none 0 0) t.n :: dkS d bb 200 t.s :: imB bb t.img :: cw :: cwx :: t.cB :: t.cL :: t.cW :: t.cX :: R) (PSt.ok w0 en rs) (fun t => 2 - t.q) ⟨0, 1, s, img, .slice none 0 0, [], [], [], .slice none 0 0, [], [], [], 0⟩ ⟨by simp, rfl, hJ, hd, hfu, DS.ok_mono hok0 (by simp), by simpa using Own.nil 31 1, ⟨rfl, rfl⟩, by simpa using Own.nil 31 1, by simpa [rep] using RdL.nil w0, by simp⟩ ?_ ?_ ?_
    · exact ⟨rfl, rfl, rfl, rfl, trivial⟩
    · repeat' constructor
    rintro ⟨q, boots, s1, img1, vB, cB, vsB, cL, vW, cW, vsW, cX, nn⟩ ⟨hq, hbo, hJ, hd, hfu, hok, hB, hR, hW, hX, hnn⟩
    simp only at hq hbo hJ hd hfu hok hB hR hW hX hnn
    dsimp only
    have hJlt := hJ.lt
    refine VC.seq ?_
    refine VC.seq ?_
    refine VC.region ?_
    refine V.move rfl rfl rfl ?_
    refine V.bin rfl rfl rfl rfl (bin_lss _ _ _) ?_
    refine V.nil ?_
    refine Post.nextC ?_
    refine VC.cond rfl (fun h8 => ?_) (fun h8 => ?_)
    · try simp only [decide_eq_true_eq, decide_eq_false_iff_not, Bool.not_eq_true', Bool.not_eq_false', Bool.not_eq_eq_eq_not, Bool.not_true, Bool.not_false, beq_iff_eq, beq_eq_false_iff_ne, ne_eq, Int.not_lt, Int.not_le, Option.isSome_some, Option.isNone_none, Option.isSome_none, Option.isNone_some] at h8
      refine VC.skip ?_
      refine Post.nextC ?_
      refine VC.seq ?_
      refine VC.block ?_
      refine VC.seq ?_
      refine VC.region ?_
      refine V.move rfl rfl rfl ?_
      apply V.call rfl rfl rfl (hc := c8u (s := s1) (by omega) hJ (by omega) (DS.ok_mono hok (by omega)) hd)
      · repeat' constructor
      rintro v Ho ⟨j2, vl, cl, cR, vsl, img2, rfl, hol, hrl, hJ2, rfl⟩
      obtain ⟨al, cpl, rfl, _⟩ := id (hol.rd (w0 := w0))
      refine V.move rfl rfl rfl ?_
      refine V.extract rfl rfl rfl rfl ?_
      refine V.extract rfl rfl rfl rfl ?_
      refine V.extract rfl rfl rfl rfl ?_
      refine V.assign rfl rfl rfl ?_
      refine V.assign rfl rfl rfl ?_
      refine V.assign rfl rfl rfl ?_
      refine V.nil ?_
      refine Post.nextC ?_
      refine VC.seq ?_
      refine VC.seq ?_
      refine VC.region ?_
      refine V.move rfl rfl rfl ?_
      refine V.bin rfl rfl rfl rfl (bin_neq _ _ _) ?_
      refine V.know (t := 108) (y := .bool false) rfl (rfl) ?_
      refine V.move rfl rfl rfl ?_
      refine V.move rfl rfl rfl ?_
      refine V.move rfl rfl rfl ?_
      apply V.call rfl rfl rfl (hc := c11s (hol.rd) (hrl.rd hsm) (how.rd) hwX)
      · repeat' constructor
      rintro v Ho ⟨rfl, rfl⟩
      refine V.not rfl rfl rfl ?_
      refine V.know (t := 113) (y := .bool false) rfl (by simp) ?_
      refine V.pickF rfl rfl rfl rfl ?_
      refine V.nil ?_
      refine Post.nextC ?_
      refine VC.condF rfl ?_
      refine VC.skip ?_
      refine Post.nextC ?_
      refine VC.seq ?_
      refine VC.region ?_
      refine V.assign rfl rfl rfl ?_
      refine V.nil ?_
      refine Post.nextC ?_
      refine VC.block ?_
      refine VC.loop (σ := QSt) (fun t => [(3, .pointer (some ⟨d, 0, none⟩)), (8, .slice aw rs.length cpw), (13, .pointer (some ⟨bk, 0, none⟩)), (14, .int .i64 (q : Int)), (16, .slice al rs.length cpl), (18, .int .i64 (t.i : Int))]) (fun t => bkB bk t.vB t.vW (.slice none 0 0) (.slice none 0 0) t.n :: cR :: cl :: dkS d bb 200 s1.wrote :: imB bb img2 :: cw :: cwx :: t.cB :: cL :: t.cW :: t.cX :: R) (QSt.ok w0 q rs vsB vsl nn) (fun t => rs.length - t.i) ⟨0, vB, cB, vsB, vW, cW, vsW, cX, nn⟩ ⟨Nat.zero_le _, by simp, by simpa using hB, by simpa using hW, by simpa using hX, by simp only; omega⟩ ?_ ?_ ?_
      · exact ⟨rfl, rfl, rfl, rfl, rfl, rfl, trivial⟩
      · repeat' constructor
      rintro ⟨i2, vB2, cB2, vsB2, vW2, cW2, vsW2, cX2, n2⟩ ⟨hi2, hvs2, hB2, hW2, hX2, hn2⟩
      simp only at hi2 hvs2 hB2 hW2 hX2 hn2
      dsimp only
      refine VC.seq ?_
      refine VC.seq ?_
      refine VC.region ?_
      refine V.move rfl rfl rfl ?_
      refine V.move rfl rfl rfl ?_
      refine V.len rfl rfl rfl ?_
      refine V.bin rfl rfl rfl rfl (bin_lss _ _ _) ?_
      refine V.nil ?_
      refine Post.nextC ?_
      refine VC.cond rfl (fun h9 => ?_) (fun h9 => ?_)
      · try simp only [decide_eq_true_eq, decide_eq_false_iff_not, Bool.not_eq_true', Bool.not_eq_false', Bool.not_eq_eq_eq_not, Bool.not_true, Bool.not_false, beq_iff_eq, beq_eq_false_iff_ne, ne_eq, Int.not_lt, Int.not_le, Option.isSome_some, Option.isNone_none, Option.isSome_none, Option.isNone_some] at h9
        refine VC.skip ?_
        refine Post.nextC ?_
        refine VC.seq ?_
        refine VC.block ?_
        refine VC.region ?_
        refine V.move rfl rfl rfl ?_
        refine V.move rfl rfl rfl ?_
        obtain ⟨xv, hxv⟩ : ∃ x, vsl[i2]? = some x := ⟨vsl[i2]'(by have := hrl.length; omega), by simp⟩
        obtain ⟨rv, hrv⟩ : ∃ x, rs[i2]? = some x := ⟨rs[i2]'(by omega), by simp⟩
        obtain ⟨_, gl, ol, cpl2, hvl2, hcell⟩ := Rd.at1 (hol.rd (w0 := w0)) hxv
        simp only [Value.slice.injEq] at hvl2
        obtain ⟨rfl, _, rfl⟩ := hvl2
        have hrdl := (hrl.rd (w0 := w0) hsm).2 i2 xv rv hxv hrv
        have hrv100 := hsr rv (List.mem_of_getElem? hrv)
        refine V.move rfl rfl rfl ?_
        refine V.indexO (i := i2) rfl rfl rfl rfl (by omega) ?_
        rw [Nat.mul_one]
        apply V.loadC (c := cl) rfl rfl rfl rfl
        · repeat' constructor
        · exact hcell
        apply V.call rfl rfl rfl (hc := c12 (N := q * rs.length + i2) (n := n2) hB2 hW2 hrdl (by have := Nat.mul_le_mul_right rs.length hq; omega) (by omega) (by omega))
        · repeat' constructor
        rintro v Ho ⟨vB3, cB3, vW3, cW3, x3, cx3, hB3, hW3, hx3, rfl⟩
        refine V.nil ?_
        refine Post.blockNormal (Post.nextC ?_)
        refine VC.region ?_
        refine V.move rfl rfl rfl ?_
        refine V.bin rfl rfl rfl rfl (bin_addI (by omega)) ?_
        refine V.assign rfl rfl rfl ?_
        refine V.nil ?_
        refine Post.round ⟨i2 + 1, vB3, cB3, vsB2 ++ [xv], vW3, cW3, vsW2 ++ [x3], cX2 ++ cx3, n2 + (rv.length : Int) + 1⟩ ?_ ?_ ?_ ?_
        · exact ⟨by simp only; omega, by simp only; rw [hvs2, List.take_add_one, hxv, List.append_assoc]; rfl, by simp only; exact hB3, by simp only; exact hW3, by simp only; rw [List.take_add_one, hrv, ← List.append_assoc]; exact hX2.snoc hx3.rd, by simp only; omega⟩
        · simp only; omega
        · exact ⟨rfl, rfl, rfl, rfl, rfl, rfl, trivial⟩
        · repeat' constructor
      · try simp only [decide_eq_true_eq, decide_eq_false_iff_not, Bool.not_eq_true', Bool.not_eq_false', Bool.not_eq_eq_eq_not, Bool.not_true, Bool.not_false, beq_iff_eq, beq_eq_false_iff_ne, ne_eq, Int.not_lt, Int.not_le, Option.isSome_some, Option.isNone_none, Option.isSome_none, Option.isNone_some] at h9
        refine VC.exit ?_
        refine Post.thenExit (Post.thenExit (Post.blockHit (Post.blockNormal (Post.nextC ?_))))
        refine VC.region ?_
        refine V.move rfl rfl rfl ?_
        refine V.bin rfl rfl rfl rfl (bin_addI (by omega)) ?_
        refine V.assign rfl rfl rfl ?_
        refine V.nil ?_
        refine Post.round ⟨q + 1, boots + 1, s1.wrote, img2, vB2, cB2, vsB2, cL ++ cR, vW2, cW2, vsW2, cX2, n2⟩ ?_ ?_ ?_ ?_
        · have hi3 : i2 = rs.length := by omega
          subst hi3
          have hvl3 := hrl.length
          rw [List.take_of_length_le (by omega)] at hvs2
          rw [List.take_of_length_le (Nat.le_refl _)] at hX2
          exact ⟨by simp only; omega, by simp only; omega, hJ2, (wrote_quiet hfu hd).2, (wrote_quiet hfu hd).1, DS.ok_mono (DS.ok_wrote hok) (by simp only; omega), by rw [Nat.succ_mul]; exact hB2, by rw [rep_succ, hvs2]; exact hR.append hrl, by rw [Nat.succ_mul]; exact hW2, by rw [rep_succ]; exact hX2, by simp only; omega⟩
        · simp only; omega
        · exact ⟨rfl, rfl, rfl, rfl, trivial⟩
        · repeat' constructor
    · try simp only [decide_eq_true_eq, decide_eq_false_iff_not, Bool.not_eq_true', Bool.not_eq_false', Bool.not_eq_eq_eq_not, Bool.not_true, Bool.not_false, beq_iff_eq, beq_eq_false_iff_ne, ne_eq, Int.not_lt, Int.not_le, Option.isSome_some, Option.isNone_none, Option.isSome_none, Option.isNone_some] at h8
      refine VC.exit ?_
      refine Post.thenExit (Post.thenExit (Post.blockHit (Post.nextC ?_)))
      refine VC.seq ?_
      refine VC.seq ?_
      refine VC.region ?_
      obtain rfl : q = 2 := by omega
      have hml2 : (rep 2 rs).length = 2 * rs.length := rep_length 2 rs
      refine V.move rfl rfl rfl ?_
      apply V.call rfl rfl rfl (hc := c13 (N := 2 * rs.length) hB hR hW hX hml2 (by omega) (fun r h => hsm r (rep_mem h)))
      · repeat' constructor
      rintro v Ho ⟨rfl, rfl⟩
      refine V.not rfl rfl rfl ?_
      refine V.know (t := 129) (y := .bool false) rfl (rfl) ?_
      refine V.nil ?_
      refine Post.nextC ?_
      refine VC.condF rfl ?_
      refine VC.skip ?_
      refine Post.nextC ?_
      refine VC.seq ?_
      refine VC.region ?_
      refine V.move rfl rfl rfl ?_
      apply V.call rfl rfl rfl (hc := c8u (s := s1) (by omega) hJ (by omega) (DS.ok_mono hok (by omega)) hd)
      · repeat' constructor
      rintro v Ho ⟨j2, vl, cl, cR, vsl, img2, rfl, hol, hrl, hJ2, rfl⟩
      obtain ⟨al, cpl, rfl, _⟩ := id (hol.rd (w0 := w0))
      refine V.move rfl rfl rfl ?_
      refine V.extract rfl rfl rfl rfl ?_
      refine V.extract rfl rfl rfl rfl ?_
      refine V.extract rfl rfl rfl rfl ?_
      refine V.assign rfl rfl rfl ?_
      refine V.assign rfl rfl rfl ?_
      refine V.assign rfl rfl rfl ?_
      refine V.nil ?_
      refine Post.nextC ?_
      refine VC.seq ?_
      refine VC.region ?_
      refine V.move rfl rfl rfl ?_
      refine V.bin rfl rfl rfl rfl (bin_eql _ _ _) ?_
      refine V.know (t := 137) (y := .bool true) rfl (rfl) ?_
      refine V.move rfl rfl rfl ?_
      refine V.move rfl rfl rfl ?_
      refine V.move rfl rfl rfl ?_
      apply V.call rfl rfl rfl (hc := c11s (hol.rd) (hrl.rd hsm) (how.rd) hwX)
      · repeat' constructor
      rintro v Ho ⟨rfl, rfl⟩
      refine V.know (t := 141) (y := .bool true) rfl (by simp) ?_
      refine V.pickT rfl rfl rfl rfl ?_
      refine V.assign rfl rfl rfl ?_
      refine V.nil ?_
      refine Post.nextC ?_
      refine VC.ret ?_
      apply Post.ret1 rfl rfl 
      · exact ⟨rfl, rfl⟩
      · repeat' constructor

end Go.Proofs.Jn
