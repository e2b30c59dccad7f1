/- Contracts of functions of the given program, each proved by walking its code: part of the proof of this claim; no condition beyond those that each theorem names. -/
import Derived.Test.YtpmpomknnppnjaaDoorJnOpen0
set_option linter.unusedVariables false
set_option linter.unusedSimpArgs false
namespace Go.Proofs.Jn
open Go Go.RowKit Go.Proofs.Eng
theorem c8s {w0 : World} {d bb nb : Nat} {s : DS} (hnb : nb < 2) : CtR Pg w0 8 #[.pointer (some ⟨d, 0, none⟩)] [dkS d bb nb s] (fun v H => v = .tuple #[.pointer none, .slice none 0 0, .int .i64 51] ∧ H = [dkS d bb nb s]) := by
  refine Ct.of_body Go.Proofs.Tryd.func8 rfl 88 rfl rfl (fun R => ?_)
  refine VC.seq ?_
  refine VC.region ?_
  refine V.assign rfl rfl rfl ?_
  refine V.assign rfl rfl rfl ?_
  refine V.assign rfl rfl rfl ?_
  refine V.nil ?_
  refine Post.nextC ?_
  refine VC.seq ?_
  refine VC.block ?_
  refine VC.seq ?_
  refine VC.region ?_
  refine V.move rfl rfl rfl ?_
  refine V.bin rfl rfl rfl rfl (bin_peqlNil _) ?_
  refine V.know (t := 14) (y := .bool false) rfl (rfl) ?_
  refine V.assign rfl rfl rfl ?_
  refine V.nil ?_
  refine Post.nextC ?_
  refine VC.condF rfl ?_
  refine VC.seq ?_
  refine VC.region ?_
  refine V.move rfl rfl rfl ?_
  apply V.call rfl rfl rfl (hc := c15 (n := 16 * nb) (by omega))
  · repeat' constructor
  rintro v Ho ⟨rfl, rfl⟩
  refine V.bin rfl rfl rfl rfl (bin_lss _ _ _) ?_
  refine V.know (t := 18) (y := .bool true) rfl (by simp; omega) ?_
  refine V.assign rfl rfl rfl ?_
  refine V.nil ?_
  refine Post.nextC ?_
  refine VC.condT rfl ?_
  refine VC.seq ?_
  refine VC.region ?_
  refine V.assign rfl rfl rfl ?_
  refine V.assign rfl rfl rfl ?_
  refine V.assign rfl rfl rfl ?_
  refine V.nil ?_
  refine Post.nextC ?_
  refine VC.ret ?_
  refine Post.blockRet (Post.thenRet (?_))
  apply Post.ret3 rfl rfl rfl rfl 
  · exact ⟨rfl, rfl⟩
  · repeat' constructor

theorem c8d {w0 : World} {d bb nb : Nat} {s : DS} (h2 : 2 ≤ nb) (hnb : nb ≤ 65536) (hd : s.dn = true) : CtR Pg w0 8 #[.pointer (some ⟨d, 0, none⟩)] [dkS d bb nb s] (fun v H => v = .tuple #[.pointer none, .slice none 0 0, .int .i64 50] ∧ H = [dkS d bb nb s]) := by
  refine Ct.of_body Go.Proofs.Tryd.func8 rfl 88 rfl rfl (fun R => ?_)
  refine VC.seq ?_
  refine VC.region ?_
  refine V.assign rfl rfl rfl ?_
  refine V.assign rfl rfl rfl ?_
  refine V.assign rfl rfl rfl ?_
  refine V.nil ?_
  refine Post.nextC ?_
  refine VC.seq ?_
  refine VC.block ?_
  refine VC.seq ?_
  refine VC.region ?_
  refine V.move rfl rfl rfl ?_
  refine V.bin rfl rfl rfl rfl (bin_peqlNil _) ?_
  refine V.know (t := 14) (y := .bool false) rfl (rfl) ?_
  refine V.assign rfl rfl rfl ?_
  refine V.nil ?_
  refine Post.nextC ?_
  refine VC.condF rfl ?_
  refine VC.seq ?_
  refine VC.region ?_
  refine V.move rfl rfl rfl ?_
  apply V.call rfl rfl rfl (hc := c15 (n := 16 * nb) (by omega))
  · repeat' constructor
  rintro v Ho ⟨rfl, rfl⟩
  refine V.bin rfl rfl rfl rfl (bin_lss _ _ _) ?_
  refine V.know (t := 18) (y := .bool false) rfl (by simp; omega) ?_
  refine V.assign rfl rfl rfl ?_
  refine V.nil ?_
  refine Post.nextC ?_
  refine VC.condF rfl ?_
  refine VC.seq ?_
  refine VC.region ?_
  refine V.move rfl rfl rfl ?_
  apply V.call rfl rfl rfl (hc := c23)
  · repeat' constructor
  rintro v Ho ⟨rfl, rfl⟩
  refine V.not rfl rfl rfl ?_
  refine V.know (t := 22) (y := .bool true) rfl (by rw [hd]; rfl) ?_
  refine V.assign rfl rfl rfl ?_
  refine V.nil ?_
  refine Post.nextC ?_
  refine VC.condT rfl ?_
  refine VC.seq ?_
  refine VC.region ?_
  refine V.assign rfl rfl rfl ?_
  refine V.assign rfl rfl rfl ?_
  refine V.assign rfl rfl rfl ?_
  refine V.nil ?_
  refine Post.nextC ?_
  refine VC.ret ?_
  refine Post.blockRet (Post.thenRet (?_))
  apply Post.ret3 rfl rfl rfl rfl 
  · exact ⟨rfl, rfl⟩
  · repeat' constructor

/-- how far Open has come -/
structure OpSt where
  rs1 : List Bytes
  rs2 : List Bytes
  p : Nat
  k : Nat
  v : Value
  c : Chunk
  cR : Chunk
  vs : List Value
def OpSt.ok (img : Bytes) (nb en : Nat) (rs : List Bytes) (t : OpSt) : Prop :=
  t.rs1 ++ t.rs2 = rs ∧ At img nb t.p t.k t.rs2 en ∧ t.k = t.rs1.length ∧ Own 31 1 t.c t.v t.k t.vs ∧ Recs t.rs1 t.vs t.cR

-- annotations not used: [('ops', (11, 3)), ('ops', (11, 9)), ('know', (11, 9))]
theorem c8f {w0 : World} {d bb nb en boots : Nat} {s : DS} {img : Bytes} {rs : List Bytes} (h2 : 2 ≤ nb) (hnb : nb ≤ 65536) (hl : img.length = 16 * nb) (hs : s.ok 1000000000000000) (hd : s.dn = false) (hF : blk img 0 = zb) (hv : boots = 0) (hat : At img nb 1 0 rs en) (h1z : blk img 1 = zb) : CtR Pg w0 8 #[.pointer (some ⟨d, 0, none⟩)] [dkS d bb nb s, imB bb img] (fun v H => ∃ j vl cl cR vs, v = .tuple #[.pointer (some ⟨j, 0, none⟩), vl, .int .i64 0] ∧ Own 31 1 cl vl rs.length vs ∧ Recs rs vs cR ∧ H = [jB j d (boots + 1) (rs.length : Int) (en : Int) false, cl, cR, dkS d bb nb s.wrote, imB bb (setBlk img 0 (headB (boots + 1)))]) := by
  have hbl := blk_length hl (show 0 < nb by omega)
  have hbl1 := blk_length hl (show 1 < nb by omega)
  have hle := At.le hat
  have hbv : beVal (((blk img 0).drop 4).take 4) = boots := by rw [hF, hv]; decide
  have hhl := headB_length (boots + 1)
  have hbo : boots < 1000000 := by omega
  refine Ct.of_body Go.Proofs.Tryd.func8 rfl 88 rfl rfl (fun R => ?_)
  refine VC.seq ?_
  refine VC.region ?_
  refine V.assign rfl rfl rfl ?_
  refine V.assign rfl rfl rfl ?_
  refine V.assign rfl rfl rfl ?_
  refine V.nil ?_
  refine Post.nextC ?_
  refine VC.seq ?_
  refine VC.block ?_
  refine VC.seq ?_
  refine VC.region ?_
  refine V.move rfl rfl rfl ?_
  refine V.bin rfl rfl rfl rfl (bin_peqlNil _) ?_
  refine V.know (t := 14) (y := .bool false) rfl (rfl) ?_
  refine V.assign rfl rfl rfl ?_
  refine V.nil ?_
  refine Post.nextC ?_
  refine VC.condF rfl ?_
  refine VC.seq ?_
  refine VC.region ?_
  refine V.move rfl rfl rfl ?_
  apply V.call rfl rfl rfl (hc := c15 (n := 16 * nb) (by omega))
  · repeat' constructor
  rintro v Ho ⟨rfl, rfl⟩
  refine V.bin rfl rfl rfl rfl (bin_lss _ _ _) ?_
  refine V.know (t := 18) (y := .bool false) rfl (by simp; omega) ?_
  refine V.assign rfl rfl rfl ?_
  refine V.nil ?_
  refine Post.nextC ?_
  refine VC.condF rfl ?_
  refine VC.seq ?_
  refine VC.region ?_
  refine V.move rfl rfl rfl ?_
  apply V.call rfl rfl rfl (hc := c23)
  · repeat' constructor
  rintro v Ho ⟨rfl, rfl⟩
  refine V.not rfl rfl rfl ?_
  refine V.know (t := 22) (y := .bool false) rfl (by rw [hd]; rfl) ?_
  refine V.assign rfl rfl rfl ?_
  refine V.nil ?_
  refine Post.nextC ?_
  refine VC.condF rfl ?_
  refine VC.skip ?_
  refine Post.blockNormal (Post.nextC ?_)
  refine VC.seq ?_
  refine VC.region ?_
  refine V.move rfl rfl rfl ?_
  refine V.buildS [(0, _), (3, _)] (l := [_, .int .u32 0, .int .i64 0, _, .bool false]) rfl rfl rfl rfl rfl ?_
  refine V.box rfl rfl rfl rfl (fun b1 => ?_)
  refine V.assign rfl rfl rfl ?_
  refine V.nil ?_
  refine Post.nextC ?_
  refine VC.seq ?_
  refine VC.region ?_
  refine V.move rfl rfl rfl ?_
  apply V.call rfl rfl rfl (hc := c24 (i := 0) hl hnb (by omega) hd)
  · repeat' constructor
  rintro v Ho ⟨rfl, rfl⟩
  refine V.alloc (l := [.int .u8 0, .int .u8 0, .int .u8 0, .int .u8 0, .int .u8 0, .int .u8 0, .int .u8 0, .int .u8 0, .int .u8 0, .int .u8 0, .int .u8 0, .int .u8 0, .int .u8 0, .int .u8 0, .int .u8 0, .int .u8 0]) rfl rfl rfl (fun b2 => ?_)
  apply V.storeAll rfl rfl rfl (all_byv _)
  · repeat' constructor
  · simp [hbl]
  · rfl
  refine V.nil ?_
  refine Post.nextC ?_
  refine VC.seq ?_
  refine VC.region ?_
  refine V.move rfl rfl rfl ?_
  apply V.loadAll rfl rfl rfl rfl
  · repeat' constructor
  · simp [hbl]
  apply V.call rfl rfl rfl (hc := c25 (bs := blk img 0) hbl)
  · repeat' constructor
  rintro v Ho ⟨rfl, rfl⟩
  rw [hbv]
  refine V.conv _ rfl rfl rfl (IntWalk.u32_in _ (by omega)) ?_
  refine V.nilCheck rfl rfl rfl ?_
  refine V.fieldAddr 1 55 rfl rfl rfl rfl rfl ?_
  apply V.storeL rfl rfl rfl rfl rfl
  · repeat' constructor
  · repeat' constructor
  refine V.nil ?_
  refine Post.nextC ?_
  refine VC.seq ?_
  refine VC.seq ?_
  refine VC.region ?_
  apply V.loadAll rfl rfl rfl rfl
  · repeat' constructor
  · simp [hbl]
  refine V.buildA [] (l := [.int .u8 0, .int .u8 0, .int .u8 0, .int .u8 0, .int .u8 0, .int .u8 0, .int .u8 0, .int .u8 0, .int .u8 0, .int .u8 0, .int .u8 0, .int .u8 0, .int .u8 0, .int .u8 0, .int .u8 0, .int .u8 0]) rfl rfl rfl rfl rfl ?_
  refine V.bin rfl rfl rfl rfl (bin_eqlBytes (blk img 0) zb hbl rfl) ?_
  refine V.know (t := 36) (y := .bool true) rfl (by simp [hF]) ?_
  refine V.assign rfl rfl rfl ?_
  refine V.nil ?_
  refine Post.nextC ?_
  refine VC.seq ?_
  refine VC.draw mixed (by kernel_rfl) ?_
  refine V.move rfl rfl rfl ?_
  refine V.not rfl rfl rfl ?_
  refine V.move rfl rfl rfl ?_
  refine V.skip rfl rfl ?_
  refine V.skip rfl rfl ?_
  refine V.skip rfl rfl ?_
  refine V.skip rfl rfl ?_
  refine V.skip rfl rfl ?_
  refine V.skip rfl rfl ?_
  refine V.skip rfl rfl ?_
  refine V.pickF rfl rfl rfl rfl ?_
  refine V.move rfl rfl rfl ?_
  refine V.move rfl rfl rfl ?_
  refine V.move rfl rfl rfl ?_
  refine V.move rfl rfl rfl ?_
  apply V.callQ (.agg ((blk img 1).map byv).toArray) rfl rfl rfl (hc := c24 (i := 1) hl hnb (by omega) hd)
  · repeat' constructor
  · rintro u Ho ⟨rfl, rfl⟩; exact ⟨rfl, by repeat' constructor⟩
  refine V.buildA [] (l := [.int .u8 0, .int .u8 0, .int .u8 0, .int .u8 0, .int .u8 0, .int .u8 0, .int .u8 0, .int .u8 0, .int .u8 0, .int .u8 0, .int .u8 0, .int .u8 0, .int .u8 0, .int .u8 0, .int .u8 0, .int .u8 0]) rfl rfl rfl rfl rfl ?_
  refine V.bin rfl rfl rfl rfl (bin_neqBytes (blk img 1) zb hbl1 rfl) ?_
  refine V.know (t := 54) (y := .bool false) rfl (by simp [h1z]) ?_
  refine V.pickT rfl rfl rfl rfl ?_
  refine V.pickF rfl rfl rfl rfl ?_
  refine V.nil ?_
  refine Post.nextC ?_
  refine VC.condF rfl ?_
  refine VC.skip ?_
  refine Post.nextC ?_
  refine VC.seq ?_
  refine VC.region ?_
  refine V.assign rfl rfl rfl ?_
  refine V.nil ?_
  refine Post.nextC ?_
  refine VC.seq ?_
  refine VC.block ?_
  refine VC.loop (σ := OpSt) (fun t => [(0, .pointer (some ⟨d, 0, none⟩)), (5, .pointer (some ⟨b1, 0, none⟩)), (6, .pointer (some ⟨b2, 0, none⟩)), (8, t.v)]) (fun t => t.c :: t.cR :: jB b1 d boots (t.k : Int) (t.p : Int) false :: dkS d bb nb s :: imB bb img :: [(b2, .cells ((blk img 0).map byv).toArray 59 (0, 0))] :: R) (OpSt.ok img nb en rs) (fun t => t.rs2.length) ⟨[], rs, 1, 0, .slice none 0 0, [], [], []⟩ ⟨rfl, hat, rfl, Own.nil 31 1, rfl, rfl⟩ ?_ ?_ ?_
  · exact ⟨rfl, rfl, rfl, rfl, trivial⟩
  · repeat' constructor
  rintro ⟨rs1, rs2, p, k, v, c, cR, vs⟩ ⟨hrs, hat2, hk, ho, hrecs⟩
  simp only at hrs hat2 hk ho hrecs
  have hk3 : k + rs2.length ≤ 100000 := by
    have := congrArg List.length hrs
    rw [List.length_append] at this
    omega
  refine VC.block ?_
  refine VC.seq ?_
  refine VC.region ?_
  refine V.move rfl rfl rfl ?_
  apply V.call rfl rfl rfl (hc := c27u (rs := rs2) hl hnb hd hat2 hk3)
  · repeat' constructor
  rintro v Ho ⟨v1, c1, bl, p2, k2, rfl, hN, hone, rfl⟩
  refine V.move rfl rfl rfl ?_
  refine V.extract rfl rfl rfl rfl ?_
  refine V.extract rfl rfl rfl rfl ?_
  refine V.extract rfl rfl rfl rfl ?_
  refine V.know (t := 62) (y := .bool true) rfl (rfl) ?_
  refine V.assign rfl rfl rfl ?_
  refine V.assign rfl rfl rfl ?_
  refine V.assign rfl rfl rfl ?_
  refine V.nil ?_
  refine Post.nextC ?_
  refine VC.seq ?_
  refine VC.seq ?_
  refine VC.region ?_
  refine V.move rfl rfl rfl ?_
  refine V.not rfl rfl rfl ?_
  refine V.nil ?_
  refine Post.nextC ?_
  refine VC.condF rfl ?_
  refine VC.skip ?_
  refine Post.nextC ?_
  refine VC.seq ?_
  refine VC.seq ?_
  refine VC.region ?_
  refine V.move rfl rfl rfl ?_
  refine V.not rfl rfl rfl ?_
  refine V.nil ?_
  refine Post.nextC ?_
  refine VC.cond rfl (fun h1 => ?_) (fun h1 => ?_)
  · try simp only [decide_eq_true_eq, decide_eq_false_iff_not, Bool.not_eq_true', Bool.not_eq_false', Bool.not_eq_eq_eq_not, Bool.not_true, Bool.not_false, beq_iff_eq, beq_eq_false_iff_ne, ne_eq, Int.not_lt, Int.not_le, Option.isSome_some, Option.isNone_none, Option.isSome_none, Option.isNone_some] at h1
    refine VC.exit ?_
    refine Post.thenExit (Post.blockMiss rfl (Post.thenExit (Post.blockHit (Post.nextC ?_))))
    refine VC.seq ?_
    refine VC.region ?_
    obtain ⟨rfl, _, rfl, rfl, rfl⟩ : rs2 = [] ∧ bl = false ∧ c1 = [] ∧ p2 = p ∧ k2 = k := by
      rcases hN with h | ⟨_, _, _, h, _⟩
      · exact h
      · rw [h1] at h; cases h
    rw [List.append_nil] at hrs
    subst hrs hk
    obtain ⟨hpe, _, _⟩ := hat2
    subst hpe
    refine V.move rfl rfl rfl ?_
    refine V.nilCheck rfl rfl rfl ?_
    refine V.fieldAddr 1 55 rfl rfl rfl rfl rfl ?_
    apply V.loadL rfl rfl rfl rfl
    · repeat' constructor
    · repeat' constructor
    refine V.bin rfl rfl rfl rfl (bin_add _ _ _ (IntWalk.u32_in _ (by omega))) ?_
    refine V.know (t := 75) (y := .int .u32 ((boots + 1 : Nat) : Int)) rfl (by first | rfl | (congr 1; omega)) ?_
    refine V.nilCheck rfl rfl rfl ?_
    refine V.fieldAddr 1 55 rfl rfl rfl rfl rfl ?_
    apply V.storeL rfl rfl rfl rfl rfl
    · repeat' constructor
    · repeat' constructor
    refine V.nil ?_
    refine Post.nextC ?_
    refine VC.seq ?_
    refine VC.region ?_
    refine V.move rfl rfl rfl ?_
    refine V.nilCheck rfl rfl rfl ?_
    refine V.fieldAddr 1 55 rfl rfl rfl rfl rfl ?_
    apply V.loadL rfl rfl rfl rfl
    · repeat' constructor
    · repeat' constructor
    apply V.call rfl rfl rfl (hc := c26 (boots := boots + 1) (by omega))
    · repeat' constructor
    rintro v Ho ⟨rfl, rfl⟩
    apply V.storeAll rfl rfl rfl (all_byv _)
    · repeat' constructor
    · simp [hhl]
    · simp [hbl]
    refine V.nil ?_
    refine Post.nextC ?_
    refine VC.seq ?_
    refine VC.region ?_
    refine V.move rfl rfl rfl ?_
    refine V.move rfl rfl rfl ?_
    refine V.move rfl rfl rfl ?_
    refine V.sliceA rfl rfl rfl ?_
    apply V.call rfl rfl rfl (hc := c28 (i := 0) (c := [(b2, .cells ((headB (boots + 1)).map byv).toArray 59 (0, 0))]) hl hnb (by omega) hhl (Rd.block b2 59 16 (0, 0) _ (by simp [hhl]) (by omega)) hs hd)
    · repeat' constructor
    rintro v Ho ⟨rfl, rfl⟩
    refine V.assign rfl rfl rfl ?_
    refine V.assign rfl rfl rfl ?_
    refine V.assign rfl rfl rfl ?_
    refine V.nil ?_
    refine Post.nextC ?_
    refine VC.ret ?_
    apply Post.ret3 rfl rfl rfl rfl 
    · exact ⟨b1, v, c, cR, vs, rfl, ho, hrecs, rfl⟩
    · repeat' constructor
  · try simp only [decide_eq_true_eq, decide_eq_false_iff_not, Bool.not_eq_true', Bool.not_eq_false', Bool.not_eq_eq_eq_not, Bool.not_true, Bool.not_false, beq_iff_eq, beq_eq_false_iff_ne, ne_eq, Int.not_lt, Int.not_le, Option.isSome_some, Option.isNone_none, Option.isSome_none, Option.isNone_some] at h1
    refine VC.skip ?_
    refine Post.nextC ?_
    refine VC.region ?_
    obtain ⟨r, rs3, rfl, hr1, hk2, hat3⟩ : ∃ r rs3, rs2 = r :: rs3 ∧ RecIs c1 v1 r ∧ k2 = k + 1 ∧ At img nb p2 (k + 1) rs3 en := by
      rcases hN with ⟨_, h, _⟩ | ⟨r, rs3, h3, h4, h5, h6, h7⟩
      · rw [h1] at h; cases h
      · exact ⟨r, rs3, h3, h5, h6, h7⟩
    subst hk2
    refine V.move rfl rfl rfl ?_
    refine V.move rfl rfl rfl ?_
    refine V.buildSlice1 (l := [v1]) rfl rfl rfl (cells_of_one hone) rfl rfl rfl (fun b3 => ?_)
    apply V.append1 rfl rfl rfl rfl rfl rfl (news := [v1]) (ho := ho) (hb := by omega) (h63 := by simp only [maxLen]; omega)
    case hp => repeat' constructor
    case hl => rfl
    case h1 => simp [hone]
    intro v2 c2 ho2
    refine V.assign rfl rfl rfl ?_
    refine V.nil ?_
    refine Post.blockNormal (Post.round ⟨rs1 ++ [r], rs3, p2, k + 1, v2, c2, cR ++ c1, vs ++ [v1]⟩ ?_ ?_ ?_ ?_)
    · exact ⟨by simpa using hrs, hat3, by simp [hk], ho2, hrecs.snoc hr1⟩
    · simp
    · exact ⟨rfl, rfl, rfl, rfl, trivial⟩
    · repeat' constructor

-- annotations not used: [('ops', (11, 17)), ('know', (11, 17))]
theorem c8b {w0 : World} {d bb nb en boots : Nat} {s : DS} {img : Bytes} {rs : List Bytes} (h2 : 2 ≤ nb) (hnb : nb ≤ 65536) (hl : img.length = 16 * nb) (hs : s.ok 1000000000000000) (hd : s.dn = false) (hF : blk img 0 = headB boots) (hv : boots < 1000000) (hat : At img nb 1 0 rs en) : CtR Pg w0 8 #[.pointer (some ⟨d, 0, none⟩)] [dkS d bb nb s, imB bb img] (fun v H => ∃ j vl cl cR vs, v = .tuple #[.pointer (some ⟨j, 0, none⟩), vl, .int .i64 0] ∧ Own 31 1 cl vl rs.length vs ∧ Recs rs vs cR ∧ H = [jB j d (boots + 1) (rs.length : Int) (en : Int) false, cl, cR, dkS d bb nb s.wrote, imB bb (setBlk img 0 (headB (boots + 1)))]) := by
  have hbl := blk_length hl (show 0 < nb by omega)
  have hbl1 := blk_length hl (show 1 < nb by omega)
  have hle := At.le hat
  have hbv : beVal (((blk img 0).drop 4).take 4) = boots := by rw [hF, headB_val _ (by omega)]
  have hhl := headB_length (boots + 1)
  have hbo : boots < 1000000 := by omega
  refine Ct.of_body Go.Proofs.Tryd.func8 rfl 88 rfl rfl (fun R => ?_)
  refine VC.seq ?_
  refine VC.region ?_
  refine V.assign rfl rfl rfl ?_
  refine V.assign rfl rfl rfl ?_
  refine V.assign rfl rfl rfl ?_
  refine V.nil ?_
  refine Post.nextC ?_
  refine VC.seq ?_
  refine VC.block ?_
  refine VC.seq ?_
  refine VC.region ?_
  refine V.move rfl rfl rfl ?_
  refine V.bin rfl rfl rfl rfl (bin_peqlNil _) ?_
  refine V.know (t := 14) (y := .bool false) rfl (rfl) ?_
  refine V.assign rfl rfl rfl ?_
  refine V.nil ?_
  refine Post.nextC ?_
  refine VC.condF rfl ?_
  refine VC.seq ?_
  refine VC.region ?_
  refine V.move rfl rfl rfl ?_
  apply V.call rfl rfl rfl (hc := c15 (n := 16 * nb) (by omega))
  · repeat' constructor
  rintro v Ho ⟨rfl, rfl⟩
  refine V.bin rfl rfl rfl rfl (bin_lss _ _ _) ?_
  refine V.know (t := 18) (y := .bool false) rfl (by simp; omega) ?_
  refine V.assign rfl rfl rfl ?_
  refine V.nil ?_
  refine Post.nextC ?_
  refine VC.condF rfl ?_
  refine VC.seq ?_
  refine VC.region ?_
  refine V.move rfl rfl rfl ?_
  apply V.call rfl rfl rfl (hc := c23)
  · repeat' constructor
  rintro v Ho ⟨rfl, rfl⟩
  refine V.not rfl rfl rfl ?_
  refine V.know (t := 22) (y := .bool false) rfl (by rw [hd]; rfl) ?_
  refine V.assign rfl rfl rfl ?_
  refine V.nil ?_
  refine Post.nextC ?_
  refine VC.condF rfl ?_
  refine VC.skip ?_
  refine Post.blockNormal (Post.nextC ?_)
  refine VC.seq ?_
  refine VC.region ?_
  refine V.move rfl rfl rfl ?_
  refine V.buildS [(0, _), (3, _)] (l := [_, .int .u32 0, .int .i64 0, _, .bool false]) rfl rfl rfl rfl rfl ?_
  refine V.box rfl rfl rfl rfl (fun b1 => ?_)
  refine V.assign rfl rfl rfl ?_
  refine V.nil ?_
  refine Post.nextC ?_
  refine VC.seq ?_
  refine VC.region ?_
  refine V.move rfl rfl rfl ?_
  apply V.call rfl rfl rfl (hc := c24 (i := 0) hl hnb (by omega) hd)
  · repeat' constructor
  rintro v Ho ⟨rfl, rfl⟩
  refine V.alloc (l := [.int .u8 0, .int .u8 0, .int .u8 0, .int .u8 0, .int .u8 0, .int .u8 0, .int .u8 0, .int .u8 0, .int .u8 0, .int .u8 0, .int .u8 0, .int .u8 0, .int .u8 0, .int .u8 0, .int .u8 0, .int .u8 0]) rfl rfl rfl (fun b2 => ?_)
  apply V.storeAll rfl rfl rfl (all_byv _)
  · repeat' constructor
  · simp [hbl]
  · rfl
  refine V.nil ?_
  refine Post.nextC ?_
  refine VC.seq ?_
  refine VC.region ?_
  refine V.move rfl rfl rfl ?_
  apply V.loadAll rfl rfl rfl rfl
  · repeat' constructor
  · simp [hbl]
  apply V.call rfl rfl rfl (hc := c25 (bs := blk img 0) hbl)
  · repeat' constructor
  rintro v Ho ⟨rfl, rfl⟩
  rw [hbv]
  refine V.conv _ rfl rfl rfl (IntWalk.u32_in _ (by omega)) ?_
  refine V.nilCheck rfl rfl rfl ?_
  refine V.fieldAddr 1 55 rfl rfl rfl rfl rfl ?_
  apply V.storeL rfl rfl rfl rfl rfl
  · repeat' constructor
  · repeat' constructor
  refine V.nil ?_
  refine Post.nextC ?_
  refine VC.seq ?_
  refine VC.seq ?_
  refine VC.region ?_
  apply V.loadAll rfl rfl rfl rfl
  · repeat' constructor
  · simp [hbl]
  refine V.buildA [] (l := [.int .u8 0, .int .u8 0, .int .u8 0, .int .u8 0, .int .u8 0, .int .u8 0, .int .u8 0, .int .u8 0, .int .u8 0, .int .u8 0, .int .u8 0, .int .u8 0, .int .u8 0, .int .u8 0, .int .u8 0, .int .u8 0]) rfl rfl rfl rfl rfl ?_
  refine V.bin rfl rfl rfl rfl (bin_eqlBytes (blk img 0) zb hbl rfl) ?_
  refine V.know (t := 36) (y := .bool false) rfl (by simp [hF, headB_ne]) ?_
  refine V.assign rfl rfl rfl ?_
  refine V.nil ?_
  refine Post.nextC ?_
  refine VC.seq ?_
  refine VC.draw mixed (by kernel_rfl) ?_
  refine V.move rfl rfl rfl ?_
  refine V.not rfl rfl rfl ?_
  refine V.move rfl rfl rfl ?_
  apply V.loadAll rfl rfl rfl rfl
  · repeat' constructor
  · simp [hbl]
  refine V.move rfl rfl rfl ?_
  refine V.nilCheck rfl rfl rfl ?_
  refine V.fieldAddr 1 55 rfl rfl rfl rfl rfl ?_
  apply V.loadL rfl rfl rfl rfl
  · repeat' constructor
  · repeat' constructor
  apply V.callQ (.agg ((headB boots).map byv).toArray) rfl rfl rfl (hc := c26 (boots := boots) (by omega))
  · repeat' constructor
  · rintro u Ho ⟨rfl, rfl⟩; exact ⟨rfl, by repeat' constructor⟩
  refine V.bin rfl rfl rfl rfl (bin_neqBytes (blk img 0) (headB boots) hbl (headB_length _)) ?_
  refine V.know (t := 46) (y := .bool false) rfl (by simp [hF]) ?_
  refine V.pickT rfl rfl rfl rfl ?_
  refine V.move rfl rfl rfl ?_
  refine V.move rfl rfl rfl ?_
  refine V.move rfl rfl rfl ?_
  refine V.skip rfl rfl ?_
  refine V.skip rfl rfl ?_
  refine V.skip rfl rfl ?_
  refine V.skip rfl rfl ?_
  refine V.pickF rfl rfl rfl rfl ?_
  refine V.pickF rfl rfl rfl rfl ?_
  refine V.nil ?_
  refine Post.nextC ?_
  refine VC.condF rfl ?_
  refine VC.skip ?_
  refine Post.nextC ?_
  refine VC.seq ?_
  refine VC.region ?_
  refine V.assign rfl rfl rfl ?_
  refine V.nil ?_
  refine Post.nextC ?_
  refine VC.seq ?_
  refine VC.block ?_
  refine VC.loop (σ := OpSt) (fun t => [(0, .pointer (some ⟨d, 0, none⟩)), (5, .pointer (some ⟨b1, 0, none⟩)), (6, .pointer (some ⟨b2, 0, none⟩)), (8, t.v)]) (fun t => t.c :: t.cR :: jB b1 d boots (t.k : Int) (t.p : Int) false :: dkS d bb nb s :: imB bb img :: [(b2, .cells ((blk img 0).map byv).toArray 59 (0, 0))] :: R) (OpSt.ok img nb en rs) (fun t => t.rs2.length) ⟨[], rs, 1, 0, .slice none 0 0, [], [], []⟩ ⟨rfl, hat, rfl, Own.nil 31 1, rfl, rfl⟩ ?_ ?_ ?_
  · exact ⟨rfl, rfl, rfl, rfl, trivial⟩
  · repeat' constructor
  rintro ⟨rs1, rs2, p, k, v, c, cR, vs⟩ ⟨hrs, hat2, hk, ho, hrecs⟩
  simp only at hrs hat2 hk ho hrecs
  have hk3 : k + rs2.length ≤ 100000 := by
    have := congrArg List.length hrs
    rw [List.length_append] at this
    omega
  refine VC.block ?_
  refine VC.seq ?_
  refine VC.region ?_
  refine V.move rfl rfl rfl ?_
  apply V.call rfl rfl rfl (hc := c27u (rs := rs2) hl hnb hd hat2 hk3)
  · repeat' constructor
  rintro v Ho ⟨v1, c1, bl, p2, k2, rfl, hN, hone, rfl⟩
  refine V.move rfl rfl rfl ?_
  refine V.extract rfl rfl rfl rfl ?_
  refine V.extract rfl rfl rfl rfl ?_
  refine V.extract rfl rfl rfl rfl ?_
  refine V.know (t := 62) (y := .bool true) rfl (rfl) ?_
  refine V.assign rfl rfl rfl ?_
  refine V.assign rfl rfl rfl ?_
  refine V.assign rfl rfl rfl ?_
  refine V.nil ?_
  refine Post.nextC ?_
  refine VC.seq ?_
  refine VC.seq ?_
  refine VC.region ?_
  refine V.move rfl rfl rfl ?_
  refine V.not rfl rfl rfl ?_
  refine V.nil ?_
  refine Post.nextC ?_
  refine VC.condF rfl ?_
  refine VC.skip ?_
  refine Post.nextC ?_
  refine VC.seq ?_
  refine VC.seq ?_
  refine VC.region ?_
  refine V.move rfl rfl rfl ?_
  refine V.not rfl rfl rfl ?_
  refine V.nil ?_
  refine Post.nextC ?_
  refine VC.cond rfl (fun h1 => ?_) (fun h1 => ?_)
  · try simp only [decide_eq_true_eq, decide_eq_false_iff_not, Bool.not_eq_true', Bool.not_eq_false', Bool.not_eq_eq_eq_not, Bool.not_true, Bool.not_false, beq_iff_eq, beq_eq_false_iff_ne, ne_eq, Int.not_lt, Int.not_le, Option.isSome_some, Option.isNone_none, Option.isSome_none, Option.isNone_some] at h1
    refine VC.exit ?_
    refine Post.thenExit (Post.blockMiss rfl (Post.thenExit (Post.blockHit (Post.nextC ?_))))
    refine VC.seq ?_
    refine VC.region ?_
    obtain ⟨rfl, _, rfl, rfl, rfl⟩ : rs2 = [] ∧ bl = false ∧ c1 = [] ∧ p2 = p ∧ k2 = k := by
      rcases hN with h | ⟨_, _, _, h, _⟩
      · exact h
      · rw [h1] at h; cases h
    rw [List.append_nil] at hrs
    subst hrs hk
    obtain ⟨hpe, _, _⟩ := hat2
    subst hpe
    refine V.move rfl rfl rfl ?_
    refine V.nilCheck rfl rfl rfl ?_
    refine V.fieldAddr 1 55 rfl rfl rfl rfl rfl ?_
    apply V.loadL rfl rfl rfl rfl
    · repeat' constructor
    · repeat' constructor
    refine V.bin rfl rfl rfl rfl (bin_add _ _ _ (IntWalk.u32_in _ (by omega))) ?_
    refine V.know (t := 75) (y := .int .u32 ((boots + 1 : Nat) : Int)) rfl (by first | rfl | (congr 1; omega)) ?_
    refine V.nilCheck rfl rfl rfl ?_
    refine V.fieldAddr 1 55 rfl rfl rfl rfl rfl ?_
    apply V.storeL rfl rfl rfl rfl rfl
    · repeat' constructor
    · repeat' constructor
    refine V.nil ?_
    refine Post.nextC ?_
    refine VC.seq ?_
    refine VC.region ?_
    refine V.move rfl rfl rfl ?_
    refine V.nilCheck rfl rfl rfl ?_
    refine V.fieldAddr 1 55 rfl rfl rfl rfl rfl ?_
    apply V.loadL rfl rfl rfl rfl
    · repeat' constructor
    · repeat' constructor
    apply V.call rfl rfl rfl (hc := c26 (boots := boots + 1) (by omega))
    · repeat' constructor
    rintro v Ho ⟨rfl, rfl⟩
    apply V.storeAll rfl rfl rfl (all_byv _)
    · repeat' constructor
    · simp [hhl]
    · simp [hbl]
    refine V.nil ?_
    refine Post.nextC ?_
    refine VC.seq ?_
    refine VC.region ?_
    refine V.move rfl rfl rfl ?_
    refine V.move rfl rfl rfl ?_
    refine V.move rfl rfl rfl ?_
    refine V.sliceA rfl rfl rfl ?_
    apply V.call rfl rfl rfl (hc := c28 (i := 0) (c := [(b2, .cells ((headB (boots + 1)).map byv).toArray 59 (0, 0))]) hl hnb (by omega) hhl (Rd.block b2 59 16 (0, 0) _ (by simp [hhl]) (by omega)) hs hd)
    · repeat' constructor
    rintro v Ho ⟨rfl, rfl⟩
    refine V.assign rfl rfl rfl ?_
    refine V.assign rfl rfl rfl ?_
    refine V.assign rfl rfl rfl ?_
    refine V.nil ?_
    refine Post.nextC ?_
    refine VC.ret ?_
    apply Post.ret3 rfl rfl rfl rfl 
    · exact ⟨b1, v, c, cR, vs, rfl, ho, hrecs, rfl⟩
    · repeat' constructor
  · try simp only [decide_eq_true_eq, decide_eq_false_iff_not, Bool.not_eq_true', Bool.not_eq_false', Bool.not_eq_eq_eq_not, Bool.not_true, Bool.not_false, beq_iff_eq, beq_eq_false_iff_ne, ne_eq, Int.not_lt, Int.not_le, Option.isSome_some, Option.isNone_none, Option.isSome_none, Option.isNone_some] at h1
    refine VC.skip ?_
    refine Post.nextC ?_
    refine VC.region ?_
    obtain ⟨r, rs3, rfl, hr1, hk2, hat3⟩ : ∃ r rs3, rs2 = r :: rs3 ∧ RecIs c1 v1 r ∧ k2 = k + 1 ∧ At img nb p2 (k + 1) rs3 en := by
      rcases hN with ⟨_, h, _⟩ | ⟨r, rs3, h3, h4, h5, h6, h7⟩
      · rw [h1] at h; cases h
      · exact ⟨r, rs3, h3, h5, h6, h7⟩
    subst hk2
    refine V.move rfl rfl rfl ?_
    refine V.move rfl rfl rfl ?_
    refine V.buildSlice1 (l := [v1]) rfl rfl rfl (cells_of_one hone) rfl rfl rfl (fun b3 => ?_)
    apply V.append1 rfl rfl rfl rfl rfl rfl (news := [v1]) (ho := ho) (hb := by omega) (h63 := by simp only [maxLen]; omega)
    case hp => repeat' constructor
    case hl => rfl
    case h1 => simp [hone]
    intro v2 c2 ho2
    refine V.assign rfl rfl rfl ?_
    refine V.nil ?_
    refine Post.blockNormal (Post.round ⟨rs1 ++ [r], rs3, p2, k + 1, v2, c2, cR ++ c1, vs ++ [v1]⟩ ?_ ?_ ?_ ?_)
    · exact ⟨by simpa using hrs, hat3, by simp [hk], ho2, hrecs.snoc hr1⟩
    · simp
    · exact ⟨rfl, rfl, rfl, rfl, trivial⟩
    · repeat' constructor

end Go.Proofs.Jn
