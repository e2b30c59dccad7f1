/- Contracts of functions of the given program, each proved by walking its code: part of the proof of this claim; no condition beyond those that each theorem names. -/
import Derived.Test.YtpmpomknnppnjaaDoorJnDisk
import Derived.Test.YtpmpomknnppnjaaDoorJnBlocks
set_option linter.unusedVariables false
set_option linter.unusedSimpArgs false
namespace Go.Proofs.Jn
open Go Go.RowKit Go.Proofs.Eng
/-- a journal's block -/
abbrev jB (j d boots : Nat) (len end_ : Int) (down : Bool) : Chunk :=
  [(j, .cells #[.pointer (some ⟨d, 0, none⟩), .int .u32 (boots : Int), .int .i64 len, .int .i64 end_, .bool down] 57 (0, 0))]

theorem blk_copy {xs : Bytes} (hx : xs.length = 16) (a b c d e f g h i j k l m n o p : Value) :
    (#[a, b, c, d, e, f, g, h, i, j, k, l, m, n, o, p].toList.take 0 ++ xs.map byv ++ #[a, b, c, d, e, f, g, h, i, j, k, l, m, n, o, p].toList.drop (0 + 16)).toArray = (xs.map byv).toArray := by simp

theorem c18 {w0 : World} {j d boots : Nat} {len end_ : Int} {down : Bool} : CtR Pg w0 18 #[.pointer (some ⟨j, 0, none⟩)] [jB j d boots len end_ down] (fun v H => v = .int .i64 len ∧ H = [jB j d boots len end_ down]) := by
  refine Ct.of_body Go.Proofs.Tryd.func18 rfl 7 rfl rfl (fun R => ?_)
  refine VC.seq ?_
  refine VC.region ?_
  refine V.assign rfl rfl rfl ?_
  refine V.nil ?_
  refine Post.nextC ?_
  refine VC.seq ?_
  refine VC.region ?_
  refine V.move rfl rfl rfl ?_
  refine V.nilCheck rfl rfl rfl ?_
  refine V.fieldAddr 2 3 rfl rfl rfl rfl rfl ?_
  apply V.loadL rfl rfl rfl rfl
  · repeat' constructor
  · repeat' constructor
  refine V.assign rfl rfl rfl ?_
  refine V.nil ?_
  refine Post.nextC ?_
  refine VC.ret ?_
  apply Post.ret1 rfl rfl 
  · exact ⟨rfl, rfl⟩
  · repeat' constructor

theorem c20 {w0 : World} {j d boots : Nat} {len end_ : Int} {down : Bool} (hb : boots < 4294967296) : CtR Pg w0 20 #[.pointer (some ⟨j, 0, none⟩)] [jB j d boots len end_ down] (fun v H => v = .int .i64 (boots : Int) ∧ H = [jB j d boots len end_ down]) := by
  refine Ct.of_body Go.Proofs.Tryd.func20 rfl 8 rfl rfl (fun R => ?_)
  refine VC.seq ?_
  refine VC.region ?_
  refine V.assign rfl rfl rfl ?_
  refine V.nil ?_
  refine Post.nextC ?_
  refine VC.seq ?_
  refine VC.region ?_
  refine V.move rfl rfl rfl ?_
  refine V.nilCheck rfl rfl rfl ?_
  refine V.fieldAddr 1 55 rfl rfl rfl rfl rfl ?_
  apply V.loadL rfl rfl rfl rfl
  · repeat' constructor
  · repeat' constructor
  refine V.conv _ rfl rfl rfl (IntWalk.i64_in _ (by omega)) ?_
  refine V.assign rfl rfl rfl ?_
  refine V.nil ?_
  refine Post.nextC ?_
  refine VC.ret ?_
  apply Post.ret1 rfl rfl 
  · exact ⟨rfl, rfl⟩
  · repeat' constructor

theorem c21 {w0 : World} {j d bb nb boots : Nat} {len end_ : Int} {down : Bool} {s : DS} (hnb : nb ≤ 65536) (he : 0 ≤ end_ ∧ end_ ≤ 1000000) : CtR Pg w0 21 #[.pointer (some ⟨j, 0, none⟩)] [jB j d boots len end_ down, dkS d bb nb s] (fun v H => v = .int .i64 (if 0 ≤ (nb : Int) - 2 - end_ then min (((nb : Int) - 2 - end_) * 16) 131072 else -1) ∧ H = [jB j d boots len end_ down, dkS d bb nb s]) := by
  refine Ct.of_body Go.Proofs.Tryd.func21 rfl 20 rfl rfl (fun R => ?_)
  refine VC.seq ?_
  refine VC.region ?_
  refine V.assign rfl rfl rfl ?_
  refine V.nil ?_
  refine Post.nextC ?_
  refine VC.seq ?_
  refine VC.seq ?_
  refine VC.draw mixed (by kernel_rfl) ?_
  refine V.move rfl rfl rfl ?_
  refine V.nilCheck rfl rfl rfl ?_
  refine V.fieldAddr 0 23 rfl rfl rfl rfl rfl ?_
  apply V.loadL rfl rfl rfl rfl
  · repeat' constructor
  · repeat' constructor
  apply V.callQ (.int .i64 (((16 * nb : Nat) : Int) / 16)) rfl rfl rfl (hc := c15 (n := 16 * nb) (by omega))
  · repeat' constructor
  · rintro u Ho ⟨rfl, rfl⟩; exact ⟨rfl, by repeat' constructor⟩
  refine V.bin rfl rfl rfl rfl (bin_subI (by omega)) ?_
  refine V.move rfl rfl rfl ?_
  refine V.nilCheck rfl rfl rfl ?_
  refine V.fieldAddr 3 3 rfl rfl rfl rfl rfl ?_
  apply V.loadL rfl rfl rfl rfl
  · repeat' constructor
  · repeat' constructor
  refine V.bin rfl rfl rfl rfl (bin_subI (by omega)) ?_
  refine V.assign rfl rfl rfl ?_
  refine V.nil ?_
  refine Post.nextC ?_
  refine VC.seq ?_
  refine VC.region ?_
  refine V.move rfl rfl rfl ?_
  refine V.bin rfl rfl rfl rfl (bin_geq _ _ _) ?_
  refine V.nil ?_
  refine Post.nextC ?_
  refine VC.cond rfl (fun h1 => ?_) (fun h1 => ?_)
  · try simp only [decide_eq_true_eq, decide_eq_false_iff_not, Bool.not_eq_true', Bool.not_eq_false', Bool.not_eq_eq_eq_not, Bool.not_true, Bool.not_false, beq_iff_eq, beq_eq_false_iff_ne, ne_eq, Int.not_lt, Int.not_le, Option.isSome_some, Option.isNone_none, Option.isSome_none, Option.isNone_some] at h1
    refine VC.seq ?_
    refine VC.region ?_
    refine V.move rfl rfl rfl ?_
    refine V.bin rfl rfl rfl rfl (bin_mulI (by omega)) ?_
    refine V.minI rfl rfl rfl rfl ?_
    refine V.assign rfl rfl rfl ?_
    refine V.nil ?_
    refine Post.nextC ?_
    refine VC.ret ?_
    refine Post.thenRet (?_)
    apply Post.ret1 rfl rfl 
    · refine ⟨?_, rfl⟩
      congr 1
      (repeat' split) <;> omega
    · repeat' constructor
  · try simp only [decide_eq_true_eq, decide_eq_false_iff_not, Bool.not_eq_true', Bool.not_eq_false', Bool.not_eq_eq_eq_not, Bool.not_true, Bool.not_false, beq_iff_eq, beq_eq_false_iff_ne, ne_eq, Int.not_lt, Int.not_le, Option.isSome_some, Option.isNone_none, Option.isSome_none, Option.isNone_some] at h1
    refine VC.skip ?_
    refine Post.nextC ?_
    refine VC.seq ?_
    refine VC.region ?_
    refine V.assign rfl rfl rfl ?_
    refine V.nil ?_
    refine Post.nextC ?_
    refine VC.ret ?_
    apply Post.ret1 rfl rfl 
    · refine ⟨?_, rfl⟩
      congr 1
      (repeat' split) <;> omega
    · repeat' constructor

theorem c24 {w0 : World} {j d bb nb i boots : Nat} {len end_ : Int} {down : Bool} {s : DS} {img : Bytes} (hl : img.length = 16 * nb) (hnb : nb ≤ 65536) (hi : i < nb) (hd : s.dn = false) : CtR Pg w0 24 #[.pointer (some ⟨j, 0, none⟩), .int .i64 (i : Int)] [jB j d boots len end_ down, dkS d bb nb s, imB bb img] (fun v H => v = .agg ((blk img i).map byv).toArray ∧ H = [jB j d boots len end_ down, dkS d bb nb s, imB bb img]) := by
  obtain ⟨wr, dn, fu, lf⟩ := s
  obtain rfl : dn = false := hd
  have hbl := blk_length hl hi
  refine Ct.of_body Go.Proofs.Tryd.func24 rfl 21 rfl rfl (fun R => ?_)
  refine VC.seq ?_
  refine VC.region ?_
  refine V.alloc (l := [.int .u8 0, .int .u8 0, .int .u8 0, .int .u8 0, .int .u8 0, .int .u8 0, .int .u8 0, .int .u8 0, .int .u8 0, .int .u8 0, .int .u8 0, .int .u8 0, .int .u8 0, .int .u8 0, .int .u8 0, .int .u8 0]) rfl rfl rfl (fun b1 => ?_)
  refine V.nil ?_
  refine Post.nextC ?_
  refine VC.seq ?_
  refine VC.region ?_
  refine V.move rfl rfl rfl ?_
  refine V.nilCheck rfl rfl rfl ?_
  refine V.fieldAddr 0 23 rfl rfl rfl rfl rfl ?_
  apply V.loadL rfl rfl rfl rfl
  · repeat' constructor
  · repeat' constructor
  refine V.move rfl rfl rfl ?_
  apply V.call rfl rfl rfl (hc := c39 hl hnb hi)
  · repeat' constructor
  rintro v Ho ⟨v1, c1, rfl, ho, rfl⟩
  refine V.move rfl rfl rfl ?_
  refine V.extract rfl rfl rfl rfl ?_
  refine V.extract rfl rfl rfl rfl ?_
  refine V.assign rfl rfl rfl ?_
  refine V.assign rfl rfl rfl ?_
  refine V.nil ?_
  refine Post.nextC ?_
  refine VC.seq ?_
  refine VC.region ?_
  refine V.alloc (l := [.int .u8 0, .int .u8 0, .int .u8 0, .int .u8 0, .int .u8 0, .int .u8 0, .int .u8 0, .int .u8 0, .int .u8 0, .int .u8 0, .int .u8 0, .int .u8 0, .int .u8 0, .int .u8 0, .int .u8 0, .int .u8 0]) rfl rfl rfl (fun b2 => ?_)
  refine V.nil ?_
  refine Post.nextC ?_
  refine VC.seq ?_
  refine VC.region ?_
  refine V.sliceA rfl rfl rfl ?_
  refine V.move rfl rfl rfl ?_
  apply V.copyR (news := (blk img i).map byv) rfl rfl rfl rfl (hp1 := .inr ?hq) (hr := ho.rd) (h1 := all_byv _)
  case hp => repeat' constructor
  case hq => repeat' constructor
  case hk => simp
  rw [blk_copy hbl]
  refine V.nil ?_
  refine Post.nextC ?_
  refine VC.seq ?_
  refine VC.region ?_
  apply V.loadAll rfl rfl rfl rfl
  · repeat' constructor
  · simp [hbl]
  apply V.storeAll rfl rfl rfl (all_byv _)
  · repeat' constructor
  · simp [hbl]
  · rfl
  refine V.nil ?_
  refine Post.nextC ?_
  refine VC.ret ?_
  apply Post.retCell rfl rfl rfl
  · repeat' constructor
  · simp [hbl]
  · exact ⟨rfl, rfl⟩
  · repeat' constructor

theorem c30 {w0 : World} {j d bb nb i boots : Nat} {len end_ : Int} {down : Bool} {s : DS} {img : Bytes} {xs : Bytes} (hl : img.length = 16 * nb) (hnb : nb ≤ 65536) (hi : i < nb) (hx : xs.length = 16) (hs : s.ok 1000000000000000) (hd : s.dn = false) : CtR Pg w0 30 #[.pointer (some ⟨j, 0, none⟩), .int .i64 (i : Int), .agg (xs.map byv).toArray] [jB j d boots len end_ down, dkS d bb nb s, imB bb img] (fun v H => v = .int .i64 0 ∧ H = [jB j d boots len end_ false, dkS d bb nb s.wrote, imB bb (setBlk img i xs)]) := by
  refine Ct.of_body Go.Proofs.Tryd.func30 rfl 21 rfl rfl (fun R => ?_)
  refine VC.seq ?_
  refine VC.region ?_
  refine V.box rfl rfl rfl rfl (fun b1 => ?_)
  refine V.assign rfl rfl rfl ?_
  refine V.nil ?_
  refine Post.nextC ?_
  refine VC.seq ?_
  refine VC.drawTail 6 mixed (by kernel_rfl) ?_
  refine V.move rfl rfl rfl ?_
  refine V.nilCheck rfl rfl rfl ?_
  refine V.fieldAddr 0 23 rfl rfl rfl rfl rfl ?_
  apply V.loadL rfl rfl rfl rfl
  · repeat' constructor
  · repeat' constructor
  refine V.move rfl rfl rfl ?_
  refine V.sliceA rfl rfl rfl ?_
  refine V.nil ?_
  refine Post.tail ?_
  apply V.call rfl rfl rfl (hc := c28 (c := [(b1, .cells (xs.map byv).toArray 59 (0, 0))]) hl hnb hi hx (Rd.block b1 59 16 (0, 0) _ (by simp [hx]) (by omega)) hs hd)
  · repeat' constructor
  rintro v Ho ⟨rfl, rfl⟩
  refine V.assign rfl rfl rfl ?_
  refine V.nil ?_
  refine Post.nextC ?_
  refine VC.seq ?_
  refine VC.region ?_
  refine V.move rfl rfl rfl ?_
  refine V.move rfl rfl rfl ?_
  refine V.bin rfl rfl rfl rfl (bin_neq _ _ _) ?_
  refine V.nilCheck rfl rfl rfl ?_
  refine V.fieldAddr 4 4 rfl rfl rfl rfl rfl ?_
  apply V.storeL rfl rfl rfl rfl rfl
  · repeat' constructor
  · repeat' constructor
  refine V.nil ?_
  refine Post.nextC ?_
  refine VC.seq ?_
  refine VC.region ?_
  refine V.move rfl rfl rfl ?_
  refine V.assign rfl rfl rfl ?_
  refine V.nil ?_
  refine Post.nextC ?_
  refine VC.ret ?_
  apply Post.ret1 rfl rfl 
  · exact ⟨rfl, rfl⟩
  · repeat' constructor

theorem c30d {w0 : World} {j d bb nb i boots : Nat} {len end_ : Int} {down : Bool} {s : DS} {img : Bytes} {xs : Bytes} (hnb : nb ≤ 65536) (hi : i < nb) (hd : s.dn = true) : CtR Pg w0 30 #[.pointer (some ⟨j, 0, none⟩), .int .i64 (i : Int), .agg (xs.map byv).toArray] [jB j d boots len end_ down, dkS d bb nb s, imB bb img] (fun v H => v = .int .i64 50 ∧ H = [jB j d boots len end_ true, dkS d bb nb s, imB bb img]) := by
  obtain ⟨wr, dn, fu, lf⟩ := s
  obtain rfl : dn = true := hd
  refine Ct.of_body Go.Proofs.Tryd.func30 rfl 21 rfl rfl (fun R => ?_)
  refine VC.seq ?_
  refine VC.region ?_
  refine V.box rfl rfl rfl rfl (fun b1 => ?_)
  refine V.assign rfl rfl rfl ?_
  refine V.nil ?_
  refine Post.nextC ?_
  refine VC.seq ?_
  refine VC.drawTail 6 mixed (by kernel_rfl) ?_
  refine V.move rfl rfl rfl ?_
  refine V.nilCheck rfl rfl rfl ?_
  refine V.fieldAddr 0 23 rfl rfl rfl rfl rfl ?_
  apply V.loadL rfl rfl rfl rfl
  · repeat' constructor
  · repeat' constructor
  refine V.move rfl rfl rfl ?_
  refine V.sliceA rfl rfl rfl ?_
  refine V.nil ?_
  refine Post.tail ?_
  apply V.call rfl rfl rfl (hc := c28D hnb hi)
  · repeat' constructor
  rintro v Ho ⟨rfl, rfl⟩
  refine V.assign rfl rfl rfl ?_
  refine V.nil ?_
  refine Post.nextC ?_
  refine VC.seq ?_
  refine VC.region ?_
  refine V.move rfl rfl rfl ?_
  refine V.move rfl rfl rfl ?_
  refine V.bin rfl rfl rfl rfl (bin_neq _ _ _) ?_
  refine V.nilCheck rfl rfl rfl ?_
  refine V.fieldAddr 4 4 rfl rfl rfl rfl rfl ?_
  apply V.storeL rfl rfl rfl rfl rfl
  · repeat' constructor
  · repeat' constructor
  refine V.nil ?_
  refine Post.nextC ?_
  refine VC.seq ?_
  refine VC.region ?_
  refine V.move rfl rfl rfl ?_
  refine V.assign rfl rfl rfl ?_
  refine V.nil ?_
  refine Post.nextC ?_
  refine VC.ret ?_
  apply Post.ret1 rfl rfl 
  · exact ⟨rfl, rfl⟩
  · repeat' constructor

theorem zeros_cells (m : Nat) : (List.replicate m (Value.int .u8 0)).toArray = ((List.replicate m (0 : UInt8)).map byv).toArray := by
  rw [List.map_replicate]
  rfl

theorem c6 {w0 : World} {m : Nat} (h1m : 1 ≤ m) (hm : m ≤ 65536) : CtR Pg w0 6 #[.int .i64 (m : Int)] [] (fun v H => ∃ d bb, v = .tuple #[.pointer (some ⟨d, 0, none⟩), .int .i64 0] ∧ H = [dkS d bb m ⟨0, false, false, 0⟩, imB bb (List.replicate (16 * m) 0)]) := by
  refine Ct.of_body Go.Proofs.Tryd.func6 rfl 15 rfl rfl (fun R => ?_)
  refine VC.seq ?_
  refine VC.region ?_
  refine V.assign rfl rfl rfl ?_
  refine V.assign rfl rfl rfl ?_
  refine V.nil ?_
  refine Post.nextC ?_
  refine VC.seq ?_
  refine VC.seq ?_
  refine VC.region ?_
  refine V.move rfl rfl rfl ?_
  refine V.bin rfl rfl rfl rfl (bin_lss _ _ _) ?_
  refine V.know (t := 5) (y := .bool false) rfl (by simp; omega) ?_
  refine V.move rfl rfl rfl ?_
  refine V.move rfl rfl rfl ?_
  refine V.bin rfl rfl rfl rfl (bin_gtr _ _ _) ?_
  refine V.know (t := 8) (y := .bool false) rfl (by simp; omega) ?_
  refine V.pickF rfl rfl rfl rfl ?_
  refine V.nil ?_
  refine Post.nextC ?_
  refine VC.condF rfl ?_
  refine VC.skip ?_
  refine Post.nextC ?_
  refine VC.seq ?_
  refine VC.region ?_
  refine V.move rfl rfl rfl ?_
  refine V.bin rfl rfl rfl rfl (bin_mulI (by omega)) ?_
  refine V.know (t := 11) (y := .int .i64 ((16 * m : Nat) : Int)) rfl (by first | rfl | (congr 1; omega)) ?_
  refine V.make (m := 16 * m) rfl rfl rfl rfl rfl (by omega) (by omega) (fun bb => ?_)
  rw [zeros_cells]
  refine V.buildS [(0, _)] (l := [_, .int .i64 0, .bool false, .bool false, .int .i64 0]) rfl rfl rfl rfl rfl ?_
  refine V.box rfl rfl rfl rfl (fun b1 => ?_)
  refine V.assign rfl rfl rfl ?_
  refine V.assign rfl rfl rfl ?_
  refine V.nil ?_
  refine Post.nextC ?_
  refine VC.ret ?_
  apply Post.ret2 rfl rfl rfl 
  · exact ⟨b1, bb, rfl, rfl⟩
  · repeat' constructor

theorem c37 {w0 : World} {m : Nat} (h1m : 1 ≤ m) (hm : m ≤ 65536) : CtR Pg w0 37 #[.int .i64 (m : Int)] [] (fun v H => ∃ x, v = .tuple #[.pointer (some ⟨x, 0, none⟩), .int .i64 0] ∧ H = []) := by
  refine Ct.of_body Go.Proofs.Tryd.func37 rfl 15 rfl rfl (fun R => ?_)
  refine VC.seq ?_
  refine VC.region ?_
  refine V.assign rfl rfl rfl ?_
  refine V.assign rfl rfl rfl ?_
  refine V.nil ?_
  refine Post.nextC ?_
  refine VC.seq ?_
  refine VC.seq ?_
  refine VC.region ?_
  refine V.move rfl rfl rfl ?_
  refine V.bin rfl rfl rfl rfl (bin_lss _ _ _) ?_
  refine V.know (t := 5) (y := .bool false) rfl (by simp; omega) ?_
  refine V.move rfl rfl rfl ?_
  refine V.move rfl rfl rfl ?_
  refine V.bin rfl rfl rfl rfl (bin_gtr _ _ _) ?_
  refine V.know (t := 8) (y := .bool false) rfl (by simp; omega) ?_
  refine V.pickF rfl rfl rfl rfl ?_
  refine V.nil ?_
  refine Post.nextC ?_
  refine VC.condF rfl ?_
  refine VC.skip ?_
  refine Post.nextC ?_
  refine VC.seq ?_
  refine VC.region ?_
  refine V.move rfl rfl rfl ?_
  refine V.bin rfl rfl rfl rfl (bin_mulI (by omega)) ?_
  refine V.know (t := 11) (y := .int .i64 ((16 * m : Nat) : Int)) rfl (by first | rfl | (congr 1; omega)) ?_
  refine V.make (m := 16 * m) rfl rfl rfl rfl rfl (by omega) (by omega) (fun bb => ?_)
  refine V.buildS [(0, _), (2, _)] (l := [_, .int .i64 0, _]) rfl rfl rfl rfl rfl ?_
  refine V.box rfl rfl rfl rfl (fun b1 => ?_)
  refine V.assign rfl rfl rfl ?_
  refine V.assign rfl rfl rfl ?_
  refine V.nil ?_
  refine Post.nextC ?_
  refine VC.ret ?_
  apply Post.ret2 rfl rfl rfl 
  · exact ⟨_, rfl, rfl⟩
  · repeat' constructor

theorem c14 {w0 : World} {m : Int} : CtR Pg w0 14 #[.int .i64 m] [] (fun v H => ∃ d bb x nb, 1 ≤ nb ∧ nb ≤ 40 ∧ v = .tuple #[.pointer (some ⟨d, 0, none⟩), .pointer (some ⟨x, 0, none⟩)] ∧ H = [dkS d bb nb ⟨0, false, false, 0⟩, imB bb (List.replicate (16 * nb) 0)]) := by
  have hlo : -40 < m.tmod 40 := by rw [tmod_eq_if]; split <;> omega
  have hhi : m.tmod 40 < 40 := by rw [tmod_eq_if]; split <;> omega
  refine Ct.of_body Go.Proofs.Tryd.func14 rfl 29 rfl rfl (fun R => ?_)
  refine VC.seq ?_
  refine VC.region ?_
  refine V.assign rfl rfl rfl ?_
  refine V.assign rfl rfl rfl ?_
  refine V.nil ?_
  refine Post.nextC ?_
  refine VC.seq ?_
  refine VC.region ?_
  refine V.move rfl rfl rfl ?_
  refine V.bin rfl rfl rfl rfl (bin_rem .i64 m 40 (by omega)) ?_
  refine V.assign rfl rfl rfl ?_
  refine V.nil ?_
  refine Post.nextC ?_
  refine VC.seq ?_
  refine VC.seq ?_
  refine VC.region ?_
  refine V.move rfl rfl rfl ?_
  refine V.bin rfl rfl rfl rfl (bin_lss _ _ _) ?_
  refine V.nil ?_
  refine Post.nextC ?_
  refine VC.cond rfl (fun h1 => ?_) (fun h1 => ?_)
  · try simp only [decide_eq_true_eq, decide_eq_false_iff_not, Bool.not_eq_true', Bool.not_eq_false', Bool.not_eq_eq_eq_not, Bool.not_true, Bool.not_false, beq_iff_eq, beq_eq_false_iff_ne, ne_eq, Int.not_lt, Int.not_le, Option.isSome_some, Option.isNone_none, Option.isSome_none, Option.isNone_some] at h1
    refine VC.region ?_
    refine V.move rfl rfl rfl ?_
    refine V.negI rfl rfl rfl (by omega) ?_
    refine V.assign rfl rfl rfl ?_
    refine V.nil ?_
    refine Post.nextC ?_
    refine VC.seq ?_
    refine VC.region ?_
    refine V.move rfl rfl rfl ?_
    refine V.bin rfl rfl rfl rfl (bin_addI (by omega)) ?_
    obtain ⟨nb, hnb⟩ : ∃ nb : Nat, (nb : Int) = (if m.tmod 40 < 0 then -(m.tmod 40) else m.tmod 40) + 1 := ⟨((if m.tmod 40 < 0 then -(m.tmod 40) else m.tmod 40) + 1).toNat, by split <;> omega⟩
    refine V.know (t := 17) (y := .int .i64 (nb : Int)) rfl (by rw [hnb]; congr 2; first | (rw [if_pos (by omega)]) | (rw [if_neg (by omega)])) ?_
    have hnb1 : 1 ≤ nb := by split at hnb <;> omega
    have hnb2 : nb ≤ 40 := by split at hnb <;> omega
    apply V.call rfl rfl rfl (hc := c6 hnb1 (by omega))
    · repeat' constructor
    rintro v Ho ⟨d, bb, rfl, rfl⟩
    refine V.move rfl rfl rfl ?_
    refine V.extract rfl rfl rfl rfl ?_
    refine V.extract rfl rfl rfl rfl ?_
    refine V.assign rfl rfl rfl ?_
    refine V.assign rfl rfl rfl ?_
    refine V.nil ?_
    refine Post.nextC ?_
    refine VC.seq ?_
    refine VC.region ?_
    refine V.move rfl rfl rfl ?_
    refine V.bin rfl rfl rfl rfl (bin_addI (by omega)) ?_
    refine V.know (t := 23) (y := .int .i64 (nb : Int)) rfl (by rw [hnb]; congr 2; first | (rw [if_pos (by omega)]) | (rw [if_neg (by omega)])) ?_
    apply V.call rfl rfl rfl (hc := c37 hnb1 (by omega))
    · repeat' constructor
    rintro v Ho ⟨x, rfl, rfl⟩
    refine V.move rfl rfl rfl ?_
    refine V.extract rfl rfl rfl rfl ?_
    refine V.extract rfl rfl rfl rfl ?_
    refine V.assign rfl rfl rfl ?_
    refine V.assign rfl rfl rfl ?_
    refine V.nil ?_
    refine Post.nextC ?_
    refine VC.seq ?_
    refine VC.region ?_
    refine V.move rfl rfl rfl ?_
    refine V.move rfl rfl rfl ?_
    refine V.assign rfl rfl rfl ?_
    refine V.assign rfl rfl rfl ?_
    refine V.nil ?_
    refine Post.nextC ?_
    refine VC.ret ?_
    apply Post.ret2 rfl rfl rfl 
    · exact ⟨d, bb, x, nb, hnb1, hnb2, rfl, rfl⟩
    · repeat' constructor
  · try simp only [decide_eq_true_eq, decide_eq_false_iff_not, Bool.not_eq_true', Bool.not_eq_false', Bool.not_eq_eq_eq_not, Bool.not_true, Bool.not_false, beq_iff_eq, beq_eq_false_iff_ne, ne_eq, Int.not_lt, Int.not_le, Option.isSome_some, Option.isNone_none, Option.isSome_none, Option.isNone_some] at h1
    refine VC.skip ?_
    refine Post.nextC ?_
    refine VC.seq ?_
    refine VC.region ?_
    refine V.move rfl rfl rfl ?_
    refine V.bin rfl rfl rfl rfl (bin_addI (by omega)) ?_
    obtain ⟨nb, hnb⟩ : ∃ nb : Nat, (nb : Int) = (if m.tmod 40 < 0 then -(m.tmod 40) else m.tmod 40) + 1 := ⟨((if m.tmod 40 < 0 then -(m.tmod 40) else m.tmod 40) + 1).toNat, by split <;> omega⟩
    refine V.know (t := 17) (y := .int .i64 (nb : Int)) rfl (by rw [hnb]; congr 2; first | (rw [if_pos (by omega)]) | (rw [if_neg (by omega)])) ?_
    have hnb1 : 1 ≤ nb := by split at hnb <;> omega
    have hnb2 : nb ≤ 40 := by split at hnb <;> omega
    apply V.call rfl rfl rfl (hc := c6 hnb1 (by omega))
    · repeat' constructor
    rintro v Ho ⟨d, bb, rfl, rfl⟩
    refine V.move rfl rfl rfl ?_
    refine V.extract rfl rfl rfl rfl ?_
    refine V.extract rfl rfl rfl rfl ?_
    refine V.assign rfl rfl rfl ?_
    refine V.assign rfl rfl rfl ?_
    refine V.nil ?_
    refine Post.nextC ?_
    refine VC.seq ?_
    refine VC.region ?_
    refine V.move rfl rfl rfl ?_
    refine V.bin rfl rfl rfl rfl (bin_addI (by omega)) ?_
    refine V.know (t := 23) (y := .int .i64 (nb : Int)) rfl (by rw [hnb]; congr 2; first | (rw [if_pos (by omega)]) | (rw [if_neg (by omega)])) ?_
    apply V.call rfl rfl rfl (hc := c37 hnb1 (by omega))
    · repeat' constructor
    rintro v Ho ⟨x, rfl, rfl⟩
    refine V.move rfl rfl rfl ?_
    refine V.extract rfl rfl rfl rfl ?_
    refine V.extract rfl rfl rfl rfl ?_
    refine V.assign rfl rfl rfl ?_
    refine V.assign rfl rfl rfl ?_
    refine V.nil ?_
    refine Post.nextC ?_
    refine VC.seq ?_
    refine VC.region ?_
    refine V.move rfl rfl rfl ?_
    refine V.move rfl rfl rfl ?_
    refine V.assign rfl rfl rfl ?_
    refine V.assign rfl rfl rfl ?_
    refine V.nil ?_
    refine Post.nextC ?_
    refine VC.ret ?_
    apply Post.ret2 rfl rfl rfl 
    · exact ⟨d, bb, x, nb, hnb1, hnb2, rfl, rfl⟩
    · repeat' constructor

theorem c9 {w0 : World} {v : Value} {m most : Nat} {xs : Bytes} (hr : Rd w0 [] 1 v m (xs.map byv)) (hmost : most ≤ 1048576) : CtR Pg w0 9 #[v, .int .i64 (most : Int)] [] (fun u H => ∃ c1, Own 5 1 c1 u (min m most) ((xs.take most).map byv) ∧ H = [c1]) := by
  obtain ⟨ad, cp, rfl, hle1, hle2, hle3, hle4⟩ := id hr
  have hxl : xs.length = m := by simpa using hle3
  have hcp : cp ≤ 9223372036854775807 := by simp only [maxLen] at hle2; omega
  have hrT : most < m → Rd w0 [] 1 (.slice ad most cp) most ((xs.take most).map byv) := fun h => by have := hr.take (i := most) (by omega); rwa [Nat.mul_one, ← List.map_take] at this
  refine Ct.of_body Go.Proofs.Tryd.func9 rfl 15 rfl rfl (fun R => ?_)
  refine VC.seq ?_
  refine VC.region ?_
  refine V.assign rfl rfl rfl ?_
  refine V.nil ?_
  refine Post.nextC ?_
  refine VC.seq ?_
  refine VC.seq ?_
  refine VC.region ?_
  refine V.move rfl rfl rfl ?_
  refine V.len rfl rfl rfl ?_
  refine V.move rfl rfl rfl ?_
  refine V.bin rfl rfl rfl rfl (bin_gtr _ _ _) ?_
  refine V.nil ?_
  refine Post.nextC ?_
  refine VC.cond rfl (fun h1 => ?_) (fun h1 => ?_)
  · try simp only [decide_eq_true_eq, decide_eq_false_iff_not, Bool.not_eq_true', Bool.not_eq_false', Bool.not_eq_eq_eq_not, Bool.not_true, Bool.not_false, beq_iff_eq, beq_eq_false_iff_ne, ne_eq, Int.not_lt, Int.not_le, Option.isSome_some, Option.isNone_none, Option.isSome_none, Option.isNone_some] at h1
    refine VC.region ?_
    refine V.move rfl rfl rfl ?_
    refine V.move rfl rfl rfl ?_
    refine V.sliceH rfl rfl rfl rfl (by omega) ?_
    refine V.assign rfl rfl rfl ?_
    refine V.nil ?_
    refine Post.nextC ?_
    refine VC.seq ?_
    refine VC.region ?_
    refine V.buildSlice0 rfl rfl (fun b1 => ?_)
    refine V.move rfl rfl rfl ?_
    first
      | (apply V.appendR (H1 := []) (m := 0) (l := []) (k := most) (news := (xs.take most).map byv) rfl rfl rfl rfl rfl rfl (ho := Own.empty _ 5 1) (hp1 := .inl rfl) (hr := hrT (by omega)) (h1 := all_byv _) (hb := by omega) (h63 := by simp only [maxLen]; omega); case hp => repeat' constructor)
      | (apply V.appendR (H1 := []) (m := 0) (l := []) (k := m) (news := xs.map byv) rfl rfl rfl rfl rfl rfl (ho := Own.empty _ 5 1) (hp1 := .inl rfl) (hr := hr) (h1 := all_byv _) (hb := by omega) (h63 := by simp only [maxLen]; omega); case hp => repeat' constructor)
    intro v' c1 ho
    refine V.assign rfl rfl rfl ?_
    refine V.nil ?_
    refine Post.nextC ?_
    refine VC.ret ?_
    apply Post.ret1 rfl rfl 
    · first
        | exact ⟨c1, by rw [Nat.min_eq_right (by omega)]; simpa using ho, rfl⟩
        | exact ⟨c1, by rw [Nat.min_eq_left (by omega), List.take_of_length_le (by omega)]; simpa using ho, rfl⟩
    · repeat' constructor
  · try simp only [decide_eq_true_eq, decide_eq_false_iff_not, Bool.not_eq_true', Bool.not_eq_false', Bool.not_eq_eq_eq_not, Bool.not_true, Bool.not_false, beq_iff_eq, beq_eq_false_iff_ne, ne_eq, Int.not_lt, Int.not_le, Option.isSome_some, Option.isNone_none, Option.isSome_none, Option.isNone_some] at h1
    refine VC.skip ?_
    refine Post.nextC ?_
    refine VC.seq ?_
    refine VC.region ?_
    refine V.buildSlice0 rfl rfl (fun b2 => ?_)
    refine V.move rfl rfl rfl ?_
    first
      | (apply V.appendR (H1 := []) (m := 0) (l := []) (k := most) (news := (xs.take most).map byv) rfl rfl rfl rfl rfl rfl (ho := Own.empty _ 5 1) (hp1 := .inl rfl) (hr := hrT (by omega)) (h1 := all_byv _) (hb := by omega) (h63 := by simp only [maxLen]; omega); case hp => repeat' constructor)
      | (apply V.appendR (H1 := []) (m := 0) (l := []) (k := m) (news := xs.map byv) rfl rfl rfl rfl rfl rfl (ho := Own.empty _ 5 1) (hp1 := .inl rfl) (hr := hr) (h1 := all_byv _) (hb := by omega) (h63 := by simp only [maxLen]; omega); case hp => repeat' constructor)
    intro v' c1 ho
    refine V.assign rfl rfl rfl ?_
    refine V.nil ?_
    refine Post.nextC ?_
    refine VC.ret ?_
    apply Post.ret1 rfl rfl 
    · first
        | exact ⟨c1, by rw [Nat.min_eq_right (by omega)]; simpa using ho, rfl⟩
        | exact ⟨c1, by rw [Nat.min_eq_left (by omega), List.take_of_length_le (by omega)]; simpa using ho, rfl⟩
    · repeat' constructor

end Go.Proofs.Jn
