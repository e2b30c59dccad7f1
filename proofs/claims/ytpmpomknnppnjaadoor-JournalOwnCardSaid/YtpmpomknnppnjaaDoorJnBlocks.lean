/- Contracts of functions of the given program, each proved by walking its code: part of the proof of this claim; no condition beyond those that each theorem names. -/
import Derived.Test.YtpmpomknnppnjaaDoorJnFacts
import Derived.Test.YtpmpomknnppnjaaDoorJnModel
set_option linter.unusedVariables false
set_option linter.unusedSimpArgs false
namespace Go.Proofs.Jn
open Go Go.RowKit Go.Proofs.Eng
theorem c29 {w0 : World} {m : Nat} (hm : m ≤ 1000000000) : CtR Pg w0 29 #[.int .i64 (m : Int)] [] (fun v H => v = .int .i64 ((span m : Nat) : Int) ∧ H = []) := by
  refine Ct.of_body Go.Proofs.Tryd.func29 rfl 7 rfl rfl (fun R => ?_)
  refine VC.seq ?_
  refine VC.region ?_
  refine V.assign rfl rfl rfl ?_
  refine V.nil ?_
  refine Post.nextC ?_
  refine VC.seq ?_
  refine VC.region ?_
  refine V.move rfl rfl rfl ?_
  refine V.bin rfl rfl rfl rfl (bin_addI (by omega)) ?_
  refine V.bin rfl rfl rfl rfl (bin_subI (by omega)) ?_
  refine V.bin rfl rfl rfl rfl (bin_quoI (by omega)) ?_
  refine V.assign rfl rfl rfl ?_
  refine V.nil ?_
  refine Post.nextC ?_
  refine VC.ret ?_
  apply Post.ret1 rfl rfl 
  · exact ⟨by unfold span; congr 1; omega, rfl⟩
  · repeat' constructor

theorem c25 {w0 : World} {bs : Bytes} (hb : bs.length = 16) : CtR Pg w0 25 #[.agg (bs.map byv).toArray, .int .i64 4, .int .i64 4] [] (fun v H => v = .int .u64 ((beVal ((bs.drop 4).take 4) : Nat) : Int) ∧ H = []) := by
  have h44 : ((bs.drop 4).take 4).length = 4 := by simp; omega
  refine Ct.of_body Go.Proofs.Tryd.func25 rfl 27 rfl rfl (fun R => ?_)
  refine VC.seq ?_
  refine VC.region ?_
  refine V.box rfl rfl rfl rfl (fun b1 => ?_)
  refine V.assign rfl rfl rfl ?_
  refine V.nil ?_
  refine Post.nextC ?_
  refine VC.seq ?_
  refine VC.region ?_
  refine V.assign rfl rfl rfl ?_
  refine V.nil ?_
  refine Post.nextC ?_
  refine VC.seq ?_
  refine VC.seq ?_
  refine VC.region ?_
  refine V.move rfl rfl rfl ?_
  refine V.move rfl rfl rfl ?_
  refine V.move rfl rfl rfl ?_
  refine V.bin rfl rfl rfl rfl (bin_addI (by omega)) ?_
  refine V.sliceALH (i := 4) (j := 8) rfl rfl rfl rfl rfl (by omega) (by omega) (by omega) ?_
  refine V.len rfl rfl rfl ?_
  refine V.move rfl rfl rfl ?_
  refine V.nil ?_
  refine Post.nextC ?_
  refine VC.block ?_
  refine VC.loop (σ := Nat) (fun k => [(7, .int .u64 ((beVal (((bs.drop 4).take 4).take k) : Nat) : Int)), (14, .slice (some ⟨b1, 4, none⟩) 4 12), (15, .int .i64 4), (16, .int .i64 (k : Int))]) (fun k => [(b1, .cells (bs.map byv).toArray 59 (0, 0))] :: R) (fun k => k ≤ 4) (fun k => 4 - k) 0 (by omega) ?_ ?_ ?_
  · exact ⟨rfl, rfl, rfl, rfl, trivial⟩
  · repeat' constructor
  intro k hk
  refine VC.seq ?_
  refine VC.region ?_
  refine V.bin rfl rfl rfl rfl (bin_lss _ _ _) ?_
  refine V.nil ?_
  refine Post.nextC ?_
  refine VC.seq ?_
  refine VC.cond rfl (fun h1 => ?_) (fun h1 => ?_)
  · try simp only [decide_eq_true_eq, decide_eq_false_iff_not, Bool.not_eq_true', Bool.not_eq_false', Bool.not_eq_eq_eq_not, Bool.not_true, Bool.not_false, beq_iff_eq, beq_eq_false_iff_ne, ne_eq, Int.not_lt, Int.not_le, Option.isSome_some, Option.isNone_none, Option.isSome_none, Option.isNone_some] at h1
    refine VC.skip ?_
    refine Post.nextC ?_
    refine VC.seq ?_
    refine VC.block ?_
    refine VC.seq ?_
    refine VC.region ?_
    have hk4 : k < 4 := by omega
    have hlt : 4 + k < bs.length := by omega
    obtain ⟨c, hc⟩ : ∃ c, bs[4 + k]? = some c := ⟨bs[4 + k], by simp [hlt]⟩
    have hcell : (bs.map byv).toArray[4 + k * 1]? = some (byv c) := by simp [hc]
    have hcl := c.toNat_lt
    have hv := beVal_lt (((bs.drop 4).take 4).take k)
    have hvl : (((bs.drop 4).take 4).take k).length = k := by simp; omega
    have hv3 : beVal (((bs.drop 4).take 4).take k) < 16777216 := by
      rw [hvl] at hv
      exact Nat.lt_of_lt_of_le hv (Nat.pow_le_pow_right (n := 256) (by omega) (show k ≤ 3 by omega))
    have hstep : beVal (((bs.drop 4).take 4).take (k + 1)) = (beVal (((bs.drop 4).take 4).take k) * 2 ^ 8 ||| c.toNat) := by
      have ht : ((bs.drop 4).take 4).take (k + 1) = ((bs.drop 4).take 4).take k ++ [c] := by
        rw [List.take_add_one]
        congr 1
        simp [List.getElem?_take, hk4, hc]
      rw [ht, beVal_snoc, or256 _ _ hcl]
    refine V.indexO (i := k) rfl rfl rfl rfl (by omega) ?_
    apply V.load rfl rfl rfl rfl
    · repeat' constructor
    · exact hcell
    refine V.assign rfl rfl rfl ?_
    refine V.nil ?_
    refine Post.nextC ?_
    refine VC.region ?_
    refine V.move rfl rfl rfl ?_
    refine V.bin rfl rfl rfl rfl (bin_shlN (beVal (((bs.drop 4).take 4).take k)) 8 _ (by omega)) ?_
    refine V.move rfl rfl rfl ?_
    refine V.conv (c.toNat : Int) rfl rfl rfl (IntWalk.u64_in _ (by omega)) ?_
    refine V.bin rfl rfl rfl rfl (bin_orN _ c.toNat (by omega) (by omega)) ?_
    refine V.assign rfl rfl rfl ?_
    refine V.nil ?_
    refine Post.blockNormal (Post.nextC ?_)
    refine VC.region ?_
    refine V.bin rfl rfl rfl rfl (bin_addI (by omega)) ?_
    refine V.move rfl rfl rfl ?_
    refine V.nil ?_
    refine Post.round (k + 1) ?_ ?_ ?_ ?_
    · omega
    · omega
    · exact ⟨by rw [hstep]; rfl, rfl, rfl, rfl, trivial⟩
    · repeat' constructor
  · try simp only [decide_eq_true_eq, decide_eq_false_iff_not, Bool.not_eq_true', Bool.not_eq_false', Bool.not_eq_eq_eq_not, Bool.not_true, Bool.not_false, beq_iff_eq, beq_eq_false_iff_ne, ne_eq, Int.not_lt, Int.not_le, Option.isSome_some, Option.isNone_none, Option.isSome_none, Option.isNone_some] at h1
    refine VC.exit ?_
    refine Post.thenExit (Post.thenExit (Post.blockHit (Post.nextC ?_)))
    refine VC.seq ?_
    refine VC.region ?_
    refine V.move rfl rfl rfl ?_
    refine V.assign rfl rfl rfl ?_
    refine V.nil ?_
    refine Post.nextC ?_
    refine VC.ret ?_
    apply Post.ret1 rfl rfl 
    · obtain rfl : k = 4 := by omega
      exact ⟨by rw [List.take_of_length_le (by omega)], rfl⟩
    · repeat' constructor

theorem c40 {w0 : World} {b : Nat} {bs : Bytes} {at_ wide m : Nat} (hb : bs.length = 16) (hw : at_ + wide ≤ 16) (hm : m < 18446744073709551616) : CtR Pg w0 40 #[.pointer (some ⟨b, 0, none⟩), .int .i64 (at_ : Int), .int .i64 (wide : Int), .int .u64 (m : Int)] [[(b, .cells (bs.map byv).toArray 59 (0, 0))]] (fun v H => H = [[(b, .cells ((putB bs at_ wide m).map byv).toArray 59 (0, 0))]]) := by
  refine Ct.of_body Go.Proofs.Tryd.func40 rfl 25 rfl rfl (fun R => ?_)
  refine VC.seq ?_
  refine VC.region ?_
  refine V.move rfl rfl rfl ?_
  refine V.bin rfl rfl rfl rfl (bin_subI (by omega)) ?_
  refine V.assign rfl rfl rfl ?_
  refine V.nil ?_
  refine Post.nextC ?_
  refine VC.block ?_
  refine VC.loop (σ := Nat) (fun j => [(0, .pointer (some ⟨b, 0, none⟩)), (1, .int .i64 (at_ : Int)), (3, .int .u64 ((m / 256 ^ j : Nat) : Int)), (8, .int .i64 ((wide : Int) - 1 - (j : Int)))]) (fun j => [(b, .cells ((putUp bs at_ wide m j).map byv).toArray 59 (0, 0))] :: R) (fun j => j ≤ wide) (fun j => wide - j) 0 (by omega) ?_ ?_ ?_
  · exact ⟨rfl, rfl, by simp; rfl, by simp; rfl, trivial⟩
  · rw [putUp_zero]; repeat' constructor
  intro j hj
  refine VC.seq ?_
  refine VC.seq ?_
  refine VC.region ?_
  refine V.move rfl rfl rfl ?_
  refine V.bin rfl rfl rfl rfl (bin_geq _ _ _) ?_
  refine V.nil ?_
  refine Post.nextC ?_
  refine VC.cond rfl (fun h1 => ?_) (fun h1 => ?_)
  · try simp only [decide_eq_true_eq, decide_eq_false_iff_not, Bool.not_eq_true', Bool.not_eq_false', Bool.not_eq_eq_eq_not, Bool.not_true, Bool.not_false, beq_iff_eq, beq_eq_false_iff_ne, ne_eq, Int.not_lt, Int.not_le, Option.isSome_some, Option.isNone_none, Option.isSome_none, Option.isNone_some] at h1
    refine VC.skip ?_
    refine Post.nextC ?_
    refine VC.seq ?_
    refine VC.block ?_
    refine VC.seq ?_
    refine VC.region ?_
    refine V.move rfl rfl rfl ?_
    refine V.move rfl rfl rfl ?_
    refine V.move rfl rfl rfl ?_
    have hjw : j < wide := by omega
    have hmj : m / 256 ^ j < 18446744073709551616 := Nat.lt_of_le_of_lt (Nat.div_le_self _ _) hm
    refine V.bin rfl rfl rfl rfl (bin_addI (by omega)) ?_
    refine V.know (t := 18) (y := .int .i64 ((at_ + (wide - 1 - j) : Nat) : Int)) rfl (by first | rfl | (congr 1; omega)) ?_
    refine V.move rfl rfl rfl ?_
    refine V.conv ((UInt8.ofNat (m / 256 ^ j % 256)).toNat : Int) rfl rfl rfl (by rw [IntKind.wrap_u8]; simp) ?_
    refine V.nilCheck rfl rfl rfl ?_
    refine V.indexA rfl rfl rfl rfl (by omega) ?_
    apply V.store (v := byv (UInt8.ofNat (m / 256 ^ j % 256))) rfl rfl rfl rfl rfl
    · repeat' constructor
    · simp [putUp_length hb hw (Nat.le_of_lt hjw)]; omega
    rw [show 0 + (at_ + (wide - 1 - j)) * 1 = at_ + (wide - 1 - j) by omega, putUp_step hb hw hjw]
    refine V.nil ?_
    refine Post.nextC ?_
    refine VC.region ?_
    refine V.move rfl rfl rfl ?_
    refine V.bin rfl rfl rfl rfl (bin_shrN _ 8 _ hmj) ?_
    refine V.know (t := 24) (y := .int .u64 ((m / 256 ^ (j + 1) : Nat) : Int)) rfl (congrArg (fun x : Nat => Value.int .u64 (x : Int)) (Nat.div_div_eq_div_mul m (256 ^ j) 256)) ?_
    refine V.assign rfl rfl rfl ?_
    refine V.nil ?_
    refine Post.blockNormal (Post.nextC ?_)
    refine VC.region ?_
    refine V.move rfl rfl rfl ?_
    refine V.bin rfl rfl rfl rfl (bin_subI (by omega)) ?_
    refine V.assign rfl rfl rfl ?_
    refine V.nil ?_
    refine Post.round (j + 1) ?_ ?_ ?_ ?_
    · omega
    · omega
    · exact ⟨rfl, rfl, rfl, by rw [show (wide : Int) - 1 - ((j + 1 : Nat) : Int) = (wide : Int) - 1 - (j : Int) - 1 by omega]; rfl, trivial⟩
    · repeat' constructor
  · try simp only [decide_eq_true_eq, decide_eq_false_iff_not, Bool.not_eq_true', Bool.not_eq_false', Bool.not_eq_eq_eq_not, Bool.not_true, Bool.not_false, beq_iff_eq, beq_eq_false_iff_ne, ne_eq, Int.not_lt, Int.not_le, Option.isSome_some, Option.isNone_none, Option.isSome_none, Option.isNone_some] at h1
    refine VC.exit ?_
    refine Post.thenExit (Post.thenExit (Post.blockHit (Post.end_ rfl (?_))))
    apply Post.ret0 rfl 
    · exact rfl
    · obtain rfl : j = wide := by omega
      rw [putUp_end]; repeat' constructor

theorem c26 {w0 : World} {boots : Nat} (hb : boots < 4294967296) : CtR Pg w0 26 #[.int .u32 (boots : Int)] [] (fun v H => v = .agg ((headB boots).map byv).toArray ∧ H = []) := by
  refine Ct.of_body Go.Proofs.Tryd.func26 rfl 9 rfl rfl (fun R => ?_)
  refine VC.seq ?_
  refine VC.region ?_
  refine V.alloc (l := [.int .u8 0, .int .u8 0, .int .u8 0, .int .u8 0, .int .u8 0, .int .u8 0, .int .u8 0, .int .u8 0, .int .u8 0, .int .u8 0, .int .u8 0, .int .u8 0, .int .u8 0, .int .u8 0, .int .u8 0, .int .u8 0]) rfl rfl rfl (fun b1 => ?_)
  refine V.nil ?_
  refine Post.nextC ?_
  refine VC.seq ?_
  refine VC.region ?_
  refine V.buildA [(0, _), (1, _), (2, _)] (l := [_, _, _, .int .u8 0, .int .u8 0, .int .u8 0, .int .u8 0, .int .u8 0, .int .u8 0, .int .u8 0, .int .u8 0, .int .u8 0, .int .u8 0, .int .u8 0, .int .u8 0, .int .u8 0]) rfl rfl rfl rfl rfl ?_
  refine V.alloc (l := [.int .u8 0, .int .u8 0, .int .u8 0, .int .u8 0, .int .u8 0, .int .u8 0, .int .u8 0, .int .u8 0, .int .u8 0, .int .u8 0, .int .u8 0, .int .u8 0, .int .u8 0, .int .u8 0, .int .u8 0, .int .u8 0]) rfl rfl rfl (fun b2 => ?_)
  apply V.storeAll rfl rfl rfl rfl
  · repeat' constructor
  · exact rfl
  · exact rfl
  refine V.nil ?_
  refine Post.nextC ?_
  refine VC.seq ?_
  refine VC.region ?_
  refine V.move rfl rfl rfl ?_
  refine V.conv _ rfl rfl rfl (IntWalk.u64_in _ (by omega)) ?_
  apply V.call rfl rfl rfl (hc := c40 (b := b2) (bs := [80, 74, 1, 0, 0, 0, 0, 0, 0, 0, 0, 0, 0, 0, 0, 0]) (at_ := 4) (wide := 4) (m := boots) rfl (by omega) (by omega))
  · repeat' constructor
  rintro v Ho rfl
  rw [putB_head]
  refine V.nil ?_
  refine Post.nextC ?_
  refine VC.seq ?_
  refine VC.region ?_
  apply V.loadAll rfl rfl rfl rfl
  · repeat' constructor
  · exact rfl
  apply V.storeAll rfl rfl rfl rfl
  · repeat' constructor
  · exact rfl
  · exact rfl
  refine V.nil ?_
  refine Post.nextC ?_
  refine VC.ret ?_
  apply Post.retCell rfl rfl rfl
  · repeat' constructor
  · simp [headB_length]
  · exact ⟨rfl, rfl⟩
  · repeat' constructor

theorem c31 {w0 : World} {m num : Nat} (hm : m < 4294967296) (hn : num < 9223372036854775807) : CtR Pg w0 31 #[.int .i64 (m : Int), .int .i64 (num : Int)] [] (fun v H => v = .agg ((titleB m num).map byv).toArray ∧ H = []) := by
  refine Ct.of_body Go.Proofs.Tryd.func31 rfl 14 rfl rfl (fun R => ?_)
  refine VC.seq ?_
  refine VC.region ?_
  refine V.alloc (l := [.int .u8 0, .int .u8 0, .int .u8 0, .int .u8 0, .int .u8 0, .int .u8 0, .int .u8 0, .int .u8 0, .int .u8 0, .int .u8 0, .int .u8 0, .int .u8 0, .int .u8 0, .int .u8 0, .int .u8 0, .int .u8 0]) rfl rfl rfl (fun b1 => ?_)
  refine V.nil ?_
  refine Post.nextC ?_
  refine VC.seq ?_
  refine VC.region ?_
  refine V.buildA [(0, _), (1, _)] (l := [_, _, .int .u8 0, .int .u8 0, .int .u8 0, .int .u8 0, .int .u8 0, .int .u8 0, .int .u8 0, .int .u8 0, .int .u8 0, .int .u8 0, .int .u8 0, .int .u8 0, .int .u8 0, .int .u8 0]) rfl rfl rfl rfl rfl ?_
  refine V.alloc (l := [.int .u8 0, .int .u8 0, .int .u8 0, .int .u8 0, .int .u8 0, .int .u8 0, .int .u8 0, .int .u8 0, .int .u8 0, .int .u8 0, .int .u8 0, .int .u8 0, .int .u8 0, .int .u8 0, .int .u8 0, .int .u8 0]) rfl rfl rfl (fun b2 => ?_)
  apply V.storeAll rfl rfl rfl rfl
  · repeat' constructor
  · exact rfl
  · exact rfl
  refine V.nil ?_
  refine Post.nextC ?_
  refine VC.seq ?_
  refine VC.region ?_
  refine V.move rfl rfl rfl ?_
  refine V.conv _ rfl rfl rfl (IntWalk.u64_in _ (by omega)) ?_
  apply V.call rfl rfl rfl (hc := c40 (b := b2) (bs := [80, 82, 0, 0, 0, 0, 0, 0, 0, 0, 0, 0, 0, 0, 0, 0]) (at_ := 4) (wide := 4) (m := m) rfl (by omega) (by omega))
  · repeat' constructor
  rintro v Ho rfl
  refine V.nil ?_
  refine Post.nextC ?_
  refine VC.seq ?_
  refine VC.region ?_
  refine V.move rfl rfl rfl ?_
  refine V.conv _ rfl rfl rfl (IntWalk.u64_in _ (by omega)) ?_
  apply V.call rfl rfl rfl (hc := c40 (b := b2) (bs := putB [80, 82, 0, 0, 0, 0, 0, 0, 0, 0, 0, 0, 0, 0, 0, 0] 4 4 m) (at_ := 8) (wide := 8) (m := num) (putB_length rfl (by omega)) (by omega) (by omega))
  · repeat' constructor
  rintro v Ho rfl
  rw [putB_title]
  refine V.nil ?_
  refine Post.nextC ?_
  refine VC.seq ?_
  refine VC.region ?_
  apply V.loadAll rfl rfl rfl rfl
  · repeat' constructor
  · exact rfl
  apply V.storeAll rfl rfl rfl rfl
  · repeat' constructor
  · exact rfl
  · exact rfl
  refine V.nil ?_
  refine Post.nextC ?_
  refine VC.ret ?_
  apply Post.retCell rfl rfl rfl
  · repeat' constructor
  · simp [titleB_length]
  · exact ⟨rfl, rfl⟩
  · repeat' constructor

end Go.Proofs.Jn
