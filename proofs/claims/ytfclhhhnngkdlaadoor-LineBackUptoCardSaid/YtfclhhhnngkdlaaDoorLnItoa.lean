/- Contracts of functions of the given program, each proved by walking its code: part of the proof of this claim; no condition beyond those that each theorem names. -/
import Derived.Test.YtfclhhhnngkdlaaDoorLnAns
set_option linter.unusedVariables false
set_option linter.unusedSimpArgs false
namespace Go.Proofs.Ln
open Go Go.RowKit Go.Proofs.Eng
theorem sm_get (x : Nat) (h : x < 200) : SM[x]? = some (Lib.sm x) := by
  have h2 : ∀ i : Fin 200, SM[i.val]? = some (Lib.sm i.val) := by decide +kernel
  exact h2 ⟨x, h⟩
/-- the block in which a number is written: one place ahead, the digits, the rest -/
abbrev fb (b : Nat) (z : Value) (d : Array UInt8) (tail : List Value) : Chunk := [(b, .cells (z :: (d.toList.map byv ++ tail)).toArray 109 (0, 0))]
theorem fb_set (z : Value) (d : Array UInt8) (tail : List Value) (j : Nat) (x : UInt8) (hj : j < d.size) : (z :: (d.toList.map byv ++ tail)).toArray.setIfInBounds (1 + j * 1) (byv x) = (z :: ((d.setIfInBounds j x).toList.map byv ++ tail)).toArray := by
  apply Array.ext'
  simp only [Array.toList_setIfInBounds, Nat.mul_one]
  rw [Nat.add_comm, List.set_cons_succ, List.set_append_left _ _ (by simpa using hj), List.map_set]
theorem fb_size (z : Value) (d : Array UInt8) (tail : List Value) (j : Nat) (hj : j < d.size) : 1 + j * 1 < (z :: (d.toList.map byv ++ tail)).toArray.size := by
  simp
  omega
theorem fmt_next {nd u n v : Nat} {d : Array UInt8} (h : Lib.FmtInv nd u n v d) (h2 : 2 ≤ n) {x y i j w : Nat} (hx : x = v % 100 * 2 + 1) (hy : y = v % 100 * 2) (hi : i = n - 1) (hj : j = n - 2) (hw : w = v / 100) : Lib.FmtInv nd u j w ((d.setIfInBounds i (Lib.sm x)).setIfInBounds j (Lib.sm y)) := by
  subst hx; subst hy; subst hi; subst hj; subst hw
  exact h.step2 h2

theorem byv_ofNat {n : Nat} (h : n < 256) : (Value.int .u8 (n : Int)) = byv (UInt8.ofNat n) := by
  simp only [byv]
  rw [UInt8.toNat_ofNat_of_lt' h]

theorem c72 {w0 : World} {b nd u cp : Nat} {z : Value} {d0 : Array UInt8} {tail : List Value} (hd : d0.size = nd) (hu : u < 10 ^ nd) (hu64 : u < 18446744073709551616) (hnd : nd ≤ 1000) : CtR Pg w0 72 #[.slice (some ⟨b, 1, none⟩) nd cp, .int .u64 (u : Int)] [fb b z d0 tail] (fun _ H => ∃ d v, Lib.FmtInv nd u 0 v d ∧ H = [fb b z d tail]) := by
  refine Ct.of_body Go.Proofs.Tryd.func72 rfl 167 rfl rfl (fun R => ?_)
  refine VC.seq ?_
  refine VC.region ?_
  refine V.move rfl rfl rfl ?_
  refine V.len rfl rfl rfl ?_
  refine V.assign rfl rfl rfl ?_
  refine V.nil ?_
  refine Post.nextC ?_
  refine VC.seq ?_
  refine VC.block ?_
  refine VC.loop (σ := (Nat) × (Nat) × (Array UInt8)) (fun zz => [(0, .slice (some ⟨b, 1, none⟩) nd cp), (1, .int .u64 (zz.2.1 : Int)), (4, .int .i64 (zz.1 : Int))]) (fun zz => fb b z zz.2.2 tail :: R) (fun zz => (Lib.FmtInv nd u zz.1 zz.2.1 zz.2.2) ∧ (zz.2.1 < 18446744073709551616)) (fun zz => zz.1) (nd, u, d0) (⟨by rw [← hd]; exact Lib.FmtInv.start d0 u (by rw [hd]; exact hu), hu64⟩) ?_ ?_ ?_
  · exact ⟨rfl, rfl, rfl, trivial⟩
  · repeat' constructor
  rintro ⟨n, v, d⟩ ⟨(hF : Lib.FmtInv nd u n v d), (hv : v < 18446744073709551616)⟩
  refine VC.sub (E' := [(0, .slice (some ⟨b, 1, none⟩) nd cp), (1, .int .u64 (v : Int)), (4, .int .i64 (n : Int))]) (H' := fb b z d tail :: R) ⟨rfl, rfl, rfl, trivial⟩ (by repeat' constructor) ?_
  have hnle := hF.le
  refine VC.seq ?_
  refine VC.seq ?_
  refine VC.region ?_
  refine V.move rfl rfl rfl ?_
  refine V.bin rfl rfl rfl rfl (bin_geq _ _ _) ?_
  refine V.nil ?_
  refine Post.nextC ?_
  refine VC.cond rfl (fun h1 => ?_) (fun h1 => ?_)
  · try simp only [decide_eq_true_eq, decide_eq_false_iff_not, Bool.not_eq_true', Bool.not_eq_false', Bool.not_eq_eq_eq_not, Bool.not_true, Bool.not_false, beq_iff_eq, beq_eq_false_iff_ne, ne_eq, Int.not_lt, Int.not_le, Option.isSome_some, Option.isNone_none, Option.isSome_none, Option.isNone_some, Classical.not_not] at h1
    refine VC.skip ?_
    refine Post.nextC ?_
    refine VC.block ?_
    refine VC.seq ?_
    refine VC.region ?_
    refine V.move rfl rfl rfl ?_
    refine V.bin rfl rfl rfl rfl (bin_remN .u64 _ 100000000 (by omega)) ?_
    refine V.conv _ rfl rfl rfl (IntWalk.u32_in _ (by omega)) ?_
    refine V.assign rfl rfl rfl ?_
    refine V.nil ?_
    refine Post.nextC ?_
    refine VC.seq ?_
    refine VC.region ?_
    refine V.move rfl rfl rfl ?_
    refine V.bin rfl rfl rfl rfl (bin_quoN .u64 _ 100000000 (by omega) (IntWalk.u64_in _ (by omega))) ?_
    refine V.assign rfl rfl rfl ?_
    refine V.nil ?_
    refine Post.nextC ?_
    refine VC.seq ?_
    refine VC.region ?_
    refine V.move rfl rfl rfl ?_
    refine V.bin rfl rfl rfl rfl (bin_quoN .u32 _ 10000 (by omega) (IntWalk.u32_in _ (by omega))) ?_
    refine V.move rfl rfl rfl ?_
    refine V.bin rfl rfl rfl rfl (bin_remN .u32 _ 10000 (by omega)) ?_
    refine V.assign rfl rfl rfl ?_
    refine V.assign rfl rfl rfl ?_
    refine V.nil ?_
    refine Post.nextC ?_
    refine VC.seq ?_
    refine VC.region ?_
    refine V.move rfl rfl rfl ?_
    refine V.bin rfl rfl rfl rfl (bin_quoN .u32 _ 100 (by omega) (IntWalk.u32_in _ (by omega))) ?_
    refine V.bin rfl rfl rfl rfl (bin_mulN .u32 _ 2 (IntWalk.u32_in _ (by omega))) ?_
    refine V.know (t := 32) (y := .int .u32 (((v / 100 % 100) * 2 : Nat) : Int)) rfl (by congr 1; omega) ?_
    refine V.move rfl rfl rfl ?_
    refine V.bin rfl rfl rfl rfl (bin_remN .u32 _ 100 (by omega)) ?_
    refine V.bin rfl rfl rfl rfl (bin_mulN .u32 _ 2 (IntWalk.u32_in _ (by omega))) ?_
    refine V.know (t := 35) (y := .int .u32 (((v % 100) * 2 : Nat) : Int)) rfl (by congr 1; omega) ?_
    refine V.assign rfl rfl rfl ?_
    refine V.assign rfl rfl rfl ?_
    refine V.nil ?_
    refine Post.nextC ?_
    refine VC.seq ?_
    refine VC.region ?_
    refine V.move rfl rfl rfl ?_
    refine V.bin rfl rfl rfl rfl (bin_quoN .u32 _ 100 (by omega) (IntWalk.u32_in _ (by omega))) ?_
    refine V.bin rfl rfl rfl rfl (bin_mulN .u32 _ 2 (IntWalk.u32_in _ (by omega))) ?_
    refine V.know (t := 38) (y := .int .u32 (((v / 1000000 % 100) * 2 : Nat) : Int)) rfl (by congr 1; omega) ?_
    refine V.move rfl rfl rfl ?_
    refine V.bin rfl rfl rfl rfl (bin_remN .u32 _ 100 (by omega)) ?_
    refine V.bin rfl rfl rfl rfl (bin_mulN .u32 _ 2 (IntWalk.u32_in _ (by omega))) ?_
    refine V.know (t := 41) (y := .int .u32 (((v / 10000 % 100) * 2 : Nat) : Int)) rfl (by congr 1; omega) ?_
    refine V.assign rfl rfl rfl ?_
    refine V.assign rfl rfl rfl ?_
    refine V.nil ?_
    refine Post.nextC ?_
    refine VC.seq ?_
    refine VC.any ([]) 15 15 mixed rfl ?_
    refine VA.take 0 rfl (by kernel_rfl) (by kernel_rfl) rfl (by kernel_rfl) (by kernel_rfl) (by repeat' constructor) ?_
    refine V.move rfl rfl rfl ?_
    refine V.nil ?_
    refine Post.took ?_
    refine VA.take 1 rfl (by kernel_rfl) (by kernel_rfl) rfl (by kernel_rfl) (by kernel_rfl) (by repeat' constructor) ?_
    refine V.move rfl rfl rfl ?_
    refine V.nil ?_
    refine Post.took ?_
    refine VA.take 2 rfl (by kernel_rfl) (by kernel_rfl) rfl (by kernel_rfl) (by kernel_rfl) (by repeat' constructor) ?_
    refine V.bin rfl rfl rfl rfl (bin_subI (by omega)) ?_
    refine V.know (t := 44) (y := .int .i64 ((n - 1 : Nat) : Int)) rfl (by first | rfl | (congr 1; omega)) ?_
    refine V.nil ?_
    refine Post.took ?_
    refine VA.take 3 rfl (by kernel_rfl) (by kernel_rfl) rfl (by kernel_rfl) (by kernel_rfl) (by repeat' constructor) ?_
    refine V.move rfl rfl rfl ?_
    refine V.nil ?_
    refine Post.took ?_
    refine VA.take 4 rfl (by kernel_rfl) (by kernel_rfl) rfl (by kernel_rfl) (by kernel_rfl) (by repeat' constructor) ?_
    refine V.move rfl rfl rfl ?_
    refine V.nil ?_
    refine Post.took ?_
    refine VA.take 5 rfl (by kernel_rfl) (by kernel_rfl) rfl (by kernel_rfl) (by kernel_rfl) (by repeat' constructor) ?_
    refine V.bin rfl rfl rfl rfl (bin_subI (by omega)) ?_
    refine V.know (t := 47) (y := .int .i64 ((n - 2 : Nat) : Int)) rfl (by first | rfl | (congr 1; omega)) ?_
    refine V.nil ?_
    refine Post.took ?_
    refine VA.take 6 rfl (by kernel_rfl) (by kernel_rfl) rfl (by kernel_rfl) (by kernel_rfl) (by repeat' constructor) ?_
    refine V.move rfl rfl rfl ?_
    refine V.nil ?_
    refine Post.took ?_
    refine VA.take 7 rfl (by kernel_rfl) (by kernel_rfl) rfl (by kernel_rfl) (by kernel_rfl) (by repeat' constructor) ?_
    refine V.bin rfl rfl rfl rfl (bin_addN .u32 _ 1 (IntWalk.u32_in _ (by omega))) ?_
    refine V.know (t := 49) (y := .int .u32 (((v % 100) * 2 + 1 : Nat) : Int)) rfl (by congr 1) ?_
    refine V.nil ?_
    refine Post.took ?_
    refine VA.take 8 rfl (by kernel_rfl) (by kernel_rfl) rfl (by kernel_rfl) (by kernel_rfl) (by repeat' constructor) ?_
    refine V.indexSt (l := SM) (i := (v % 100) * 2 + 1) (c := Lib.sm ((v % 100) * 2 + 1)) rfl rfl rfl rfl (sm_get _ (by omega)) ?_
    refine V.nil ?_
    refine Post.took ?_
    refine VA.take 9 rfl (by kernel_rfl) (by kernel_rfl) rfl (by kernel_rfl) (by kernel_rfl) (by repeat' constructor) ?_
    refine V.move rfl rfl rfl ?_
    refine V.nil ?_
    refine Post.took ?_
    refine VA.take 10 rfl (by kernel_rfl) (by kernel_rfl) rfl (by kernel_rfl) (by kernel_rfl) (by repeat' constructor) ?_
    refine V.indexSt (l := SM) (i := (v % 100) * 2) (c := Lib.sm ((v % 100) * 2)) rfl rfl rfl rfl (sm_get _ (by omega)) ?_
    refine V.nil ?_
    refine Post.took ?_
    refine VA.take 11 rfl (by kernel_rfl) (by kernel_rfl) rfl (by kernel_rfl) (by kernel_rfl) (by repeat' constructor) ?_
    refine V.indexO (i := n - 1) rfl rfl rfl rfl (by have := hF.le; omega) ?_
    refine V.nil ?_
    refine Post.took ?_
    refine VA.one 12 (by kernel_rfl) rfl ?_
    apply V.store rfl rfl rfl rfl rfl
    · repeat' constructor
    · exact fb_size _ _ _ _ (by have := hF.size; omega)
    rw [show (Value.int .u8 ((Lib.sm ((v % 100) * 2 + 1)).toNat : Int)) = byv (Lib.sm ((v % 100) * 2 + 1)) from rfl, fb_set _ _ _ _ _ (by have := hF.size; omega)]
    refine V.nil ?_
    refine Post.came (by repeat' constructor) ?_
    refine VA.take 13 rfl (by kernel_rfl) (by kernel_rfl) rfl (by kernel_rfl) (by kernel_rfl) (by repeat' constructor) ?_
    refine V.indexO (i := n - 2) rfl rfl rfl rfl (by have := hF.le; omega) ?_
    refine V.nil ?_
    refine Post.took ?_
    refine VA.one 14 (by kernel_rfl) rfl ?_
    apply V.store rfl rfl rfl rfl rfl
    · repeat' constructor
    · exact fb_size _ _ _ _ (by rw [Array.size_setIfInBounds]; have := hF.size; omega)
    rw [show (Value.int .u8 ((Lib.sm ((v % 100) * 2)).toNat : Int)) = byv (Lib.sm ((v % 100) * 2)) from rfl, fb_set _ _ _ _ _ (by rw [Array.size_setIfInBounds]; have := hF.size; omega)]
    have hF1 : Lib.FmtInv nd u (n - 2) (v / 100) ((d.setIfInBounds (n - 1) (Lib.sm ((v % 100) * 2 + 1))).setIfInBounds (n - 2) (Lib.sm ((v % 100) * 2))) := fmt_next hF (by omega) (by omega) (by omega) (by omega) (by omega) (by omega)
    generalize ((d.setIfInBounds (n - 1) (Lib.sm ((v % 100) * 2 + 1))).setIfInBounds (n - 2) (Lib.sm ((v % 100) * 2))) = d1 at hF1 ⊢
    refine V.nil ?_
    refine Post.came (by repeat' constructor) ?_
    refine VA.done (by kernel_rfl) ?_
    refine Post.nextC ?_
    refine VC.seq ?_
    refine VC.any ([]) 15 15 mixed rfl ?_
    refine VA.take 0 rfl (by kernel_rfl) (by kernel_rfl) rfl (by kernel_rfl) (by kernel_rfl) (by repeat' constructor) ?_
    refine V.move rfl rfl rfl ?_
    refine V.nil ?_
    refine Post.took ?_
    refine VA.take 1 rfl (by kernel_rfl) (by kernel_rfl) rfl (by kernel_rfl) (by kernel_rfl) (by repeat' constructor) ?_
    refine V.move rfl rfl rfl ?_
    refine V.nil ?_
    refine Post.took ?_
    refine VA.take 2 rfl (by kernel_rfl) (by kernel_rfl) rfl (by kernel_rfl) (by kernel_rfl) (by repeat' constructor) ?_
    refine V.bin rfl rfl rfl rfl (bin_subI (by omega)) ?_
    refine V.know (t := 57) (y := .int .i64 ((n - 3 : Nat) : Int)) rfl (by first | rfl | (congr 1; omega)) ?_
    refine V.nil ?_
    refine Post.took ?_
    refine VA.take 3 rfl (by kernel_rfl) (by kernel_rfl) rfl (by kernel_rfl) (by kernel_rfl) (by repeat' constructor) ?_
    refine V.move rfl rfl rfl ?_
    refine V.nil ?_
    refine Post.took ?_
    refine VA.take 4 rfl (by kernel_rfl) (by kernel_rfl) rfl (by kernel_rfl) (by kernel_rfl) (by repeat' constructor) ?_
    refine V.move rfl rfl rfl ?_
    refine V.nil ?_
    refine Post.took ?_
    refine VA.take 5 rfl (by kernel_rfl) (by kernel_rfl) rfl (by kernel_rfl) (by kernel_rfl) (by repeat' constructor) ?_
    refine V.bin rfl rfl rfl rfl (bin_subI (by omega)) ?_
    refine V.know (t := 60) (y := .int .i64 ((n - 4 : Nat) : Int)) rfl (by first | rfl | (congr 1; omega)) ?_
    refine V.nil ?_
    refine Post.took ?_
    refine VA.take 6 rfl (by kernel_rfl) (by kernel_rfl) rfl (by kernel_rfl) (by kernel_rfl) (by repeat' constructor) ?_
    refine V.move rfl rfl rfl ?_
    refine V.nil ?_
    refine Post.took ?_
    refine VA.take 7 rfl (by kernel_rfl) (by kernel_rfl) rfl (by kernel_rfl) (by kernel_rfl) (by repeat' constructor) ?_
    refine V.bin rfl rfl rfl rfl (bin_addN .u32 _ 1 (IntWalk.u32_in _ (by omega))) ?_
    refine V.know (t := 62) (y := .int .u32 (((v / 100 % 100) * 2 + 1 : Nat) : Int)) rfl (by congr 1) ?_
    refine V.nil ?_
    refine Post.took ?_
    refine VA.take 8 rfl (by kernel_rfl) (by kernel_rfl) rfl (by kernel_rfl) (by kernel_rfl) (by repeat' constructor) ?_
    refine V.indexSt (l := SM) (i := (v / 100 % 100) * 2 + 1) (c := Lib.sm ((v / 100 % 100) * 2 + 1)) rfl rfl rfl rfl (sm_get _ (by omega)) ?_
    refine V.nil ?_
    refine Post.took ?_
    refine VA.take 9 rfl (by kernel_rfl) (by kernel_rfl) rfl (by kernel_rfl) (by kernel_rfl) (by repeat' constructor) ?_
    refine V.move rfl rfl rfl ?_
    refine V.nil ?_
    refine Post.took ?_
    refine VA.take 10 rfl (by kernel_rfl) (by kernel_rfl) rfl (by kernel_rfl) (by kernel_rfl) (by repeat' constructor) ?_
    refine V.indexSt (l := SM) (i := (v / 100 % 100) * 2) (c := Lib.sm ((v / 100 % 100) * 2)) rfl rfl rfl rfl (sm_get _ (by omega)) ?_
    refine V.nil ?_
    refine Post.took ?_
    refine VA.take 11 rfl (by kernel_rfl) (by kernel_rfl) rfl (by kernel_rfl) (by kernel_rfl) (by repeat' constructor) ?_
    refine V.indexO (i := n - 3) rfl rfl rfl rfl (by have := hF1.le; omega) ?_
    refine V.nil ?_
    refine Post.took ?_
    refine VA.one 12 (by kernel_rfl) rfl ?_
    apply V.store rfl rfl rfl rfl rfl
    · repeat' constructor
    · exact fb_size _ _ _ _ (by have := hF1.size; omega)
    rw [show (Value.int .u8 ((Lib.sm ((v / 100 % 100) * 2 + 1)).toNat : Int)) = byv (Lib.sm ((v / 100 % 100) * 2 + 1)) from rfl, fb_set _ _ _ _ _ (by have := hF1.size; omega)]
    refine V.nil ?_
    refine Post.came (by repeat' constructor) ?_
    refine VA.take 13 rfl (by kernel_rfl) (by kernel_rfl) rfl (by kernel_rfl) (by kernel_rfl) (by repeat' constructor) ?_
    refine V.indexO (i := n - 4) rfl rfl rfl rfl (by have := hF1.le; omega) ?_
    refine V.nil ?_
    refine Post.took ?_
    refine VA.one 14 (by kernel_rfl) rfl ?_
    apply V.store rfl rfl rfl rfl rfl
    · repeat' constructor
    · exact fb_size _ _ _ _ (by rw [Array.size_setIfInBounds]; have := hF1.size; omega)
    rw [show (Value.int .u8 ((Lib.sm ((v / 100 % 100) * 2)).toNat : Int)) = byv (Lib.sm ((v / 100 % 100) * 2)) from rfl, fb_set _ _ _ _ _ (by rw [Array.size_setIfInBounds]; have := hF1.size; omega)]
    have hF2 : Lib.FmtInv nd u (n - 4) (v / 10000) ((d1.setIfInBounds (n - 3) (Lib.sm ((v / 100 % 100) * 2 + 1))).setIfInBounds (n - 4) (Lib.sm ((v / 100 % 100) * 2))) := fmt_next hF1 (by omega) (by omega) (by omega) (by omega) (by omega) (by omega)
    generalize ((d1.setIfInBounds (n - 3) (Lib.sm ((v / 100 % 100) * 2 + 1))).setIfInBounds (n - 4) (Lib.sm ((v / 100 % 100) * 2))) = d2 at hF2 ⊢
    refine V.nil ?_
    refine Post.came (by repeat' constructor) ?_
    refine VA.done (by kernel_rfl) ?_
    refine Post.nextC ?_
    refine VC.seq ?_
    refine VC.any ([]) 15 15 mixed rfl ?_
    refine VA.take 0 rfl (by kernel_rfl) (by kernel_rfl) rfl (by kernel_rfl) (by kernel_rfl) (by repeat' constructor) ?_
    refine V.move rfl rfl rfl ?_
    refine V.nil ?_
    refine Post.took ?_
    refine VA.take 1 rfl (by kernel_rfl) (by kernel_rfl) rfl (by kernel_rfl) (by kernel_rfl) (by repeat' constructor) ?_
    refine V.move rfl rfl rfl ?_
    refine V.nil ?_
    refine Post.took ?_
    refine VA.take 2 rfl (by kernel_rfl) (by kernel_rfl) rfl (by kernel_rfl) (by kernel_rfl) (by repeat' constructor) ?_
    refine V.bin rfl rfl rfl rfl (bin_subI (by omega)) ?_
    refine V.know (t := 70) (y := .int .i64 ((n - 5 : Nat) : Int)) rfl (by first | rfl | (congr 1; omega)) ?_
    refine V.nil ?_
    refine Post.took ?_
    refine VA.take 3 rfl (by kernel_rfl) (by kernel_rfl) rfl (by kernel_rfl) (by kernel_rfl) (by repeat' constructor) ?_
    refine V.move rfl rfl rfl ?_
    refine V.nil ?_
    refine Post.took ?_
    refine VA.take 4 rfl (by kernel_rfl) (by kernel_rfl) rfl (by kernel_rfl) (by kernel_rfl) (by repeat' constructor) ?_
    refine V.move rfl rfl rfl ?_
    refine V.nil ?_
    refine Post.took ?_
    refine VA.take 5 rfl (by kernel_rfl) (by kernel_rfl) rfl (by kernel_rfl) (by kernel_rfl) (by repeat' constructor) ?_
    refine V.bin rfl rfl rfl rfl (bin_subI (by omega)) ?_
    refine V.know (t := 73) (y := .int .i64 ((n - 6 : Nat) : Int)) rfl (by first | rfl | (congr 1; omega)) ?_
    refine V.nil ?_
    refine Post.took ?_
    refine VA.take 6 rfl (by kernel_rfl) (by kernel_rfl) rfl (by kernel_rfl) (by kernel_rfl) (by repeat' constructor) ?_
    refine V.move rfl rfl rfl ?_
    refine V.nil ?_
    refine Post.took ?_
    refine VA.take 7 rfl (by kernel_rfl) (by kernel_rfl) rfl (by kernel_rfl) (by kernel_rfl) (by repeat' constructor) ?_
    refine V.bin rfl rfl rfl rfl (bin_addN .u32 _ 1 (IntWalk.u32_in _ (by omega))) ?_
    refine V.know (t := 75) (y := .int .u32 (((v / 10000 % 100) * 2 + 1 : Nat) : Int)) rfl (by congr 1) ?_
    refine V.nil ?_
    refine Post.took ?_
    refine VA.take 8 rfl (by kernel_rfl) (by kernel_rfl) rfl (by kernel_rfl) (by kernel_rfl) (by repeat' constructor) ?_
    refine V.indexSt (l := SM) (i := (v / 10000 % 100) * 2 + 1) (c := Lib.sm ((v / 10000 % 100) * 2 + 1)) rfl rfl rfl rfl (sm_get _ (by omega)) ?_
    refine V.nil ?_
    refine Post.took ?_
    refine VA.take 9 rfl (by kernel_rfl) (by kernel_rfl) rfl (by kernel_rfl) (by kernel_rfl) (by repeat' constructor) ?_
    refine V.move rfl rfl rfl ?_
    refine V.nil ?_
    refine Post.took ?_
    refine VA.take 10 rfl (by kernel_rfl) (by kernel_rfl) rfl (by kernel_rfl) (by kernel_rfl) (by repeat' constructor) ?_
    refine V.indexSt (l := SM) (i := (v / 10000 % 100) * 2) (c := Lib.sm ((v / 10000 % 100) * 2)) rfl rfl rfl rfl (sm_get _ (by omega)) ?_
    refine V.nil ?_
    refine Post.took ?_
    refine VA.take 11 rfl (by kernel_rfl) (by kernel_rfl) rfl (by kernel_rfl) (by kernel_rfl) (by repeat' constructor) ?_
    refine V.indexO (i := n - 5) rfl rfl rfl rfl (by have := hF2.le; omega) ?_
    refine V.nil ?_
    refine Post.took ?_
    refine VA.one 12 (by kernel_rfl) rfl ?_
    apply V.store rfl rfl rfl rfl rfl
    · repeat' constructor
    · exact fb_size _ _ _ _ (by have := hF2.size; omega)
    rw [show (Value.int .u8 ((Lib.sm ((v / 10000 % 100) * 2 + 1)).toNat : Int)) = byv (Lib.sm ((v / 10000 % 100) * 2 + 1)) from rfl, fb_set _ _ _ _ _ (by have := hF2.size; omega)]
    refine V.nil ?_
    refine Post.came (by repeat' constructor) ?_
    refine VA.take 13 rfl (by kernel_rfl) (by kernel_rfl) rfl (by kernel_rfl) (by kernel_rfl) (by repeat' constructor) ?_
    refine V.indexO (i := n - 6) rfl rfl rfl rfl (by have := hF2.le; omega) ?_
    refine V.nil ?_
    refine Post.took ?_
    refine VA.one 14 (by kernel_rfl) rfl ?_
    apply V.store rfl rfl rfl rfl rfl
    · repeat' constructor
    · exact fb_size _ _ _ _ (by rw [Array.size_setIfInBounds]; have := hF2.size; omega)
    rw [show (Value.int .u8 ((Lib.sm ((v / 10000 % 100) * 2)).toNat : Int)) = byv (Lib.sm ((v / 10000 % 100) * 2)) from rfl, fb_set _ _ _ _ _ (by rw [Array.size_setIfInBounds]; have := hF2.size; omega)]
    have hF3 : Lib.FmtInv nd u (n - 6) (v / 1000000) ((d2.setIfInBounds (n - 5) (Lib.sm ((v / 10000 % 100) * 2 + 1))).setIfInBounds (n - 6) (Lib.sm ((v / 10000 % 100) * 2))) := fmt_next hF2 (by omega) (by omega) (by omega) (by omega) (by omega) (by omega)
    generalize ((d2.setIfInBounds (n - 5) (Lib.sm ((v / 10000 % 100) * 2 + 1))).setIfInBounds (n - 6) (Lib.sm ((v / 10000 % 100) * 2))) = d3 at hF3 ⊢
    refine V.nil ?_
    refine Post.came (by repeat' constructor) ?_
    refine VA.done (by kernel_rfl) ?_
    refine Post.nextC ?_
    refine VC.seq ?_
    refine VC.any ([]) 15 15 mixed rfl ?_
    refine VA.take 0 rfl (by kernel_rfl) (by kernel_rfl) rfl (by kernel_rfl) (by kernel_rfl) (by repeat' constructor) ?_
    refine V.move rfl rfl rfl ?_
    refine V.nil ?_
    refine Post.took ?_
    refine VA.take 1 rfl (by kernel_rfl) (by kernel_rfl) rfl (by kernel_rfl) (by kernel_rfl) (by repeat' constructor) ?_
    refine V.move rfl rfl rfl ?_
    refine V.nil ?_
    refine Post.took ?_
    refine VA.take 2 rfl (by kernel_rfl) (by kernel_rfl) rfl (by kernel_rfl) (by kernel_rfl) (by repeat' constructor) ?_
    refine V.bin rfl rfl rfl rfl (bin_subI (by omega)) ?_
    refine V.know (t := 83) (y := .int .i64 ((n - 7 : Nat) : Int)) rfl (by first | rfl | (congr 1; omega)) ?_
    refine V.nil ?_
    refine Post.took ?_
    refine VA.take 3 rfl (by kernel_rfl) (by kernel_rfl) rfl (by kernel_rfl) (by kernel_rfl) (by repeat' constructor) ?_
    refine V.move rfl rfl rfl ?_
    refine V.nil ?_
    refine Post.took ?_
    refine VA.take 4 rfl (by kernel_rfl) (by kernel_rfl) rfl (by kernel_rfl) (by kernel_rfl) (by repeat' constructor) ?_
    refine V.move rfl rfl rfl ?_
    refine V.nil ?_
    refine Post.took ?_
    refine VA.take 5 rfl (by kernel_rfl) (by kernel_rfl) rfl (by kernel_rfl) (by kernel_rfl) (by repeat' constructor) ?_
    refine V.bin rfl rfl rfl rfl (bin_subI (by omega)) ?_
    refine V.know (t := 86) (y := .int .i64 ((n - 8 : Nat) : Int)) rfl (by first | rfl | (congr 1; omega)) ?_
    refine V.nil ?_
    refine Post.took ?_
    refine VA.take 6 rfl (by kernel_rfl) (by kernel_rfl) rfl (by kernel_rfl) (by kernel_rfl) (by repeat' constructor) ?_
    refine V.move rfl rfl rfl ?_
    refine V.nil ?_
    refine Post.took ?_
    refine VA.take 7 rfl (by kernel_rfl) (by kernel_rfl) rfl (by kernel_rfl) (by kernel_rfl) (by repeat' constructor) ?_
    refine V.bin rfl rfl rfl rfl (bin_addN .u32 _ 1 (IntWalk.u32_in _ (by omega))) ?_
    refine V.know (t := 88) (y := .int .u32 (((v / 1000000 % 100) * 2 + 1 : Nat) : Int)) rfl (by congr 1) ?_
    refine V.nil ?_
    refine Post.took ?_
    refine VA.take 8 rfl (by kernel_rfl) (by kernel_rfl) rfl (by kernel_rfl) (by kernel_rfl) (by repeat' constructor) ?_
    refine V.indexSt (l := SM) (i := (v / 1000000 % 100) * 2 + 1) (c := Lib.sm ((v / 1000000 % 100) * 2 + 1)) rfl rfl rfl rfl (sm_get _ (by omega)) ?_
    refine V.nil ?_
    refine Post.took ?_
    refine VA.take 9 rfl (by kernel_rfl) (by kernel_rfl) rfl (by kernel_rfl) (by kernel_rfl) (by repeat' constructor) ?_
    refine V.move rfl rfl rfl ?_
    refine V.nil ?_
    refine Post.took ?_
    refine VA.take 10 rfl (by kernel_rfl) (by kernel_rfl) rfl (by kernel_rfl) (by kernel_rfl) (by repeat' constructor) ?_
    refine V.indexSt (l := SM) (i := (v / 1000000 % 100) * 2) (c := Lib.sm ((v / 1000000 % 100) * 2)) rfl rfl rfl rfl (sm_get _ (by omega)) ?_
    refine V.nil ?_
    refine Post.took ?_
    refine VA.take 11 rfl (by kernel_rfl) (by kernel_rfl) rfl (by kernel_rfl) (by kernel_rfl) (by repeat' constructor) ?_
    refine V.indexO (i := n - 7) rfl rfl rfl rfl (by have := hF3.le; omega) ?_
    refine V.nil ?_
    refine Post.took ?_
    refine VA.one 12 (by kernel_rfl) rfl ?_
    apply V.store rfl rfl rfl rfl rfl
    · repeat' constructor
    · exact fb_size _ _ _ _ (by have := hF3.size; omega)
    rw [show (Value.int .u8 ((Lib.sm ((v / 1000000 % 100) * 2 + 1)).toNat : Int)) = byv (Lib.sm ((v / 1000000 % 100) * 2 + 1)) from rfl, fb_set _ _ _ _ _ (by have := hF3.size; omega)]
    refine V.nil ?_
    refine Post.came (by repeat' constructor) ?_
    refine VA.take 13 rfl (by kernel_rfl) (by kernel_rfl) rfl (by kernel_rfl) (by kernel_rfl) (by repeat' constructor) ?_
    refine V.indexO (i := n - 8) rfl rfl rfl rfl (by have := hF3.le; omega) ?_
    refine V.nil ?_
    refine Post.took ?_
    refine VA.one 14 (by kernel_rfl) rfl ?_
    apply V.store rfl rfl rfl rfl rfl
    · repeat' constructor
    · exact fb_size _ _ _ _ (by rw [Array.size_setIfInBounds]; have := hF3.size; omega)
    rw [show (Value.int .u8 ((Lib.sm ((v / 1000000 % 100) * 2)).toNat : Int)) = byv (Lib.sm ((v / 1000000 % 100) * 2)) from rfl, fb_set _ _ _ _ _ (by rw [Array.size_setIfInBounds]; have := hF3.size; omega)]
    have hF4 : Lib.FmtInv nd u (n - 8) (v / 100000000) ((d3.setIfInBounds (n - 7) (Lib.sm ((v / 1000000 % 100) * 2 + 1))).setIfInBounds (n - 8) (Lib.sm ((v / 1000000 % 100) * 2))) := fmt_next hF3 (by omega) (by omega) (by omega) (by omega) (by omega) (by omega)
    generalize ((d3.setIfInBounds (n - 7) (Lib.sm ((v / 1000000 % 100) * 2 + 1))).setIfInBounds (n - 8) (Lib.sm ((v / 1000000 % 100) * 2))) = d4 at hF4 ⊢
    refine V.nil ?_
    refine Post.came (by repeat' constructor) ?_
    refine VA.done (by kernel_rfl) ?_
    refine Post.nextC ?_
    refine VC.region ?_
    refine V.move rfl rfl rfl ?_
    refine V.bin rfl rfl rfl rfl (bin_subI (by omega)) ?_
    refine V.know (t := 95) (y := .int .i64 ((n - 8 : Nat) : Int)) rfl (by first | rfl | (congr 1; omega)) ?_
    refine V.assign rfl rfl rfl ?_
    refine V.nil ?_
    refine Post.blockNormal (Post.round (n - 8, v / 100000000, d4) ?_ ?_ ?_ ?_)
    · show (Lib.FmtInv nd u (n - 8) (v / 100000000) (d4)) ∧ ((v / 100000000) < 18446744073709551616)
      exact ⟨hF4, by omega⟩
    · show (n - 8) < n
      omega
    · exact ⟨rfl, rfl, rfl, trivial⟩
    · repeat' constructor
  · try simp only [decide_eq_true_eq, decide_eq_false_iff_not, Bool.not_eq_true', Bool.not_eq_false', Bool.not_eq_eq_eq_not, Bool.not_true, Bool.not_false, beq_iff_eq, beq_eq_false_iff_ne, ne_eq, Int.not_lt, Int.not_le, Option.isSome_some, Option.isNone_none, Option.isSome_none, Option.isNone_some, Classical.not_not] at h1
    refine VC.exit ?_
    refine Post.thenExit (Post.thenExit (Post.blockHit (Post.nextC ?_)))
    refine VC.seq ?_
    refine VC.region ?_
    have hv7 := hF.lt7 (by omega)
    refine V.move rfl rfl rfl ?_
    refine V.conv _ rfl rfl rfl (IntWalk.u32_in _ (by omega)) ?_
    refine V.assign rfl rfl rfl ?_
    refine V.nil ?_
    refine Post.nextC ?_
    refine VC.seq ?_
    refine VC.seq ?_
    refine VC.region ?_
    refine V.move rfl rfl rfl ?_
    refine V.bin rfl rfl rfl rfl (bin_geq _ _ _) ?_
    refine V.nil ?_
    refine Post.nextC ?_
    refine VC.cond rfl (fun h2 => ?_) (fun h2 => ?_)
    · try simp only [decide_eq_true_eq, decide_eq_false_iff_not, Bool.not_eq_true', Bool.not_eq_false', Bool.not_eq_eq_eq_not, Bool.not_true, Bool.not_false, beq_iff_eq, beq_eq_false_iff_ne, ne_eq, Int.not_lt, Int.not_le, Option.isSome_some, Option.isNone_none, Option.isSome_none, Option.isNone_some, Classical.not_not] at h2
      refine VC.seq ?_
      refine VC.region ?_
      refine V.move rfl rfl rfl ?_
      refine V.bin rfl rfl rfl rfl (bin_remN .u32 _ 10000 (by omega)) ?_
      refine V.assign rfl rfl rfl ?_
      refine V.nil ?_
      refine Post.nextC ?_
      refine VC.seq ?_
      refine VC.region ?_
      refine V.move rfl rfl rfl ?_
      refine V.bin rfl rfl rfl rfl (bin_quoN .u32 _ 10000 (by omega) (IntWalk.u32_in _ (by omega))) ?_
      refine V.assign rfl rfl rfl ?_
      refine V.nil ?_
      refine Post.nextC ?_
      refine VC.seq ?_
      refine VC.region ?_
      refine V.move rfl rfl rfl ?_
      refine V.bin rfl rfl rfl rfl (bin_quoN .u32 _ 100 (by omega) (IntWalk.u32_in _ (by omega))) ?_
      refine V.bin rfl rfl rfl rfl (bin_mulN .u32 _ 2 (IntWalk.u32_in _ (by omega))) ?_
      refine V.know (t := 106) (y := .int .u32 (((v / 100 % 100) * 2 : Nat) : Int)) rfl (by congr 1; omega) ?_
      refine V.move rfl rfl rfl ?_
      refine V.bin rfl rfl rfl rfl (bin_remN .u32 _ 100 (by omega)) ?_
      refine V.bin rfl rfl rfl rfl (bin_mulN .u32 _ 2 (IntWalk.u32_in _ (by omega))) ?_
      refine V.know (t := 109) (y := .int .u32 (((v % 100) * 2 : Nat) : Int)) rfl (by congr 1; omega) ?_
      refine V.assign rfl rfl rfl ?_
      refine V.assign rfl rfl rfl ?_
      refine V.nil ?_
      refine Post.nextC ?_
      refine VC.seq ?_
      refine VC.any ([]) 15 15 mixed rfl ?_
      refine VA.take 0 rfl (by kernel_rfl) (by kernel_rfl) rfl (by kernel_rfl) (by kernel_rfl) (by repeat' constructor) ?_
      refine V.move rfl rfl rfl ?_
      refine V.nil ?_
      refine Post.took ?_
      refine VA.take 1 rfl (by kernel_rfl) (by kernel_rfl) rfl (by kernel_rfl) (by kernel_rfl) (by repeat' constructor) ?_
      refine V.move rfl rfl rfl ?_
      refine V.nil ?_
      refine Post.took ?_
      refine VA.take 2 rfl (by kernel_rfl) (by kernel_rfl) rfl (by kernel_rfl) (by kernel_rfl) (by repeat' constructor) ?_
      refine V.bin rfl rfl rfl rfl (bin_subI (by omega)) ?_
      refine V.know (t := 112) (y := .int .i64 ((n - 1 : Nat) : Int)) rfl (by first | rfl | (congr 1; omega)) ?_
      refine V.nil ?_
      refine Post.took ?_
      refine VA.take 3 rfl (by kernel_rfl) (by kernel_rfl) rfl (by kernel_rfl) (by kernel_rfl) (by repeat' constructor) ?_
      refine V.move rfl rfl rfl ?_
      refine V.nil ?_
      refine Post.took ?_
      refine VA.take 4 rfl (by kernel_rfl) (by kernel_rfl) rfl (by kernel_rfl) (by kernel_rfl) (by repeat' constructor) ?_
      refine V.move rfl rfl rfl ?_
      refine V.nil ?_
      refine Post.took ?_
      refine VA.take 5 rfl (by kernel_rfl) (by kernel_rfl) rfl (by kernel_rfl) (by kernel_rfl) (by repeat' constructor) ?_
      refine V.bin rfl rfl rfl rfl (bin_subI (by omega)) ?_
      refine V.know (t := 115) (y := .int .i64 ((n - 2 : Nat) : Int)) rfl (by first | rfl | (congr 1; omega)) ?_
      refine V.nil ?_
      refine Post.took ?_
      refine VA.take 6 rfl (by kernel_rfl) (by kernel_rfl) rfl (by kernel_rfl) (by kernel_rfl) (by repeat' constructor) ?_
      refine V.move rfl rfl rfl ?_
      refine V.nil ?_
      refine Post.took ?_
      refine VA.take 7 rfl (by kernel_rfl) (by kernel_rfl) rfl (by kernel_rfl) (by kernel_rfl) (by repeat' constructor) ?_
      refine V.bin rfl rfl rfl rfl (bin_addN .u32 _ 1 (IntWalk.u32_in _ (by omega))) ?_
      refine V.know (t := 117) (y := .int .u32 (((v % 100) * 2 + 1 : Nat) : Int)) rfl (by congr 1) ?_
      refine V.nil ?_
      refine Post.took ?_
      refine VA.take 8 rfl (by kernel_rfl) (by kernel_rfl) rfl (by kernel_rfl) (by kernel_rfl) (by repeat' constructor) ?_
      refine V.indexSt (l := SM) (i := (v % 100) * 2 + 1) (c := Lib.sm ((v % 100) * 2 + 1)) rfl rfl rfl rfl (sm_get _ (by omega)) ?_
      refine V.nil ?_
      refine Post.took ?_
      refine VA.take 9 rfl (by kernel_rfl) (by kernel_rfl) rfl (by kernel_rfl) (by kernel_rfl) (by repeat' constructor) ?_
      refine V.move rfl rfl rfl ?_
      refine V.nil ?_
      refine Post.took ?_
      refine VA.take 10 rfl (by kernel_rfl) (by kernel_rfl) rfl (by kernel_rfl) (by kernel_rfl) (by repeat' constructor) ?_
      refine V.indexSt (l := SM) (i := (v % 100) * 2) (c := Lib.sm ((v % 100) * 2)) rfl rfl rfl rfl (sm_get _ (by omega)) ?_
      refine V.nil ?_
      refine Post.took ?_
      refine VA.take 11 rfl (by kernel_rfl) (by kernel_rfl) rfl (by kernel_rfl) (by kernel_rfl) (by repeat' constructor) ?_
      refine V.indexO (i := n - 1) rfl rfl rfl rfl (by have := hF.le; omega) ?_
      refine V.nil ?_
      refine Post.took ?_
      refine VA.one 12 (by kernel_rfl) rfl ?_
      apply V.store rfl rfl rfl rfl rfl
      · repeat' constructor
      · exact fb_size _ _ _ _ (by have := hF.size; omega)
      rw [show (Value.int .u8 ((Lib.sm ((v % 100) * 2 + 1)).toNat : Int)) = byv (Lib.sm ((v % 100) * 2 + 1)) from rfl, fb_set _ _ _ _ _ (by have := hF.size; omega)]
      refine V.nil ?_
      refine Post.came (by repeat' constructor) ?_
      refine VA.take 13 rfl (by kernel_rfl) (by kernel_rfl) rfl (by kernel_rfl) (by kernel_rfl) (by repeat' constructor) ?_
      refine V.indexO (i := n - 2) rfl rfl rfl rfl (by have := hF.le; omega) ?_
      refine V.nil ?_
      refine Post.took ?_
      refine VA.one 14 (by kernel_rfl) rfl ?_
      apply V.store rfl rfl rfl rfl rfl
      · repeat' constructor
      · exact fb_size _ _ _ _ (by rw [Array.size_setIfInBounds]; have := hF.size; omega)
      rw [show (Value.int .u8 ((Lib.sm ((v % 100) * 2)).toNat : Int)) = byv (Lib.sm ((v % 100) * 2)) from rfl, fb_set _ _ _ _ _ (by rw [Array.size_setIfInBounds]; have := hF.size; omega)]
      have hF1 : Lib.FmtInv nd u (n - 2) (v / 100) ((d.setIfInBounds (n - 1) (Lib.sm ((v % 100) * 2 + 1))).setIfInBounds (n - 2) (Lib.sm ((v % 100) * 2))) := fmt_next hF (by omega) (by omega) (by omega) (by omega) (by omega) (by omega)
      generalize ((d.setIfInBounds (n - 1) (Lib.sm ((v % 100) * 2 + 1))).setIfInBounds (n - 2) (Lib.sm ((v % 100) * 2))) = d1 at hF1 ⊢
      refine V.nil ?_
      refine Post.came (by repeat' constructor) ?_
      refine VA.done (by kernel_rfl) ?_
      refine Post.nextC ?_
      refine VC.seq ?_
      refine VC.any ([]) 15 15 mixed rfl ?_
      refine VA.take 0 rfl (by kernel_rfl) (by kernel_rfl) rfl (by kernel_rfl) (by kernel_rfl) (by repeat' constructor) ?_
      refine V.move rfl rfl rfl ?_
      refine V.nil ?_
      refine Post.took ?_
      refine VA.take 1 rfl (by kernel_rfl) (by kernel_rfl) rfl (by kernel_rfl) (by kernel_rfl) (by repeat' constructor) ?_
      refine V.move rfl rfl rfl ?_
      refine V.nil ?_
      refine Post.took ?_
      refine VA.take 2 rfl (by kernel_rfl) (by kernel_rfl) rfl (by kernel_rfl) (by kernel_rfl) (by repeat' constructor) ?_
      refine V.bin rfl rfl rfl rfl (bin_subI (by omega)) ?_
      refine V.know (t := 125) (y := .int .i64 ((n - 3 : Nat) : Int)) rfl (by first | rfl | (congr 1; omega)) ?_
      refine V.nil ?_
      refine Post.took ?_
      refine VA.take 3 rfl (by kernel_rfl) (by kernel_rfl) rfl (by kernel_rfl) (by kernel_rfl) (by repeat' constructor) ?_
      refine V.move rfl rfl rfl ?_
      refine V.nil ?_
      refine Post.took ?_
      refine VA.take 4 rfl (by kernel_rfl) (by kernel_rfl) rfl (by kernel_rfl) (by kernel_rfl) (by repeat' constructor) ?_
      refine V.move rfl rfl rfl ?_
      refine V.nil ?_
      refine Post.took ?_
      refine VA.take 5 rfl (by kernel_rfl) (by kernel_rfl) rfl (by kernel_rfl) (by kernel_rfl) (by repeat' constructor) ?_
      refine V.bin rfl rfl rfl rfl (bin_subI (by omega)) ?_
      refine V.know (t := 128) (y := .int .i64 ((n - 4 : Nat) : Int)) rfl (by first | rfl | (congr 1; omega)) ?_
      refine V.nil ?_
      refine Post.took ?_
      refine VA.take 6 rfl (by kernel_rfl) (by kernel_rfl) rfl (by kernel_rfl) (by kernel_rfl) (by repeat' constructor) ?_
      refine V.move rfl rfl rfl ?_
      refine V.nil ?_
      refine Post.took ?_
      refine VA.take 7 rfl (by kernel_rfl) (by kernel_rfl) rfl (by kernel_rfl) (by kernel_rfl) (by repeat' constructor) ?_
      refine V.bin rfl rfl rfl rfl (bin_addN .u32 _ 1 (IntWalk.u32_in _ (by omega))) ?_
      refine V.know (t := 130) (y := .int .u32 (((v / 100 % 100) * 2 + 1 : Nat) : Int)) rfl (by congr 1) ?_
      refine V.nil ?_
      refine Post.took ?_
      refine VA.take 8 rfl (by kernel_rfl) (by kernel_rfl) rfl (by kernel_rfl) (by kernel_rfl) (by repeat' constructor) ?_
      refine V.indexSt (l := SM) (i := (v / 100 % 100) * 2 + 1) (c := Lib.sm ((v / 100 % 100) * 2 + 1)) rfl rfl rfl rfl (sm_get _ (by omega)) ?_
      refine V.nil ?_
      refine Post.took ?_
      refine VA.take 9 rfl (by kernel_rfl) (by kernel_rfl) rfl (by kernel_rfl) (by kernel_rfl) (by repeat' constructor) ?_
      refine V.move rfl rfl rfl ?_
      refine V.nil ?_
      refine Post.took ?_
      refine VA.take 10 rfl (by kernel_rfl) (by kernel_rfl) rfl (by kernel_rfl) (by kernel_rfl) (by repeat' constructor) ?_
      refine V.indexSt (l := SM) (i := (v / 100 % 100) * 2) (c := Lib.sm ((v / 100 % 100) * 2)) rfl rfl rfl rfl (sm_get _ (by omega)) ?_
      refine V.nil ?_
      refine Post.took ?_
      refine VA.take 11 rfl (by kernel_rfl) (by kernel_rfl) rfl (by kernel_rfl) (by kernel_rfl) (by repeat' constructor) ?_
      refine V.indexO (i := n - 3) rfl rfl rfl rfl (by have := hF1.le; omega) ?_
      refine V.nil ?_
      refine Post.took ?_
      refine VA.one 12 (by kernel_rfl) rfl ?_
      apply V.store rfl rfl rfl rfl rfl
      · repeat' constructor
      · exact fb_size _ _ _ _ (by have := hF1.size; omega)
      rw [show (Value.int .u8 ((Lib.sm ((v / 100 % 100) * 2 + 1)).toNat : Int)) = byv (Lib.sm ((v / 100 % 100) * 2 + 1)) from rfl, fb_set _ _ _ _ _ (by have := hF1.size; omega)]
      refine V.nil ?_
      refine Post.came (by repeat' constructor) ?_
      refine VA.take 13 rfl (by kernel_rfl) (by kernel_rfl) rfl (by kernel_rfl) (by kernel_rfl) (by repeat' constructor) ?_
      refine V.indexO (i := n - 4) rfl rfl rfl rfl (by have := hF1.le; omega) ?_
      refine V.nil ?_
      refine Post.took ?_
      refine VA.one 14 (by kernel_rfl) rfl ?_
      apply V.store rfl rfl rfl rfl rfl
      · repeat' constructor
      · exact fb_size _ _ _ _ (by rw [Array.size_setIfInBounds]; have := hF1.size; omega)
      rw [show (Value.int .u8 ((Lib.sm ((v / 100 % 100) * 2)).toNat : Int)) = byv (Lib.sm ((v / 100 % 100) * 2)) from rfl, fb_set _ _ _ _ _ (by rw [Array.size_setIfInBounds]; have := hF1.size; omega)]
      have hF2 : Lib.FmtInv nd u (n - 4) (v / 10000) ((d1.setIfInBounds (n - 3) (Lib.sm ((v / 100 % 100) * 2 + 1))).setIfInBounds (n - 4) (Lib.sm ((v / 100 % 100) * 2))) := fmt_next hF1 (by omega) (by omega) (by omega) (by omega) (by omega) (by omega)
      generalize ((d1.setIfInBounds (n - 3) (Lib.sm ((v / 100 % 100) * 2 + 1))).setIfInBounds (n - 4) (Lib.sm ((v / 100 % 100) * 2))) = d2 at hF2 ⊢
      refine V.nil ?_
      refine Post.came (by repeat' constructor) ?_
      refine VA.done (by kernel_rfl) ?_
      refine Post.nextC ?_
      refine VC.region ?_
      refine V.move rfl rfl rfl ?_
      refine V.bin rfl rfl rfl rfl (bin_subI (by omega)) ?_
      refine V.know (t := 137) (y := .int .i64 ((n - 4 : Nat) : Int)) rfl (by first | rfl | (congr 1; omega)) ?_
      refine V.assign rfl rfl rfl ?_
      refine V.nil ?_
      refine Post.nextC ?_
      refine VC.seq ?_
      refine VC.seq ?_
      refine VC.region ?_
      generalize hn2 : n - 4 = n2 at hF2 ⊢
      generalize hv2 : v / 10000 = v2 at hF2 ⊢
      obtain ⟨dd, hG⟩ : ∃ m, m = d2 := ⟨_, rfl⟩
      subst hG
      have hG := hF2
      refine V.move rfl rfl rfl ?_
      refine V.bin rfl rfl rfl rfl (bin_geq _ _ _) ?_
      refine V.nil ?_
      refine Post.nextC ?_
      refine VC.cond rfl (fun h3 => ?_) (fun h3 => ?_)
      · try simp only [decide_eq_true_eq, decide_eq_false_iff_not, Bool.not_eq_true', Bool.not_eq_false', Bool.not_eq_eq_eq_not, Bool.not_true, Bool.not_false, beq_iff_eq, beq_eq_false_iff_ne, ne_eq, Int.not_lt, Int.not_le, Option.isSome_some, Option.isNone_none, Option.isSome_none, Option.isNone_some, Classical.not_not] at h3
        refine VC.seq ?_
        refine VC.region ?_
        refine V.move rfl rfl rfl ?_
        refine V.bin rfl rfl rfl rfl (bin_remN .u32 _ 100 (by omega)) ?_
        refine V.bin rfl rfl rfl rfl (bin_mulN .u32 _ 2 (IntWalk.u32_in _ (by omega))) ?_
        refine V.know (t := 142) (y := .int .u32 (((v2 % 100) * 2 : Nat) : Int)) rfl (by congr 1) ?_
        refine V.assign rfl rfl rfl ?_
        refine V.nil ?_
        refine Post.nextC ?_
        refine VC.seq ?_
        refine VC.region ?_
        refine V.move rfl rfl rfl ?_
        refine V.bin rfl rfl rfl rfl (bin_quoN .u32 _ 100 (by omega) (IntWalk.u32_in _ (by omega))) ?_
        refine V.assign rfl rfl rfl ?_
        refine V.nil ?_
        refine Post.nextC ?_
        refine VC.seq ?_
        refine VC.any ([]) 15 15 mixed rfl ?_
        refine VA.take 0 rfl (by kernel_rfl) (by kernel_rfl) rfl (by kernel_rfl) (by kernel_rfl) (by repeat' constructor) ?_
        refine V.move rfl rfl rfl ?_
        refine V.nil ?_
        refine Post.took ?_
        refine VA.take 1 rfl (by kernel_rfl) (by kernel_rfl) rfl (by kernel_rfl) (by kernel_rfl) (by repeat' constructor) ?_
        refine V.move rfl rfl rfl ?_
        refine V.nil ?_
        refine Post.took ?_
        refine VA.take 2 rfl (by kernel_rfl) (by kernel_rfl) rfl (by kernel_rfl) (by kernel_rfl) (by repeat' constructor) ?_
        refine V.bin rfl rfl rfl rfl (bin_subI (by omega)) ?_
        refine V.know (t := 147) (y := .int .i64 ((n2 - 1 : Nat) : Int)) rfl (by first | rfl | (congr 1; omega)) ?_
        refine V.nil ?_
        refine Post.took ?_
        refine VA.take 3 rfl (by kernel_rfl) (by kernel_rfl) rfl (by kernel_rfl) (by kernel_rfl) (by repeat' constructor) ?_
        refine V.move rfl rfl rfl ?_
        refine V.nil ?_
        refine Post.took ?_
        refine VA.take 4 rfl (by kernel_rfl) (by kernel_rfl) rfl (by kernel_rfl) (by kernel_rfl) (by repeat' constructor) ?_
        refine V.move rfl rfl rfl ?_
        refine V.nil ?_
        refine Post.took ?_
        refine VA.take 5 rfl (by kernel_rfl) (by kernel_rfl) rfl (by kernel_rfl) (by kernel_rfl) (by repeat' constructor) ?_
        refine V.bin rfl rfl rfl rfl (bin_subI (by omega)) ?_
        refine V.know (t := 150) (y := .int .i64 ((n2 - 2 : Nat) : Int)) rfl (by first | rfl | (congr 1; omega)) ?_
        refine V.nil ?_
        refine Post.took ?_
        refine VA.take 6 rfl (by kernel_rfl) (by kernel_rfl) rfl (by kernel_rfl) (by kernel_rfl) (by repeat' constructor) ?_
        refine V.move rfl rfl rfl ?_
        refine V.nil ?_
        refine Post.took ?_
        refine VA.take 7 rfl (by kernel_rfl) (by kernel_rfl) rfl (by kernel_rfl) (by kernel_rfl) (by repeat' constructor) ?_
        refine V.bin rfl rfl rfl rfl (bin_addN .u32 _ 1 (IntWalk.u32_in _ (by omega))) ?_
        refine V.know (t := 152) (y := .int .u32 (((v2 % 100) * 2 + 1 : Nat) : Int)) rfl (by congr 1) ?_
        refine V.nil ?_
        refine Post.took ?_
        refine VA.take 8 rfl (by kernel_rfl) (by kernel_rfl) rfl (by kernel_rfl) (by kernel_rfl) (by repeat' constructor) ?_
        refine V.indexSt (l := SM) (i := (v2 % 100) * 2 + 1) (c := Lib.sm ((v2 % 100) * 2 + 1)) rfl rfl rfl rfl (sm_get _ (by omega)) ?_
        refine V.nil ?_
        refine Post.took ?_
        refine VA.take 9 rfl (by kernel_rfl) (by kernel_rfl) rfl (by kernel_rfl) (by kernel_rfl) (by repeat' constructor) ?_
        refine V.move rfl rfl rfl ?_
        refine V.nil ?_
        refine Post.took ?_
        refine VA.take 10 rfl (by kernel_rfl) (by kernel_rfl) rfl (by kernel_rfl) (by kernel_rfl) (by repeat' constructor) ?_
        refine V.indexSt (l := SM) (i := (v2 % 100) * 2) (c := Lib.sm ((v2 % 100) * 2)) rfl rfl rfl rfl (sm_get _ (by omega)) ?_
        refine V.nil ?_
        refine Post.took ?_
        refine VA.take 11 rfl (by kernel_rfl) (by kernel_rfl) rfl (by kernel_rfl) (by kernel_rfl) (by repeat' constructor) ?_
        refine V.indexO (i := n2 - 1) rfl rfl rfl rfl (by have := hG.le; omega) ?_
        refine V.nil ?_
        refine Post.took ?_
        refine VA.one 12 (by kernel_rfl) rfl ?_
        apply V.store rfl rfl rfl rfl rfl
        · repeat' constructor
        · exact fb_size _ _ _ _ (by have := hG.size; omega)
        rw [show (Value.int .u8 ((Lib.sm ((v2 % 100) * 2 + 1)).toNat : Int)) = byv (Lib.sm ((v2 % 100) * 2 + 1)) from rfl, fb_set _ _ _ _ _ (by have := hG.size; omega)]
        refine V.nil ?_
        refine Post.came (by repeat' constructor) ?_
        refine VA.take 13 rfl (by kernel_rfl) (by kernel_rfl) rfl (by kernel_rfl) (by kernel_rfl) (by repeat' constructor) ?_
        refine V.indexO (i := n2 - 2) rfl rfl rfl rfl (by have := hG.le; omega) ?_
        refine V.nil ?_
        refine Post.took ?_
        refine VA.one 14 (by kernel_rfl) rfl ?_
        apply V.store rfl rfl rfl rfl rfl
        · repeat' constructor
        · exact fb_size _ _ _ _ (by rw [Array.size_setIfInBounds]; have := hG.size; omega)
        rw [show (Value.int .u8 ((Lib.sm ((v2 % 100) * 2)).toNat : Int)) = byv (Lib.sm ((v2 % 100) * 2)) from rfl, fb_set _ _ _ _ _ (by rw [Array.size_setIfInBounds]; have := hG.size; omega)]
        have hH : Lib.FmtInv nd u (n2 - 2) (v2 / 100) ((dd.setIfInBounds (n2 - 1) (Lib.sm ((v2 % 100) * 2 + 1))).setIfInBounds (n2 - 2) (Lib.sm ((v2 % 100) * 2))) := fmt_next hG (by omega) (by omega) (by omega) (by omega) (by omega) (by omega)
        generalize ((dd.setIfInBounds (n2 - 1) (Lib.sm ((v2 % 100) * 2 + 1))).setIfInBounds (n2 - 2) (Lib.sm ((v2 % 100) * 2))) = d5 at hH ⊢
        refine V.nil ?_
        refine Post.came (by repeat' constructor) ?_
        refine VA.done (by kernel_rfl) ?_
        refine Post.nextC ?_
        refine VC.region ?_
        refine V.move rfl rfl rfl ?_
        refine V.bin rfl rfl rfl rfl (bin_subI (by omega)) ?_
        refine V.know (t := 159) (y := .int .i64 ((n2 - 2 : Nat) : Int)) rfl (by first | rfl | (congr 1; omega)) ?_
        refine V.assign rfl rfl rfl ?_
        refine V.nil ?_
        refine Post.nextC ?_
        refine VC.seq ?_
        refine VC.region ?_
        generalize hn3 : n2 - 2 = n3 at hH ⊢
        generalize hv3 : v2 / 100 = v3 at hH ⊢
        obtain ⟨de, hK⟩ : ∃ m, m = d5 := ⟨_, rfl⟩
        subst hK
        have hK := hH
        refine V.move rfl rfl rfl ?_
        refine V.bin rfl rfl rfl rfl (bin_gtr _ _ _) ?_
        refine V.nil ?_
        refine Post.nextC ?_
        refine VC.cond rfl (fun h4 => ?_) (fun h4 => ?_)
        · try simp only [decide_eq_true_eq, decide_eq_false_iff_not, Bool.not_eq_true', Bool.not_eq_false', Bool.not_eq_eq_eq_not, Bool.not_true, Bool.not_false, beq_iff_eq, beq_eq_false_iff_ne, ne_eq, Int.not_lt, Int.not_le, Option.isSome_some, Option.isNone_none, Option.isSome_none, Option.isNone_some, Classical.not_not] at h4
          refine VC.region ?_
          obtain rfl : n3 = 1 := by omega
          have hK1 := hK.step1
          have hv10 : v3 < 10 := by simpa using hK.small
          have hsz := hK.size
          have hle1 := hK.le
          refine V.move rfl rfl rfl ?_
          refine V.move rfl rfl rfl ?_
          refine V.bin rfl rfl rfl rfl (bin_addN .u32 48 _ (IntWalk.u32_in _ (by omega))) ?_
          refine V.conv _ rfl rfl rfl (IntWalk.u8_in _ (by omega)) ?_
          refine V.indexO (i := 0) rfl rfl rfl rfl (by omega) ?_
          apply V.store rfl rfl rfl rfl rfl
          · repeat' constructor
          · exact fb_size _ _ _ _ (by omega)
          rw [byv_ofNat (by omega), fb_set _ _ _ _ _ (by omega)]
          refine V.nil ?_
          refine Post.end_ rfl (?_)
          apply Post.ret0 rfl 
          · exact ⟨_, _, hK1, rfl⟩
          · repeat' constructor
        · try simp only [decide_eq_true_eq, decide_eq_false_iff_not, Bool.not_eq_true', Bool.not_eq_false', Bool.not_eq_eq_eq_not, Bool.not_true, Bool.not_false, beq_iff_eq, beq_eq_false_iff_ne, ne_eq, Int.not_lt, Int.not_le, Option.isSome_some, Option.isNone_none, Option.isSome_none, Option.isNone_some, Classical.not_not] at h4
          refine VC.skip ?_
          refine Post.end_ rfl (?_)
          apply Post.ret0 rfl 
          · obtain rfl : n3 = 0 := by omega
            exact ⟨_, _, hK, rfl⟩
          · repeat' constructor
      · try simp only [decide_eq_true_eq, decide_eq_false_iff_not, Bool.not_eq_true', Bool.not_eq_false', Bool.not_eq_eq_eq_not, Bool.not_true, Bool.not_false, beq_iff_eq, beq_eq_false_iff_ne, ne_eq, Int.not_lt, Int.not_le, Option.isSome_some, Option.isNone_none, Option.isSome_none, Option.isNone_some, Classical.not_not] at h3
        refine VC.skip ?_
        refine Post.nextC ?_
        refine VC.seq ?_
        refine VC.region ?_
        obtain ⟨n3, h0n3⟩ : ∃ m, m = n2 := ⟨_, rfl⟩
        subst h0n3
        obtain ⟨v3, h0v3⟩ : ∃ m, m = v2 := ⟨_, rfl⟩
        subst h0v3
        obtain ⟨de, h0de⟩ : ∃ m, m = dd := ⟨_, rfl⟩
        subst h0de
        have hK := hG
        refine V.move rfl rfl rfl ?_
        refine V.bin rfl rfl rfl rfl (bin_gtr _ _ _) ?_
        refine V.nil ?_
        refine Post.nextC ?_
        refine VC.cond rfl (fun h5 => ?_) (fun h5 => ?_)
        · try simp only [decide_eq_true_eq, decide_eq_false_iff_not, Bool.not_eq_true', Bool.not_eq_false', Bool.not_eq_eq_eq_not, Bool.not_true, Bool.not_false, beq_iff_eq, beq_eq_false_iff_ne, ne_eq, Int.not_lt, Int.not_le, Option.isSome_some, Option.isNone_none, Option.isSome_none, Option.isNone_some, Classical.not_not] at h5
          refine VC.region ?_
          obtain rfl : n3 = 1 := by omega
          have hK1 := hK.step1
          have hv10 : v3 < 10 := by simpa using hK.small
          have hsz := hK.size
          have hle1 := hK.le
          refine V.move rfl rfl rfl ?_
          refine V.move rfl rfl rfl ?_
          refine V.bin rfl rfl rfl rfl (bin_addN .u32 48 _ (IntWalk.u32_in _ (by omega))) ?_
          refine V.conv _ rfl rfl rfl (IntWalk.u8_in _ (by omega)) ?_
          refine V.indexO (i := 0) rfl rfl rfl rfl (by omega) ?_
          apply V.store rfl rfl rfl rfl rfl
          · repeat' constructor
          · exact fb_size _ _ _ _ (by omega)
          rw [byv_ofNat (by omega), fb_set _ _ _ _ _ (by omega)]
          refine V.nil ?_
          refine Post.end_ rfl (?_)
          apply Post.ret0 rfl 
          · exact ⟨_, _, hK1, rfl⟩
          · repeat' constructor
        · try simp only [decide_eq_true_eq, decide_eq_false_iff_not, Bool.not_eq_true', Bool.not_eq_false', Bool.not_eq_eq_eq_not, Bool.not_true, Bool.not_false, beq_iff_eq, beq_eq_false_iff_ne, ne_eq, Int.not_lt, Int.not_le, Option.isSome_some, Option.isNone_none, Option.isSome_none, Option.isNone_some, Classical.not_not] at h5
          refine VC.skip ?_
          refine Post.end_ rfl (?_)
          apply Post.ret0 rfl 
          · obtain rfl : n3 = 0 := by omega
            exact ⟨_, _, hK, rfl⟩
          · repeat' constructor
    · try simp only [decide_eq_true_eq, decide_eq_false_iff_not, Bool.not_eq_true', Bool.not_eq_false', Bool.not_eq_eq_eq_not, Bool.not_true, Bool.not_false, beq_iff_eq, beq_eq_false_iff_ne, ne_eq, Int.not_lt, Int.not_le, Option.isSome_some, Option.isNone_none, Option.isSome_none, Option.isNone_some, Classical.not_not] at h2
      refine VC.skip ?_
      refine Post.nextC ?_
      refine VC.seq ?_
      refine VC.seq ?_
      refine VC.region ?_
      obtain ⟨n2, h0n2⟩ : ∃ m, m = n := ⟨_, rfl⟩
      subst h0n2
      obtain ⟨v2, h0v2⟩ : ∃ m, m = v := ⟨_, rfl⟩
      subst h0v2
      obtain ⟨dd, h0dd⟩ : ∃ m, m = d := ⟨_, rfl⟩
      subst h0dd
      have hG := hF
      refine V.move rfl rfl rfl ?_
      refine V.bin rfl rfl rfl rfl (bin_geq _ _ _) ?_
      refine V.nil ?_
      refine Post.nextC ?_
      refine VC.cond rfl (fun h6 => ?_) (fun h6 => ?_)
      · try simp only [decide_eq_true_eq, decide_eq_false_iff_not, Bool.not_eq_true', Bool.not_eq_false', Bool.not_eq_eq_eq_not, Bool.not_true, Bool.not_false, beq_iff_eq, beq_eq_false_iff_ne, ne_eq, Int.not_lt, Int.not_le, Option.isSome_some, Option.isNone_none, Option.isSome_none, Option.isNone_some, Classical.not_not] at h6
        refine VC.seq ?_
        refine VC.region ?_
        refine V.move rfl rfl rfl ?_
        refine V.bin rfl rfl rfl rfl (bin_remN .u32 _ 100 (by omega)) ?_
        refine V.bin rfl rfl rfl rfl (bin_mulN .u32 _ 2 (IntWalk.u32_in _ (by omega))) ?_
        refine V.know (t := 142) (y := .int .u32 (((v2 % 100) * 2 : Nat) : Int)) rfl (by congr 1) ?_
        refine V.assign rfl rfl rfl ?_
        refine V.nil ?_
        refine Post.nextC ?_
        refine VC.seq ?_
        refine VC.region ?_
        refine V.move rfl rfl rfl ?_
        refine V.bin rfl rfl rfl rfl (bin_quoN .u32 _ 100 (by omega) (IntWalk.u32_in _ (by omega))) ?_
        refine V.assign rfl rfl rfl ?_
        refine V.nil ?_
        refine Post.nextC ?_
        refine VC.seq ?_
        refine VC.any ([]) 15 15 mixed rfl ?_
        refine VA.take 0 rfl (by kernel_rfl) (by kernel_rfl) rfl (by kernel_rfl) (by kernel_rfl) (by repeat' constructor) ?_
        refine V.move rfl rfl rfl ?_
        refine V.nil ?_
        refine Post.took ?_
        refine VA.take 1 rfl (by kernel_rfl) (by kernel_rfl) rfl (by kernel_rfl) (by kernel_rfl) (by repeat' constructor) ?_
        refine V.move rfl rfl rfl ?_
        refine V.nil ?_
        refine Post.took ?_
        refine VA.take 2 rfl (by kernel_rfl) (by kernel_rfl) rfl (by kernel_rfl) (by kernel_rfl) (by repeat' constructor) ?_
        refine V.bin rfl rfl rfl rfl (bin_subI (by omega)) ?_
        refine V.know (t := 147) (y := .int .i64 ((n2 - 1 : Nat) : Int)) rfl (by first | rfl | (congr 1; omega)) ?_
        refine V.nil ?_
        refine Post.took ?_
        refine VA.take 3 rfl (by kernel_rfl) (by kernel_rfl) rfl (by kernel_rfl) (by kernel_rfl) (by repeat' constructor) ?_
        refine V.move rfl rfl rfl ?_
        refine V.nil ?_
        refine Post.took ?_
        refine VA.take 4 rfl (by kernel_rfl) (by kernel_rfl) rfl (by kernel_rfl) (by kernel_rfl) (by repeat' constructor) ?_
        refine V.move rfl rfl rfl ?_
        refine V.nil ?_
        refine Post.took ?_
        refine VA.take 5 rfl (by kernel_rfl) (by kernel_rfl) rfl (by kernel_rfl) (by kernel_rfl) (by repeat' constructor) ?_
        refine V.bin rfl rfl rfl rfl (bin_subI (by omega)) ?_
        refine V.know (t := 150) (y := .int .i64 ((n2 - 2 : Nat) : Int)) rfl (by first | rfl | (congr 1; omega)) ?_
        refine V.nil ?_
        refine Post.took ?_
        refine VA.take 6 rfl (by kernel_rfl) (by kernel_rfl) rfl (by kernel_rfl) (by kernel_rfl) (by repeat' constructor) ?_
        refine V.move rfl rfl rfl ?_
        refine V.nil ?_
        refine Post.took ?_
        refine VA.take 7 rfl (by kernel_rfl) (by kernel_rfl) rfl (by kernel_rfl) (by kernel_rfl) (by repeat' constructor) ?_
        refine V.bin rfl rfl rfl rfl (bin_addN .u32 _ 1 (IntWalk.u32_in _ (by omega))) ?_
        refine V.know (t := 152) (y := .int .u32 (((v2 % 100) * 2 + 1 : Nat) : Int)) rfl (by congr 1) ?_
        refine V.nil ?_
        refine Post.took ?_
        refine VA.take 8 rfl (by kernel_rfl) (by kernel_rfl) rfl (by kernel_rfl) (by kernel_rfl) (by repeat' constructor) ?_
        refine V.indexSt (l := SM) (i := (v2 % 100) * 2 + 1) (c := Lib.sm ((v2 % 100) * 2 + 1)) rfl rfl rfl rfl (sm_get _ (by omega)) ?_
        refine V.nil ?_
        refine Post.took ?_
        refine VA.take 9 rfl (by kernel_rfl) (by kernel_rfl) rfl (by kernel_rfl) (by kernel_rfl) (by repeat' constructor) ?_
        refine V.move rfl rfl rfl ?_
        refine V.nil ?_
        refine Post.took ?_
        refine VA.take 10 rfl (by kernel_rfl) (by kernel_rfl) rfl (by kernel_rfl) (by kernel_rfl) (by repeat' constructor) ?_
        refine V.indexSt (l := SM) (i := (v2 % 100) * 2) (c := Lib.sm ((v2 % 100) * 2)) rfl rfl rfl rfl (sm_get _ (by omega)) ?_
        refine V.nil ?_
        refine Post.took ?_
        refine VA.take 11 rfl (by kernel_rfl) (by kernel_rfl) rfl (by kernel_rfl) (by kernel_rfl) (by repeat' constructor) ?_
        refine V.indexO (i := n2 - 1) rfl rfl rfl rfl (by have := hG.le; omega) ?_
        refine V.nil ?_
        refine Post.took ?_
        refine VA.one 12 (by kernel_rfl) rfl ?_
        apply V.store rfl rfl rfl rfl rfl
        · repeat' constructor
        · exact fb_size _ _ _ _ (by have := hG.size; omega)
        rw [show (Value.int .u8 ((Lib.sm ((v2 % 100) * 2 + 1)).toNat : Int)) = byv (Lib.sm ((v2 % 100) * 2 + 1)) from rfl, fb_set _ _ _ _ _ (by have := hG.size; omega)]
        refine V.nil ?_
        refine Post.came (by repeat' constructor) ?_
        refine VA.take 13 rfl (by kernel_rfl) (by kernel_rfl) rfl (by kernel_rfl) (by kernel_rfl) (by repeat' constructor) ?_
        refine V.indexO (i := n2 - 2) rfl rfl rfl rfl (by have := hG.le; omega) ?_
        refine V.nil ?_
        refine Post.took ?_
        refine VA.one 14 (by kernel_rfl) rfl ?_
        apply V.store rfl rfl rfl rfl rfl
        · repeat' constructor
        · exact fb_size _ _ _ _ (by rw [Array.size_setIfInBounds]; have := hG.size; omega)
        rw [show (Value.int .u8 ((Lib.sm ((v2 % 100) * 2)).toNat : Int)) = byv (Lib.sm ((v2 % 100) * 2)) from rfl, fb_set _ _ _ _ _ (by rw [Array.size_setIfInBounds]; have := hG.size; omega)]
        have hH : Lib.FmtInv nd u (n2 - 2) (v2 / 100) ((dd.setIfInBounds (n2 - 1) (Lib.sm ((v2 % 100) * 2 + 1))).setIfInBounds (n2 - 2) (Lib.sm ((v2 % 100) * 2))) := fmt_next hG (by omega) (by omega) (by omega) (by omega) (by omega) (by omega)
        generalize ((dd.setIfInBounds (n2 - 1) (Lib.sm ((v2 % 100) * 2 + 1))).setIfInBounds (n2 - 2) (Lib.sm ((v2 % 100) * 2))) = d5 at hH ⊢
        refine V.nil ?_
        refine Post.came (by repeat' constructor) ?_
        refine VA.done (by kernel_rfl) ?_
        refine Post.nextC ?_
        refine VC.region ?_
        refine V.move rfl rfl rfl ?_
        refine V.bin rfl rfl rfl rfl (bin_subI (by omega)) ?_
        refine V.know (t := 159) (y := .int .i64 ((n2 - 2 : Nat) : Int)) rfl (by first | rfl | (congr 1; omega)) ?_
        refine V.assign rfl rfl rfl ?_
        refine V.nil ?_
        refine Post.nextC ?_
        refine VC.seq ?_
        refine VC.region ?_
        generalize hn3 : n2 - 2 = n3 at hH ⊢
        generalize hv3 : v2 / 100 = v3 at hH ⊢
        obtain ⟨de, hK⟩ : ∃ m, m = d5 := ⟨_, rfl⟩
        subst hK
        have hK := hH
        refine V.move rfl rfl rfl ?_
        refine V.bin rfl rfl rfl rfl (bin_gtr _ _ _) ?_
        refine V.nil ?_
        refine Post.nextC ?_
        refine VC.cond rfl (fun h7 => ?_) (fun h7 => ?_)
        · try simp only [decide_eq_true_eq, decide_eq_false_iff_not, Bool.not_eq_true', Bool.not_eq_false', Bool.not_eq_eq_eq_not, Bool.not_true, Bool.not_false, beq_iff_eq, beq_eq_false_iff_ne, ne_eq, Int.not_lt, Int.not_le, Option.isSome_some, Option.isNone_none, Option.isSome_none, Option.isNone_some, Classical.not_not] at h7
          refine VC.region ?_
          obtain rfl : n3 = 1 := by omega
          have hK1 := hK.step1
          have hv10 : v3 < 10 := by simpa using hK.small
          have hsz := hK.size
          have hle1 := hK.le
          refine V.move rfl rfl rfl ?_
          refine V.move rfl rfl rfl ?_
          refine V.bin rfl rfl rfl rfl (bin_addN .u32 48 _ (IntWalk.u32_in _ (by omega))) ?_
          refine V.conv _ rfl rfl rfl (IntWalk.u8_in _ (by omega)) ?_
          refine V.indexO (i := 0) rfl rfl rfl rfl (by omega) ?_
          apply V.store rfl rfl rfl rfl rfl
          · repeat' constructor
          · exact fb_size _ _ _ _ (by omega)
          rw [byv_ofNat (by omega), fb_set _ _ _ _ _ (by omega)]
          refine V.nil ?_
          refine Post.end_ rfl (?_)
          apply Post.ret0 rfl 
          · exact ⟨_, _, hK1, rfl⟩
          · repeat' constructor
        · try simp only [decide_eq_true_eq, decide_eq_false_iff_not, Bool.not_eq_true', Bool.not_eq_false', Bool.not_eq_eq_eq_not, Bool.not_true, Bool.not_false, beq_iff_eq, beq_eq_false_iff_ne, ne_eq, Int.not_lt, Int.not_le, Option.isSome_some, Option.isNone_none, Option.isSome_none, Option.isNone_some, Classical.not_not] at h7
          refine VC.skip ?_
          refine Post.end_ rfl (?_)
          apply Post.ret0 rfl 
          · obtain rfl : n3 = 0 := by omega
            exact ⟨_, _, hK, rfl⟩
          · repeat' constructor
      · try simp only [decide_eq_true_eq, decide_eq_false_iff_not, Bool.not_eq_true', Bool.not_eq_false', Bool.not_eq_eq_eq_not, Bool.not_true, Bool.not_false, beq_iff_eq, beq_eq_false_iff_ne, ne_eq, Int.not_lt, Int.not_le, Option.isSome_some, Option.isNone_none, Option.isSome_none, Option.isNone_some, Classical.not_not] at h6
        refine VC.skip ?_
        refine Post.nextC ?_
        refine VC.seq ?_
        refine VC.region ?_
        obtain ⟨n3, h0n3⟩ : ∃ m, m = n2 := ⟨_, rfl⟩
        subst h0n3
        obtain ⟨v3, h0v3⟩ : ∃ m, m = v2 := ⟨_, rfl⟩
        subst h0v3
        obtain ⟨de, h0de⟩ : ∃ m, m = dd := ⟨_, rfl⟩
        subst h0de
        have hK := hG
        refine V.move rfl rfl rfl ?_
        refine V.bin rfl rfl rfl rfl (bin_gtr _ _ _) ?_
        refine V.nil ?_
        refine Post.nextC ?_
        refine VC.cond rfl (fun h8 => ?_) (fun h8 => ?_)
        · try simp only [decide_eq_true_eq, decide_eq_false_iff_not, Bool.not_eq_true', Bool.not_eq_false', Bool.not_eq_eq_eq_not, Bool.not_true, Bool.not_false, beq_iff_eq, beq_eq_false_iff_ne, ne_eq, Int.not_lt, Int.not_le, Option.isSome_some, Option.isNone_none, Option.isSome_none, Option.isNone_some, Classical.not_not] at h8
          refine VC.region ?_
          obtain rfl : n3 = 1 := by omega
          have hK1 := hK.step1
          have hv10 : v3 < 10 := by simpa using hK.small
          have hsz := hK.size
          have hle1 := hK.le
          refine V.move rfl rfl rfl ?_
          refine V.move rfl rfl rfl ?_
          refine V.bin rfl rfl rfl rfl (bin_addN .u32 48 _ (IntWalk.u32_in _ (by omega))) ?_
          refine V.conv _ rfl rfl rfl (IntWalk.u8_in _ (by omega)) ?_
          refine V.indexO (i := 0) rfl rfl rfl rfl (by omega) ?_
          apply V.store rfl rfl rfl rfl rfl
          · repeat' constructor
          · exact fb_size _ _ _ _ (by omega)
          rw [byv_ofNat (by omega), fb_set _ _ _ _ _ (by omega)]
          refine V.nil ?_
          refine Post.end_ rfl (?_)
          apply Post.ret0 rfl 
          · exact ⟨_, _, hK1, rfl⟩
          · repeat' constructor
        · try simp only [decide_eq_true_eq, decide_eq_false_iff_not, Bool.not_eq_true', Bool.not_eq_false', Bool.not_eq_eq_eq_not, Bool.not_true, Bool.not_false, beq_iff_eq, beq_eq_false_iff_ne, ne_eq, Int.not_lt, Int.not_le, Option.isSome_some, Option.isNone_none, Option.isSome_none, Option.isNone_some, Classical.not_not] at h8
          refine VC.skip ?_
          refine Post.end_ rfl (?_)
          apply Post.ret0 rfl 
          · obtain rfl : n3 = 0 := by omega
            exact ⟨_, _, hK, rfl⟩
          · repeat' constructor

theorem bitLen_unique {x L : Nat} (hx : x < 2 ^ 64) (h0 : x ≠ 0) (h1 : 2 ^ (L - 1) ≤ x) (h2 : x < 2 ^ L) (hL : 1 ≤ L) : Lib.bitLen x = L := by
  obtain ⟨b1, b2, b3⟩ := Lib.bitLenAux_bounds 64 x hx h0
  unfold Lib.bitLen
  generalize Lib.bitLenAux 64 x = M at b1 b2 b3
  rcases Nat.lt_trichotomy M L with h | h | h
  · have := Nat.pow_le_pow_right (n := 2) (by omega) (show M ≤ L - 1 by omega)
    omega
  · exact h
  · have := Nat.pow_le_pow_right (n := 2) (by omega) (show L ≤ M - 1 by omega)
    omega
theorem bitLen_shift {x : Nat} (s : Nat) (hx : x < 18446744073709551616) (h : 2 ^ s ≤ x) : Lib.bitLen x = s + Lib.bitLen (x / 2 ^ s) := by
  have hp : 0 < 2 ^ s := Nat.pow_pos (by omega)
  have hq : x / 2 ^ s ≠ 0 := by
    have := (Nat.le_div_iff_mul_le hp).2 (by rw [Nat.one_mul]; exact h)
    omega
  have hx' : x / 2 ^ s < 2 ^ 64 := Nat.lt_of_le_of_lt (Nat.div_le_self _ _) hx
  obtain ⟨b1, b2, b3⟩ := Lib.bitLenAux_bounds 64 _ hx' hq
  have hl : Lib.bitLen (x / 2 ^ s) = Lib.bitLenAux 64 (x / 2 ^ s) := rfl
  rw [← hl] at b1 b2 b3
  generalize Lib.bitLen (x / 2 ^ s) = L at b1 b2 b3
  refine bitLen_unique hx (by omega) ?_ ?_ (by omega)
  · have h3 := (Nat.le_div_iff_mul_le hp).1 b2
    rw [← Nat.pow_add] at h3
    rwa [show s + L - 1 = L - 1 + s by omega]
  · have h3 := (Nat.div_lt_iff_lt_mul hp).1 b3
    rw [← Nat.pow_add] at h3
    rwa [Nat.add_comm]
theorem bitLen_zero : Lib.bitLen 0 = 0 := by decide
def L8 : List UInt8 := [0, 1, 2, 2, 3, 3, 3, 3, 4, 4, 4, 4, 4, 4, 4, 4, 5, 5, 5, 5, 5, 5, 5, 5, 5, 5, 5, 5, 5, 5, 5, 5, 6, 6, 6, 6, 6, 6, 6, 6, 6, 6, 6, 6, 6, 6, 6, 6, 6, 6, 6, 6, 6, 6, 6, 6, 6, 6, 6, 6, 6, 6, 6, 6, 7, 7, 7, 7, 7, 7, 7, 7, 7, 7, 7, 7, 7, 7, 7, 7, 7, 7, 7, 7, 7, 7, 7, 7, 7, 7, 7, 7, 7, 7, 7, 7, 7, 7, 7, 7, 7, 7, 7, 7, 7, 7, 7, 7, 7, 7, 7, 7, 7, 7, 7, 7, 7, 7, 7, 7, 7, 7, 7, 7, 7, 7, 7, 7, 8, 8, 8, 8, 8, 8, 8, 8, 8, 8, 8, 8, 8, 8, 8, 8, 8, 8, 8, 8, 8, 8, 8, 8, 8, 8, 8, 8, 8, 8, 8, 8, 8, 8, 8, 8, 8, 8, 8, 8, 8, 8, 8, 8, 8, 8, 8, 8, 8, 8, 8, 8, 8, 8, 8, 8, 8, 8, 8, 8, 8, 8, 8, 8, 8, 8, 8, 8, 8, 8, 8, 8, 8, 8, 8, 8, 8, 8, 8, 8, 8, 8, 8, 8, 8, 8, 8, 8, 8, 8, 8, 8, 8, 8, 8, 8, 8, 8, 8, 8, 8, 8, 8, 8, 8, 8, 8, 8, 8, 8, 8, 8, 8, 8, 8, 8, 8, 8, 8, 8, 8, 8, 8, 8, 8, 8, 8, 8]
theorem l8_get (x : Nat) (h : x < 256) : L8[x]? = some (UInt8.ofNat (Lib.bitLen x)) ∧ Lib.bitLen x ≤ 8 := by
  have h2 : ∀ i : Fin 256, L8[i.val]? = some (UInt8.ofNat (Lib.bitLen i.val)) ∧ Lib.bitLen i.val ≤ 8 := by decide +kernel
  exact h2 ⟨x, h⟩
theorem l10_div (x : Nat) : x * 78913 / 2 ^ 18 = Lib.l10 x := rfl
theorem int_cases (i : Int) : (∃ u : Nat, i = (u : Int)) ∨ ∃ u : Nat, 1 ≤ u ∧ i = -(u : Int) := by
  rcases Int.lt_or_le i 0 with h | h
  · exact .inr ⟨i.natAbs, by omega, by omega⟩
  · exact .inl ⟨i.toNat, by omega⟩
theorem zeros_fb (nd : Nat) (h : nd ≤ 20) : ([.int .u8 0, .int .u8 0, .int .u8 0, .int .u8 0, .int .u8 0, .int .u8 0, .int .u8 0, .int .u8 0, .int .u8 0, .int .u8 0, .int .u8 0, .int .u8 0, .int .u8 0, .int .u8 0, .int .u8 0, .int .u8 0, .int .u8 0, .int .u8 0, .int .u8 0, .int .u8 0, .int .u8 0, .int .u8 0, .int .u8 0, .int .u8 0] : List Value).toArray = (Value.int .u8 0 :: ((Array.replicate nd (0 : UInt8)).toList.map byv ++ List.replicate (23 - nd) (Value.int .u8 0))).toArray := by
  have : (Array.replicate nd (0 : UInt8)).toList.map byv = List.replicate nd (Value.int .u8 0) := by simp [byv]
  rw [this, List.replicate_append_replicate, show nd + (23 - nd) = 23 by omega]
  rfl
theorem fmt_digits {u v : Nat} {d : Array UInt8} (h : Lib.FmtInv (Lib.nDigits u) u 0 v d) : d.toList = Lib.decDigits u := by
  have hl := Lib.decDigits_length u
  apply List.ext_getElem
  · rw [hl, Array.length_toList, h.size]
  · intro j h1 h2
    have := Lib.row_is_numeral h j h2
    rw [this]
    have h3 : j < d.size := by simpa using h1
    simp [h3]

theorem c77 {w0 : World} {u : Nat} (hu : u < 18446744073709551616) : CtR Pg w0 77 #[.int .u64 (u : Int)] [] (fun r H => r = .int .i64 (Lib.bitLen u : Int) ∧ H = []) := by
  refine Ct.of_body Go.Proofs.Tryd.func77 rfl 25 rfl rfl (fun R => ?_)
  refine VC.seq ?_
  refine VC.region ?_
  refine V.assign rfl rfl rfl ?_
  refine V.nil ?_
  refine Post.nextC ?_
  refine VC.seq ?_
  refine VC.seq ?_
  refine VC.region ?_
  refine V.move rfl rfl rfl ?_
  refine V.bin rfl rfl rfl rfl (bin_geq _ _ _) ?_
  refine V.nil ?_
  refine Post.nextC ?_
  refine VC.cond rfl (fun h1 => ?_) (fun h1 => ?_)
  · try simp only [decide_eq_true_eq, decide_eq_false_iff_not, Bool.not_eq_true', Bool.not_eq_false', Bool.not_eq_eq_eq_not, Bool.not_true, Bool.not_false, beq_iff_eq, beq_eq_false_iff_ne, ne_eq, Int.not_lt, Int.not_le, Option.isSome_some, Option.isNone_none, Option.isSome_none, Option.isNone_some, Classical.not_not] at h1
    refine VC.seq ?_
    refine VC.region ?_
    have e1 := bitLen_shift 32 hu (show 2 ^ 32 ≤ u by omega)
    have q1 : u / 2 ^ 32 < 2 ^ 32 := by omega
    refine V.move rfl rfl rfl ?_
    refine V.bin rfl rfl rfl rfl (bin_shrK .u64 .u64 _ 32 (by decide)) ?_
    refine V.assign rfl rfl rfl ?_
    refine V.nil ?_
    refine Post.nextC ?_
    refine VC.region ?_
    refine V.assign rfl rfl rfl ?_
    refine V.nil ?_
    refine Post.nextC ?_
    refine VC.seq ?_
    refine VC.seq ?_
    refine VC.region ?_
    generalize u / 2 ^ 32 = x1 at e1 q1 ⊢
    refine V.move rfl rfl rfl ?_
    refine V.bin rfl rfl rfl rfl (bin_geq _ _ _) ?_
    refine V.nil ?_
    refine Post.nextC ?_
    refine VC.cond rfl (fun h2 => ?_) (fun h2 => ?_)
    · try simp only [decide_eq_true_eq, decide_eq_false_iff_not, Bool.not_eq_true', Bool.not_eq_false', Bool.not_eq_eq_eq_not, Bool.not_true, Bool.not_false, beq_iff_eq, beq_eq_false_iff_ne, ne_eq, Int.not_lt, Int.not_le, Option.isSome_some, Option.isNone_none, Option.isSome_none, Option.isNone_some, Classical.not_not] at h2
      refine VC.seq ?_
      refine VC.region ?_
      have e2 := bitLen_shift 16 (x := x1) (by omega) (by omega)
      have q2 : x1 / 2 ^ 16 < 2 ^ 16 := by omega
      refine V.move rfl rfl rfl ?_
      refine V.bin rfl rfl rfl rfl (bin_shrK .u64 .u64 _ 16 (by decide)) ?_
      refine V.assign rfl rfl rfl ?_
      refine V.nil ?_
      refine Post.nextC ?_
      refine VC.region ?_
      refine V.move rfl rfl rfl ?_
      refine V.bin rfl rfl rfl rfl (bin_addI (by omega)) ?_
      refine V.assign rfl rfl rfl ?_
      refine V.nil ?_
      refine Post.nextC ?_
      refine VC.seq ?_
      refine VC.seq ?_
      refine VC.region ?_
      generalize x1 / 2 ^ 16 = x2 at e2 q2 ⊢
      refine V.move rfl rfl rfl ?_
      refine V.bin rfl rfl rfl rfl (bin_geq _ _ _) ?_
      refine V.nil ?_
      refine Post.nextC ?_
      refine VC.cond rfl (fun h3 => ?_) (fun h3 => ?_)
      · try simp only [decide_eq_true_eq, decide_eq_false_iff_not, Bool.not_eq_true', Bool.not_eq_false', Bool.not_eq_eq_eq_not, Bool.not_true, Bool.not_false, beq_iff_eq, beq_eq_false_iff_ne, ne_eq, Int.not_lt, Int.not_le, Option.isSome_some, Option.isNone_none, Option.isSome_none, Option.isNone_some, Classical.not_not] at h3
        refine VC.seq ?_
        refine VC.region ?_
        have e3 := bitLen_shift 8 (x := x2) (by omega) (by omega)
        have q3 : x2 / 2 ^ 8 < 2 ^ 8 := by omega
        refine V.move rfl rfl rfl ?_
        refine V.bin rfl rfl rfl rfl (bin_shrK .u64 .u64 _ 8 (by decide)) ?_
        refine V.assign rfl rfl rfl ?_
        refine V.nil ?_
        refine Post.nextC ?_
        refine VC.region ?_
        refine V.move rfl rfl rfl ?_
        refine V.bin rfl rfl rfl rfl (bin_addI (by omega)) ?_
        refine V.assign rfl rfl rfl ?_
        refine V.nil ?_
        refine Post.nextC ?_
        refine VC.seq ?_
        refine VC.region ?_
        generalize x2 / 2 ^ 8 = x3 at e3 q3 ⊢
        obtain ⟨hL, hb⟩ := l8_get x3 (by omega)
        refine V.move rfl rfl rfl ?_
        refine V.move rfl rfl rfl ?_
        refine V.conv _ rfl rfl rfl (IntWalk.u8_in _ (by omega)) ?_
        refine V.indexSt (l := L8) (i := x3) (c := UInt8.ofNat (Lib.bitLen x3)) rfl rfl rfl rfl hL ?_
        refine V.conv ((Lib.bitLen x3 : Nat) : Int) rfl rfl rfl (by rw [UInt8.toNat_ofNat_of_lt' (show Lib.bitLen x3 < 2 ^ 8 by omega)]; exact IntWalk.i64_in _ (by omega)) ?_
        refine V.bin rfl rfl rfl rfl (bin_addI (by omega)) ?_
        refine V.assign rfl rfl rfl ?_
        refine V.nil ?_
        refine Post.nextC ?_
        refine VC.ret ?_
        apply Post.ret1 rfl rfl 
        · refine ⟨?_, rfl⟩
          congr 1
          skip
          skip
          skip
          omega
        · repeat' constructor
      · try simp only [decide_eq_true_eq, decide_eq_false_iff_not, Bool.not_eq_true', Bool.not_eq_false', Bool.not_eq_eq_eq_not, Bool.not_true, Bool.not_false, beq_iff_eq, beq_eq_false_iff_ne, ne_eq, Int.not_lt, Int.not_le, Option.isSome_some, Option.isNone_none, Option.isSome_none, Option.isNone_some, Classical.not_not] at h3
        refine VC.skip ?_
        refine Post.nextC ?_
        refine VC.seq ?_
        refine VC.region ?_
        obtain ⟨x3, e3⟩ : ∃ m, m = x2 := ⟨_, rfl⟩
        rw [← e3]
        have q3 : x3 < 2 ^ 8 := by omega
        obtain ⟨hL, hb⟩ := l8_get x3 (by omega)
        refine V.move rfl rfl rfl ?_
        refine V.move rfl rfl rfl ?_
        refine V.conv _ rfl rfl rfl (IntWalk.u8_in _ (by omega)) ?_
        refine V.indexSt (l := L8) (i := x3) (c := UInt8.ofNat (Lib.bitLen x3)) rfl rfl rfl rfl hL ?_
        refine V.conv ((Lib.bitLen x3 : Nat) : Int) rfl rfl rfl (by rw [UInt8.toNat_ofNat_of_lt' (show Lib.bitLen x3 < 2 ^ 8 by omega)]; exact IntWalk.i64_in _ (by omega)) ?_
        refine V.bin rfl rfl rfl rfl (bin_addI (by omega)) ?_
        refine V.assign rfl rfl rfl ?_
        refine V.nil ?_
        refine Post.nextC ?_
        refine VC.ret ?_
        apply Post.ret1 rfl rfl 
        · refine ⟨?_, rfl⟩
          congr 1
          skip
          skip
          have f3 := congrArg Lib.bitLen e3
          omega
        · repeat' constructor
    · try simp only [decide_eq_true_eq, decide_eq_false_iff_not, Bool.not_eq_true', Bool.not_eq_false', Bool.not_eq_eq_eq_not, Bool.not_true, Bool.not_false, beq_iff_eq, beq_eq_false_iff_ne, ne_eq, Int.not_lt, Int.not_le, Option.isSome_some, Option.isNone_none, Option.isSome_none, Option.isNone_some, Classical.not_not] at h2
      refine VC.skip ?_
      refine Post.nextC ?_
      refine VC.seq ?_
      refine VC.seq ?_
      refine VC.region ?_
      obtain ⟨x2, e2⟩ : ∃ m, m = x1 := ⟨_, rfl⟩
      rw [← e2]
      have q2 : x2 < 2 ^ 16 := by omega
      refine V.move rfl rfl rfl ?_
      refine V.bin rfl rfl rfl rfl (bin_geq _ _ _) ?_
      refine V.nil ?_
      refine Post.nextC ?_
      refine VC.cond rfl (fun h4 => ?_) (fun h4 => ?_)
      · try simp only [decide_eq_true_eq, decide_eq_false_iff_not, Bool.not_eq_true', Bool.not_eq_false', Bool.not_eq_eq_eq_not, Bool.not_true, Bool.not_false, beq_iff_eq, beq_eq_false_iff_ne, ne_eq, Int.not_lt, Int.not_le, Option.isSome_some, Option.isNone_none, Option.isSome_none, Option.isNone_some, Classical.not_not] at h4
        refine VC.seq ?_
        refine VC.region ?_
        have e3 := bitLen_shift 8 (x := x2) (by omega) (by omega)
        have q3 : x2 / 2 ^ 8 < 2 ^ 8 := by omega
        refine V.move rfl rfl rfl ?_
        refine V.bin rfl rfl rfl rfl (bin_shrK .u64 .u64 _ 8 (by decide)) ?_
        refine V.assign rfl rfl rfl ?_
        refine V.nil ?_
        refine Post.nextC ?_
        refine VC.region ?_
        refine V.move rfl rfl rfl ?_
        refine V.bin rfl rfl rfl rfl (bin_addI (by omega)) ?_
        refine V.assign rfl rfl rfl ?_
        refine V.nil ?_
        refine Post.nextC ?_
        refine VC.seq ?_
        refine VC.region ?_
        generalize x2 / 2 ^ 8 = x3 at e3 q3 ⊢
        obtain ⟨hL, hb⟩ := l8_get x3 (by omega)
        refine V.move rfl rfl rfl ?_
        refine V.move rfl rfl rfl ?_
        refine V.conv _ rfl rfl rfl (IntWalk.u8_in _ (by omega)) ?_
        refine V.indexSt (l := L8) (i := x3) (c := UInt8.ofNat (Lib.bitLen x3)) rfl rfl rfl rfl hL ?_
        refine V.conv ((Lib.bitLen x3 : Nat) : Int) rfl rfl rfl (by rw [UInt8.toNat_ofNat_of_lt' (show Lib.bitLen x3 < 2 ^ 8 by omega)]; exact IntWalk.i64_in _ (by omega)) ?_
        refine V.bin rfl rfl rfl rfl (bin_addI (by omega)) ?_
        refine V.assign rfl rfl rfl ?_
        refine V.nil ?_
        refine Post.nextC ?_
        refine VC.ret ?_
        apply Post.ret1 rfl rfl 
        · refine ⟨?_, rfl⟩
          congr 1
          skip
          have f2 := congrArg Lib.bitLen e2
          skip
          omega
        · repeat' constructor
      · try simp only [decide_eq_true_eq, decide_eq_false_iff_not, Bool.not_eq_true', Bool.not_eq_false', Bool.not_eq_eq_eq_not, Bool.not_true, Bool.not_false, beq_iff_eq, beq_eq_false_iff_ne, ne_eq, Int.not_lt, Int.not_le, Option.isSome_some, Option.isNone_none, Option.isSome_none, Option.isNone_some, Classical.not_not] at h4
        refine VC.skip ?_
        refine Post.nextC ?_
        refine VC.seq ?_
        refine VC.region ?_
        obtain ⟨x3, e3⟩ : ∃ m, m = x2 := ⟨_, rfl⟩
        rw [← e3]
        have q3 : x3 < 2 ^ 8 := by omega
        obtain ⟨hL, hb⟩ := l8_get x3 (by omega)
        refine V.move rfl rfl rfl ?_
        refine V.move rfl rfl rfl ?_
        refine V.conv _ rfl rfl rfl (IntWalk.u8_in _ (by omega)) ?_
        refine V.indexSt (l := L8) (i := x3) (c := UInt8.ofNat (Lib.bitLen x3)) rfl rfl rfl rfl hL ?_
        refine V.conv ((Lib.bitLen x3 : Nat) : Int) rfl rfl rfl (by rw [UInt8.toNat_ofNat_of_lt' (show Lib.bitLen x3 < 2 ^ 8 by omega)]; exact IntWalk.i64_in _ (by omega)) ?_
        refine V.bin rfl rfl rfl rfl (bin_addI (by omega)) ?_
        refine V.assign rfl rfl rfl ?_
        refine V.nil ?_
        refine Post.nextC ?_
        refine VC.ret ?_
        apply Post.ret1 rfl rfl 
        · refine ⟨?_, rfl⟩
          congr 1
          skip
          have f2 := congrArg Lib.bitLen e2
          have f3 := congrArg Lib.bitLen e3
          omega
        · repeat' constructor
  · try simp only [decide_eq_true_eq, decide_eq_false_iff_not, Bool.not_eq_true', Bool.not_eq_false', Bool.not_eq_eq_eq_not, Bool.not_true, Bool.not_false, beq_iff_eq, beq_eq_false_iff_ne, ne_eq, Int.not_lt, Int.not_le, Option.isSome_some, Option.isNone_none, Option.isSome_none, Option.isNone_some, Classical.not_not] at h1
    refine VC.skip ?_
    refine Post.nextC ?_
    refine VC.seq ?_
    refine VC.seq ?_
    refine VC.region ?_
    obtain ⟨x1, e1⟩ : ∃ m, m = u := ⟨_, rfl⟩
    rw [← e1]
    have q1 : x1 < 2 ^ 32 := by omega
    refine V.move rfl rfl rfl ?_
    refine V.bin rfl rfl rfl rfl (bin_geq _ _ _) ?_
    refine V.nil ?_
    refine Post.nextC ?_
    refine VC.cond rfl (fun h5 => ?_) (fun h5 => ?_)
    · try simp only [decide_eq_true_eq, decide_eq_false_iff_not, Bool.not_eq_true', Bool.not_eq_false', Bool.not_eq_eq_eq_not, Bool.not_true, Bool.not_false, beq_iff_eq, beq_eq_false_iff_ne, ne_eq, Int.not_lt, Int.not_le, Option.isSome_some, Option.isNone_none, Option.isSome_none, Option.isNone_some, Classical.not_not] at h5
      refine VC.seq ?_
      refine VC.region ?_
      have e2 := bitLen_shift 16 (x := x1) (by omega) (by omega)
      have q2 : x1 / 2 ^ 16 < 2 ^ 16 := by omega
      refine V.move rfl rfl rfl ?_
      refine V.bin rfl rfl rfl rfl (bin_shrK .u64 .u64 _ 16 (by decide)) ?_
      refine V.assign rfl rfl rfl ?_
      refine V.nil ?_
      refine Post.nextC ?_
      refine VC.region ?_
      refine V.move rfl rfl rfl ?_
      refine V.bin rfl rfl rfl rfl (bin_addI (by omega)) ?_
      refine V.assign rfl rfl rfl ?_
      refine V.nil ?_
      refine Post.nextC ?_
      refine VC.seq ?_
      refine VC.seq ?_
      refine VC.region ?_
      generalize x1 / 2 ^ 16 = x2 at e2 q2 ⊢
      refine V.move rfl rfl rfl ?_
      refine V.bin rfl rfl rfl rfl (bin_geq _ _ _) ?_
      refine V.nil ?_
      refine Post.nextC ?_
      refine VC.cond rfl (fun h6 => ?_) (fun h6 => ?_)
      · try simp only [decide_eq_true_eq, decide_eq_false_iff_not, Bool.not_eq_true', Bool.not_eq_false', Bool.not_eq_eq_eq_not, Bool.not_true, Bool.not_false, beq_iff_eq, beq_eq_false_iff_ne, ne_eq, Int.not_lt, Int.not_le, Option.isSome_some, Option.isNone_none, Option.isSome_none, Option.isNone_some, Classical.not_not] at h6
        refine VC.seq ?_
        refine VC.region ?_
        have e3 := bitLen_shift 8 (x := x2) (by omega) (by omega)
        have q3 : x2 / 2 ^ 8 < 2 ^ 8 := by omega
        refine V.move rfl rfl rfl ?_
        refine V.bin rfl rfl rfl rfl (bin_shrK .u64 .u64 _ 8 (by decide)) ?_
        refine V.assign rfl rfl rfl ?_
        refine V.nil ?_
        refine Post.nextC ?_
        refine VC.region ?_
        refine V.move rfl rfl rfl ?_
        refine V.bin rfl rfl rfl rfl (bin_addI (by omega)) ?_
        refine V.assign rfl rfl rfl ?_
        refine V.nil ?_
        refine Post.nextC ?_
        refine VC.seq ?_
        refine VC.region ?_
        generalize x2 / 2 ^ 8 = x3 at e3 q3 ⊢
        obtain ⟨hL, hb⟩ := l8_get x3 (by omega)
        refine V.move rfl rfl rfl ?_
        refine V.move rfl rfl rfl ?_
        refine V.conv _ rfl rfl rfl (IntWalk.u8_in _ (by omega)) ?_
        refine V.indexSt (l := L8) (i := x3) (c := UInt8.ofNat (Lib.bitLen x3)) rfl rfl rfl rfl hL ?_
        refine V.conv ((Lib.bitLen x3 : Nat) : Int) rfl rfl rfl (by rw [UInt8.toNat_ofNat_of_lt' (show Lib.bitLen x3 < 2 ^ 8 by omega)]; exact IntWalk.i64_in _ (by omega)) ?_
        refine V.bin rfl rfl rfl rfl (bin_addI (by omega)) ?_
        refine V.assign rfl rfl rfl ?_
        refine V.nil ?_
        refine Post.nextC ?_
        refine VC.ret ?_
        apply Post.ret1 rfl rfl 
        · refine ⟨?_, rfl⟩
          congr 1
          have f1 := congrArg Lib.bitLen e1
          skip
          skip
          omega
        · repeat' constructor
      · try simp only [decide_eq_true_eq, decide_eq_false_iff_not, Bool.not_eq_true', Bool.not_eq_false', Bool.not_eq_eq_eq_not, Bool.not_true, Bool.not_false, beq_iff_eq, beq_eq_false_iff_ne, ne_eq, Int.not_lt, Int.not_le, Option.isSome_some, Option.isNone_none, Option.isSome_none, Option.isNone_some, Classical.not_not] at h6
        refine VC.skip ?_
        refine Post.nextC ?_
        refine VC.seq ?_
        refine VC.region ?_
        obtain ⟨x3, e3⟩ : ∃ m, m = x2 := ⟨_, rfl⟩
        rw [← e3]
        have q3 : x3 < 2 ^ 8 := by omega
        obtain ⟨hL, hb⟩ := l8_get x3 (by omega)
        refine V.move rfl rfl rfl ?_
        refine V.move rfl rfl rfl ?_
        refine V.conv _ rfl rfl rfl (IntWalk.u8_in _ (by omega)) ?_
        refine V.indexSt (l := L8) (i := x3) (c := UInt8.ofNat (Lib.bitLen x3)) rfl rfl rfl rfl hL ?_
        refine V.conv ((Lib.bitLen x3 : Nat) : Int) rfl rfl rfl (by rw [UInt8.toNat_ofNat_of_lt' (show Lib.bitLen x3 < 2 ^ 8 by omega)]; exact IntWalk.i64_in _ (by omega)) ?_
        refine V.bin rfl rfl rfl rfl (bin_addI (by omega)) ?_
        refine V.assign rfl rfl rfl ?_
        refine V.nil ?_
        refine Post.nextC ?_
        refine VC.ret ?_
        apply Post.ret1 rfl rfl 
        · refine ⟨?_, rfl⟩
          congr 1
          have f1 := congrArg Lib.bitLen e1
          skip
          have f3 := congrArg Lib.bitLen e3
          omega
        · repeat' constructor
    · try simp only [decide_eq_true_eq, decide_eq_false_iff_not, Bool.not_eq_true', Bool.not_eq_false', Bool.not_eq_eq_eq_not, Bool.not_true, Bool.not_false, beq_iff_eq, beq_eq_false_iff_ne, ne_eq, Int.not_lt, Int.not_le, Option.isSome_some, Option.isNone_none, Option.isSome_none, Option.isNone_some, Classical.not_not] at h5
      refine VC.skip ?_
      refine Post.nextC ?_
      refine VC.seq ?_
      refine VC.seq ?_
      refine VC.region ?_
      obtain ⟨x2, e2⟩ : ∃ m, m = x1 := ⟨_, rfl⟩
      rw [← e2]
      have q2 : x2 < 2 ^ 16 := by omega
      refine V.move rfl rfl rfl ?_
      refine V.bin rfl rfl rfl rfl (bin_geq _ _ _) ?_
      refine V.nil ?_
      refine Post.nextC ?_
      refine VC.cond rfl (fun h7 => ?_) (fun h7 => ?_)
      · try simp only [decide_eq_true_eq, decide_eq_false_iff_not, Bool.not_eq_true', Bool.not_eq_false', Bool.not_eq_eq_eq_not, Bool.not_true, Bool.not_false, beq_iff_eq, beq_eq_false_iff_ne, ne_eq, Int.not_lt, Int.not_le, Option.isSome_some, Option.isNone_none, Option.isSome_none, Option.isNone_some, Classical.not_not] at h7
        refine VC.seq ?_
        refine VC.region ?_
        have e3 := bitLen_shift 8 (x := x2) (by omega) (by omega)
        have q3 : x2 / 2 ^ 8 < 2 ^ 8 := by omega
        refine V.move rfl rfl rfl ?_
        refine V.bin rfl rfl rfl rfl (bin_shrK .u64 .u64 _ 8 (by decide)) ?_
        refine V.assign rfl rfl rfl ?_
        refine V.nil ?_
        refine Post.nextC ?_
        refine VC.region ?_
        refine V.move rfl rfl rfl ?_
        refine V.bin rfl rfl rfl rfl (bin_addI (by omega)) ?_
        refine V.assign rfl rfl rfl ?_
        refine V.nil ?_
        refine Post.nextC ?_
        refine VC.seq ?_
        refine VC.region ?_
        generalize x2 / 2 ^ 8 = x3 at e3 q3 ⊢
        obtain ⟨hL, hb⟩ := l8_get x3 (by omega)
        refine V.move rfl rfl rfl ?_
        refine V.move rfl rfl rfl ?_
        refine V.conv _ rfl rfl rfl (IntWalk.u8_in _ (by omega)) ?_
        refine V.indexSt (l := L8) (i := x3) (c := UInt8.ofNat (Lib.bitLen x3)) rfl rfl rfl rfl hL ?_
        refine V.conv ((Lib.bitLen x3 : Nat) : Int) rfl rfl rfl (by rw [UInt8.toNat_ofNat_of_lt' (show Lib.bitLen x3 < 2 ^ 8 by omega)]; exact IntWalk.i64_in _ (by omega)) ?_
        refine V.bin rfl rfl rfl rfl (bin_addI (by omega)) ?_
        refine V.assign rfl rfl rfl ?_
        refine V.nil ?_
        refine Post.nextC ?_
        refine VC.ret ?_
        apply Post.ret1 rfl rfl 
        · refine ⟨?_, rfl⟩
          congr 1
          have f1 := congrArg Lib.bitLen e1
          have f2 := congrArg Lib.bitLen e2
          skip
          omega
        · repeat' constructor
      · try simp only [decide_eq_true_eq, decide_eq_false_iff_not, Bool.not_eq_true', Bool.not_eq_false', Bool.not_eq_eq_eq_not, Bool.not_true, Bool.not_false, beq_iff_eq, beq_eq_false_iff_ne, ne_eq, Int.not_lt, Int.not_le, Option.isSome_some, Option.isNone_none, Option.isSome_none, Option.isNone_some, Classical.not_not] at h7
        refine VC.skip ?_
        refine Post.nextC ?_
        refine VC.seq ?_
        refine VC.region ?_
        obtain ⟨x3, e3⟩ : ∃ m, m = x2 := ⟨_, rfl⟩
        rw [← e3]
        have q3 : x3 < 2 ^ 8 := by omega
        obtain ⟨hL, hb⟩ := l8_get x3 (by omega)
        refine V.move rfl rfl rfl ?_
        refine V.move rfl rfl rfl ?_
        refine V.conv _ rfl rfl rfl (IntWalk.u8_in _ (by omega)) ?_
        refine V.indexSt (l := L8) (i := x3) (c := UInt8.ofNat (Lib.bitLen x3)) rfl rfl rfl rfl hL ?_
        refine V.conv ((Lib.bitLen x3 : Nat) : Int) rfl rfl rfl (by rw [UInt8.toNat_ofNat_of_lt' (show Lib.bitLen x3 < 2 ^ 8 by omega)]; exact IntWalk.i64_in _ (by omega)) ?_
        refine V.bin rfl rfl rfl rfl (bin_addI (by omega)) ?_
        refine V.assign rfl rfl rfl ?_
        refine V.nil ?_
        refine Post.nextC ?_
        refine VC.ret ?_
        apply Post.ret1 rfl rfl 
        · refine ⟨?_, rfl⟩
          congr 1
          have f1 := congrArg Lib.bitLen e1
          have f2 := congrArg Lib.bitLen e2
          have f3 := congrArg Lib.bitLen e3
          omega
        · repeat' constructor

theorem c76 {w0 : World} {x : Nat} (hx : x ≤ 64) : CtR Pg w0 76 #[.int .i64 (x : Int)] [] (fun r H => r = .int .i64 (Lib.l10 x : Int) ∧ H = []) := by
  refine Ct.of_body Go.Proofs.Tryd.func76 rfl 6 rfl rfl (fun R => ?_)
  refine VC.seq ?_
  refine VC.region ?_
  refine V.assign rfl rfl rfl ?_
  refine V.nil ?_
  refine Post.nextC ?_
  refine VC.seq ?_
  refine VC.region ?_
  refine V.move rfl rfl rfl ?_
  refine V.bin rfl rfl rfl rfl (bin_mulI (by omega)) ?_
  refine V.know (t := 4) (y := .int .i64 ((x * 78913 : Nat) : Int)) rfl (by first | rfl | (congr 1; omega)) ?_
  refine V.bin rfl rfl rfl rfl (bin_shrK .i64 .u64 (x * 78913) 18 (by decide)) ?_
  rw [l10_div]
  refine V.assign rfl rfl rfl ?_
  refine V.nil ?_
  refine Post.nextC ?_
  refine VC.ret ?_
  apply Post.ret1 rfl rfl 
  · exact ⟨rfl, rfl⟩
  · repeat' constructor

theorem c78 {w0 : World} {p : Bool} : CtR Pg w0 78 #[.bool p] [] (fun r H => r = .int .i64 (if p then 1 else 0) ∧ H = []) := by
  refine Ct.of_body Go.Proofs.Tryd.func78 rfl 4 rfl rfl (fun R => ?_)
  refine VC.seq ?_
  refine VC.region ?_
  refine V.assign rfl rfl rfl ?_
  refine V.nil ?_
  refine Post.nextC ?_
  refine VC.seq ?_
  refine VC.seq ?_
  refine VC.region ?_
  refine V.move rfl rfl rfl ?_
  refine V.nil ?_
  refine Post.nextC ?_
  refine VC.cond rfl (fun h1 => ?_) (fun h1 => ?_)
  · try simp only [decide_eq_true_eq, decide_eq_false_iff_not, Bool.not_eq_true', Bool.not_eq_false', Bool.not_eq_eq_eq_not, Bool.not_true, Bool.not_false, beq_iff_eq, beq_eq_false_iff_ne, ne_eq, Int.not_lt, Int.not_le, Option.isSome_some, Option.isNone_none, Option.isSome_none, Option.isNone_some, Classical.not_not] at h1
    refine VC.seq ?_
    refine VC.region ?_
    refine V.assign rfl rfl rfl ?_
    refine V.nil ?_
    refine Post.nextC ?_
    refine VC.ret ?_
    refine Post.thenRet (?_)
    apply Post.ret1 rfl rfl 
    · refine ⟨?_, rfl⟩
      simp_all
    · repeat' constructor
  · try simp only [decide_eq_true_eq, decide_eq_false_iff_not, Bool.not_eq_true', Bool.not_eq_false', Bool.not_eq_eq_eq_not, Bool.not_true, Bool.not_false, beq_iff_eq, beq_eq_false_iff_ne, ne_eq, Int.not_lt, Int.not_le, Option.isSome_some, Option.isNone_none, Option.isSome_none, Option.isNone_some, Classical.not_not] at h1
    refine VC.skip ?_
    refine Post.nextC ?_
    refine VC.seq ?_
    refine VC.region ?_
    refine V.assign rfl rfl rfl ?_
    refine V.nil ?_
    refine Post.nextC ?_
    refine VC.ret ?_
    apply Post.ret1 rfl rfl 
    · refine ⟨?_, rfl⟩
      simp_all
    · repeat' constructor

theorem c71 {w0 : World} {u : Nat} (hu : u < 18446744073709551616) (h1 : 1 ≤ u) (hT : ∀ i, i < 20 → Cel w0 [] ⟨0, i, none⟩ (.int .u64 ((10 ^ i : Nat) : Int))) : CtR Pg w0 71 #[.int .u64 (u : Int)] [] (fun r H => r = .int .i64 (Lib.nDigits u : Int) ∧ H = []) := by
  obtain ⟨n1, n2⟩ := Lib.numDigits_eq u h1 hu
  have hbl : Lib.bitLen u ≤ 64 := by
    unfold Lib.bitLen
    have gen : ∀ f x, Lib.bitLenAux f x ≤ f := by
      intro f
      induction f with
      | zero => intro x; simp [Lib.bitLenAux]
      | succ f ih => intro x; simp only [Lib.bitLenAux]; split; omega; have := ih (x / 2); omega
    exact gen 64 u
  have hTc := hT (Lib.l10 (Lib.bitLen u)) (by omega)
  refine Ct.of_body Go.Proofs.Tryd.func71 rfl 15 rfl rfl (fun R => ?_)
  refine VC.seq ?_
  refine VC.region ?_
  refine V.assign rfl rfl rfl ?_
  refine V.nil ?_
  refine Post.nextC ?_
  refine VC.seq ?_
  refine VC.region ?_
  refine V.move rfl rfl rfl ?_
  apply V.call rfl rfl rfl (hc := c77 hu)
  · repeat' constructor
  rintro vq Ho ⟨rfl, rfl⟩
  apply V.call rfl rfl rfl (hc := c76 hbl)
  · repeat' constructor
  rintro vq Ho ⟨rfl, rfl⟩
  refine V.assign rfl rfl rfl ?_
  refine V.nil ?_
  refine Post.nextC ?_
  refine VC.seq ?_
  refine VC.region ?_
  refine V.move rfl rfl rfl ?_
  refine V.move rfl rfl rfl ?_
  refine V.move rfl rfl rfl ?_
  refine V.indexA (i := Lib.l10 (Lib.bitLen u)) rfl rfl rfl rfl (by omega) ?_
  apply V.loadO rfl rfl rfl rfl
  · rw [Nat.zero_add, Nat.mul_one]; exact hTc
  refine V.bin rfl rfl rfl rfl (bin_geq _ _ _) ?_
  apply V.call rfl rfl rfl (hc := c78)
  · repeat' constructor
  rintro vq Ho ⟨rfl, rfl⟩
  refine V.bin rfl rfl rfl rfl (bin_addI (by split <;> omega)) ?_
  refine V.assign rfl rfl rfl ?_
  refine V.nil ?_
  refine Post.nextC ?_
  refine VC.ret ?_
  apply Post.ret1 rfl rfl 
  · refine ⟨?_, rfl⟩
    congr 1
    rw [← n1]
    by_cases hc : 10 ^ Lib.l10 (Lib.bitLen u) ≤ u
    · rw [if_pos hc, if_pos (by rw [decide_eq_true_eq]; exact Int.ofNat_le.2 hc)]; rfl
    · rw [if_neg hc, if_neg (by rw [decide_eq_true_eq]; exact fun h => hc (Int.ofNat_le.1 h))]; rfl
  · repeat' constructor

theorem c66 {w0 : World} {i : Int} (hi : -9223372036854775808 ≤ i ∧ i ≤ 9223372036854775807) (hT : ∀ i, i < 20 → Cel w0 [] ⟨0, i, none⟩ (.int .u64 ((10 ^ i : Nat) : Int))) : CtR Pg w0 66 #[.int .i64 i, .int .i64 10] [] (fun r H => r = st (Lib.itoa i) ∧ H = []) := by
  refine Ct.of_body Go.Proofs.Tryd.func66 rfl 54 rfl rfl (fun R => ?_)
  refine VC.seq ?_
  refine VC.region ?_
  refine V.assign rfl rfl rfl ?_
  refine V.nil ?_
  refine Post.nextC ?_
  refine VC.seq ?_
  refine VC.seq ?_
  refine VC.region ?_
  rcases int_cases i with ⟨u, rfl⟩ | ⟨u, hu1, rfl⟩
  ·
    refine V.move rfl rfl rfl ?_
    refine V.bin rfl rfl rfl rfl (bin_eql _ _ _) ?_
    refine V.know (t := 11) (y := .bool true) rfl (rfl) ?_
    refine V.nil ?_
    refine Post.nextC ?_
    refine VC.condT rfl ?_
    refine VC.seq ?_
    refine VC.seq ?_
    refine VC.region ?_
    refine V.move rfl rfl rfl ?_
    refine V.bin rfl rfl rfl rfl (bin_leq _ _ _) ?_
    refine V.know (t := 13) (y := .bool true) rfl (by rw [decide_eq_true (by omega)]) ?_
    refine V.move rfl rfl rfl ?_
    refine V.move rfl rfl rfl ?_
    refine V.bin rfl rfl rfl rfl (bin_lss _ _ _) ?_
    refine V.pickT rfl rfl rfl rfl ?_
    refine V.nil ?_
    refine Post.nextC ?_
    refine VC.cond rfl (fun h1 => ?_) (fun h1 => ?_)
    · try simp only [decide_eq_true_eq, decide_eq_false_iff_not, Bool.not_eq_true', Bool.not_eq_false', Bool.not_eq_eq_eq_not, Bool.not_true, Bool.not_false, beq_iff_eq, beq_eq_false_iff_ne, ne_eq, Int.not_lt, Int.not_le, Option.isSome_some, Option.isNone_none, Option.isSome_none, Option.isNone_some, Classical.not_not] at h1
      refine VC.seq ?_
      refine VC.region ?_
      refine V.move rfl rfl rfl ?_
      apply V.call rfl rfl rfl (hc := c70 (i := u) (by omega))
      · repeat' constructor
      rintro vq Ho ⟨rfl, rfl⟩
      refine V.assign rfl rfl rfl ?_
      refine V.nil ?_
      refine Post.nextC ?_
      refine VC.ret ?_
      refine Post.thenRet (Post.thenRet (?_))
      apply Post.ret1 rfl rfl 
      · exact ⟨by rw [Lib.itoa_nonneg], rfl⟩
      · repeat' constructor
    · try simp only [decide_eq_true_eq, decide_eq_false_iff_not, Bool.not_eq_true', Bool.not_eq_false', Bool.not_eq_eq_eq_not, Bool.not_true, Bool.not_false, beq_iff_eq, beq_eq_false_iff_ne, ne_eq, Int.not_lt, Int.not_le, Option.isSome_some, Option.isNone_none, Option.isSome_none, Option.isNone_some, Classical.not_not] at h1
      refine VC.skip ?_
      refine Post.nextC ?_
      refine VC.seq ?_
      refine VC.region ?_
      refine V.alloc (l := [.int .u8 0, .int .u8 0, .int .u8 0, .int .u8 0, .int .u8 0, .int .u8 0, .int .u8 0, .int .u8 0, .int .u8 0, .int .u8 0, .int .u8 0, .int .u8 0, .int .u8 0, .int .u8 0, .int .u8 0, .int .u8 0, .int .u8 0, .int .u8 0, .int .u8 0, .int .u8 0, .int .u8 0, .int .u8 0, .int .u8 0, .int .u8 0]) rfl rfl rfl (fun b1 => ?_)
      refine V.nil ?_
      refine Post.nextC ?_
      refine VC.seq ?_
      refine VC.region ?_
      refine V.move rfl rfl rfl ?_
      refine V.conv (u : Int) rfl rfl rfl (IntWalk.u64_in _ (by omega)) ?_
      refine V.assign rfl rfl rfl ?_
      refine V.nil ?_
      refine Post.nextC ?_
      refine VC.seq ?_
      refine VC.seq ?_
      refine VC.region ?_
      refine V.move rfl rfl rfl ?_
      refine V.bin rfl rfl rfl rfl (bin_lss _ _ _) ?_
      refine V.know (t := 23) (y := .bool false) rfl (by rw [decide_eq_false (by omega)]) ?_
      refine V.nil ?_
      refine Post.nextC ?_
      refine VC.condF rfl ?_
      refine VC.skip ?_
      refine Post.nextC ?_
      refine VC.seq ?_
      refine VC.region ?_
      refine V.move rfl rfl rfl ?_
      apply V.call rfl rfl rfl (hc := c71 (u := u) (by omega) (by omega) hT)
      · repeat' constructor
      rintro vq Ho ⟨rfl, rfl⟩
      have hnd : Lib.nDigits u ≤ 20 := by
        obtain ⟨n1, n2⟩ := Lib.numDigits_eq u (by omega) (by omega)
        rw [← n1]
        split <;> omega
      refine V.assign rfl rfl rfl ?_
      refine V.nil ?_
      refine Post.nextC ?_
      refine VC.seq ?_
      refine VC.region ?_
      refine V.move rfl rfl rfl ?_
      refine V.bin rfl rfl rfl rfl (bin_addI (by omega)) ?_
      refine V.know (t := 29) (y := .int .i64 ((Lib.nDigits u + 1 : Nat) : Int)) rfl (by first | rfl | (congr 1; omega)) ?_
      refine V.sliceALH (i := 1) (j := Lib.nDigits u + 1) rfl rfl rfl rfl rfl (by omega) (by omega) (by omega) ?_
      rw [show Lib.nDigits u + 1 - 1 = Lib.nDigits u by omega]
      rw [zeros_fb (Lib.nDigits u) hnd]
      refine V.move rfl rfl rfl ?_
      apply V.call rfl rfl rfl (hc := c72 (z := .int .u8 0) (tail := List.replicate (23 - Lib.nDigits u) (.int .u8 0)) Array.size_replicate (Lib.lt_pow_nDigits u) (by omega) (by omega))
      · repeat' constructor
      rintro vq Ho ⟨dd, vv, hF, rfl⟩
      have hdd := fmt_digits hF
      have hdl : dd.size = Lib.nDigits u := hF.size
      refine V.nil ?_
      refine Post.nextC ?_
      refine VC.seq ?_
      refine VC.seq ?_
      refine VC.region ?_
      refine V.move rfl rfl rfl ?_
      refine V.bin rfl rfl rfl rfl (bin_lss _ _ _) ?_
      refine V.know (t := 34) (y := .bool false) rfl (by rw [decide_eq_false (by omega)]) ?_
      refine V.nil ?_
      refine Post.nextC ?_
      refine VC.condF rfl ?_
      refine VC.skip ?_
      refine Post.nextC ?_
      refine VC.seq ?_
      refine VC.region ?_
      refine V.move rfl rfl rfl ?_
      refine V.bin rfl rfl rfl rfl (bin_addI (by omega)) ?_
      refine V.know (t := 41) (y := .int .i64 ((Lib.nDigits u + 1 : Nat) : Int)) rfl (by first | rfl | (congr 1; omega)) ?_
      refine V.sliceALH (i := 1) (j := Lib.nDigits u + 1) rfl rfl rfl rfl rfl (by omega) (by omega) (by omega) ?_
      rw [show Lib.nDigits u + 1 - 1 = Lib.nDigits u by omega]
      apply V.str (l := Lib.decDigits u) rfl rfl rfl
      · right; repeat' constructor
      · exact Rd.part _ _ _ _ _ _ _ _ (by rw [List.drop_succ_cons, List.drop_zero, hdd, List.take_left' (by rw [List.length_map, Lib.decDigits_length])]) (by simp only [List.length_cons, List.length_append, List.length_map, Array.length_toList]; omega) (by omega) (by omega)
      refine V.assign rfl rfl rfl ?_
      refine V.nil ?_
      refine Post.nextC ?_
      refine VC.ret ?_
      refine Post.thenRet (?_)
      apply Post.ret1 rfl rfl 
      · exact ⟨by rw [Lib.itoa_nonneg], rfl⟩
      · repeat' constructor
  ·
    refine V.move rfl rfl rfl ?_
    refine V.bin rfl rfl rfl rfl (bin_eql _ _ _) ?_
    refine V.know (t := 11) (y := .bool true) rfl (rfl) ?_
    refine V.nil ?_
    refine Post.nextC ?_
    refine VC.condT rfl ?_
    refine VC.seq ?_
    refine VC.seq ?_
    refine VC.region ?_
    refine V.move rfl rfl rfl ?_
    refine V.bin rfl rfl rfl rfl (bin_leq _ _ _) ?_
    refine V.know (t := 13) (y := .bool false) rfl (by rw [decide_eq_false (by omega)]) ?_
    refine V.move rfl rfl rfl ?_
    refine V.skip rfl rfl ?_
    refine V.skip rfl rfl ?_
    refine V.pickF rfl rfl rfl rfl ?_
    refine V.nil ?_
    refine Post.nextC ?_
    refine VC.condF rfl ?_
    refine VC.skip ?_
    refine Post.nextC ?_
    refine VC.seq ?_
    refine VC.region ?_
    refine V.alloc (l := [.int .u8 0, .int .u8 0, .int .u8 0, .int .u8 0, .int .u8 0, .int .u8 0, .int .u8 0, .int .u8 0, .int .u8 0, .int .u8 0, .int .u8 0, .int .u8 0, .int .u8 0, .int .u8 0, .int .u8 0, .int .u8 0, .int .u8 0, .int .u8 0, .int .u8 0, .int .u8 0, .int .u8 0, .int .u8 0, .int .u8 0, .int .u8 0]) rfl rfl rfl (fun b2 => ?_)
    refine V.nil ?_
    refine Post.nextC ?_
    refine VC.seq ?_
    refine VC.region ?_
    refine V.move rfl rfl rfl ?_
    refine V.conv (18446744073709551616 - (u : Int)) rfl rfl rfl (by rw [IntKind.wrap_u64]; omega) ?_
    refine V.assign rfl rfl rfl ?_
    refine V.nil ?_
    refine Post.nextC ?_
    refine VC.seq ?_
    refine VC.seq ?_
    refine VC.region ?_
    refine V.move rfl rfl rfl ?_
    refine V.bin rfl rfl rfl rfl (bin_lss _ _ _) ?_
    refine V.know (t := 23) (y := .bool true) rfl (by rw [decide_eq_true (by omega)]) ?_
    refine V.nil ?_
    refine Post.nextC ?_
    refine VC.condT rfl ?_
    refine VC.region ?_
    refine V.move rfl rfl rfl ?_
    refine V.negK (u : Int) rfl rfl rfl (by rw [IntKind.wrap_u64]; omega) ?_
    refine V.assign rfl rfl rfl ?_
    refine V.nil ?_
    refine Post.nextC ?_
    refine VC.seq ?_
    refine VC.region ?_
    refine V.move rfl rfl rfl ?_
    apply V.call rfl rfl rfl (hc := c71 (u := u) (by omega) (by omega) hT)
    · repeat' constructor
    rintro vq Ho ⟨rfl, rfl⟩
    have hnd : Lib.nDigits u ≤ 20 := by
      obtain ⟨n1, n2⟩ := Lib.numDigits_eq u (by omega) (by omega)
      rw [← n1]
      split <;> omega
    refine V.assign rfl rfl rfl ?_
    refine V.nil ?_
    refine Post.nextC ?_
    refine VC.seq ?_
    refine VC.region ?_
    refine V.move rfl rfl rfl ?_
    refine V.bin rfl rfl rfl rfl (bin_addI (by omega)) ?_
    refine V.know (t := 29) (y := .int .i64 ((Lib.nDigits u + 1 : Nat) : Int)) rfl (by first | rfl | (congr 1; omega)) ?_
    refine V.sliceALH (i := 1) (j := Lib.nDigits u + 1) rfl rfl rfl rfl rfl (by omega) (by omega) (by omega) ?_
    rw [show Lib.nDigits u + 1 - 1 = Lib.nDigits u by omega]
    rw [zeros_fb (Lib.nDigits u) hnd]
    refine V.move rfl rfl rfl ?_
    apply V.call rfl rfl rfl (hc := c72 (z := .int .u8 0) (tail := List.replicate (23 - Lib.nDigits u) (.int .u8 0)) Array.size_replicate (Lib.lt_pow_nDigits u) (by omega) (by omega))
    · repeat' constructor
    rintro vq Ho ⟨dd, vv, hF, rfl⟩
    have hdd := fmt_digits hF
    have hdl : dd.size = Lib.nDigits u := hF.size
    refine V.nil ?_
    refine Post.nextC ?_
    refine VC.seq ?_
    refine VC.seq ?_
    refine VC.region ?_
    refine V.move rfl rfl rfl ?_
    refine V.bin rfl rfl rfl rfl (bin_lss _ _ _) ?_
    refine V.know (t := 34) (y := .bool true) rfl (by rw [decide_eq_true (by omega)]) ?_
    refine V.nil ?_
    refine Post.nextC ?_
    refine VC.condT rfl ?_
    refine VC.seq ?_
    refine VC.region ?_
    refine V.indexA (i := 0) rfl rfl rfl rfl (by omega) ?_
    apply V.storeL rfl rfl rfl rfl rfl
    · repeat' constructor
    · repeat' constructor
    refine V.nil ?_
    refine Post.nextC ?_
    refine VC.seq ?_
    refine VC.region ?_
    refine V.move rfl rfl rfl ?_
    refine V.bin rfl rfl rfl rfl (bin_addI (by omega)) ?_
    refine V.know (t := 37) (y := .int .i64 ((Lib.nDigits u + 1 : Nat) : Int)) rfl (by first | rfl | (congr 1; omega)) ?_
    refine V.sliceAH (j := Lib.nDigits u + 1) rfl rfl rfl rfl (by omega) (by omega) ?_
    apply V.str (l := 45 :: Lib.decDigits u) rfl rfl rfl
    · right; repeat' constructor
    · exact Rd.part _ _ _ _ _ _ _ _ (by rw [List.drop_zero, List.take_succ_cons, hdd, List.take_left' (by rw [List.length_map, Lib.decDigits_length])]; rfl) (by simp only [List.length_cons, List.length_append, List.length_map, Array.length_toList]; omega) (by omega) (by omega)
    refine V.assign rfl rfl rfl ?_
    refine V.nil ?_
    refine Post.nextC ?_
    refine VC.ret ?_
    refine Post.thenRet (Post.thenRet (?_))
    apply Post.ret1 rfl rfl 
    · exact ⟨by rw [Lib.itoa_neg u hu1], rfl⟩
    · repeat' constructor

theorem c52 {w0 : World} {i : Int} (hi : -9223372036854775808 ≤ i ∧ i ≤ 9223372036854775807) (hT : ∀ i, i < 20 → Cel w0 [] ⟨0, i, none⟩ (.int .u64 ((10 ^ i : Nat) : Int))) : CtR Pg w0 52 #[.int .i64 i] [] (fun r H => r = st (Lib.itoa i) ∧ H = []) := by
  refine Ct.of_body Go.Proofs.Tryd.func52 rfl 5 rfl rfl (fun R => ?_)
  refine VC.seq ?_
  refine VC.region ?_
  refine V.assign rfl rfl rfl ?_
  refine V.nil ?_
  refine Post.nextC ?_
  refine VC.seq ?_
  refine VC.region ?_
  refine V.move rfl rfl rfl ?_
  apply V.call rfl rfl rfl (hc := c66 hi hT)
  · repeat' constructor
  rintro vq Ho ⟨rfl, rfl⟩
  refine V.assign rfl rfl rfl ?_
  refine V.nil ?_
  refine Post.nextC ?_
  refine VC.ret ?_
  apply Post.ret1 rfl rfl 
  · exact ⟨rfl, rfl⟩
  · repeat' constructor

theorem c29 {w0 : World} {i : Int} (hi : -9223372036854775808 ≤ i ∧ i ≤ 9223372036854775807) (hT : ∀ i, i < 20 → Cel w0 [] ⟨0, i, none⟩ (.int .u64 ((10 ^ i : Nat) : Int))) : CtR Pg w0 29 #[.int .i64 i] [] (fun r H => r = st (Lib.itoa i) ∧ H = []) := by
  refine Ct.of_body Go.Proofs.Tryd.func29 rfl 5 rfl rfl (fun R => ?_)
  refine VC.seq ?_
  refine VC.region ?_
  refine V.assign rfl rfl rfl ?_
  refine V.nil ?_
  refine Post.nextC ?_
  refine VC.seq ?_
  refine VC.region ?_
  refine V.move rfl rfl rfl ?_
  apply V.call rfl rfl rfl (hc := c52 hi hT)
  · repeat' constructor
  rintro vq Ho ⟨rfl, rfl⟩
  refine V.assign rfl rfl rfl ?_
  refine V.nil ?_
  refine Post.nextC ?_
  refine VC.ret ?_
  apply Post.ret1 rfl rfl 
  · exact ⟨rfl, rfl⟩
  · repeat' constructor

end Go.Proofs.Ln
