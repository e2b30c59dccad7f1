/- Contracts of functions of the given program, each proved by walking its code: part of the proof of this claim; no condition beyond those that each theorem names. -/
import Derived.Test.YtfclhhhnngkdlaaDoorLnAnswer
import Derived.Test.YtfclhhhnngkdlaaDoorLnLaw3
set_option linter.unusedVariables false
set_option linter.unusedSimpArgs false
namespace Go.Proofs.Ln
open Go Go.RowKit Go.Proofs.Eng
theorem c5 {w0 : World} {e n : Int} {lines : List (List UInt8)} {v : Value} (hi : -9223372036854775808 ≤ n ∧ n ≤ 9223372036854775807) (hr : Rd w0 [] 1 v lines.length (lines.map st)) (hsz : (answerOf 0 (Lib.itoa n) lines).length ≤ 140737488355328) (hT : ∀ i, i < 20 → Cel w0 [] ⟨0, i, none⟩ (.int .u64 ((10 ^ i : Nat) : Int))) : CtR Pg w0 5 #[.agg #[.int .i64 e, .int .i64 n, v]] [] (fun u H => u = .bool true ∧ H = []) := by
  refine Ct.of_body Go.Proofs.Tryd.func5 rfl 11 rfl rfl (fun R => ?_)
  refine VC.seq ?_
  refine VC.region ?_
  refine V.box rfl rfl rfl rfl (fun b1 => ?_)
  refine V.assign rfl rfl rfl ?_
  refine V.nil ?_
  refine Post.nextC ?_
  refine VC.seq ?_
  refine VC.any ([[(b1, .cells #[.int .i64 e, .int .i64 n, v] 34 (0, 0))]]) 9 9 mixed rfl ?_
  refine VA.take 0 rfl (by kernel_rfl) (by kernel_rfl) rfl (by kernel_rfl) (by kernel_rfl) (by repeat' constructor) ?_
  apply V.loadAll rfl rfl rfl rfl
  · repeat' constructor
  · exact rfl
  refine V.nil ?_
  refine Post.took ?_
  refine VA.take 2 rfl (by kernel_rfl) (by kernel_rfl) rfl (by kernel_rfl) (by kernel_rfl) (by repeat' constructor) ?_
  apply V.loadAll rfl rfl rfl rfl
  · repeat' constructor
  · exact rfl
  refine V.nil ?_
  refine Post.took ?_
  refine VA.one 1 (by kernel_rfl) rfl ?_
  apply V.call rfl rfl rfl (hc := c13 (e := e) (n := n) (num := Lib.itoa n) (C := []) (c29 hi hT) hr hsz)
  · repeat' constructor
  rintro vq Ho ⟨rfl, rfl⟩
  refine V.nil ?_
  refine Post.came (by repeat' constructor) ?_
  refine VA.one 3 (by kernel_rfl) rfl ?_
  apply V.call rfl rfl rfl (hc := c14 (e := e) (n := n) (C := []) hi hr hsz)
  · repeat' constructor
  rintro vq Ho ⟨rfl, rfl⟩
  refine V.nil ?_
  refine Post.came (by repeat' constructor) ?_
  refine VA.take 4 rfl (by kernel_rfl) (by kernel_rfl) rfl (by kernel_rfl) (by kernel_rfl) (by repeat' constructor) ?_
  refine V.bin rfl rfl rfl rfl (bin_steql _ _) ?_
  refine V.know (t := 7) (y := .bool true) rfl (congrArg Value.bool (decide_eq_true rfl)) ?_
  refine V.nil ?_
  refine Post.took ?_
  refine VA.take 5 rfl (by kernel_rfl) (by kernel_rfl) rfl (by kernel_rfl) (by kernel_rfl) (by repeat' constructor) ?_
  refine V.move rfl rfl rfl ?_
  refine V.nil ?_
  refine Post.took ?_
  refine VA.one 6 (by kernel_rfl) rfl ?_
  apply V.call rfl rfl rfl (hc := c12)
  · repeat' constructor
  rintro vq Ho ⟨rfl, rfl⟩
  refine V.nil ?_
  refine Post.came (by repeat' constructor) ?_
  refine VA.take 7 rfl (by kernel_rfl) (by kernel_rfl) rfl (by kernel_rfl) (by kernel_rfl) (by repeat' constructor) ?_
  refine V.pickT rfl rfl rfl rfl ?_
  refine V.nil ?_
  refine Post.took ?_
  refine VA.take 8 rfl (by kernel_rfl) (by kernel_rfl) rfl (by kernel_rfl) (by kernel_rfl) (by repeat' constructor) ?_
  refine V.assign rfl rfl rfl ?_
  refine V.nil ?_
  refine Post.took ?_
  refine VA.done (by kernel_rfl) ?_
  refine Post.nextC ?_
  refine VC.ret ?_
  apply Post.ret1 rfl rfl 
  · exact ⟨rfl, rfl⟩
  · repeat' constructor

end Go.Proofs.Ln
