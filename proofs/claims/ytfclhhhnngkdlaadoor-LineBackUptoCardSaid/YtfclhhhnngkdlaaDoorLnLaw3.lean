/- Contracts of functions of the given program, each proved by walking its code: part of the proof of this claim; no condition beyond those that each theorem names. -/
import Derived.Test.YtfclhhhnngkdlaaDoorLnAns
set_option linter.unusedVariables false
set_option linter.unusedSimpArgs false
namespace Go.Proofs.Ln
open Go Go.RowKit Go.Proofs.Eng
theorem fault_same (a b c : Int) : (decide (a = a) && (decide (b = b) && (decide (c = c) && true))) = true := by simp

theorem c3 {w0 : World} {t : List UInt8} : CtR Pg w0 3 #[st t] [] (fun u H => u = .bool true ∧ H = []) := by
  refine Ct.of_body Go.Proofs.Tryd.func3 rfl 28 rfl rfl (fun R => ?_)
  refine VC.seq ?_
  refine VC.region ?_
  refine V.assign rfl rfl rfl ?_
  refine V.nil ?_
  refine Post.nextC ?_
  refine VC.seq ?_
  refine VC.region ?_
  refine V.move rfl rfl rfl ?_
  apply V.call rfl rfl rfl (hc := c9 (t := t))
  · repeat' constructor
  rintro vq Ho ⟨v1, c1, ho1, rfl, rfl⟩
  refine V.move rfl rfl rfl ?_
  refine V.extract rfl rfl rfl rfl ?_
  refine V.extract rfl rfl rfl rfl ?_
  refine V.alloc (l := [.int .i64 0, .int .i64 0, .int .i64 0]) rfl rfl rfl (fun b1 => ?_)
  refine V.assign rfl rfl rfl ?_
  apply V.storeAll rfl rfl rfl rfl
  · repeat' constructor
  · exact rfl
  · exact rfl
  refine V.nil ?_
  refine Post.nextC ?_
  refine VC.seq ?_
  refine VC.region ?_
  refine V.move rfl rfl rfl ?_
  apply V.call rfl rfl rfl (hc := c10 (t := t))
  · repeat' constructor
  rintro vq Ho ⟨v2, c2, ho2, rfl, rfl⟩
  refine V.move rfl rfl rfl ?_
  refine V.extract rfl rfl rfl rfl ?_
  refine V.extract rfl rfl rfl rfl ?_
  refine V.alloc (l := [.int .i64 0, .int .i64 0, .int .i64 0]) rfl rfl rfl (fun b2 => ?_)
  refine V.assign rfl rfl rfl ?_
  apply V.storeAll rfl rfl rfl rfl
  · repeat' constructor
  · exact rfl
  · exact rfl
  refine V.nil ?_
  refine Post.nextC ?_
  refine VC.seq ?_
  refine VC.region ?_
  apply V.loadAll rfl rfl rfl rfl
  · repeat' constructor
  · exact rfl
  apply V.loadAll rfl rfl rfl rfl
  · repeat' constructor
  · exact rfl
  refine V.bin rfl rfl rfl rfl (bin_eqlS (.int rfl u23 rfl rfl (.int rfl u3 rfl rfl (.int rfl u3 rfl rfl (.nil))))) ?_
  refine V.know (t := 19) (y := .bool true) rfl (congrArg Value.bool (fault_same _ _ _)) ?_
  refine V.move rfl rfl rfl ?_
  refine V.move rfl rfl rfl ?_
  refine V.move rfl rfl rfl ?_
  apply V.call rfl rfl rfl (hc := c11 ho1.rd ho2.rd)
  · repeat' constructor
  rintro vq Ho ⟨rfl, rfl⟩
  refine V.know (t := 23) (y := .bool true) rfl (congrArg Value.bool (decide_eq_true rfl)) ?_
  refine V.pickT rfl rfl rfl rfl ?_
  refine V.move rfl rfl rfl ?_
  apply V.call rfl rfl rfl (hc := c12)
  · repeat' constructor
  rintro vq Ho ⟨rfl, rfl⟩
  refine V.pickT rfl rfl rfl rfl ?_
  refine V.assign rfl rfl rfl ?_
  refine V.nil ?_
  refine Post.nextC ?_
  refine VC.ret ?_
  apply Post.ret1 rfl rfl 
  · exact ⟨rfl, rfl⟩
  · repeat' constructor

end Go.Proofs.Ln
