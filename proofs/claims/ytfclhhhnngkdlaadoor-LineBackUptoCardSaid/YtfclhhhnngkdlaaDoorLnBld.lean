/- Contracts of functions of the given program, each proved by walking its code: part of the proof of this claim; no condition beyond those that each theorem names. -/
import Derived.Test.YtfclhhhnngkdlaaDoorLnFacts
set_option linter.unusedVariables false
set_option linter.unusedSimpArgs false
namespace Go.Proofs.Ln
open Go Go.RowKit Go.Proofs.Eng
instance l67 : Lies Pg 67 2 0 67 := ⟨by kernel_rfl⟩
/-- a builder at bp that holds these bytes -/
structure Bd (bp : Nat) (p v : Value) (c : Chunk) (bs : List UInt8) : Prop where
  p : p = .pointer none ∨ p = .pointer (some ⟨bp, 0, none⟩)
  own : Own 5 1 c v bs.length (bs.map byv)
  nil : bs = [] → v = .slice none 0 0
abbrev bdB (bp : Nat) (p v : Value) : Chunk := [(bp, .cells #[p, v] 67 (0, 0))]
theorem Bd.cases {bp : Nat} {p v : Value} {c : Chunk} {bs : List UInt8} (h : Bd bp p v c bs) : (c = [] ∧ v = .slice none 0 0 ∧ bs = []) ∨ ∃ g cap cur, c = [(g, .cells cur 5 (0, 0))] ∧ v = .slice (some ⟨g, 0, none⟩) bs.length cap ∧ bs ≠ [] ∧ bs.length ≤ cap ∧ cap ≠ 0 ∧ cur.size = cap ∧ cur.toList.take bs.length = bs.map byv := by
  obtain ⟨hp, ⟨_, ⟨rfl, rfl, hn⟩ | ⟨gb, cap, cur, rfl, rfl, h1, h2, h3, h4⟩⟩, hnil⟩ := h
  · exact .inl ⟨rfl, rfl, List.eq_nil_of_length_eq_zero hn⟩
  · have hne : bs ≠ [] := fun h => by have := hnil h; cases this
    have hlen : 0 < bs.length := List.length_pos_iff.2 hne
    exact .inr ⟨gb, cap, cur, rfl, rfl, hne, h1, by omega, by omega, by simpa using h4⟩
theorem Bd.start (bp : Nat) : Bd bp (.pointer none) (.slice none 0 0) [] [] := ⟨.inl rfl, Own.nil _ _, fun _ => rfl⟩
abbrev pt (b : Nat) : Value := .pointer (some ⟨b, 0, none⟩)

theorem c51 {w0 : World} {bp : Nat} {p v : Value} (hp : p = .pointer none ∨ p = pt bp) : CtR Pg w0 51 #[pt bp] [bdB bp p v] (fun u H => H = [bdB bp (pt bp) v]) := by
  refine Ct.of_body Go.Proofs.Tryd.func51 rfl 20 rfl rfl (fun R => ?_)
  refine VC.seq ?_
  refine VC.region ?_
  rcases hp with rfl | rfl
  ·
    refine V.move rfl rfl rfl ?_
    refine V.nilCheck rfl rfl rfl ?_
    refine V.fieldAddr 0 64 rfl rfl rfl rfl rfl ?_
    apply V.loadL rfl rfl rfl rfl
    · repeat' constructor
    · repeat' constructor
    refine V.bin rfl rfl rfl rfl (bin_peqlNil _) ?_
    refine V.know (t := 6) (y := .bool true) rfl (rfl) ?_
    refine V.nil ?_
    refine Post.nextC ?_
    refine VC.condT rfl ?_
    refine VC.region ?_
    refine V.move rfl rfl rfl ?_
    refine V.move rfl rfl rfl ?_
    apply V.toUnsafe rfl rfl rfl rfl
    · repeat' constructor
    · exact rfl
    refine V.extern (fn := Go.Proofs.Tryd.f65) (e := Extern.AbiNoEscape.same) (vs := [pt bp]) (v := pt bp) Go.Proofs.Tryd.func65 (by decide) rfl (by kernel_rfl) (by kernel_rfl) rfl rfl rfl (fun w => rfl) ?_
    apply V.fromUnsafe rfl rfl rfl
    · repeat' constructor
    · exact l67
    refine V.nilCheck rfl rfl rfl ?_
    refine V.fieldAddr 0 64 rfl rfl rfl rfl rfl ?_
    apply V.storeL rfl rfl rfl rfl rfl
    · repeat' constructor
    · repeat' constructor
    refine V.nil ?_
    refine Post.end_ rfl (?_)
    apply Post.ret0 rfl 
    · exact rfl
    · repeat' constructor
  ·
    refine V.move rfl rfl rfl ?_
    refine V.nilCheck rfl rfl rfl ?_
    refine V.fieldAddr 0 64 rfl rfl rfl rfl rfl ?_
    apply V.loadL rfl rfl rfl rfl
    · repeat' constructor
    · repeat' constructor
    refine V.bin rfl rfl rfl rfl (bin_peqlNil _) ?_
    refine V.know (t := 6) (y := .bool false) rfl (rfl) ?_
    refine V.nil ?_
    refine Post.nextC ?_
    refine VC.condF rfl ?_
    refine VC.seq ?_
    refine VC.region ?_
    refine V.move rfl rfl rfl ?_
    refine V.nilCheck rfl rfl rfl ?_
    refine V.fieldAddr 0 64 rfl rfl rfl rfl rfl ?_
    apply V.loadL rfl rfl rfl rfl
    · repeat' constructor
    · repeat' constructor
    refine V.move rfl rfl rfl ?_
    refine V.bin rfl rfl rfl rfl (bin_pneqSame _) ?_
    refine V.know (t := 19) (y := .bool false) rfl (rfl) ?_
    refine V.nil ?_
    refine Post.nextC ?_
    refine VC.condF rfl ?_
    refine VC.skip ?_
    refine Post.end_ rfl (?_)
    apply Post.ret0 rfl 
    · exact rfl
    · repeat' constructor

theorem c28 {w0 : World} {bp : Nat} {p v : Value} {c : Chunk} {bs s : List UInt8} (hb : Bd bp p v c bs) (hl : bs.length + s.length ≤ 140737488355328) : CtR Pg w0 28 #[pt bp, st s] [bdB bp p v, c] (fun u H => ∃ v1 c1, Bd bp (pt bp) v1 c1 (bs ++ s) ∧ u = .tuple #[.int .i64 (s.length : Int), .nilIface] ∧ H = [bdB bp (pt bp) v1, c1]) := by
  refine Ct.of_body Go.Proofs.Tryd.func28 rfl 19 rfl rfl (fun R => ?_)
  refine VC.seq ?_
  refine VC.region ?_
  refine V.assign rfl rfl rfl ?_
  refine V.assign rfl rfl rfl ?_
  refine V.nil ?_
  refine Post.nextC ?_
  refine VC.seq ?_
  refine VC.region ?_
  refine V.move rfl rfl rfl ?_
  apply V.call rfl rfl rfl (hc := c51 hb.p)
  · repeat' constructor
  rintro _ Ho rfl
  refine V.nil ?_
  refine Post.nextC ?_
  refine VC.seq ?_
  refine VC.region ?_
  refine V.move rfl rfl rfl ?_
  refine V.move rfl rfl rfl ?_
  refine V.nilCheck rfl rfl rfl ?_
  refine V.fieldAddr 1 65 rfl rfl rfl rfl rfl ?_
  apply V.loadL rfl rfl rfl rfl
  · repeat' constructor
  · repeat' constructor
  refine V.move rfl rfl rfl ?_
  apply V.appendSt rfl rfl rfl rfl rfl (ho := hb.own) (hb := hl)
  · repeat' constructor
  intro v1 c1 ho1 hn1
  have hb1 : Bd bp (pt bp) v1 c1 (bs ++ s) := ⟨.inr rfl, by simpa using ho1, fun h => hn1 (by rw [List.append_eq_nil_iff] at h; simp [h.1, h.2]) (hb.nil (List.append_eq_nil_iff.1 h).1)⟩
  refine V.nilCheck rfl rfl rfl ?_
  refine V.fieldAddr 1 65 rfl rfl rfl rfl rfl ?_
  apply V.storeL rfl rfl rfl rfl (by obtain ⟨_, _, h, _⟩ := ho1.rd (w0 := w0); rw [h]; rfl)
  · repeat' constructor
  · repeat' constructor
  refine V.nil ?_
  refine Post.nextC ?_
  refine VC.seq ?_
  refine VC.region ?_
  refine V.move rfl rfl rfl ?_
  refine V.lenSt rfl rfl rfl ?_
  refine V.assign rfl rfl rfl ?_
  refine V.assign rfl rfl rfl ?_
  refine V.nil ?_
  refine Post.nextC ?_
  refine VC.ret ?_
  apply Post.ret2 rfl rfl rfl 
  · exact ⟨v1, c1, hb1, rfl, rfl⟩
  · repeat' constructor

theorem c64 {w0 : World} {bp : Nat} {p v : Value} {c : Chunk} {bs : List UInt8} {a : UInt8} (hb : Bd bp p v c bs) (hl : bs.length + 1 ≤ 140737488355328) : CtR Pg w0 64 #[pt bp, .int .u8 (a.toNat : Int)] [bdB bp p v, c] (fun u H => ∃ v1 c1, Bd bp (pt bp) v1 c1 (bs ++ [a]) ∧ u = .nilIface ∧ H = [bdB bp (pt bp) v1, c1]) := by
  refine Ct.of_body Go.Proofs.Tryd.func64 rfl 17 rfl rfl (fun R => ?_)
  refine VC.seq ?_
  refine VC.region ?_
  refine V.assign rfl rfl rfl ?_
  refine V.nil ?_
  refine Post.nextC ?_
  refine VC.seq ?_
  refine VC.region ?_
  refine V.move rfl rfl rfl ?_
  apply V.call rfl rfl rfl (hc := c51 hb.p)
  · repeat' constructor
  rintro _ Ho rfl
  refine V.nil ?_
  refine Post.nextC ?_
  refine VC.seq ?_
  refine VC.region ?_
  refine V.move rfl rfl rfl ?_
  refine V.move rfl rfl rfl ?_
  refine V.nilCheck rfl rfl rfl ?_
  refine V.fieldAddr 1 65 rfl rfl rfl rfl rfl ?_
  apply V.loadL rfl rfl rfl rfl
  · repeat' constructor
  · repeat' constructor
  refine V.move rfl rfl rfl ?_
  refine V.buildSlice1 (l := [byv a]) rfl rfl rfl rfl rfl rfl rfl (fun b3 => ?_)
  apply V.append1 rfl rfl rfl rfl rfl rfl (news := [byv a]) (ho := hb.own) (hb := by omega) (h63 := by simp only [maxLen]; omega)
  case hp => repeat' constructor
  case hl => rfl
  case h1 => rfl
  intro v1 c1 ho1
  have hb1 : Bd bp (pt bp) v1 c1 (bs ++ [a]) := ⟨.inr rfl, by simpa using ho1, fun h => by simp at h⟩
  refine V.nilCheck rfl rfl rfl ?_
  refine V.fieldAddr 1 65 rfl rfl rfl rfl rfl ?_
  apply V.storeL rfl rfl rfl rfl (by obtain ⟨_, _, h, _⟩ := ho1.rd (w0 := w0); rw [h]; rfl)
  · repeat' constructor
  · repeat' constructor
  refine V.nil ?_
  refine Post.nextC ?_
  refine VC.seq ?_
  refine VC.region ?_
  refine V.assign rfl rfl rfl ?_
  refine V.nil ?_
  refine Post.nextC ?_
  refine VC.ret ?_
  apply Post.ret1 rfl rfl 
  · exact ⟨v1, c1, hb1, rfl, rfl⟩
  · repeat' constructor

theorem c30 {w0 : World} {bp : Nat} {p v : Value} {c : Chunk} {bs : List UInt8} (hb : Bd bp p v c bs) (hl : bs.length ≤ 140737488355328) : CtR Pg w0 30 #[pt bp] [bdB bp p v, c] (fun u H => u = st bs ∧ H = [bdB bp p v]) := by
  refine Ct.of_body Go.Proofs.Tryd.func30 rfl 14 rfl rfl (fun R => ?_)
  refine VC.seq ?_
  refine VC.region ?_
  rcases hb.cases with ⟨rfl, rfl, rfl⟩ | ⟨gb, cap, cur, rfl, rfl, hne, h1, h2, h3, h4⟩
  ·
    refine V.assign rfl rfl rfl ?_
    refine V.nil ?_
    refine Post.nextC ?_
    refine VC.seq ?_
    refine VC.drawTail 10 mixed (by kernel_rfl) ?_
    refine V.move rfl rfl rfl ?_
    refine V.nilCheck rfl rfl rfl ?_
    refine V.fieldAddr 1 65 rfl rfl rfl rfl rfl ?_
    apply V.loadL rfl rfl rfl rfl
    · repeat' constructor
    · repeat' constructor
    refine V.sliceDataN rfl rfl rfl ?_
    refine V.move rfl rfl rfl ?_
    refine V.nilCheck rfl rfl rfl ?_
    refine V.fieldAddr 1 65 rfl rfl rfl rfl rfl ?_
    apply V.loadL rfl rfl rfl rfl
    · repeat' constructor
    · repeat' constructor
    refine V.len rfl rfl rfl ?_
    refine V.nil ?_
    refine Post.tail ?_
    refine V.unsafeString0 rfl rfl rfl rfl ?_
    refine V.assign rfl rfl rfl ?_
    refine V.nil ?_
    refine Post.nextC ?_
    refine VC.ret ?_
    apply Post.ret1 rfl rfl 
    · exact ⟨rfl, rfl⟩
    · repeat' constructor
  ·
    refine V.assign rfl rfl rfl ?_
    refine V.nil ?_
    refine Post.nextC ?_
    refine VC.seq ?_
    refine VC.drawTail 10 mixed (by kernel_rfl) ?_
    refine V.move rfl rfl rfl ?_
    refine V.nilCheck rfl rfl rfl ?_
    refine V.fieldAddr 1 65 rfl rfl rfl rfl rfl ?_
    apply V.loadL rfl rfl rfl rfl
    · repeat' constructor
    · repeat' constructor
    refine V.sliceDataO rfl rfl rfl h2 ?_
    refine V.move rfl rfl rfl ?_
    refine V.nilCheck rfl rfl rfl ?_
    refine V.fieldAddr 1 65 rfl rfl rfl rfl rfl ?_
    apply V.loadL rfl rfl rfl rfl
    · repeat' constructor
    · repeat' constructor
    refine V.len rfl rfl rfl ?_
    refine V.nil ?_
    refine Post.tail ?_
    apply V.unsafeStringR (size := 1) rfl rfl rfl rfl
    · repeat' constructor
    · exact hne
    · omega
    · exact h4
    · omega
    refine V.assign rfl rfl rfl ?_
    refine V.nil ?_
    refine Post.nextC ?_
    refine VC.ret ?_
    apply Post.ret1 rfl rfl 
    · exact ⟨rfl, rfl⟩
    · repeat' constructor

end Go.Proofs.Ln
