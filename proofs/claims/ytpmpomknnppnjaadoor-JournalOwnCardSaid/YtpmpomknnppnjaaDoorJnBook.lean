/- Contracts of functions of the given program, each proved by walking its code: part of the proof of this claim; no condition beyond those that each theorem names. -/
import Derived.Test.YtpmpomknnppnjaaDoorJnSide
set_option linter.unusedVariables false
set_option linter.unusedSimpArgs false
namespace Go.Proofs.Jn
open Go Go.RowKit Go.Proofs.Eng
/-- a Book's block that holds lists of bytes alone -/
abbrev bkB (b : Nat) (v0 v1 v2 v3 : Value) (n : Int) : Chunk :=
  [(b, .cells #[v0, v1, v2, v3, .slice none 0 0, .slice none 0 0, .slice none 0 0, .slice none 0 0, .slice none 0 0, .slice none 0 0, .slice none 0 0, .slice none 0 0, .int .i64 n] 38 (0, 0))]

theorem c32 {w0 : World} {b : Nat} {v0 v1 v2 v3 : Value} {n : Int} (hn : n ≤ 200000) : CtR Pg w0 32 #[.pointer (some ⟨b, 0, none⟩)] [bkB b v0 v1 v2 v3 n] (fun v H => v = .bool false ∧ H = [bkB b v0 v1 v2 v3 n]) := by
  refine Ct.of_body Go.Proofs.Tryd.func32 rfl 8 rfl rfl (fun R => ?_)
  refine VC.seq ?_
  refine VC.region ?_
  refine V.assign rfl rfl rfl ?_
  refine V.nil ?_
  refine Post.nextC ?_
  refine VC.seq ?_
  refine VC.region ?_
  refine V.move rfl rfl rfl ?_
  refine V.nilCheck rfl rfl rfl ?_
  refine V.fieldAddr 12 3 rfl rfl rfl rfl rfl ?_
  apply V.loadL rfl rfl rfl rfl
  · repeat' constructor
  · repeat' constructor
  refine V.bin rfl rfl rfl rfl (bin_gtr _ _ _) ?_
  refine V.know (t := 7) (y := .bool false) rfl (by rw [decide_eq_false (by omega)]) ?_
  refine V.assign rfl rfl rfl ?_
  refine V.nil ?_
  refine Post.nextC ?_
  refine VC.ret ?_
  apply Post.ret1 rfl rfl 
  · exact ⟨rfl, rfl⟩
  · repeat' constructor

theorem c12 {w0 : World} {b N m : Nat} {vB vW v2 v3 v : Value} {n : Int} {cB cW c : Chunk} {vsB vsW : List Value} {r : Bytes} (hB : Own 31 1 cB vB N vsB) (hW : Own 31 1 cW vW N vsW) (hr : Rd w0 c 1 v m (r.map byv)) (hN : N ≤ 100000) (hm : m ≤ 131072) (hn : 0 ≤ n ∧ n ≤ 200000) : CtR Pg w0 12 #[.pointer (some ⟨b, 0, none⟩), v] [bkB b vB vW v2 v3 n, cB, cW, c] (fun u H => ∃ vB1 cB1 vW1 cW1 x cx, Own 31 1 cB1 vB1 (N + 1) (vsB ++ [v]) ∧ Own 31 1 cW1 vW1 (N + 1) (vsW ++ [x]) ∧ Own 5 1 cx x m (r.map byv) ∧ H = [bkB b vB1 vW1 v2 v3 (n + (m : Int) + 1), cB1, cW1, cx, c]) := by
  obtain ⟨ad, cp, rfl, hle1, hle2, hle3, hle4⟩ := id hr
  refine Ct.of_body Go.Proofs.Tryd.func12 rfl 39 rfl rfl (fun R => ?_)
  refine VC.seq ?_
  refine VC.seq ?_
  refine VC.region ?_
  refine V.move rfl rfl rfl ?_
  apply V.call rfl rfl rfl (hc := c32 (n := n) (by omega))
  · repeat' constructor
  rintro v Ho ⟨rfl, rfl⟩
  refine V.nil ?_
  refine Post.nextC ?_
  refine VC.cond rfl (fun h1 => ?_) (fun h1 => ?_)
  · try simp only [decide_eq_true_eq, decide_eq_false_iff_not, Bool.not_eq_true', Bool.not_eq_false', Bool.not_eq_eq_eq_not, Bool.not_true, Bool.not_false, beq_iff_eq, beq_eq_false_iff_ne, ne_eq, Int.not_lt, Int.not_le, Option.isSome_some, Option.isNone_none, Option.isSome_none, Option.isNone_some] at h1
    cases h1
  · try simp only [decide_eq_true_eq, decide_eq_false_iff_not, Bool.not_eq_true', Bool.not_eq_false', Bool.not_eq_eq_eq_not, Bool.not_true, Bool.not_false, beq_iff_eq, beq_eq_false_iff_ne, ne_eq, Int.not_lt, Int.not_le, Option.isSome_some, Option.isNone_none, Option.isSome_none, Option.isNone_some] at h1
    refine VC.skip ?_
    refine Post.nextC ?_
    refine VC.seq ?_
    refine VC.region ?_
    refine V.move rfl rfl rfl ?_
    refine V.move rfl rfl rfl ?_
    refine V.nilCheck rfl rfl rfl ?_
    refine V.fieldAddr 12 3 rfl rfl rfl rfl rfl ?_
    apply V.loadL rfl rfl rfl rfl
    · repeat' constructor
    · repeat' constructor
    refine V.move rfl rfl rfl ?_
    refine V.len rfl rfl rfl ?_
    refine V.bin rfl rfl rfl rfl (bin_addI (by omega)) ?_
    refine V.bin rfl rfl rfl rfl (bin_addI (by omega)) ?_
    refine V.nilCheck rfl rfl rfl ?_
    refine V.fieldAddr 12 3 rfl rfl rfl rfl rfl ?_
    apply V.storeL rfl rfl rfl rfl rfl
    · repeat' constructor
    · repeat' constructor
    refine V.nil ?_
    refine Post.nextC ?_
    refine VC.seq ?_
    refine VC.region ?_
    refine V.move rfl rfl rfl ?_
    refine V.move rfl rfl rfl ?_
    refine V.nilCheck rfl rfl rfl ?_
    refine V.fieldAddr 0 22 rfl rfl rfl rfl rfl ?_
    apply V.loadL rfl rfl rfl rfl
    · repeat' constructor
    · repeat' constructor
    refine V.move rfl rfl rfl ?_
    refine V.buildSlice1 (l := [.slice ad m cp]) rfl rfl rfl rfl rfl rfl rfl (fun b1 => ?_)
    apply V.append1 rfl rfl rfl rfl rfl rfl (news := [.slice ad m cp]) (ho := hB) (hb := by omega) (h63 := by simp only [maxLen]; omega)
    case hp => repeat' constructor
    case hl => rfl
    case h1 => rfl
    intro vB1 cB1 hoB
    refine V.nilCheck rfl rfl rfl ?_
    refine V.fieldAddr 0 22 rfl rfl rfl rfl rfl ?_
    apply V.storeL rfl rfl rfl rfl (Rd.one (hoB.rd (w0 := w0)))
    · repeat' constructor
    · repeat' constructor
    refine V.nil ?_
    refine Post.nextC ?_
    refine VC.any ([bkB b vB1 vW v2 v3 (n + (m : Int) + 1), c]) 10 13 mixed rfl ?_
    refine VA.take 0 rfl (by kernel_rfl) (by kernel_rfl) rfl (by kernel_rfl) (by kernel_rfl) (by repeat' constructor) ?_
    refine V.move rfl rfl rfl ?_
    refine V.nil ?_
    refine Post.took ?_
    refine VA.take 1 rfl (by kernel_rfl) (by kernel_rfl) rfl (by kernel_rfl) (by kernel_rfl) (by repeat' constructor) ?_
    refine V.move rfl rfl rfl ?_
    refine V.nil ?_
    refine Post.took ?_
    refine VA.take 2 rfl (by kernel_rfl) (by kernel_rfl) rfl (by kernel_rfl) (by kernel_rfl) (by repeat' constructor) ?_
    refine V.nilCheck rfl rfl rfl ?_
    refine V.nil ?_
    refine Post.took ?_
    refine VA.take 3 rfl (by kernel_rfl) (by kernel_rfl) rfl (by kernel_rfl) (by kernel_rfl) (by repeat' constructor) ?_
    refine V.fieldAddr 1 22 rfl rfl rfl rfl rfl ?_
    refine V.nil ?_
    refine Post.took ?_
    refine VA.take 4 rfl (by kernel_rfl) (by kernel_rfl) rfl (by kernel_rfl) (by kernel_rfl) (by repeat' constructor) ?_
    apply V.loadL rfl rfl rfl rfl
    · repeat' constructor
    · repeat' constructor
    refine V.nil ?_
    refine Post.took ?_
    refine VA.take 6 rfl (by kernel_rfl) (by kernel_rfl) rfl (by kernel_rfl) (by kernel_rfl) (by repeat' constructor) ?_
    refine V.move rfl rfl rfl ?_
    refine V.nil ?_
    refine Post.took ?_
    refine VA.one 5 (by kernel_rfl) rfl ?_
    refine V.buildSlice0 rfl rfl (fun b1 => ?_)
    refine V.nil ?_
    refine Post.came (by repeat' constructor) ?_
    refine VA.one 7 (by kernel_rfl) rfl ?_
    apply V.appendR (m := 0) (l := []) (news := r.map byv) rfl rfl rfl rfl rfl rfl (ho := Own.empty _ 5 1) (hp1 := .inr ?hq) (hr := hr) (h1 := all_byv _) (hb := by omega) (h63 := by simp only [maxLen]; omega)
    case hp => repeat' constructor
    case hq => repeat' constructor
    intro x cx hox
    rw [Nat.zero_add, List.nil_append] at hox
    refine V.nil ?_
    refine Post.came (by repeat' constructor) ?_
    refine VA.one 8 (by kernel_rfl) rfl ?_
    refine V.buildSlice1 (l := [x]) rfl rfl rfl (cells_of_one (Rd.one (hox.rd (w0 := w0)))) rfl rfl rfl (fun b3 => ?_)
    refine V.nil ?_
    refine Post.came (by repeat' constructor) ?_
    refine VA.one 9 (by kernel_rfl) rfl ?_
    apply V.append1 rfl rfl rfl rfl rfl rfl (news := [x]) (ho := hW) (hb := by omega) (h63 := by simp only [maxLen]; omega)
    case hp => repeat' constructor
    case hl => rfl
    case h1 => simp [Rd.one (hox.rd (w0 := w0))]
    intro vW1 cW1 hoW
    refine V.nil ?_
    refine Post.came (by repeat' constructor) ?_
    refine VA.one 10 (by kernel_rfl) rfl ?_
    refine V.nilCheck rfl rfl rfl ?_
    refine V.nil ?_
    refine Post.cameLast rfl ?_
    refine VA.one 11 (by kernel_rfl) rfl ?_
    refine V.fieldAddr 1 22 rfl rfl rfl rfl rfl ?_
    refine V.nil ?_
    refine Post.cameLast rfl ?_
    refine VA.one 12 (by kernel_rfl) rfl ?_
    apply V.storeL rfl rfl rfl rfl (Rd.one (hoW.rd (w0 := w0)))
    · repeat' constructor
    · repeat' constructor
    refine V.nil ?_
    refine Post.cameLast rfl ?_
    refine VA.done (by kernel_rfl) ?_
    refine Post.end_ rfl (?_)
    apply Post.ret0 rfl 
    · exact ⟨vB1, cB1, vW1, cW1, x, cx, hoB, hoW, hox, rfl⟩
    · repeat' constructor

theorem Rd.at1 {w0 : World} {c : Chunk} {v : Value} {n : Nat} {l : List Value} {i : Nat} {u : Value} (h : Rd w0 c 1 v n l) (hi : l[i]? = some u) : i < n ∧ ∃ b o cp, v = .slice (some ⟨b, o, none⟩) n cp ∧ Cel w0 c ⟨b, o + i, none⟩ u := by
  obtain ⟨a, cp, rfl, h1, h2, h3, h4⟩ := h
  have hl := (List.getElem?_eq_some_iff.1 hi).1
  rw [Nat.mul_one] at h3
  refine ⟨by omega, ?_⟩
  rcases h4 with rfl | ⟨b, o, rfl, hc⟩
  · cases hi
  · exact ⟨b, o, cp, rfl, hc i u hi⟩

theorem c33 {w0 : World} {b N : Nat} {vB vW v2 v3 : Value} {n : Int} {cB cL cW cX : Chunk} {vsB vsW : List Value} {rs : List Bytes} (hB : Rd w0 cB 1 vB N vsB) (hL : RdL w0 cL vsB rs) (hW : Rd w0 cW 1 vW N vsW) (hX : RdL w0 cX vsW rs) : CtR Pg w0 33 #[.pointer (some ⟨b, 0, none⟩)] [bkB b vB vW v2 v3 n, cB, cL, cW, cX] (fun v H => v = .bool true ∧ H = [bkB b vB vW v2 v3 n, cB, cL, cW, cX]) := by
  obtain ⟨aB, cpB, rfl, hB1, hB2, hB3, hB4⟩ := id hB
  obtain ⟨aW, cpW, rfl, hW1, hW2, hW3, hW4⟩ := id hW
  have hlB := hL.1
  have hlW := hX.1
  have hN63 : N ≤ 9223372036854775807 := by simp only [maxLen] at hB2; omega
  rw [Nat.mul_one] at hB3 hW3
  refine Ct.of_body Go.Proofs.Tryd.func33 rfl 82 rfl rfl (fun R => ?_)
  refine VC.seq ?_
  refine VC.region ?_
  refine V.assign rfl rfl rfl ?_
  refine V.nil ?_
  refine Post.nextC ?_
  refine VC.seq ?_
  refine VC.seq ?_
  refine VC.region ?_
  refine V.assign rfl rfl rfl ?_
  refine V.nil ?_
  refine Post.nextC ?_
  refine VC.block ?_
  refine VC.loop (σ := Nat) (fun i => [(0, .pointer (some ⟨b, 0, none⟩)), (3, .int .i64 (i : Int))]) (fun i => bkB b (.slice aB N cpB) (.slice aW N cpW) v2 v3 n :: cB :: cL :: cW :: cX :: R) (fun i => i ≤ N) (fun i => N - i) 0 (Nat.zero_le _) ?_ ?_ ?_
  · exact ⟨rfl, rfl, trivial⟩
  · repeat' constructor
  intro i hi
  refine VC.seq ?_
  refine VC.seq ?_
  refine VC.region ?_
  refine V.move rfl rfl rfl ?_
  refine V.move rfl rfl rfl ?_
  refine V.nilCheck rfl rfl rfl ?_
  refine V.fieldAddr 0 22 rfl rfl rfl rfl rfl ?_
  apply V.loadL rfl rfl rfl rfl
  · repeat' constructor
  · repeat' constructor
  refine V.len rfl rfl rfl ?_
  refine V.bin rfl rfl rfl rfl (bin_lss _ _ _) ?_
  refine V.nil ?_
  refine Post.nextC ?_
  refine VC.cond rfl (fun h1 => ?_) (fun h1 => ?_)
  · try simp only [decide_eq_true_eq, decide_eq_false_iff_not, Bool.not_eq_true', Bool.not_eq_false', Bool.not_eq_eq_eq_not, Bool.not_true, Bool.not_false, beq_iff_eq, beq_eq_false_iff_ne, ne_eq, Int.not_lt, Int.not_le, Option.isSome_some, Option.isNone_none, Option.isSome_none, Option.isNone_some] at h1
    refine VC.skip ?_
    refine Post.nextC ?_
    refine VC.seq ?_
    refine VC.block ?_
    refine VC.seq ?_
    refine VC.draw mixed (by kernel_rfl) ?_
    obtain ⟨xa, hxa⟩ : ∃ x, vsB[i]? = some x := ⟨vsB[i]'(by omega), by simp⟩
    obtain ⟨xb, hxb⟩ : ∃ x, vsW[i]? = some x := ⟨vsW[i]'(by omega), by simp⟩
    obtain ⟨ra, hra⟩ : ∃ x, rs[i]? = some x := ⟨rs[i]'(by omega), by simp⟩
    obtain ⟨_, ga, oa, cpa, hva, hcela⟩ := Rd.at1 hB hxa
    simp only [Value.slice.injEq] at hva
    obtain ⟨rfl, _, rfl⟩ := hva
    obtain ⟨_, gb, ob, cpb, hvb, hcelb⟩ := Rd.at1 hW hxb
    simp only [Value.slice.injEq] at hvb
    obtain ⟨rfl, _, rfl⟩ := hvb
    have hrda := hL.2 i _ _ hxa hra
    have hrdb := hX.2 i _ _ hxb hra
    refine V.move rfl rfl rfl ?_
    refine V.nilCheck rfl rfl rfl ?_
    refine V.fieldAddr 0 22 rfl rfl rfl rfl rfl ?_
    apply V.loadL rfl rfl rfl rfl
    · repeat' constructor
    · repeat' constructor
    refine V.move rfl rfl rfl ?_
    refine V.indexO (i := i) rfl rfl rfl rfl (by omega) ?_
    rw [Nat.mul_one]
    apply V.loadC (c := cB) rfl rfl rfl rfl
    · repeat' constructor
    · exact hcela
    apply V.str rfl rfl rfl (.inr ?hq) (hr := hrda)
    case hq => repeat' constructor
    refine V.move rfl rfl rfl ?_
    refine V.nilCheck rfl rfl rfl ?_
    refine V.fieldAddr 1 22 rfl rfl rfl rfl rfl ?_
    apply V.loadL rfl rfl rfl rfl
    · repeat' constructor
    · repeat' constructor
    refine V.move rfl rfl rfl ?_
    refine V.indexO (i := i) rfl rfl rfl rfl (by omega) ?_
    rw [Nat.mul_one]
    apply V.loadC (c := cW) rfl rfl rfl rfl
    · repeat' constructor
    · exact hcelb
    apply V.str rfl rfl rfl (.inr ?hq) (hr := hrdb)
    case hq => repeat' constructor
    refine V.bin rfl rfl rfl rfl (bin_sneq _ _) ?_
    refine V.know (t := 31) (y := .bool false) rfl (by simp) ?_
    refine V.nil ?_
    refine Post.nextC ?_
    refine VC.condF rfl ?_
    refine VC.skip ?_
    refine Post.blockNormal (Post.nextC ?_)
    refine VC.region ?_
    refine V.move rfl rfl rfl ?_
    refine V.bin rfl rfl rfl rfl (bin_addI (by omega)) ?_
    refine V.assign rfl rfl rfl ?_
    refine V.nil ?_
    refine Post.round (i + 1) ?_ ?_ ?_ ?_
    · omega
    · omega
    · exact ⟨rfl, rfl, trivial⟩
    · repeat' constructor
  · try simp only [decide_eq_true_eq, decide_eq_false_iff_not, Bool.not_eq_true', Bool.not_eq_false', Bool.not_eq_eq_eq_not, Bool.not_true, Bool.not_false, beq_iff_eq, beq_eq_false_iff_ne, ne_eq, Int.not_lt, Int.not_le, Option.isSome_some, Option.isNone_none, Option.isSome_none, Option.isNone_some] at h1
    refine VC.exit ?_
    refine Post.thenExit (Post.thenExit (Post.blockHit (Post.nextC ?_)))
    refine VC.seq ?_
    refine VC.seq ?_
    refine VC.region ?_
    refine V.assign rfl rfl rfl ?_
    refine V.nil ?_
    refine Post.nextC ?_
    refine VC.block ?_
    refine VC.loop (σ := Nat) (fun i => [(0, .pointer (some ⟨b, 0, none⟩)), (4, .int .i64 (i : Int))]) (fun i => bkB b (.slice aB N cpB) (.slice aW N cpW) v2 v3 n :: cB :: cL :: cW :: cX :: R) (fun i => i = 0) (fun _ => 0) 0 rfl ?_ ?_ ?_
    · exact ⟨rfl, rfl, trivial⟩
    · repeat' constructor
    intro i hi
    refine VC.seq ?_
    refine VC.seq ?_
    refine VC.region ?_
    refine V.move rfl rfl rfl ?_
    refine V.move rfl rfl rfl ?_
    refine V.nilCheck rfl rfl rfl ?_
    refine V.fieldAddr 4 35 rfl rfl rfl rfl rfl ?_
    apply V.loadL rfl rfl rfl rfl
    · repeat' constructor
    · repeat' constructor
    refine V.len rfl rfl rfl ?_
    refine V.bin rfl rfl rfl rfl (bin_lss _ _ _) ?_
    refine V.nil ?_
    refine Post.nextC ?_
    refine VC.cond rfl (fun h2 => ?_) (fun h2 => ?_)
    · try simp only [decide_eq_true_eq, decide_eq_false_iff_not, Bool.not_eq_true', Bool.not_eq_false', Bool.not_eq_eq_eq_not, Bool.not_true, Bool.not_false, beq_iff_eq, beq_eq_false_iff_ne, ne_eq, Int.not_lt, Int.not_le, Option.isSome_some, Option.isNone_none, Option.isSome_none, Option.isNone_some] at h2
      omega
    · try simp only [decide_eq_true_eq, decide_eq_false_iff_not, Bool.not_eq_true', Bool.not_eq_false', Bool.not_eq_eq_eq_not, Bool.not_true, Bool.not_false, beq_iff_eq, beq_eq_false_iff_ne, ne_eq, Int.not_lt, Int.not_le, Option.isSome_some, Option.isNone_none, Option.isSome_none, Option.isNone_some] at h2
      refine VC.exit ?_
      refine Post.thenExit (Post.thenExit (Post.blockHit (Post.nextC ?_)))
      refine VC.seq ?_
      refine VC.seq ?_
      refine VC.region ?_
      refine V.assign rfl rfl rfl ?_
      refine V.nil ?_
      refine Post.nextC ?_
      refine VC.block ?_
      refine VC.loop (σ := Nat) (fun i => [(0, .pointer (some ⟨b, 0, none⟩)), (5, .int .i64 (i : Int))]) (fun i => bkB b (.slice aB N cpB) (.slice aW N cpW) v2 v3 n :: cB :: cL :: cW :: cX :: R) (fun i => i = 0) (fun _ => 0) 0 rfl ?_ ?_ ?_
      · exact ⟨rfl, rfl, trivial⟩
      · repeat' constructor
      intro i hi
      refine VC.seq ?_
      refine VC.seq ?_
      refine VC.region ?_
      refine V.move rfl rfl rfl ?_
      refine V.move rfl rfl rfl ?_
      refine V.nilCheck rfl rfl rfl ?_
      refine V.fieldAddr 8 36 rfl rfl rfl rfl rfl ?_
      apply V.loadL rfl rfl rfl rfl
      · repeat' constructor
      · repeat' constructor
      refine V.len rfl rfl rfl ?_
      refine V.bin rfl rfl rfl rfl (bin_lss _ _ _) ?_
      refine V.nil ?_
      refine Post.nextC ?_
      refine VC.cond rfl (fun h3 => ?_) (fun h3 => ?_)
      · try simp only [decide_eq_true_eq, decide_eq_false_iff_not, Bool.not_eq_true', Bool.not_eq_false', Bool.not_eq_eq_eq_not, Bool.not_true, Bool.not_false, beq_iff_eq, beq_eq_false_iff_ne, ne_eq, Int.not_lt, Int.not_le, Option.isSome_some, Option.isNone_none, Option.isSome_none, Option.isNone_some] at h3
        omega
      · try simp only [decide_eq_true_eq, decide_eq_false_iff_not, Bool.not_eq_true', Bool.not_eq_false', Bool.not_eq_eq_eq_not, Bool.not_true, Bool.not_false, beq_iff_eq, beq_eq_false_iff_ne, ne_eq, Int.not_lt, Int.not_le, Option.isSome_some, Option.isNone_none, Option.isSome_none, Option.isNone_some] at h3
        refine VC.exit ?_
        refine Post.thenExit (Post.thenExit (Post.blockHit (Post.nextC ?_)))
        refine VC.seq ?_
        refine VC.region ?_
        refine V.assign rfl rfl rfl ?_
        refine V.nil ?_
        refine Post.nextC ?_
        refine VC.ret ?_
        apply Post.ret1 rfl rfl 
        · exact ⟨rfl, rfl⟩
        · repeat' constructor

/-- the two marks of list i -/
def mk1 (i : Nat) : UInt8 := UInt8.ofNat (i % 125)
def mk2 (i : Nat) : UInt8 := UInt8.ofNat (125 + i % 125)
theorem byv_mk1 (i : Nat) : byv (mk1 i) = .int .u8 ((i % 125 : Nat) : Int) := by
  have : i % 125 < 125 := Nat.mod_lt _ (by omega)
  simp [byv, mk1]
  omega
theorem byv_mk2 (i : Nat) : byv (mk2 i) = .int .u8 ((125 + i % 125 : Nat) : Int) := by
  have : i % 125 < 125 := Nat.mod_lt _ (by omega)
  simp [byv, mk2]
  omega
/-- lists of these lengths, written full; and with q places more -/
def full (ns : List Nat) : List Bytes := ns.mapIdx fun i n => List.replicate n (mk1 i)
def more (q : Nat) (ns : List Nat) : List Bytes := ns.mapIdx fun i n => List.replicate n (mk1 i) ++ List.replicate q (mk2 i)
theorem full_get {ns : List Nat} {i n : Nat} (h : ns[i]? = some n) : (full ns)[i]? = some (List.replicate n (mk1 i)) := by simp [full, h]
theorem more_get {q : Nat} {ns : List Nat} {i n : Nat} (h : ns[i]? = some n) : (more q ns)[i]? = some (List.replicate n (mk1 i) ++ List.replicate q (mk2 i)) := by simp [more, h]
theorem full_cell {n k i : Nat} (h : k < n) : ((List.replicate n (mk1 i)).map byv)[k]? = some (.int .u8 ((i % 125 : Nat) : Int)) := by
  rw [← byv_mk1]
  simp [h]
theorem more_cell1 {n q k i : Nat} (h : k < n) : ((List.replicate n (mk1 i) ++ List.replicate q (mk2 i)).map byv)[k]? = some (.int .u8 ((i % 125 : Nat) : Int)) := by
  rw [← byv_mk1, List.map_append, List.getElem?_append_left (by simpa using h)]
  simp [h]
theorem more_cell2 {n q k i : Nat} (h : n ≤ k) (h2 : k < n + q) : ((List.replicate n (mk1 i) ++ List.replicate q (mk2 i)).map byv)[k]? = some (.int .u8 ((125 + i % 125 : Nat) : Int)) := by
  rw [← byv_mk2, List.map_append, List.getElem?_append_right (by simpa using h), List.map_replicate, List.map_replicate, List.length_replicate, List.getElem?_replicate, if_pos (by omega)]

theorem c45 {w0 : World} {b N q : Nat} {vB vW v2 v3 vO : Value} {n : Int} {cB cL cO cX : Chunk} {vsB vsO : List Value} {ns : List Nat} (hB : Rd w0 cB 1 vB N vsB) (hL : RdL w0 cL vsB (full ns)) (hO : Rd w0 cO 1 vO N vsO) (hX : RdL w0 cX vsO (more q ns)) (hns : ns.length = N) (hq : q ≤ 1000) (hsm : ∀ m ∈ ns, m ≤ 131072) : CtR Pg w0 45 #[.pointer (some ⟨b, 0, none⟩), vO] [bkB b vB vW v2 v3 n, cB, cL, cO, cX] (fun v H => v = .bool true ∧ H = [bkB b vB vW v2 v3 n, cB, cL, cO, cX]) := by
  obtain ⟨aB, cpB, rfl, hB1, hB2, hB3, hB4⟩ := id hB
  obtain ⟨aO, cpO, rfl, hO1, hO2, hO3, hO4⟩ := id hO
  have hlB := hL.1
  have hlO := hX.1
  have hN63 : N ≤ 9223372036854775807 := by simp only [maxLen] at hB2; omega
  rw [Nat.mul_one] at hB3 hO3
  refine Ct.of_body Go.Proofs.Tryd.func45 rfl 82 rfl rfl (fun R => ?_)
  refine VC.seq ?_
  refine VC.region ?_
  refine V.assign rfl rfl rfl ?_
  refine V.nil ?_
  refine Post.nextC ?_
  refine VC.seq ?_
  refine VC.seq ?_
  refine VC.region ?_
  refine V.assign rfl rfl rfl ?_
  refine V.nil ?_
  refine Post.nextC ?_
  refine VC.block ?_
  refine VC.loop (σ := Nat) (fun i => [(0, .pointer (some ⟨b, 0, none⟩)), (1, .slice aO N cpO), (5, .int .i64 (i : Int))]) (fun i => bkB b (.slice aB N cpB) vW v2 v3 n :: cB :: cL :: cO :: cX :: R) (fun i => i ≤ N) (fun i => N - i) 0 (Nat.zero_le _) ?_ ?_ ?_
  · exact ⟨rfl, rfl, rfl, trivial⟩
  · repeat' constructor
  intro i hi
  refine VC.seq ?_
  refine VC.seq ?_
  refine VC.region ?_
  refine V.move rfl rfl rfl ?_
  refine V.move rfl rfl rfl ?_
  refine V.len rfl rfl rfl ?_
  refine V.bin rfl rfl rfl rfl (bin_lss _ _ _) ?_
  refine V.nil ?_
  refine Post.nextC ?_
  refine VC.cond rfl (fun h1 => ?_) (fun h1 => ?_)
  · try simp only [decide_eq_true_eq, decide_eq_false_iff_not, Bool.not_eq_true', Bool.not_eq_false', Bool.not_eq_eq_eq_not, Bool.not_true, Bool.not_false, beq_iff_eq, beq_eq_false_iff_ne, ne_eq, Int.not_lt, Int.not_le, Option.isSome_some, Option.isNone_none, Option.isSome_none, Option.isNone_some] at h1
    refine VC.skip ?_
    refine Post.nextC ?_
    refine VC.seq ?_
    refine VC.block ?_
    refine VC.seq ?_
    refine VC.region ?_
    obtain ⟨xa, hxa⟩ : ∃ x, vsB[i]? = some x := ⟨vsB[i]'(by omega), by simp⟩
    obtain ⟨xb, hxb⟩ : ∃ x, vsO[i]? = some x := ⟨vsO[i]'(by omega), by simp⟩
    obtain ⟨m, hm⟩ : ∃ x, ns[i]? = some x := ⟨ns[i]'(by omega), by simp⟩
    have hm2 : m ≤ 131072 := hsm m (List.mem_of_getElem? hm)
    obtain ⟨_, ga, oa, cpa, hva, hcela⟩ := Rd.at1 hB hxa
    simp only [Value.slice.injEq] at hva
    obtain ⟨rfl, _, rfl⟩ := hva
    obtain ⟨_, gb, ob, cpb, hvb, hcelb⟩ := Rd.at1 hO hxb
    simp only [Value.slice.injEq] at hvb
    obtain ⟨rfl, _, rfl⟩ := hvb
    have hrda := hL.2 i _ _ hxa (full_get hm)
    have hrdb := hX.2 i _ _ hxb (more_get hm)
    simp only [List.length_append, List.length_replicate] at hrda hrdb
    obtain ⟨aa, ca, rfl, _⟩ := id hrda
    obtain ⟨ab, cb, rfl, _⟩ := id hrdb
    refine V.move rfl rfl rfl ?_
    refine V.nilCheck rfl rfl rfl ?_
    refine V.fieldAddr 0 22 rfl rfl rfl rfl rfl ?_
    apply V.loadL rfl rfl rfl rfl
    · repeat' constructor
    · repeat' constructor
    refine V.move rfl rfl rfl ?_
    refine V.indexO (i := i) rfl rfl rfl rfl (by omega) ?_
    rw [Nat.mul_one]
    apply V.loadC (c := cB) rfl rfl rfl rfl
    · repeat' constructor
    · exact hcela
    refine V.len rfl rfl rfl ?_
    refine V.assign rfl rfl rfl ?_
    refine V.nil ?_
    refine Post.nextC ?_
    refine VC.seq ?_
    refine VC.region ?_
    refine V.assign rfl rfl rfl ?_
    refine V.nil ?_
    refine Post.nextC ?_
    refine VC.block ?_
    refine VC.loop (σ := Nat) (fun k => [(0, .pointer (some ⟨b, 0, none⟩)), (1, .slice (some ⟨gb, ob, none⟩) N cpO), (5, .int .i64 (i : Int)), (6, .int .i64 (m : Int)), (7, .int .i64 (k : Int))]) (fun k => bkB b (.slice (some ⟨ga, oa, none⟩) N cpB) vW v2 v3 n :: cB :: cL :: cO :: cX :: R) (fun k => k ≤ m + q) (fun k => m + q - k) 0 (Nat.zero_le _) ?_ ?_ ?_
    · exact ⟨rfl, rfl, rfl, rfl, rfl, trivial⟩
    · repeat' constructor
    intro k hk
    refine VC.seq ?_
    refine VC.seq ?_
    refine VC.region ?_
    refine V.move rfl rfl rfl ?_
    refine V.move rfl rfl rfl ?_
    refine V.move rfl rfl rfl ?_
    refine V.indexO (i := i) rfl rfl rfl rfl (by omega) ?_
    rw [Nat.mul_one]
    apply V.loadC (c := cO) rfl rfl rfl rfl
    · repeat' constructor
    · exact hcelb
    refine V.len rfl rfl rfl ?_
    refine V.bin rfl rfl rfl rfl (bin_lss _ _ _) ?_
    refine V.nil ?_
    refine Post.nextC ?_
    refine VC.cond rfl (fun h2 => ?_) (fun h2 => ?_)
    · try simp only [decide_eq_true_eq, decide_eq_false_iff_not, Bool.not_eq_true', Bool.not_eq_false', Bool.not_eq_eq_eq_not, Bool.not_true, Bool.not_false, beq_iff_eq, beq_eq_false_iff_ne, ne_eq, Int.not_lt, Int.not_le, Option.isSome_some, Option.isNone_none, Option.isSome_none, Option.isNone_some] at h2
      refine VC.skip ?_
      refine Post.nextC ?_
      refine VC.seq ?_
      refine VC.block ?_
      refine VC.seq ?_
      refine VC.region ?_
      refine V.move rfl rfl rfl ?_
      refine V.move rfl rfl rfl ?_
      by_cases hkn : k < m
      ·
        refine V.bin rfl rfl rfl rfl (bin_lss _ _ _) ?_
        refine V.know (t := 33) (y := .bool true) rfl (by rw [decide_eq_true (by omega)]) ?_
        refine V.move rfl rfl rfl ?_
        refine V.move rfl rfl rfl ?_
        refine V.move rfl rfl rfl ?_
        refine V.indexO (i := i) rfl rfl rfl rfl (by omega) ?_
        rw [Nat.mul_one]
        apply V.loadC (c := cO) rfl rfl rfl rfl
        · repeat' constructor
        · exact hcelb
        obtain ⟨_, gx, ox, cpx, hvx, hcl⟩ := Rd.at1 hrdb (more_cell1 hkn)
        simp only [Value.slice.injEq] at hvx
        obtain ⟨rfl, _, rfl⟩ := hvx
        refine V.move rfl rfl rfl ?_
        refine V.indexO (i := k) rfl rfl rfl rfl (by omega) ?_
        rw [Nat.mul_one]
        apply V.loadC (c := cX) rfl rfl rfl rfl
        · repeat' constructor
        · exact hcl
        refine V.move rfl rfl rfl ?_
        refine V.bin rfl rfl rfl rfl (bin_rem .i64 (i : Int) 125 (by omega)) ?_
        refine V.know (t := 43) (y := .int .i64 ((i % 125 : Nat) : Int)) rfl (by first | rfl | (congr 1; omega)) ?_
        refine V.conv _ rfl rfl rfl (IntWalk.u8_in _ (by omega)) ?_
        refine V.bin rfl rfl rfl rfl (bin_neq _ _ _) ?_
        refine V.know (t := 45) (y := .bool false) rfl (by simp) ?_
        refine V.move rfl rfl rfl ?_
        refine V.move rfl rfl rfl ?_
        refine V.nilCheck rfl rfl rfl ?_
        refine V.fieldAddr 0 22 rfl rfl rfl rfl rfl ?_
        apply V.loadL rfl rfl rfl rfl
        · repeat' constructor
        · repeat' constructor
        refine V.move rfl rfl rfl ?_
        refine V.indexO (i := i) rfl rfl rfl rfl (by omega) ?_
        rw [Nat.mul_one]
        apply V.loadC (c := cB) rfl rfl rfl rfl
        · repeat' constructor
        · exact hcela
        obtain ⟨_, gy, oy, cpy, hvy, hcl2⟩ := Rd.at1 hrda (full_cell hkn)
        simp only [Value.slice.injEq] at hvy
        obtain ⟨rfl, _, rfl⟩ := hvy
        refine V.move rfl rfl rfl ?_
        refine V.indexO (i := k) rfl rfl rfl rfl (by omega) ?_
        rw [Nat.mul_one]
        apply V.loadC (c := cL) rfl rfl rfl rfl
        · repeat' constructor
        · exact hcl2
        refine V.move rfl rfl rfl ?_
        refine V.bin rfl rfl rfl rfl (bin_rem .i64 (i : Int) 125 (by omega)) ?_
        refine V.know (t := 58) (y := .int .i64 ((i % 125 : Nat) : Int)) rfl (by first | rfl | (congr 1; omega)) ?_
        refine V.conv _ rfl rfl rfl (IntWalk.u8_in _ (by omega)) ?_
        refine V.bin rfl rfl rfl rfl (bin_neq _ _ _) ?_
        refine V.know (t := 60) (y := .bool false) rfl (by simp) ?_
        refine V.pickF rfl rfl rfl rfl ?_
        refine V.pickT rfl rfl rfl rfl ?_
        refine V.move rfl rfl rfl ?_
        refine V.move rfl rfl rfl ?_
        refine V.move rfl rfl rfl ?_
        refine V.bin rfl rfl rfl rfl (bin_geq _ _ _) ?_
        refine V.know (t := 66) (y := .bool false) rfl (by rw [decide_eq_false (by omega)]) ?_
        refine V.move rfl rfl rfl ?_
        refine V.skip rfl rfl ?_
        refine V.skip rfl rfl ?_
        refine V.skip rfl rfl ?_
        refine V.skip rfl rfl ?_
        refine V.skip rfl rfl ?_
        refine V.skip rfl rfl ?_
        refine V.skip rfl rfl ?_
        refine V.skip rfl rfl ?_
        refine V.skip rfl rfl ?_
        refine V.skip rfl rfl ?_
        refine V.skip rfl rfl ?_
        refine V.skip rfl rfl ?_
        refine V.pickF rfl rfl rfl rfl ?_
        refine V.pickF rfl rfl rfl rfl ?_
        refine V.nil ?_
        refine Post.nextC ?_
        refine VC.condF rfl ?_
        refine VC.skip ?_
        refine Post.blockNormal (Post.nextC ?_)
        refine VC.region ?_
        refine V.move rfl rfl rfl ?_
        refine V.bin rfl rfl rfl rfl (bin_addI (by omega)) ?_
        refine V.assign rfl rfl rfl ?_
        refine V.nil ?_
        refine Post.round (k + 1) ?_ ?_ ?_ ?_
        · omega
        · omega
        · exact ⟨rfl, rfl, rfl, rfl, rfl, trivial⟩
        · repeat' constructor
      ·
        refine V.bin rfl rfl rfl rfl (bin_lss _ _ _) ?_
        refine V.know (t := 33) (y := .bool false) rfl (by rw [decide_eq_false (by omega)]) ?_
        refine V.move rfl rfl rfl ?_
        refine V.skip rfl rfl ?_
        refine V.skip rfl rfl ?_
        refine V.skip rfl rfl ?_
        refine V.skip rfl rfl ?_
        refine V.skip rfl rfl ?_
        refine V.skip rfl rfl ?_
        refine V.skip rfl rfl ?_
        refine V.skip rfl rfl ?_
        refine V.skip rfl rfl ?_
        refine V.skip rfl rfl ?_
        refine V.skip rfl rfl ?_
        refine V.skip rfl rfl ?_
        refine V.skip rfl rfl ?_
        refine V.skip rfl rfl ?_
        refine V.skip rfl rfl ?_
        refine V.skip rfl rfl ?_
        refine V.skip rfl rfl ?_
        refine V.skip rfl rfl ?_
        refine V.skip rfl rfl ?_
        refine V.skip rfl rfl ?_
        refine V.skip rfl rfl ?_
        refine V.skip rfl rfl ?_
        refine V.skip rfl rfl ?_
        refine V.skip rfl rfl ?_
        refine V.skip rfl rfl ?_
        refine V.skip rfl rfl ?_
        refine V.skip rfl rfl ?_
        refine V.pickF rfl rfl rfl rfl ?_
        refine V.move rfl rfl rfl ?_
        refine V.move rfl rfl rfl ?_
        refine V.move rfl rfl rfl ?_
        refine V.bin rfl rfl rfl rfl (bin_geq _ _ _) ?_
        refine V.know (t := 66) (y := .bool true) rfl (by rw [decide_eq_true (by omega)]) ?_
        refine V.move rfl rfl rfl ?_
        refine V.move rfl rfl rfl ?_
        refine V.move rfl rfl rfl ?_
        refine V.indexO (i := i) rfl rfl rfl rfl (by omega) ?_
        rw [Nat.mul_one]
        apply V.loadC (c := cO) rfl rfl rfl rfl
        · repeat' constructor
        · exact hcelb
        obtain ⟨_, gx, ox, cpx, hvx, hcl⟩ := Rd.at1 hrdb (more_cell2 (i := i) (Nat.le_of_not_lt hkn) (by omega))
        simp only [Value.slice.injEq] at hvx
        obtain ⟨rfl, _, rfl⟩ := hvx
        refine V.move rfl rfl rfl ?_
        refine V.indexO (i := k) rfl rfl rfl rfl (by omega) ?_
        rw [Nat.mul_one]
        apply V.loadC (c := cX) rfl rfl rfl rfl
        · repeat' constructor
        · exact hcl
        refine V.move rfl rfl rfl ?_
        refine V.bin rfl rfl rfl rfl (bin_rem .i64 (i : Int) 125 (by omega)) ?_
        refine V.know (t := 76) (y := .int .i64 ((i % 125 : Nat) : Int)) rfl (by first | rfl | (congr 1; omega)) ?_
        refine V.bin rfl rfl rfl rfl (bin_addI (by omega)) ?_
        refine V.know (t := 77) (y := .int .i64 ((125 + i % 125 : Nat) : Int)) rfl (by first | rfl | (congr 1; omega)) ?_
        refine V.conv _ rfl rfl rfl (IntWalk.u8_in _ (by omega)) ?_
        refine V.bin rfl rfl rfl rfl (bin_neq _ _ _) ?_
        refine V.know (t := 79) (y := .bool false) rfl (by simp) ?_
        refine V.pickT rfl rfl rfl rfl ?_
        refine V.pickF rfl rfl rfl rfl ?_
        refine V.nil ?_
        refine Post.nextC ?_
        refine VC.condF rfl ?_
        refine VC.skip ?_
        refine Post.blockNormal (Post.nextC ?_)
        refine VC.region ?_
        refine V.move rfl rfl rfl ?_
        refine V.bin rfl rfl rfl rfl (bin_addI (by omega)) ?_
        refine V.assign rfl rfl rfl ?_
        refine V.nil ?_
        refine Post.round (k + 1) ?_ ?_ ?_ ?_
        · omega
        · omega
        · exact ⟨rfl, rfl, rfl, rfl, rfl, trivial⟩
        · repeat' constructor
    · try simp only [decide_eq_true_eq, decide_eq_false_iff_not, Bool.not_eq_true', Bool.not_eq_false', Bool.not_eq_eq_eq_not, Bool.not_true, Bool.not_false, beq_iff_eq, beq_eq_false_iff_ne, ne_eq, Int.not_lt, Int.not_le, Option.isSome_some, Option.isNone_none, Option.isSome_none, Option.isNone_some] at h2
      refine VC.exit ?_
      refine Post.thenExit (Post.thenExit (Post.blockHit (Post.blockNormal (Post.nextC ?_))))
      refine VC.region ?_
      refine V.move rfl rfl rfl ?_
      refine V.bin rfl rfl rfl rfl (bin_addI (by omega)) ?_
      refine V.assign rfl rfl rfl ?_
      refine V.nil ?_
      refine Post.round (i + 1) ?_ ?_ ?_ ?_
      · omega
      · omega
      · exact ⟨rfl, rfl, rfl, trivial⟩
      · repeat' constructor
  · try simp only [decide_eq_true_eq, decide_eq_false_iff_not, Bool.not_eq_true', Bool.not_eq_false', Bool.not_eq_eq_eq_not, Bool.not_true, Bool.not_false, beq_iff_eq, beq_eq_false_iff_ne, ne_eq, Int.not_lt, Int.not_le, Option.isSome_some, Option.isNone_none, Option.isSome_none, Option.isNone_some] at h1
    refine VC.exit ?_
    refine Post.thenExit (Post.thenExit (Post.blockHit (Post.nextC ?_)))
    refine VC.seq ?_
    refine VC.region ?_
    refine V.assign rfl rfl rfl ?_
    refine V.nil ?_
    refine Post.nextC ?_
    refine VC.ret ?_
    apply Post.ret1 rfl rfl 
    · exact ⟨rfl, rfl⟩
    · repeat' constructor

end Go.Proofs.Jn
