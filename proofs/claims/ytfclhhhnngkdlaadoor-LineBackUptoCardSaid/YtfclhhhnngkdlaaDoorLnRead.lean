/- Contracts of functions of the given program, each proved by walking its code: part of the proof of this claim; no condition beyond those that each theorem names. -/
import Derived.Test.YtfclhhhnngkdlaaDoorLnScan
set_option linter.unusedVariables false
set_option linter.unusedSimpArgs false
namespace Go.Proofs.Ln
open Go Go.RowKit Go.Proofs.Eng
theorem tok5 (x : Tok) : x.cells.length = 5 := rfl
/-- is it that Word? -/
def isWord (x : Tok) (t : List UInt8) : Bool := decide (x.kind = 1) && decide (x.text = t)
def isAlone (x y z : Tok) : Bool := decide (x.kind = 4) && isWord y [101, 110, 100] && decide (z.kind = 4)
abbrev rdB (rp : Nat) (v : Value) : Chunk := [(rp, .cells #[v] 52 (0, 0))]
abbrev tokV (x : Tok) : Value := .agg x.cells.toArray

theorem c19 {w0 : World} {x : Tok} {t : List UInt8} : CtR Pg w0 19 #[tokV x, st t] [] (fun v H => v = .bool (isWord x t) ∧ H = []) := by
  refine Ct.of_body Go.Proofs.Tryd.func19 rfl 14 rfl rfl (fun R => ?_)
  refine VC.seq ?_
  refine VC.region ?_
  refine V.box rfl rfl rfl rfl (fun b1 => ?_)
  refine V.assign rfl rfl rfl ?_
  refine V.nil ?_
  refine Post.nextC ?_
  refine VC.seq ?_
  refine VC.region ?_
  refine V.fieldAddr 0 3 rfl rfl rfl rfl rfl ?_
  apply V.loadL rfl rfl rfl rfl
  · repeat' constructor
  · repeat' constructor
  refine V.bin rfl rfl rfl rfl (bin_eql _ _ _) ?_
  refine V.move rfl rfl rfl ?_
  refine V.split (t := 8) rfl (fun h1 => ?_) (fun h1 => ?_)
  · try simp only [decide_eq_true_eq, decide_eq_false_iff_not, Bool.not_eq_true', Bool.not_eq_false', Bool.not_eq_eq_eq_not, Bool.not_true, Bool.not_false, beq_iff_eq, beq_eq_false_iff_ne, ne_eq, Int.not_lt, Int.not_le, Option.isSome_some, Option.isNone_none, Option.isSome_none, Option.isNone_some, Classical.not_not] at h1
    refine V.fieldAddr 1 9 rfl rfl rfl rfl rfl ?_
    apply V.loadL rfl rfl rfl rfl
    · repeat' constructor
    · repeat' constructor
    refine V.move rfl rfl rfl ?_
    refine V.bin rfl rfl rfl rfl (bin_steql _ _) ?_
    refine V.pickT rfl rfl rfl rfl ?_
    refine V.assign rfl rfl rfl ?_
    refine V.nil ?_
    refine Post.nextC ?_
    refine VC.ret ?_
    apply Post.ret1 rfl rfl 
    · refine ⟨?_, rfl⟩
      congr 1
      simp_all [isWord]
    · repeat' constructor
  · try simp only [decide_eq_true_eq, decide_eq_false_iff_not, Bool.not_eq_true', Bool.not_eq_false', Bool.not_eq_eq_eq_not, Bool.not_true, Bool.not_false, beq_iff_eq, beq_eq_false_iff_ne, ne_eq, Int.not_lt, Int.not_le, Option.isSome_some, Option.isNone_none, Option.isSome_none, Option.isNone_some, Classical.not_not] at h1
    refine V.skip rfl rfl ?_
    refine V.skip rfl rfl ?_
    refine V.skip rfl rfl ?_
    refine V.skip rfl rfl ?_
    refine V.pickF rfl rfl rfl rfl ?_
    refine V.assign rfl rfl rfl ?_
    refine V.nil ?_
    refine Post.nextC ?_
    refine VC.ret ?_
    apply Post.ret1 rfl rfl 
    · refine ⟨?_, rfl⟩
      congr 1
      simp_all [isWord]
    · repeat' constructor

theorem c41 {w0 : World} {C : Chunk} {v : Value} {x y z : Tok} (hr : Rd w0 C 5 v 3 (toks [x, y, z])) : CtR Pg w0 41 #[v] [C] (fun u H => u = .bool (isAlone x y z) ∧ H = [C]) := by
  obtain ⟨_, b, o, cp, rfl, hx⟩ := hr.item (f := Tok.cells) (i := 0) (x := x) tok5 (by omega) rfl
  obtain ⟨_, b', o', cp', e, hy⟩ := hr.item (f := Tok.cells) (i := 1) (x := y) tok5 (by omega) rfl
  simp only [Value.slice.injEq, Option.some.injEq, Addr.mk.injEq] at e
  obtain ⟨⟨rfl, rfl, _⟩, _, rfl⟩ := e
  obtain ⟨_, b', o', cp', e, hz⟩ := hr.item (f := Tok.cells) (i := 2) (x := z) tok5 (by omega) rfl
  simp only [Value.slice.injEq, Option.some.injEq, Addr.mk.injEq] at e
  obtain ⟨⟨rfl, rfl, _⟩, _, rfl⟩ := e
  refine Ct.of_body Go.Proofs.Tryd.func41 rfl 21 rfl rfl (fun R => ?_)
  refine VC.seq ?_
  refine VC.region ?_
  refine V.assign rfl rfl rfl ?_
  refine V.nil ?_
  refine Post.nextC ?_
  refine VC.seq ?_
  refine VC.region ?_
  refine V.move rfl rfl rfl ?_
  refine V.indexO (i := 0) rfl rfl rfl rfl (by omega) ?_
  refine V.fieldAddr 0 3 rfl rfl rfl rfl rfl ?_
  apply V.loadC (c := C) rfl rfl rfl rfl
  · repeat' constructor
  · exact hx 0 _ rfl
  refine V.bin rfl rfl rfl rfl (bin_eql _ _ _) ?_
  refine V.move rfl rfl rfl ?_
  refine V.split (t := 8) rfl (fun h1 => ?_) (fun h1 => ?_)
  · try simp only [decide_eq_true_eq, decide_eq_false_iff_not, Bool.not_eq_true', Bool.not_eq_false', Bool.not_eq_eq_eq_not, Bool.not_true, Bool.not_false, beq_iff_eq, beq_eq_false_iff_ne, ne_eq, Int.not_lt, Int.not_le, Option.isSome_some, Option.isNone_none, Option.isSome_none, Option.isNone_some, Classical.not_not] at h1
    refine V.move rfl rfl rfl ?_
    refine V.indexO (i := 1) rfl rfl rfl rfl (by omega) ?_
    apply V.loadNC (c := C) (vs := y.cells) rfl rfl rfl rfl
    · repeat' constructor
    · rfl
    · exact fun j u hu => by rw [add_addr]; exact hy j u hu
    apply V.call rfl rfl rfl (hc := c19 (x := y) (t := [101, 110, 100]))
    · repeat' constructor
    rintro v2 Ho ⟨rfl, rfl⟩
    refine V.pickT rfl rfl rfl rfl ?_
    refine V.move rfl rfl rfl ?_
    refine V.split (t := 14) rfl (fun h2 => ?_) (fun h2 => ?_)
    · try simp only [decide_eq_true_eq, decide_eq_false_iff_not, Bool.not_eq_true', Bool.not_eq_false', Bool.not_eq_eq_eq_not, Bool.not_true, Bool.not_false, beq_iff_eq, beq_eq_false_iff_ne, ne_eq, Int.not_lt, Int.not_le, Option.isSome_some, Option.isNone_none, Option.isSome_none, Option.isNone_some, Classical.not_not] at h2
      refine V.move rfl rfl rfl ?_
      refine V.indexO (i := 2) rfl rfl rfl rfl (by omega) ?_
      refine V.fieldAddr 0 3 rfl rfl rfl rfl rfl ?_
      apply V.loadC (c := C) rfl rfl rfl rfl
      · repeat' constructor
      · exact hz 0 _ rfl
      refine V.bin rfl rfl rfl rfl (bin_eql _ _ _) ?_
      refine V.pickT rfl rfl rfl rfl ?_
      refine V.assign rfl rfl rfl ?_
      refine V.nil ?_
      refine Post.nextC ?_
      refine VC.ret ?_
      apply Post.ret1 rfl rfl 
      · refine ⟨?_, rfl⟩
        congr 1
        simp_all [isAlone]
      · repeat' constructor
    · try simp only [decide_eq_true_eq, decide_eq_false_iff_not, Bool.not_eq_true', Bool.not_eq_false', Bool.not_eq_eq_eq_not, Bool.not_true, Bool.not_false, beq_iff_eq, beq_eq_false_iff_ne, ne_eq, Int.not_lt, Int.not_le, Option.isSome_some, Option.isNone_none, Option.isSome_none, Option.isNone_some, Classical.not_not] at h2
      refine V.skip rfl rfl ?_
      refine V.skip rfl rfl ?_
      refine V.skip rfl rfl ?_
      refine V.skip rfl rfl ?_
      refine V.skip rfl rfl ?_
      refine V.pickF rfl rfl rfl rfl ?_
      refine V.assign rfl rfl rfl ?_
      refine V.nil ?_
      refine Post.nextC ?_
      refine VC.ret ?_
      apply Post.ret1 rfl rfl 
      · refine ⟨?_, rfl⟩
        congr 1
        simp_all [isAlone]
      · repeat' constructor
  · try simp only [decide_eq_true_eq, decide_eq_false_iff_not, Bool.not_eq_true', Bool.not_eq_false', Bool.not_eq_eq_eq_not, Bool.not_true, Bool.not_false, beq_iff_eq, beq_eq_false_iff_ne, ne_eq, Int.not_lt, Int.not_le, Option.isSome_some, Option.isNone_none, Option.isSome_none, Option.isNone_some, Classical.not_not] at h1
    refine V.skip rfl rfl ?_
    refine V.skip rfl rfl ?_
    refine V.skip rfl rfl ?_
    refine V.skip rfl rfl ?_
    refine V.pickF rfl rfl rfl rfl ?_
    refine V.move rfl rfl rfl ?_
    refine V.skip rfl rfl ?_
    refine V.skip rfl rfl ?_
    refine V.skip rfl rfl ?_
    refine V.skip rfl rfl ?_
    refine V.skip rfl rfl ?_
    refine V.pickF rfl rfl rfl rfl ?_
    refine V.assign rfl rfl rfl ?_
    refine V.nil ?_
    refine Post.nextC ?_
    refine VC.ret ?_
    apply Post.ret1 rfl rfl 
    · refine ⟨?_, rfl⟩
      congr 1
      simp_all [isAlone]
    · repeat' constructor

theorem c39 {w0 : World} {rp : Nat} {C : Chunk} {v : Value} {kind : Int} {x : Tok} {r : List Tok} (hr : Rd w0 C 5 v (x :: r).length (toks (x :: r))) : CtR Pg w0 39 #[.pointer (some ⟨rp, 0, none⟩), .int .i64 kind] [rdB rp v, C] (fun u H => ∃ v1, Rd w0 C 5 v1 (if x.kind = kind then r else x :: r).length (toks (if x.kind = kind then r else x :: r)) ∧ u = .tuple #[tokV x, .bool (decide (x.kind = kind))] ∧ H = [rdB rp v1, C]) := by
  obtain ⟨_, b, o, cp, rfl, hx⟩ := hr.item (f := Tok.cells) (i := 0) (x := x) tok5 (by omega) rfl
  have hle : (x :: r).length ≤ cp := by
    obtain ⟨_, _, e, h, _⟩ := hr
    simp only [Value.slice.injEq] at e
    omega
  have hl0 : 0 < (x :: r).length := by simp
  refine Ct.of_body Go.Proofs.Tryd.func39 rfl 27 rfl rfl (fun R => ?_)
  refine VC.seq ?_
  refine VC.region ?_
  refine V.alloc (l := [.int .i64 0, .string ByteArray.empty, .int .i64 0, .int .i64 0, .int .i64 0]) rfl rfl rfl (fun b1 => ?_)
  refine V.assign rfl rfl rfl ?_
  refine V.nil ?_
  refine Post.nextC ?_
  refine VC.seq ?_
  refine VC.region ?_
  refine V.move rfl rfl rfl ?_
  refine V.nilCheck rfl rfl rfl ?_
  refine V.fieldAddr 0 37 rfl rfl rfl rfl rfl ?_
  apply V.loadL rfl rfl rfl rfl
  · repeat' constructor
  · repeat' constructor
  refine V.indexO (i := 0) rfl rfl rfl rfl (by omega) ?_
  apply V.loadNC (c := C) (vs := x.cells) rfl rfl rfl rfl
  · repeat' constructor
  · rfl
  · exact fun j u hu => by rw [add_addr]; exact hx j u hu
  refine V.alloc (l := [.int .i64 0, .string ByteArray.empty, .int .i64 0, .int .i64 0, .int .i64 0]) rfl rfl rfl (fun b2 => ?_)
  apply V.storeAll rfl rfl rfl rfl
  · repeat' constructor
  · exact rfl
  · exact rfl
  refine V.nil ?_
  refine Post.nextC ?_
  refine VC.seq ?_
  refine VC.seq ?_
  refine VC.region ?_
  refine V.fieldAddr 0 3 rfl rfl rfl rfl rfl ?_
  apply V.loadL rfl rfl rfl rfl
  · repeat' constructor
  · repeat' constructor
  refine V.move rfl rfl rfl ?_
  refine V.bin rfl rfl rfl rfl (bin_neq _ _ _) ?_
  refine V.nil ?_
  refine Post.nextC ?_
  refine VC.cond rfl (fun h1 => ?_) (fun h1 => ?_)
  · try simp only [decide_eq_true_eq, decide_eq_false_iff_not, Bool.not_eq_true', Bool.not_eq_false', Bool.not_eq_eq_eq_not, Bool.not_true, Bool.not_false, beq_iff_eq, beq_eq_false_iff_ne, ne_eq, Int.not_lt, Int.not_le, Option.isSome_some, Option.isNone_none, Option.isSome_none, Option.isNone_some, Classical.not_not] at h1
    refine VC.seq ?_
    refine VC.region ?_
    apply V.loadAll rfl rfl rfl rfl
    · repeat' constructor
    · exact rfl
    apply V.storeAll rfl rfl rfl rfl
    · repeat' constructor
    · exact rfl
    · exact rfl
    refine V.assign rfl rfl rfl ?_
    refine V.nil ?_
    refine Post.nextC ?_
    refine VC.ret ?_
    refine Post.thenRet (?_)
    apply Post.retV2 rfl (.all rfl rfl (by repeat' constructor) (by exact rfl)) (.tmp rfl)
    · have hk : ¬ x.kind = kind := by assumption
      exact ⟨_, by rw [if_neg hk]; exact hr, by simp [hk], rfl⟩
    · repeat' constructor
  · try simp only [decide_eq_true_eq, decide_eq_false_iff_not, Bool.not_eq_true', Bool.not_eq_false', Bool.not_eq_eq_eq_not, Bool.not_true, Bool.not_false, beq_iff_eq, beq_eq_false_iff_ne, ne_eq, Int.not_lt, Int.not_le, Option.isSome_some, Option.isNone_none, Option.isSome_none, Option.isNone_some, Classical.not_not] at h1
    refine VC.skip ?_
    refine Post.nextC ?_
    refine VC.seq ?_
    refine VC.region ?_
    refine V.move rfl rfl rfl ?_
    refine V.move rfl rfl rfl ?_
    refine V.nilCheck rfl rfl rfl ?_
    refine V.fieldAddr 0 37 rfl rfl rfl rfl rfl ?_
    apply V.loadL rfl rfl rfl rfl
    · repeat' constructor
    · repeat' constructor
    refine V.sliceL (i := 1) rfl rfl rfl rfl (by omega) hle (fun a1 ha1 _ => ?_)
    have hr1 := hr.drop (i := 1) (a1 := a1) (by omega) ha1
    refine V.nilCheck rfl rfl rfl ?_
    refine V.fieldAddr 0 37 rfl rfl rfl rfl rfl ?_
    apply V.storeL rfl rfl rfl rfl rfl
    · repeat' constructor
    · repeat' constructor
    refine V.nil ?_
    refine Post.nextC ?_
    refine VC.seq ?_
    refine VC.region ?_
    apply V.loadAll rfl rfl rfl rfl
    · repeat' constructor
    · exact rfl
    apply V.storeAll rfl rfl rfl rfl
    · repeat' constructor
    · exact rfl
    · exact rfl
    refine V.assign rfl rfl rfl ?_
    refine V.nil ?_
    refine Post.nextC ?_
    refine VC.ret ?_
    apply Post.retV2 rfl (.all rfl rfl (by repeat' constructor) (by exact rfl)) (.tmp rfl)
    · have hk : x.kind = kind := by assumption
      exact ⟨_, by rw [if_pos hk]; exact hr1, by simp [hk], rfl⟩
    · repeat' constructor

/-- a line's form -/
structure Form where
  word : List UInt8
  op : Int
  like : List UInt8
  deriving DecidableEq
abbrev Form.cells (f : Form) : List Value := [st f.word, .int .i64 f.op, st f.like]
theorem form3 (f : Form) : f.cells.length = 3 := rfl
def forms : List Form := [⟨[116, 105, 99, 107], 1, [110]⟩,
  ⟨[117, 115, 101, 114], 2, [97]⟩,
  ⟨[110, 111, 117, 115, 101, 114], 3, [97]⟩,
  ⟨[114, 111, 108, 101], 4, [97]⟩,
  ⟨[110, 111, 114, 111, 108, 101], 5, [97]⟩,
  ⟨[106, 111, 105, 110], 6, [97, 98]⟩,
  ⟨[108, 101, 97, 118, 101], 7, [97, 98]⟩,
  ⟨[111, 118, 101, 114], 8, [97, 98]⟩,
  ⟨[110, 111, 111, 118, 101, 114], 9, [97, 98]⟩,
  ⟨[103, 114, 97, 110, 116], 10, [97, 98]⟩,
  ⟨[114, 101, 118, 111, 107, 101], 11, [97, 98]⟩,
  ⟨[98, 97, 114], 12, [97, 98]⟩,
  ⟨[117, 110, 98, 97, 114], 13, [97, 98]⟩,
  ⟨[108, 101, 110, 100], 14, [97, 98, 110]⟩,
  ⟨[98, 97, 99, 107], 15, [97, 98]⟩,
  ⟨[114, 101, 115, 116], 16, [97]⟩,
  ⟨[119, 97, 107, 101], 17, [97]⟩,
  ⟨[115, 116, 97, 114, 116], 19, [97]⟩,
  ⟨[99, 108, 97, 105, 109], 20, [97, 98, 110]⟩,
  ⟨[100, 111, 110, 101], 21, [97, 98, 110]⟩,
  ⟨[97, 98, 111, 114, 116], 22, [110]⟩,
  ⟨[105, 110, 115, 116], 30, [110]⟩,
  ⟨[99, 97, 110], 31, [97, 110]⟩,
  ⟨[119, 104, 111], 32, [98, 110]⟩,
  ⟨[112, 108, 97, 110], 33, [110]⟩,
  ⟨[119, 104, 121], 34, [110]⟩,
  ⟨[108, 111, 103], 35, [110]⟩,
  ⟨[119, 104, 111, 105, 115], 36, [97]⟩,
  ⟨[115, 104, 111, 119], 37, [97]⟩,
  ⟨[111, 114, 103], 38, []⟩,
  ⟨[115, 116, 117, 99, 107], 39, []⟩,
  ⟨[110, 111, 119], 40, []⟩]
/-- the reference's: with capitals -/
def shapes : List Form := [⟨[116, 105, 99, 107], 1, [78]⟩,
  ⟨[117, 115, 101, 114], 2, [65]⟩,
  ⟨[110, 111, 117, 115, 101, 114], 3, [65]⟩,
  ⟨[114, 111, 108, 101], 4, [65]⟩,
  ⟨[110, 111, 114, 111, 108, 101], 5, [65]⟩,
  ⟨[106, 111, 105, 110], 6, [65, 66]⟩,
  ⟨[108, 101, 97, 118, 101], 7, [65, 66]⟩,
  ⟨[111, 118, 101, 114], 8, [65, 66]⟩,
  ⟨[110, 111, 111, 118, 101, 114], 9, [65, 66]⟩,
  ⟨[103, 114, 97, 110, 116], 10, [65, 66]⟩,
  ⟨[114, 101, 118, 111, 107, 101], 11, [65, 66]⟩,
  ⟨[98, 97, 114], 12, [65, 66]⟩,
  ⟨[117, 110, 98, 97, 114], 13, [65, 66]⟩,
  ⟨[108, 101, 110, 100], 14, [65, 66, 78]⟩,
  ⟨[98, 97, 99, 107], 15, [65, 66]⟩,
  ⟨[114, 101, 115, 116], 16, [65]⟩,
  ⟨[119, 97, 107, 101], 17, [65]⟩,
  ⟨[115, 116, 97, 114, 116], 19, [65]⟩,
  ⟨[99, 108, 97, 105, 109], 20, [65, 66, 78]⟩,
  ⟨[100, 111, 110, 101], 21, [65, 66, 78]⟩,
  ⟨[97, 98, 111, 114, 116], 22, [78]⟩,
  ⟨[105, 110, 115, 116], 30, [78]⟩,
  ⟨[99, 97, 110], 31, [65, 78]⟩,
  ⟨[119, 104, 111], 32, [66, 78]⟩,
  ⟨[112, 108, 97, 110], 33, [78]⟩,
  ⟨[119, 104, 121], 34, [78]⟩,
  ⟨[108, 111, 103], 35, [78]⟩,
  ⟨[119, 104, 111, 105, 115], 36, [65]⟩,
  ⟨[115, 104, 111, 119], 37, [65]⟩,
  ⟨[111, 114, 103], 38, []⟩,
  ⟨[115, 116, 117, 99, 107], 39, []⟩,
  ⟨[110, 111, 119], 40, []⟩]
theorem forms_len : forms.length = 32 := rfl

theorem c62 {w0 : World} : CtR Pg w0 62 #[] [] (fun u H => ∃ b, u = .slice (some ⟨b, 0, none⟩) 32 32 ∧ H = [[(b, .cells (forms.flatMap Form.cells).toArray 81 (0, 0))]]) := by
  refine Ct.of_body Go.Proofs.Tryd.func62 rfl 34 rfl rfl (fun R => ?_)
  refine VC.seq ?_
  refine VC.region ?_
  refine V.assign rfl rfl rfl ?_
  refine V.nil ?_
  refine Post.nextC ?_
  refine VC.seq ?_
  refine VC.region ?_
  refine V.buildS [(0, _), (1, _), (2, _)] (l := [_, _, _]) rfl rfl rfl rfl rfl ?_
  refine V.buildS [(0, _), (1, _), (2, _)] (l := [_, _, _]) rfl rfl rfl rfl rfl ?_
  refine V.buildS [(0, _), (1, _), (2, _)] (l := [_, _, _]) rfl rfl rfl rfl rfl ?_
  refine V.buildS [(0, _), (1, _), (2, _)] (l := [_, _, _]) rfl rfl rfl rfl rfl ?_
  refine V.buildS [(0, _), (1, _), (2, _)] (l := [_, _, _]) rfl rfl rfl rfl rfl ?_
  refine V.buildS [(0, _), (1, _), (2, _)] (l := [_, _, _]) rfl rfl rfl rfl rfl ?_
  refine V.buildS [(0, _), (1, _), (2, _)] (l := [_, _, _]) rfl rfl rfl rfl rfl ?_
  refine V.buildS [(0, _), (1, _), (2, _)] (l := [_, _, _]) rfl rfl rfl rfl rfl ?_
  refine V.buildS [(0, _), (1, _), (2, _)] (l := [_, _, _]) rfl rfl rfl rfl rfl ?_
  refine V.buildS [(0, _), (1, _), (2, _)] (l := [_, _, _]) rfl rfl rfl rfl rfl ?_
  refine V.buildS [(0, _), (1, _), (2, _)] (l := [_, _, _]) rfl rfl rfl rfl rfl ?_
  refine V.buildS [(0, _), (1, _), (2, _)] (l := [_, _, _]) rfl rfl rfl rfl rfl ?_
  refine V.buildS [(0, _), (1, _), (2, _)] (l := [_, _, _]) rfl rfl rfl rfl rfl ?_
  refine V.buildS [(0, _), (1, _), (2, _)] (l := [_, _, _]) rfl rfl rfl rfl rfl ?_
  refine V.buildS [(0, _), (1, _), (2, _)] (l := [_, _, _]) rfl rfl rfl rfl rfl ?_
  refine V.buildS [(0, _), (1, _), (2, _)] (l := [_, _, _]) rfl rfl rfl rfl rfl ?_
  refine V.buildS [(0, _), (1, _), (2, _)] (l := [_, _, _]) rfl rfl rfl rfl rfl ?_
  refine V.buildS [(0, _), (1, _), (2, _)] (l := [_, _, _]) rfl rfl rfl rfl rfl ?_
  refine V.buildS [(0, _), (1, _), (2, _)] (l := [_, _, _]) rfl rfl rfl rfl rfl ?_
  refine V.buildS [(0, _), (1, _), (2, _)] (l := [_, _, _]) rfl rfl rfl rfl rfl ?_
  refine V.buildS [(0, _), (1, _), (2, _)] (l := [_, _, _]) rfl rfl rfl rfl rfl ?_
  refine V.buildS [(0, _), (1, _), (2, _)] (l := [_, _, _]) rfl rfl rfl rfl rfl ?_
  refine V.buildS [(0, _), (1, _), (2, _)] (l := [_, _, _]) rfl rfl rfl rfl rfl ?_
  refine V.buildS [(0, _), (1, _), (2, _)] (l := [_, _, _]) rfl rfl rfl rfl rfl ?_
  refine V.buildS [(0, _), (1, _), (2, _)] (l := [_, _, _]) rfl rfl rfl rfl rfl ?_
  refine V.buildS [(0, _), (1, _), (2, _)] (l := [_, _, _]) rfl rfl rfl rfl rfl ?_
  refine V.buildS [(0, _), (1, _), (2, _)] (l := [_, _, _]) rfl rfl rfl rfl rfl ?_
  refine V.buildS [(0, _), (1, _), (2, _)] (l := [_, _, _]) rfl rfl rfl rfl rfl ?_
  refine V.buildS [(0, _), (1, _), (2, _)] (l := [_, _, _]) rfl rfl rfl rfl rfl ?_
  refine V.buildS [(0, _), (1, _), (2, _)] (l := [_, _, _]) rfl rfl rfl rfl rfl ?_
  refine V.buildS [(0, _), (1, _), (2, _)] (l := [_, _, _]) rfl rfl rfl rfl rfl ?_
  refine V.buildS [(0, _), (1, _), (2, _)] (l := [_, _, _]) rfl rfl rfl rfl rfl ?_
  refine V.buildRows _ (forms.map Form.cells) rfl rfl rfl rfl rfl rfl rfl rfl rfl (fun b => ?_)
  refine V.assign rfl rfl rfl ?_
  refine V.nil ?_
  refine Post.nextC ?_
  refine VC.ret ?_
  apply Post.ret1 rfl rfl 
  · exact ⟨b, rfl, rfl⟩
  · repeat' constructor

theorem c36 {w0 : World} : CtR Pg w0 36 #[] [] (fun u H => ∃ b, u = .slice (some ⟨b, 0, none⟩) 32 32 ∧ H = [[(b, .cells (shapes.flatMap Form.cells).toArray 88 (0, 0))]]) := by
  refine Ct.of_body Go.Proofs.Tryd.func36 rfl 34 rfl rfl (fun R => ?_)
  refine VC.seq ?_
  refine VC.region ?_
  refine V.assign rfl rfl rfl ?_
  refine V.nil ?_
  refine Post.nextC ?_
  refine VC.seq ?_
  refine VC.region ?_
  refine V.buildS [(0, _), (1, _), (2, _)] (l := [_, _, _]) rfl rfl rfl rfl rfl ?_
  refine V.buildS [(0, _), (1, _), (2, _)] (l := [_, _, _]) rfl rfl rfl rfl rfl ?_
  refine V.buildS [(0, _), (1, _), (2, _)] (l := [_, _, _]) rfl rfl rfl rfl rfl ?_
  refine V.buildS [(0, _), (1, _), (2, _)] (l := [_, _, _]) rfl rfl rfl rfl rfl ?_
  refine V.buildS [(0, _), (1, _), (2, _)] (l := [_, _, _]) rfl rfl rfl rfl rfl ?_
  refine V.buildS [(0, _), (1, _), (2, _)] (l := [_, _, _]) rfl rfl rfl rfl rfl ?_
  refine V.buildS [(0, _), (1, _), (2, _)] (l := [_, _, _]) rfl rfl rfl rfl rfl ?_
  refine V.buildS [(0, _), (1, _), (2, _)] (l := [_, _, _]) rfl rfl rfl rfl rfl ?_
  refine V.buildS [(0, _), (1, _), (2, _)] (l := [_, _, _]) rfl rfl rfl rfl rfl ?_
  refine V.buildS [(0, _), (1, _), (2, _)] (l := [_, _, _]) rfl rfl rfl rfl rfl ?_
  refine V.buildS [(0, _), (1, _), (2, _)] (l := [_, _, _]) rfl rfl rfl rfl rfl ?_
  refine V.buildS [(0, _), (1, _), (2, _)] (l := [_, _, _]) rfl rfl rfl rfl rfl ?_
  refine V.buildS [(0, _), (1, _), (2, _)] (l := [_, _, _]) rfl rfl rfl rfl rfl ?_
  refine V.buildS [(0, _), (1, _), (2, _)] (l := [_, _, _]) rfl rfl rfl rfl rfl ?_
  refine V.buildS [(0, _), (1, _), (2, _)] (l := [_, _, _]) rfl rfl rfl rfl rfl ?_
  refine V.buildS [(0, _), (1, _), (2, _)] (l := [_, _, _]) rfl rfl rfl rfl rfl ?_
  refine V.buildS [(0, _), (1, _), (2, _)] (l := [_, _, _]) rfl rfl rfl rfl rfl ?_
  refine V.buildS [(0, _), (1, _), (2, _)] (l := [_, _, _]) rfl rfl rfl rfl rfl ?_
  refine V.buildS [(0, _), (1, _), (2, _)] (l := [_, _, _]) rfl rfl rfl rfl rfl ?_
  refine V.buildS [(0, _), (1, _), (2, _)] (l := [_, _, _]) rfl rfl rfl rfl rfl ?_
  refine V.buildS [(0, _), (1, _), (2, _)] (l := [_, _, _]) rfl rfl rfl rfl rfl ?_
  refine V.buildS [(0, _), (1, _), (2, _)] (l := [_, _, _]) rfl rfl rfl rfl rfl ?_
  refine V.buildS [(0, _), (1, _), (2, _)] (l := [_, _, _]) rfl rfl rfl rfl rfl ?_
  refine V.buildS [(0, _), (1, _), (2, _)] (l := [_, _, _]) rfl rfl rfl rfl rfl ?_
  refine V.buildS [(0, _), (1, _), (2, _)] (l := [_, _, _]) rfl rfl rfl rfl rfl ?_
  refine V.buildS [(0, _), (1, _), (2, _)] (l := [_, _, _]) rfl rfl rfl rfl rfl ?_
  refine V.buildS [(0, _), (1, _), (2, _)] (l := [_, _, _]) rfl rfl rfl rfl rfl ?_
  refine V.buildS [(0, _), (1, _), (2, _)] (l := [_, _, _]) rfl rfl rfl rfl rfl ?_
  refine V.buildS [(0, _), (1, _), (2, _)] (l := [_, _, _]) rfl rfl rfl rfl rfl ?_
  refine V.buildS [(0, _), (1, _), (2, _)] (l := [_, _, _]) rfl rfl rfl rfl rfl ?_
  refine V.buildS [(0, _), (1, _), (2, _)] (l := [_, _, _]) rfl rfl rfl rfl rfl ?_
  refine V.buildS [(0, _), (1, _), (2, _)] (l := [_, _, _]) rfl rfl rfl rfl rfl ?_
  refine V.buildRows _ (shapes.map Form.cells) rfl rfl rfl rfl rfl rfl rfl rfl rfl (fun b => ?_)
  refine V.assign rfl rfl rfl ?_
  refine V.nil ?_
  refine Post.nextC ?_
  refine VC.ret ?_
  apply Post.ret1 rfl rfl 
  · exact ⟨b, rfl, rfl⟩
  · repeat' constructor

/-- a call -/
structure Call where
  op : Int
  a : List UInt8
  b : List UInt8
  c : List UInt8
  n : Int
  text : List UInt8
  deriving DecidableEq
abbrev Call.cells (c : Call) : List Value := [.int .i64 c.op, st c.a, st c.b, st c.c, .int .i64 c.n, st c.text]
abbrev callV (c : Call) : Value := .agg c.cells.toArray
def Call.zero : Call := ⟨0, [], [], [], 0, []⟩
def Tok.zero : Tok := ⟨0, [], 0, 0, 0⟩
def Call.put (c : Call) (w : UInt8) (t : Tok) : Call := if w = 97 then { c with a := t.text } else if w = 98 then { c with b := t.text } else { c with n := t.number }
def kindOf (w : UInt8) : Int := if w = 110 then 2 else 1
/-- what stands behind a line's word: the call, the last token, is all well, what is left -/
def readLike : List UInt8 → Call → List Tok → Call × Tok × Bool × List Tok
  | _, _, [] => (Call.zero, Tok.zero, false, [])
  | [], c, t :: r => if t.kind = 4 then (c, t, true, r) else (c, t, false, t :: r)
  | w :: ws, c, t :: r => if t.kind = kindOf w then readLike ws (c.put w t) r else (Call.zero, t, false, t :: r)
def callOf : List Tok → Call × Tok × Bool × List Tok
  | [] => (Call.zero, Tok.zero, false, [])
  | h :: r => if h.kind = 1 then match forms.find? (fun f => decide (f.word = h.text)) with
      | none => (Call.zero, h, false, r)
      | some f => readLike f.like { Call.zero with op := f.op } r
    else (Call.zero, h, false, h :: r)
def Ends (l : List Tok) : Prop := ∃ l' x, l = l' ++ [x] ∧ x.kind = 4
theorem Ends.cons {l : List Tok} (h : Ends l) : ∃ x r, l = x :: r := by
  obtain ⟨l', x, rfl, _⟩ := h
  cases l' with
  | nil => exact ⟨_, _, rfl⟩
  | cons y l' => exact ⟨_, _, rfl⟩
theorem Ends.tail {x : Tok} {r : List Tok} (h : Ends (x :: r)) (hx : x.kind ≠ 4) : Ends r := by
  obtain ⟨l', y, e, hy⟩ := h
  cases l' with
  | nil =>
    obtain ⟨rfl, rfl⟩ : x = y ∧ r = [] := by simpa using e
    exact absurd hy hx
  | cons z l' =>
    obtain ⟨rfl, rfl⟩ : x = z ∧ r = l' ++ [y] := by simpa using e
    exact ⟨l', y, rfl, hy⟩
def formOr (o : Option Form) : Form := o.getD ⟨[], 0, []⟩
theorem like_ascii {p : Form → Bool} {f : Form} (h : forms.find? p = some f) : ∀ w ∈ f.like, w.toNat < 128 := by
  have hm := List.mem_of_find?_eq_some h
  have : ∀ f ∈ forms, ∀ w ∈ f.like, w.toNat < 128 := by decide
  exact this f hm
theorem kind_n {w : UInt8} (h : (w.toNat : Int) = 110) : kindOf w = 2 := by
  have : w = 110 := UInt8.toNat_inj.1 (by simpa using (by omega : w.toNat = 110))
  simp [kindOf, this]
theorem kind_w {w : UInt8} (h : ¬ (w.toNat : Int) = 110) : kindOf w = 1 := by
  have : ¬ w = 110 := fun e => h (by rw [e]; rfl)
  simp [kindOf, this]
theorem put_a {c : Call} {w : UInt8} {t : Tok} (h : (w.toNat : Int) = 97) : c.put w t = { c with a := t.text } := by
  have : w = 97 := UInt8.toNat_inj.1 (by simpa using (by omega : w.toNat = 97))
  simp [Call.put, this]
theorem put_b {c : Call} {w : UInt8} {t : Tok} (h : (w.toNat : Int) = 98) : c.put w t = { c with b := t.text } := by
  have : w = 98 := UInt8.toNat_inj.1 (by simpa using (by omega : w.toNat = 98))
  simp [Call.put, this]
theorem put_n {c : Call} {w : UInt8} {t : Tok} (h : ¬ (w.toNat : Int) = 97) (h' : ¬ (w.toNat : Int) = 98) : c.put w t = { c with n := t.number } := by
  have h1 : ¬ w = 97 := fun e => h (by rw [e]; rfl)
  have h2 : ¬ w = 98 := fun e => h' (by rw [e]; rfl)
  simp [Call.put, h1, h2]
theorem readLike_end {c : Call} {t : Tok} {r : List Tok} : readLike [] c (t :: r) = if t.kind = 4 then (c, t, true, r) else (c, t, false, t :: r) := rfl
theorem readLike_cons {w : UInt8} {ws : List UInt8} {c : Call} {t : Tok} {r : List Tok} : readLike (w :: ws) c (t :: r) = if t.kind = kindOf w then readLike ws (c.put w t) r else (Call.zero, t, false, t :: r) := rfl

theorem c40 {w0 : World} {f : Form} {x : Tok} {b : Nat} : CtR Pg w0 40 #[.agg f.cells.toArray, .pointer (some ⟨b, 0, none⟩)] [[(b, .cells x.cells.toArray 41 (0, 0))]] (fun u H => u = .bool (decide (f.word = x.text)) ∧ H = [[(b, .cells x.cells.toArray 41 (0, 0))]]) := by
  refine Ct.of_body Go.Proofs.Tryd.func40 rfl 9 rfl rfl (fun R => ?_)
  refine VC.seq ?_
  refine VC.region ?_
  refine V.box rfl rfl rfl rfl (fun b1 => ?_)
  refine V.assign rfl rfl rfl ?_
  refine V.nil ?_
  refine Post.nextC ?_
  refine VC.seq ?_
  refine VC.region ?_
  refine V.fieldAddr 0 9 rfl rfl rfl rfl rfl ?_
  apply V.loadL rfl rfl rfl rfl
  · repeat' constructor
  · repeat' constructor
  refine V.fieldAddr 1 9 rfl rfl rfl rfl rfl ?_
  apply V.loadL rfl rfl rfl rfl
  · repeat' constructor
  · repeat' constructor
  refine V.bin rfl rfl rfl rfl (bin_steql _ _) ?_
  refine V.assign rfl rfl rfl ?_
  refine V.nil ?_
  refine Post.nextC ?_
  refine VC.ret ?_
  apply Post.ret1 rfl rfl 
  · exact ⟨rfl, rfl⟩
  · repeat' constructor

theorem c35 {w0 : World} {f : Form} {x : Call} {b : Nat} : CtR Pg w0 35 #[.agg f.cells.toArray, .pointer (some ⟨b, 0, none⟩)] [[(b, .cells x.cells.toArray 43 (0, 0))]] (fun u H => u = .bool (decide (f.op = x.op)) ∧ H = [[(b, .cells x.cells.toArray 43 (0, 0))]]) := by
  refine Ct.of_body Go.Proofs.Tryd.func35 rfl 9 rfl rfl (fun R => ?_)
  refine VC.seq ?_
  refine VC.region ?_
  refine V.box rfl rfl rfl rfl (fun b1 => ?_)
  refine V.assign rfl rfl rfl ?_
  refine V.nil ?_
  refine Post.nextC ?_
  refine VC.seq ?_
  refine VC.region ?_
  refine V.fieldAddr 1 3 rfl rfl rfl rfl rfl ?_
  apply V.loadL rfl rfl rfl rfl
  · repeat' constructor
  · repeat' constructor
  refine V.fieldAddr 0 3 rfl rfl rfl rfl rfl ?_
  apply V.loadL rfl rfl rfl rfl
  · repeat' constructor
  · repeat' constructor
  refine V.bin rfl rfl rfl rfl (bin_eql _ _ _) ?_
  refine V.assign rfl rfl rfl ?_
  refine V.nil ?_
  refine Post.nextC ?_
  refine VC.ret ?_
  apply Post.ret1 rfl rfl 
  · exact ⟨rfl, rfl⟩
  · repeat' constructor

theorem c34 {w0 : World} {k : FuncId} {p : Form → Bool} {cap : Value} {ck : Chunk} [hk0 : Fun Pg k] (hk : ∀ f : Form, CtR Pg w0 k #[.agg f.cells.toArray, cap] [ck] (fun v H => v = .bool (p f) ∧ H = [ck])) : CtR Pg w0 34 #[.func (.func k) #[] #[cap]] [ck] (fun v H => v = .tuple #[.agg (formOr (forms.find? p)).cells.toArray, .bool (forms.find? p).isSome] ∧ H = [ck]) := by
  refine Ct.of_body Go.Proofs.Tryd.func34 rfl 18 rfl rfl (fun R => ?_)
  refine VC.seq ?_
  refine VC.region ?_
  refine V.alloc (l := [.string ByteArray.empty, .int .i64 0, .string ByteArray.empty]) rfl rfl rfl (fun b1 => ?_)
  refine V.assign rfl rfl rfl ?_
  refine V.nil ?_
  refine Post.nextC ?_
  refine VC.seq ?_
  refine VC.seq ?_
  refine VC.region ?_
  apply V.call rfl rfl rfl (hc := c62)
  · repeat' constructor
  rintro v Ho ⟨fb, rfl, rfl⟩
  refine V.len rfl rfl rfl ?_
  refine V.move rfl rfl rfl ?_
  refine V.nil ?_
  refine Post.nextC ?_
  refine VC.block ?_
  refine VC.loop (σ := Nat) (fun i => [(0, .func (.func k) #[] #[cap]), (2, .pointer (some ⟨b1, 0, none⟩)), (6, .slice (some ⟨fb, 0, none⟩) 32 32), (7, .int .i64 32), (8, .int .i64 (i : Int))]) (fun i => [(fb, .cells (forms.flatMap Form.cells).toArray 81 (0, 0))] :: [(b1, .cells #[st [], .int .i64 0, st []] 81 (0, 0))] :: ck :: R) (fun i => i ≤ 32 ∧ forms.find? p = (forms.drop i).find? p) (fun i => 32 - i) 0 ⟨by omega, by simp⟩ ?_ ?_ ?_
  · exact ⟨rfl, rfl, rfl, rfl, rfl, trivial⟩
  · repeat' constructor
  rintro i ⟨hi, hI⟩
  refine VC.seq ?_
  refine VC.region ?_
  refine V.bin rfl rfl rfl rfl (bin_lss _ _ _) ?_
  refine V.nil ?_
  refine Post.nextC ?_
  refine VC.seq ?_
  refine VC.cond rfl (fun h1 => ?_) (fun h1 => ?_)
  · try simp only [decide_eq_true_eq, decide_eq_false_iff_not, Bool.not_eq_true', Bool.not_eq_false', Bool.not_eq_eq_eq_not, Bool.not_true, Bool.not_false, beq_iff_eq, beq_eq_false_iff_ne, ne_eq, Int.not_lt, Int.not_le, Option.isSome_some, Option.isNone_none, Option.isSome_none, Option.isNone_some, Classical.not_not] at h1
    refine VC.skip ?_
    refine Post.nextC ?_
    refine VC.seq ?_
    refine VC.block ?_
    refine VC.seq ?_
    refine VC.region ?_
    obtain ⟨f, hf⟩ : ∃ f, forms[i]? = some f := ⟨forms[i]'(by rw [forms_len]; omega), List.getElem?_eq_getElem _⟩
    obtain ⟨_, bb, oo, cp, e, hx⟩ := (Rd.blockN (w0 := w0) fb 81 32 3 (0, 0) (forms.flatMap Form.cells) rfl (by omega)).item (f := Form.cells) (i := i) form3 (by omega) hf
    simp only [Value.slice.injEq, Option.some.injEq, Addr.mk.injEq] at e
    obtain ⟨⟨rfl, rfl, _⟩, _, rfl⟩ := e
    refine V.indexO rfl rfl rfl rfl (by omega) ?_
    apply V.loadNC (c := [(fb, .cells (forms.flatMap Form.cells).toArray 81 (0, 0))]) (vs := f.cells) rfl rfl rfl rfl
    · repeat' constructor
    · rfl
    · exact fun j u hu => by rw [add_addr]; exact hx j u hu
    refine V.alloc (l := [.string ByteArray.empty, .int .i64 0, .string ByteArray.empty]) rfl rfl rfl (fun b2 => ?_)
    apply V.storeAll rfl rfl rfl rfl
    · repeat' constructor
    · exact rfl
    · exact rfl
    refine V.nil ?_
    refine Post.nextC ?_
    refine VC.seq ?_
    refine VC.region ?_
    refine V.move rfl rfl rfl ?_
    apply V.loadAll rfl rfl rfl rfl
    · repeat' constructor
    · exact rfl
    apply V.callV (first := #[]) (captured := #[cap]) (vs := [.agg f.cells.toArray]) rfl rfl rfl rfl (hc := hk f)
    · repeat' constructor
    rintro v Ho ⟨rfl, rfl⟩
    refine V.nil ?_
    refine Post.nextC ?_
    refine VC.cond rfl (fun h2 => ?_) (fun h2 => ?_)
    · try simp only [decide_eq_true_eq, decide_eq_false_iff_not, Bool.not_eq_true', Bool.not_eq_false', Bool.not_eq_eq_eq_not, Bool.not_true, Bool.not_false, beq_iff_eq, beq_eq_false_iff_ne, ne_eq, Int.not_lt, Int.not_le, Option.isSome_some, Option.isNone_none, Option.isSome_none, Option.isNone_some, Classical.not_not] at h2
      refine VC.seq ?_
      refine VC.region ?_
      apply V.loadAll rfl rfl rfl rfl
      · repeat' constructor
      · exact rfl
      apply V.storeAll rfl rfl rfl rfl
      · repeat' constructor
      · exact rfl
      · exact rfl
      refine V.assign rfl rfl rfl ?_
      refine V.nil ?_
      refine Post.nextC ?_
      refine VC.ret ?_
      refine Post.blockRet (Post.thenRet (Post.thenRet (Post.blockRet (Post.thenRet (?_)))))
      apply Post.retV2 rfl (.all rfl rfl (by repeat' constructor) (by exact rfl)) (.tmp rfl)
      · exact ⟨by rw [hI, drop_cons hf, List.find?_cons_of_pos (by assumption)]; rfl, rfl⟩
      · repeat' constructor
    · try simp only [decide_eq_true_eq, decide_eq_false_iff_not, Bool.not_eq_true', Bool.not_eq_false', Bool.not_eq_eq_eq_not, Bool.not_true, Bool.not_false, beq_iff_eq, beq_eq_false_iff_ne, ne_eq, Int.not_lt, Int.not_le, Option.isSome_some, Option.isNone_none, Option.isSome_none, Option.isNone_some, Classical.not_not] at h2
      refine VC.skip ?_
      refine Post.blockNormal (Post.nextC ?_)
      refine VC.region ?_
      refine V.bin rfl rfl rfl rfl (bin_addI (by omega)) ?_
      refine V.move rfl rfl rfl ?_
      refine V.nil ?_
      refine Post.round (i + 1) ?_ ?_ ?_ ?_
      · exact ⟨by omega, by rw [hI, drop_cons hf, List.find?_cons_of_neg (by simpa using (by assumption : p f = false))]⟩
      · omega
      · exact ⟨rfl, rfl, rfl, rfl, rfl, trivial⟩
      · repeat' constructor
  · try simp only [decide_eq_true_eq, decide_eq_false_iff_not, Bool.not_eq_true', Bool.not_eq_false', Bool.not_eq_eq_eq_not, Bool.not_true, Bool.not_false, beq_iff_eq, beq_eq_false_iff_ne, ne_eq, Int.not_lt, Int.not_le, Option.isSome_some, Option.isNone_none, Option.isSome_none, Option.isNone_some, Classical.not_not] at h1
    refine VC.exit ?_
    refine Post.thenExit (Post.thenExit (Post.blockHit (Post.nextC ?_)))
    refine VC.seq ?_
    refine VC.region ?_
    refine V.buildS [] (l := [.string ByteArray.empty, .int .i64 0, .string ByteArray.empty]) rfl rfl rfl rfl rfl ?_
    apply V.storeAll rfl rfl rfl rfl
    · repeat' constructor
    · exact rfl
    · exact rfl
    refine V.assign rfl rfl rfl ?_
    refine V.nil ?_
    refine Post.nextC ?_
    refine VC.ret ?_
    apply Post.retV2 rfl (.all rfl rfl (by repeat' constructor) (by exact rfl)) (.tmp rfl)
    · obtain rfl : i = 32 := by omega
      exact ⟨by rw [hI]; rfl, rfl⟩
    · repeat' constructor

theorem c18 {w0 : World} {rp : Nat} {C : Chunk} {v : Value} {l : List Tok} (hr : Rd w0 C 5 v l.length (toks l)) (he : Ends l) : CtR Pg w0 18 #[.pointer (some ⟨rp, 0, none⟩)] [rdB rp v, C] (fun u H => ∃ v1, Rd w0 C 5 v1 (callOf l).2.2.2.length (toks (callOf l).2.2.2) ∧ u = .tuple #[callV (callOf l).1, tokV (callOf l).2.1, .bool (callOf l).2.2.1] ∧ H = [rdB rp v1, C]) := by
  obtain ⟨x, r, rfl⟩ := he.cons
  refine Ct.of_body Go.Proofs.Tryd.func18 rfl 73 rfl rfl (fun R => ?_)
  refine VC.seq ?_
  refine VC.region ?_
  refine V.alloc (l := [.int .i64 0, .string ByteArray.empty, .string ByteArray.empty, .string ByteArray.empty, .int .i64 0, .string ByteArray.empty]) rfl rfl rfl (fun b1 => ?_)
  refine V.alloc (l := [.int .i64 0, .string ByteArray.empty, .int .i64 0, .int .i64 0, .int .i64 0]) rfl rfl rfl (fun b2 => ?_)
  refine V.assign rfl rfl rfl ?_
  refine V.nil ?_
  refine Post.nextC ?_
  refine VC.seq ?_
  refine VC.region ?_
  refine V.move rfl rfl rfl ?_
  apply V.call rfl rfl rfl (hc := c39 (x := x) (r := r) hr)
  · repeat' constructor
  rintro v2 Ho ⟨v1, hr1, rfl, rfl⟩
  refine V.move rfl rfl rfl ?_
  refine V.extract rfl rfl rfl rfl ?_
  refine V.extract rfl rfl rfl rfl ?_
  refine V.alloc (l := [.int .i64 0, .string ByteArray.empty, .int .i64 0, .int .i64 0, .int .i64 0]) rfl rfl rfl (fun b3 => ?_)
  apply V.storeAll rfl rfl rfl rfl
  · repeat' constructor
  · exact rfl
  · exact rfl
  refine V.assign rfl rfl rfl ?_
  refine V.nil ?_
  refine Post.nextC ?_
  refine VC.seq ?_
  refine VC.seq ?_
  refine VC.region ?_
  refine V.move rfl rfl rfl ?_
  refine V.not rfl rfl rfl ?_
  refine V.nil ?_
  refine Post.nextC ?_
  refine VC.cond rfl (fun h1 => ?_) (fun h1 => ?_)
  · try simp only [decide_eq_true_eq, decide_eq_false_iff_not, Bool.not_eq_true', Bool.not_eq_false', Bool.not_eq_eq_eq_not, Bool.not_true, Bool.not_false, beq_iff_eq, beq_eq_false_iff_ne, ne_eq, Int.not_lt, Int.not_le, Option.isSome_some, Option.isNone_none, Option.isSome_none, Option.isNone_some, Classical.not_not] at h1
    refine VC.seq ?_
    refine VC.any ([[(b3, .cells x.cells.toArray 41 (0, 0))]]) 5 5 mixed rfl ?_
    refine VA.take 0 rfl (by kernel_rfl) (by kernel_rfl) rfl (by kernel_rfl) (by kernel_rfl) (by repeat' constructor) ?_
    refine V.buildS [] (l := [.int .i64 0, .string ByteArray.empty, .string ByteArray.empty, .string ByteArray.empty, .int .i64 0, .string ByteArray.empty]) rfl rfl rfl rfl rfl ?_
    refine V.nil ?_
    refine Post.took ?_
    refine VA.take 1 rfl (by kernel_rfl) (by kernel_rfl) rfl (by kernel_rfl) (by kernel_rfl) (by repeat' constructor) ?_
    apply V.loadAll rfl rfl rfl rfl
    · repeat' constructor
    · exact rfl
    refine V.nil ?_
    refine Post.took ?_
    refine VA.one 2 (by kernel_rfl) rfl ?_
    apply V.storeAll rfl rfl rfl rfl
    · repeat' constructor
    · exact rfl
    · exact rfl
    refine V.nil ?_
    refine Post.came (by repeat' constructor) ?_
    refine VA.one 3 (by kernel_rfl) rfl ?_
    apply V.storeAll rfl rfl rfl rfl
    · repeat' constructor
    · exact rfl
    · exact rfl
    refine V.nil ?_
    refine Post.came (by repeat' constructor) ?_
    refine VA.take 4 rfl (by kernel_rfl) (by kernel_rfl) rfl (by kernel_rfl) (by kernel_rfl) (by repeat' constructor) ?_
    refine V.assign rfl rfl rfl ?_
    refine V.nil ?_
    refine Post.took ?_
    refine VA.done (by kernel_rfl) ?_
    refine Post.nextC ?_
    refine VC.ret ?_
    refine Post.thenRet (?_)
    apply Post.retV3 rfl (.all rfl rfl (by repeat' constructor) (by exact rfl)) (.all rfl rfl (by repeat' constructor) (by exact rfl)) (.tmp rfl)
    · have hk : ¬ x.kind = 1 := by assumption
      have e : callOf (x :: r) = (Call.zero, x, false, x :: r) := by simp [callOf, hk]
      rw [if_neg hk] at hr1
      exact ⟨v1, by rw [e]; exact hr1, by rw [e] <;> rfl, rfl⟩
    · repeat' constructor
  · try simp only [decide_eq_true_eq, decide_eq_false_iff_not, Bool.not_eq_true', Bool.not_eq_false', Bool.not_eq_eq_eq_not, Bool.not_true, Bool.not_false, beq_iff_eq, beq_eq_false_iff_ne, ne_eq, Int.not_lt, Int.not_le, Option.isSome_some, Option.isNone_none, Option.isSome_none, Option.isNone_some, Classical.not_not] at h1
    refine VC.skip ?_
    refine Post.nextC ?_
    refine VC.seq ?_
    refine VC.region ?_
    rw [if_pos (by assumption)] at hr1
    refine V.makeFunc rfl rfl rfl rfl ?_
    rcases hfd : forms.find? (fun f => decide (f.word = x.text)) with _ | f
    ·
      apply V.call rfl rfl rfl (hc := c34 (k := 40) (p := fun f => decide (f.word = x.text)) (cap := .pointer (some ⟨b3, 0, none⟩)) (ck := [(b3, .cells x.cells.toArray 41 (0, 0))]) (fun f => c40))
      · repeat' constructor
      rintro v2 Ho ⟨rfl, rfl⟩
      rw [hfd]
      refine V.move rfl rfl rfl ?_
      refine V.extract rfl rfl rfl rfl ?_
      refine V.extract rfl rfl rfl rfl ?_
      refine V.alloc (l := [.string ByteArray.empty, .int .i64 0, .string ByteArray.empty]) rfl rfl rfl (fun b4 => ?_)
      apply V.storeAll rfl rfl rfl rfl
      · repeat' constructor
      · exact rfl
      · exact rfl
      refine V.assign rfl rfl rfl ?_
      refine V.nil ?_
      refine Post.nextC ?_
      refine VC.seq ?_
      refine VC.seq ?_
      refine VC.region ?_
      refine V.move rfl rfl rfl ?_
      refine V.not rfl rfl rfl ?_
      refine V.know (t := 27) (y := .bool true) rfl (rfl) ?_
      refine V.nil ?_
      refine Post.nextC ?_
      refine VC.condT rfl ?_
      refine VC.seq ?_
      refine VC.any ([[(b3, .cells x.cells.toArray 41 (0, 0))]]) 5 5 mixed rfl ?_
      refine VA.take 0 rfl (by kernel_rfl) (by kernel_rfl) rfl (by kernel_rfl) (by kernel_rfl) (by repeat' constructor) ?_
      refine V.buildS [] (l := [.int .i64 0, .string ByteArray.empty, .string ByteArray.empty, .string ByteArray.empty, .int .i64 0, .string ByteArray.empty]) rfl rfl rfl rfl rfl ?_
      refine V.nil ?_
      refine Post.took ?_
      refine VA.take 1 rfl (by kernel_rfl) (by kernel_rfl) rfl (by kernel_rfl) (by kernel_rfl) (by repeat' constructor) ?_
      apply V.loadAll rfl rfl rfl rfl
      · repeat' constructor
      · exact rfl
      refine V.nil ?_
      refine Post.took ?_
      refine VA.one 2 (by kernel_rfl) rfl ?_
      apply V.storeAll rfl rfl rfl rfl
      · repeat' constructor
      · exact rfl
      · exact rfl
      refine V.nil ?_
      refine Post.came (by repeat' constructor) ?_
      refine VA.one 3 (by kernel_rfl) rfl ?_
      apply V.storeAll rfl rfl rfl rfl
      · repeat' constructor
      · exact rfl
      · exact rfl
      refine V.nil ?_
      refine Post.came (by repeat' constructor) ?_
      refine VA.take 4 rfl (by kernel_rfl) (by kernel_rfl) rfl (by kernel_rfl) (by kernel_rfl) (by repeat' constructor) ?_
      refine V.assign rfl rfl rfl ?_
      refine V.nil ?_
      refine Post.took ?_
      refine VA.done (by kernel_rfl) ?_
      refine Post.nextC ?_
      refine VC.ret ?_
      refine Post.thenRet (?_)
      apply Post.retV3 rfl (.all rfl rfl (by repeat' constructor) (by exact rfl)) (.all rfl rfl (by repeat' constructor) (by exact rfl)) (.tmp rfl)
      · have hk : x.kind = 1 := by assumption
        have e : callOf (x :: r) = (Call.zero, x, false, r) := by simp [callOf, hk, hfd]
        exact ⟨v1, by rw [e]; exact hr1, by rw [e] <;> rfl, rfl⟩
      · repeat' constructor
    ·
      apply V.call rfl rfl rfl (hc := c34 (k := 40) (p := fun f => decide (f.word = x.text)) (cap := .pointer (some ⟨b3, 0, none⟩)) (ck := [(b3, .cells x.cells.toArray 41 (0, 0))]) (fun f => c40))
      · repeat' constructor
      rintro v2 Ho ⟨rfl, rfl⟩
      rw [hfd]
      refine V.move rfl rfl rfl ?_
      refine V.extract rfl rfl rfl rfl ?_
      refine V.extract rfl rfl rfl rfl ?_
      refine V.alloc (l := [.string ByteArray.empty, .int .i64 0, .string ByteArray.empty]) rfl rfl rfl (fun b5 => ?_)
      apply V.storeAll rfl rfl rfl rfl
      · repeat' constructor
      · exact rfl
      · exact rfl
      refine V.assign rfl rfl rfl ?_
      refine V.nil ?_
      refine Post.nextC ?_
      refine VC.seq ?_
      refine VC.seq ?_
      refine VC.region ?_
      refine V.move rfl rfl rfl ?_
      refine V.not rfl rfl rfl ?_
      refine V.know (t := 27) (y := .bool false) rfl (rfl) ?_
      refine V.nil ?_
      refine Post.nextC ?_
      refine VC.condF rfl ?_
      refine VC.skip ?_
      refine Post.nextC ?_
      refine VC.seq ?_
      refine VC.region ?_
      refine V.fieldAddr 1 3 rfl rfl rfl rfl rfl ?_
      apply V.loadL rfl rfl rfl rfl
      · repeat' constructor
      · repeat' constructor
      refine V.fieldAddr 0 3 rfl rfl rfl rfl rfl ?_
      apply V.storeL rfl rfl rfl rfl rfl
      · repeat' constructor
      · repeat' constructor
      refine V.nil ?_
      refine Post.nextC ?_
      refine VC.seq ?_
      refine VC.seq ?_
      refine VC.region ?_
      refine V.fieldAddr 2 9 rfl rfl rfl rfl rfl ?_
      apply V.loadL rfl rfl rfl rfl
      · repeat' constructor
      · repeat' constructor
      refine V.rangeSt rfl rfl rfl (fun b6 => ?_)
      refine V.nil ?_
      refine Post.nextC ?_
      refine VC.block ?_
      refine VC.loop (σ := Nat × Call × List Tok × Value) (fun x => [(0, .pointer (some ⟨rp, 0, none⟩)), (2, .pointer (some ⟨b1, 0, none⟩)), (3, .pointer (some ⟨b2, 0, none⟩)), (35, .pointer (some ⟨b6, 0, none⟩))]) (fun x => rdB rp x.2.2.2 :: C :: [(b1, .cells (x.2.1).cells.toArray 43 (0, 0))] :: [(b2, .cells (Tok.zero).cells.toArray 41 (0, 0))] :: [(b6, .stringIter ⟨f.like.toArray⟩ x.1)] :: R) (fun x => Rd w0 C 5 x.2.2.2 x.2.2.1.length (toks x.2.2.1) ∧ Ends x.2.2.1 ∧ readLike f.like { Call.zero with op := f.op } r = readLike (f.like.drop x.1) x.2.1 x.2.2.1 ∧ x.1 ≤ f.like.length) (fun x => f.like.length - x.1) (0, { Call.zero with op := f.op }, r, v1) ⟨hr1, he.tail (by omega), by simp, Nat.zero_le _⟩ ?_ ?_ ?_
      · exact ⟨rfl, rfl, rfl, rfl, trivial⟩
      · repeat' constructor
      rintro ⟨i, c, l, v⟩ ⟨hI1, hI2, hI3, hI4⟩
      obtain ⟨t, q, rfl⟩ := hI2.cons
      refine VC.seq ?_
      refine VC.region ?_
      rcases hw : f.like[i]? with _ | w
      ·
        apply V.nextStEnd rfl rfl rfl
        · repeat' constructor
        · exact hw
        refine V.extract rfl rfl rfl rfl ?_
        refine V.know (t := 37) (y := .bool false) rfl (rfl) ?_
        refine V.nil ?_
        refine Post.nextC ?_
        refine VC.seq ?_
        refine VC.condF rfl ?_
        refine VC.exit ?_
        refine Post.thenExit (Post.thenExit (Post.blockHit (Post.nextC ?_)))
        refine VC.seq ?_
        refine VC.region ?_
        refine V.move rfl rfl rfl ?_
        apply V.call rfl rfl rfl (hc := c39 (x := t) (r := q) hI1)
        · repeat' constructor
        rintro v2 Ho ⟨v1, hr1, rfl, rfl⟩
        refine V.move rfl rfl rfl ?_
        refine V.extract rfl rfl rfl rfl ?_
        refine V.extract rfl rfl rfl rfl ?_
        apply V.storeAll rfl rfl rfl rfl
        · repeat' constructor
        · exact rfl
        · exact rfl
        refine V.assign rfl rfl rfl ?_
        refine V.nil ?_
        refine Post.nextC ?_
        refine VC.seq ?_
        refine VC.any ([[(b1, .cells c.cells.toArray 43 (0, 0))], [(b2, .cells t.cells.toArray 41 (0, 0))]]) 6 6 mixed rfl ?_
        refine VA.take 0 rfl (by kernel_rfl) (by kernel_rfl) rfl (by kernel_rfl) (by kernel_rfl) (by repeat' constructor) ?_
        apply V.loadAll rfl rfl rfl rfl
        · repeat' constructor
        · exact rfl
        refine V.nil ?_
        refine Post.took ?_
        refine VA.take 1 rfl (by kernel_rfl) (by kernel_rfl) rfl (by kernel_rfl) (by kernel_rfl) (by repeat' constructor) ?_
        apply V.loadAll rfl rfl rfl rfl
        · repeat' constructor
        · exact rfl
        refine V.nil ?_
        refine Post.took ?_
        refine VA.take 2 rfl (by kernel_rfl) (by kernel_rfl) rfl (by kernel_rfl) (by kernel_rfl) (by repeat' constructor) ?_
        refine V.move rfl rfl rfl ?_
        refine V.nil ?_
        refine Post.took ?_
        refine VA.one 3 (by kernel_rfl) rfl ?_
        apply V.storeAll rfl rfl rfl rfl
        · repeat' constructor
        · exact rfl
        · exact rfl
        refine V.nil ?_
        refine Post.came (by repeat' constructor) ?_
        refine VA.one 4 (by kernel_rfl) rfl ?_
        apply V.storeAll rfl rfl rfl rfl
        · repeat' constructor
        · exact rfl
        · exact rfl
        refine V.nil ?_
        refine Post.came (by repeat' constructor) ?_
        refine VA.take 5 rfl (by kernel_rfl) (by kernel_rfl) rfl (by kernel_rfl) (by kernel_rfl) (by repeat' constructor) ?_
        refine V.assign rfl rfl rfl ?_
        refine V.nil ?_
        refine Post.took ?_
        refine VA.done (by kernel_rfl) ?_
        refine Post.nextC ?_
        refine VC.ret ?_
        apply Post.retV3 rfl (.all rfl rfl (by repeat' constructor) (by exact rfl)) (.all rfl rfl (by repeat' constructor) (by exact rfl)) (.tmp rfl)
        · have hk : x.kind = 1 := by assumption
          have e : callOf (x :: r) = if t.kind = 4 then (c, t, true, q) else (c, t, false, t :: q) := by
            simp only [callOf, hk, if_true, hfd]
            rw [hI3, List.drop_of_length_le (List.getElem?_eq_none_iff.1 hw), readLike_end]
          rw [e]
          by_cases hk4 : t.kind = 4
          · rw [if_pos hk4] at hr1
            exact ⟨v1, by rw [if_pos hk4]; exact hr1, by simp [hk4], rfl⟩
          · rw [if_neg hk4] at hr1
            exact ⟨v1, by rw [if_neg hk4]; exact hr1, by simp [hk4], rfl⟩
        · repeat' constructor
      ·
        apply V.nextSt rfl rfl rfl
        · repeat' constructor
        · exact hw
        · exact like_ascii hfd w (List.mem_of_getElem? hw)
        refine V.extract rfl rfl rfl rfl ?_
        refine V.know (t := 37) (y := .bool true) rfl (rfl) ?_
        refine V.nil ?_
        refine Post.nextC ?_
        refine VC.seq ?_
        refine VC.condT rfl ?_
        refine VC.skip ?_
        refine Post.nextC ?_
        refine VC.block ?_
        refine VC.seq ?_
        refine VC.region ?_
        refine V.extract rfl rfl rfl rfl ?_
        refine V.assign rfl rfl rfl ?_
        refine V.nil ?_
        refine Post.nextC ?_
        refine VC.seq ?_
        refine VC.region ?_
        refine V.assign rfl rfl rfl ?_
        refine V.nil ?_
        refine Post.nextC ?_
        refine VC.seq ?_
        refine VC.seq ?_
        refine VC.region ?_
        refine V.move rfl rfl rfl ?_
        refine V.bin rfl rfl rfl rfl (bin_eql _ _ _) ?_
        refine V.nil ?_
        refine Post.nextC ?_
        refine VC.cond rfl (fun h2 => ?_) (fun h2 => ?_)
        · try simp only [decide_eq_true_eq, decide_eq_false_iff_not, Bool.not_eq_true', Bool.not_eq_false', Bool.not_eq_eq_eq_not, Bool.not_true, Bool.not_false, beq_iff_eq, beq_eq_false_iff_ne, ne_eq, Int.not_lt, Int.not_le, Option.isSome_some, Option.isNone_none, Option.isSome_none, Option.isNone_some, Classical.not_not] at h2
          refine VC.region ?_
          refine V.assign rfl rfl rfl ?_
          refine V.nil ?_
          refine Post.nextC ?_
          refine VC.seq ?_
          refine VC.region ?_
          refine V.move rfl rfl rfl ?_
          refine V.move rfl rfl rfl ?_
          apply V.call rfl rfl rfl (hc := c39 (x := t) (r := q) hI1)
          · repeat' constructor
          rintro v2 Ho ⟨v2, hr2, rfl, rfl⟩
          refine V.move rfl rfl rfl ?_
          refine V.extract rfl rfl rfl rfl ?_
          refine V.extract rfl rfl rfl rfl ?_
          refine V.alloc (l := [.int .i64 0, .string ByteArray.empty, .int .i64 0, .int .i64 0, .int .i64 0]) rfl rfl rfl (fun b7 => ?_)
          apply V.storeAll rfl rfl rfl rfl
          · repeat' constructor
          · exact rfl
          · exact rfl
          refine V.assign rfl rfl rfl ?_
          refine V.nil ?_
          refine Post.nextC ?_
          refine VC.seq ?_
          refine VC.seq ?_
          refine VC.region ?_
          refine V.move rfl rfl rfl ?_
          refine V.not rfl rfl rfl ?_
          refine V.nil ?_
          refine Post.nextC ?_
          refine VC.cond rfl (fun h3 => ?_) (fun h3 => ?_)
          · try simp only [decide_eq_true_eq, decide_eq_false_iff_not, Bool.not_eq_true', Bool.not_eq_false', Bool.not_eq_eq_eq_not, Bool.not_true, Bool.not_false, beq_iff_eq, beq_eq_false_iff_ne, ne_eq, Int.not_lt, Int.not_le, Option.isSome_some, Option.isNone_none, Option.isSome_none, Option.isNone_some, Classical.not_not] at h3
            refine VC.seq ?_
            refine VC.any ([[(b7, .cells t.cells.toArray 41 (0, 0))]]) 5 5 mixed rfl ?_
            refine VA.take 0 rfl (by kernel_rfl) (by kernel_rfl) rfl (by kernel_rfl) (by kernel_rfl) (by repeat' constructor) ?_
            refine V.buildS [] (l := [.int .i64 0, .string ByteArray.empty, .string ByteArray.empty, .string ByteArray.empty, .int .i64 0, .string ByteArray.empty]) rfl rfl rfl rfl rfl ?_
            refine V.nil ?_
            refine Post.took ?_
            refine VA.take 1 rfl (by kernel_rfl) (by kernel_rfl) rfl (by kernel_rfl) (by kernel_rfl) (by repeat' constructor) ?_
            apply V.loadAll rfl rfl rfl rfl
            · repeat' constructor
            · exact rfl
            refine V.nil ?_
            refine Post.took ?_
            refine VA.one 2 (by kernel_rfl) rfl ?_
            apply V.storeAll rfl rfl rfl rfl
            · repeat' constructor
            · exact rfl
            · exact rfl
            refine V.nil ?_
            refine Post.came (by repeat' constructor) ?_
            refine VA.one 3 (by kernel_rfl) rfl ?_
            apply V.storeAll rfl rfl rfl rfl
            · repeat' constructor
            · exact rfl
            · exact rfl
            refine V.nil ?_
            refine Post.came (by repeat' constructor) ?_
            refine VA.take 4 rfl (by kernel_rfl) (by kernel_rfl) rfl (by kernel_rfl) (by kernel_rfl) (by repeat' constructor) ?_
            refine V.assign rfl rfl rfl ?_
            refine V.nil ?_
            refine Post.took ?_
            refine VA.done (by kernel_rfl) ?_
            refine Post.nextC ?_
            refine VC.ret ?_
            refine Post.thenRet (Post.blockRet (Post.thenRet (Post.blockRet (Post.thenRet (?_)))))
            apply Post.retV3 rfl (.all rfl rfl (by repeat' constructor) (by exact rfl)) (.all rfl rfl (by repeat' constructor) (by exact rfl)) (.tmp rfl)
            · have hk : x.kind = 1 := by assumption
              have e : callOf (x :: r) = (Call.zero, t, false, t :: q) := by
                have hkk : ¬ t.kind = kindOf w := by first | (rw [kind_n (by assumption)]; assumption) | (rw [kind_w (by assumption)]; assumption)
                simp only [callOf, hk, if_true, hfd]
                rw [hI3, drop_cons hw, readLike_cons, if_neg hkk]
              rw [if_neg (by assumption)] at hr2
              exact ⟨v2, by rw [e]; exact hr2, by rw [e] <;> rfl, rfl⟩
            · repeat' constructor
          · try simp only [decide_eq_true_eq, decide_eq_false_iff_not, Bool.not_eq_true', Bool.not_eq_false', Bool.not_eq_eq_eq_not, Bool.not_true, Bool.not_false, beq_iff_eq, beq_eq_false_iff_ne, ne_eq, Int.not_lt, Int.not_le, Option.isSome_some, Option.isNone_none, Option.isSome_none, Option.isNone_some, Classical.not_not] at h3
            refine VC.skip ?_
            refine Post.nextC ?_
            refine VC.seq ?_
            refine VC.region ?_
            have hkk : t.kind = kindOf w := by first | (rw [kind_n (by assumption)]; assumption) | (rw [kind_w (by assumption)]; assumption)
            rw [if_pos (by assumption)] at hr2
            refine V.move rfl rfl rfl ?_
            refine V.nil ?_
            refine Post.nextC ?_
            refine VC.block ?_
            refine VC.seq ?_
            refine VC.region ?_
            refine V.bin rfl rfl rfl rfl (bin_eql _ _ _) ?_
            refine V.assign rfl rfl rfl ?_
            refine V.nil ?_
            refine Post.nextC ?_
            refine VC.cond rfl (fun h4 => ?_) (fun h4 => ?_)
            · try simp only [decide_eq_true_eq, decide_eq_false_iff_not, Bool.not_eq_true', Bool.not_eq_false', Bool.not_eq_eq_eq_not, Bool.not_true, Bool.not_false, beq_iff_eq, beq_eq_false_iff_ne, ne_eq, Int.not_lt, Int.not_le, Option.isSome_some, Option.isNone_none, Option.isSome_none, Option.isNone_some, Classical.not_not] at h4
              refine VC.region ?_
              refine V.fieldAddr 1 9 rfl rfl rfl rfl rfl ?_
              apply V.loadL rfl rfl rfl rfl
              · repeat' constructor
              · repeat' constructor
              refine V.fieldAddr 1 9 rfl rfl rfl rfl rfl ?_
              apply V.storeL rfl rfl rfl rfl rfl
              · repeat' constructor
              · repeat' constructor
              refine V.nil ?_
              refine Post.blockNormal (Post.blockNormal (Post.round (i + 1, { c with a := t.text }, q, v2) ?_ ?_ ?_ ?_))
              · exact ⟨hr2, hI2.tail (by omega), hI3.trans (by rw [drop_cons hw, readLike_cons, if_pos hkk, put_a (by assumption)]), (List.getElem?_eq_some_iff.1 hw).1⟩
              · have := (List.getElem?_eq_some_iff.1 hw).1
                show f.like.length - (i + 1) < f.like.length - i
                omega
              · exact ⟨rfl, rfl, rfl, rfl, trivial⟩
              · repeat' constructor
            · try simp only [decide_eq_true_eq, decide_eq_false_iff_not, Bool.not_eq_true', Bool.not_eq_false', Bool.not_eq_eq_eq_not, Bool.not_true, Bool.not_false, beq_iff_eq, beq_eq_false_iff_ne, ne_eq, Int.not_lt, Int.not_le, Option.isSome_some, Option.isNone_none, Option.isSome_none, Option.isNone_some, Classical.not_not] at h4
              refine VC.seq ?_
              refine VC.region ?_
              refine V.bin rfl rfl rfl rfl (bin_eql _ _ _) ?_
              refine V.assign rfl rfl rfl ?_
              refine V.nil ?_
              refine Post.nextC ?_
              refine VC.cond rfl (fun h5 => ?_) (fun h5 => ?_)
              · try simp only [decide_eq_true_eq, decide_eq_false_iff_not, Bool.not_eq_true', Bool.not_eq_false', Bool.not_eq_eq_eq_not, Bool.not_true, Bool.not_false, beq_iff_eq, beq_eq_false_iff_ne, ne_eq, Int.not_lt, Int.not_le, Option.isSome_some, Option.isNone_none, Option.isSome_none, Option.isNone_some, Classical.not_not] at h5
                refine VC.region ?_
                refine V.fieldAddr 1 9 rfl rfl rfl rfl rfl ?_
                apply V.loadL rfl rfl rfl rfl
                · repeat' constructor
                · repeat' constructor
                refine V.fieldAddr 2 9 rfl rfl rfl rfl rfl ?_
                apply V.storeL rfl rfl rfl rfl rfl
                · repeat' constructor
                · repeat' constructor
                refine V.nil ?_
                refine Post.blockNormal (Post.blockNormal (Post.round (i + 1, { c with b := t.text }, q, v2) ?_ ?_ ?_ ?_))
                · exact ⟨hr2, hI2.tail (by omega), hI3.trans (by rw [drop_cons hw, readLike_cons, if_pos hkk, put_b (by assumption)]), (List.getElem?_eq_some_iff.1 hw).1⟩
                · have := (List.getElem?_eq_some_iff.1 hw).1
                  show f.like.length - (i + 1) < f.like.length - i
                  omega
                · exact ⟨rfl, rfl, rfl, rfl, trivial⟩
                · repeat' constructor
              · try simp only [decide_eq_true_eq, decide_eq_false_iff_not, Bool.not_eq_true', Bool.not_eq_false', Bool.not_eq_eq_eq_not, Bool.not_true, Bool.not_false, beq_iff_eq, beq_eq_false_iff_ne, ne_eq, Int.not_lt, Int.not_le, Option.isSome_some, Option.isNone_none, Option.isSome_none, Option.isNone_some, Classical.not_not] at h5
                refine VC.region ?_
                refine V.fieldAddr 2 3 rfl rfl rfl rfl rfl ?_
                apply V.loadL rfl rfl rfl rfl
                · repeat' constructor
                · repeat' constructor
                refine V.fieldAddr 4 3 rfl rfl rfl rfl rfl ?_
                apply V.storeL rfl rfl rfl rfl rfl
                · repeat' constructor
                · repeat' constructor
                refine V.nil ?_
                refine Post.blockNormal (Post.blockNormal (Post.round (i + 1, { c with n := t.number }, q, v2) ?_ ?_ ?_ ?_))
                · exact ⟨hr2, hI2.tail (by omega), hI3.trans (by rw [drop_cons hw, readLike_cons, if_pos hkk, put_n (by assumption) (by assumption)]), (List.getElem?_eq_some_iff.1 hw).1⟩
                · have := (List.getElem?_eq_some_iff.1 hw).1
                  show f.like.length - (i + 1) < f.like.length - i
                  omega
                · exact ⟨rfl, rfl, rfl, rfl, trivial⟩
                · repeat' constructor
        · try simp only [decide_eq_true_eq, decide_eq_false_iff_not, Bool.not_eq_true', Bool.not_eq_false', Bool.not_eq_eq_eq_not, Bool.not_true, Bool.not_false, beq_iff_eq, beq_eq_false_iff_ne, ne_eq, Int.not_lt, Int.not_le, Option.isSome_some, Option.isNone_none, Option.isSome_none, Option.isNone_some, Classical.not_not] at h2
          refine VC.skip ?_
          refine Post.nextC ?_
          refine VC.seq ?_
          refine VC.region ?_
          refine V.move rfl rfl rfl ?_
          refine V.move rfl rfl rfl ?_
          apply V.call rfl rfl rfl (hc := c39 (x := t) (r := q) hI1)
          · repeat' constructor
          rintro v2 Ho ⟨v2, hr2, rfl, rfl⟩
          refine V.move rfl rfl rfl ?_
          refine V.extract rfl rfl rfl rfl ?_
          refine V.extract rfl rfl rfl rfl ?_
          refine V.alloc (l := [.int .i64 0, .string ByteArray.empty, .int .i64 0, .int .i64 0, .int .i64 0]) rfl rfl rfl (fun b8 => ?_)
          apply V.storeAll rfl rfl rfl rfl
          · repeat' constructor
          · exact rfl
          · exact rfl
          refine V.assign rfl rfl rfl ?_
          refine V.nil ?_
          refine Post.nextC ?_
          refine VC.seq ?_
          refine VC.seq ?_
          refine VC.region ?_
          refine V.move rfl rfl rfl ?_
          refine V.not rfl rfl rfl ?_
          refine V.nil ?_
          refine Post.nextC ?_
          refine VC.cond rfl (fun h6 => ?_) (fun h6 => ?_)
          · try simp only [decide_eq_true_eq, decide_eq_false_iff_not, Bool.not_eq_true', Bool.not_eq_false', Bool.not_eq_eq_eq_not, Bool.not_true, Bool.not_false, beq_iff_eq, beq_eq_false_iff_ne, ne_eq, Int.not_lt, Int.not_le, Option.isSome_some, Option.isNone_none, Option.isSome_none, Option.isNone_some, Classical.not_not] at h6
            refine VC.seq ?_
            refine VC.any ([[(b8, .cells t.cells.toArray 41 (0, 0))]]) 5 5 mixed rfl ?_
            refine VA.take 0 rfl (by kernel_rfl) (by kernel_rfl) rfl (by kernel_rfl) (by kernel_rfl) (by repeat' constructor) ?_
            refine V.buildS [] (l := [.int .i64 0, .string ByteArray.empty, .string ByteArray.empty, .string ByteArray.empty, .int .i64 0, .string ByteArray.empty]) rfl rfl rfl rfl rfl ?_
            refine V.nil ?_
            refine Post.took ?_
            refine VA.take 1 rfl (by kernel_rfl) (by kernel_rfl) rfl (by kernel_rfl) (by kernel_rfl) (by repeat' constructor) ?_
            apply V.loadAll rfl rfl rfl rfl
            · repeat' constructor
            · exact rfl
            refine V.nil ?_
            refine Post.took ?_
            refine VA.one 2 (by kernel_rfl) rfl ?_
            apply V.storeAll rfl rfl rfl rfl
            · repeat' constructor
            · exact rfl
            · exact rfl
            refine V.nil ?_
            refine Post.came (by repeat' constructor) ?_
            refine VA.one 3 (by kernel_rfl) rfl ?_
            apply V.storeAll rfl rfl rfl rfl
            · repeat' constructor
            · exact rfl
            · exact rfl
            refine V.nil ?_
            refine Post.came (by repeat' constructor) ?_
            refine VA.take 4 rfl (by kernel_rfl) (by kernel_rfl) rfl (by kernel_rfl) (by kernel_rfl) (by repeat' constructor) ?_
            refine V.assign rfl rfl rfl ?_
            refine V.nil ?_
            refine Post.took ?_
            refine VA.done (by kernel_rfl) ?_
            refine Post.nextC ?_
            refine VC.ret ?_
            refine Post.thenRet (Post.blockRet (Post.thenRet (Post.blockRet (Post.thenRet (?_)))))
            apply Post.retV3 rfl (.all rfl rfl (by repeat' constructor) (by exact rfl)) (.all rfl rfl (by repeat' constructor) (by exact rfl)) (.tmp rfl)
            · have hk : x.kind = 1 := by assumption
              have e : callOf (x :: r) = (Call.zero, t, false, t :: q) := by
                have hkk : ¬ t.kind = kindOf w := by first | (rw [kind_n (by assumption)]; assumption) | (rw [kind_w (by assumption)]; assumption)
                simp only [callOf, hk, if_true, hfd]
                rw [hI3, drop_cons hw, readLike_cons, if_neg hkk]
              rw [if_neg (by assumption)] at hr2
              exact ⟨v2, by rw [e]; exact hr2, by rw [e] <;> rfl, rfl⟩
            · repeat' constructor
          · try simp only [decide_eq_true_eq, decide_eq_false_iff_not, Bool.not_eq_true', Bool.not_eq_false', Bool.not_eq_eq_eq_not, Bool.not_true, Bool.not_false, beq_iff_eq, beq_eq_false_iff_ne, ne_eq, Int.not_lt, Int.not_le, Option.isSome_some, Option.isNone_none, Option.isSome_none, Option.isNone_some, Classical.not_not] at h6
            refine VC.skip ?_
            refine Post.nextC ?_
            refine VC.seq ?_
            refine VC.region ?_
            have hkk : t.kind = kindOf w := by first | (rw [kind_n (by assumption)]; assumption) | (rw [kind_w (by assumption)]; assumption)
            rw [if_pos (by assumption)] at hr2
            refine V.move rfl rfl rfl ?_
            refine V.nil ?_
            refine Post.nextC ?_
            refine VC.block ?_
            refine VC.seq ?_
            refine VC.region ?_
            refine V.bin rfl rfl rfl rfl (bin_eql _ _ _) ?_
            refine V.assign rfl rfl rfl ?_
            refine V.nil ?_
            refine Post.nextC ?_
            refine VC.cond rfl (fun h7 => ?_) (fun h7 => ?_)
            · try simp only [decide_eq_true_eq, decide_eq_false_iff_not, Bool.not_eq_true', Bool.not_eq_false', Bool.not_eq_eq_eq_not, Bool.not_true, Bool.not_false, beq_iff_eq, beq_eq_false_iff_ne, ne_eq, Int.not_lt, Int.not_le, Option.isSome_some, Option.isNone_none, Option.isSome_none, Option.isNone_some, Classical.not_not] at h7
              refine VC.region ?_
              refine V.fieldAddr 1 9 rfl rfl rfl rfl rfl ?_
              apply V.loadL rfl rfl rfl rfl
              · repeat' constructor
              · repeat' constructor
              refine V.fieldAddr 1 9 rfl rfl rfl rfl rfl ?_
              apply V.storeL rfl rfl rfl rfl rfl
              · repeat' constructor
              · repeat' constructor
              refine V.nil ?_
              refine Post.blockNormal (Post.blockNormal (Post.round (i + 1, { c with a := t.text }, q, v2) ?_ ?_ ?_ ?_))
              · exact ⟨hr2, hI2.tail (by omega), hI3.trans (by rw [drop_cons hw, readLike_cons, if_pos hkk, put_a (by assumption)]), (List.getElem?_eq_some_iff.1 hw).1⟩
              · have := (List.getElem?_eq_some_iff.1 hw).1
                show f.like.length - (i + 1) < f.like.length - i
                omega
              · exact ⟨rfl, rfl, rfl, rfl, trivial⟩
              · repeat' constructor
            · try simp only [decide_eq_true_eq, decide_eq_false_iff_not, Bool.not_eq_true', Bool.not_eq_false', Bool.not_eq_eq_eq_not, Bool.not_true, Bool.not_false, beq_iff_eq, beq_eq_false_iff_ne, ne_eq, Int.not_lt, Int.not_le, Option.isSome_some, Option.isNone_none, Option.isSome_none, Option.isNone_some, Classical.not_not] at h7
              refine VC.seq ?_
              refine VC.region ?_
              refine V.bin rfl rfl rfl rfl (bin_eql _ _ _) ?_
              refine V.assign rfl rfl rfl ?_
              refine V.nil ?_
              refine Post.nextC ?_
              refine VC.cond rfl (fun h8 => ?_) (fun h8 => ?_)
              · try simp only [decide_eq_true_eq, decide_eq_false_iff_not, Bool.not_eq_true', Bool.not_eq_false', Bool.not_eq_eq_eq_not, Bool.not_true, Bool.not_false, beq_iff_eq, beq_eq_false_iff_ne, ne_eq, Int.not_lt, Int.not_le, Option.isSome_some, Option.isNone_none, Option.isSome_none, Option.isNone_some, Classical.not_not] at h8
                refine VC.region ?_
                refine V.fieldAddr 1 9 rfl rfl rfl rfl rfl ?_
                apply V.loadL rfl rfl rfl rfl
                · repeat' constructor
                · repeat' constructor
                refine V.fieldAddr 2 9 rfl rfl rfl rfl rfl ?_
                apply V.storeL rfl rfl rfl rfl rfl
                · repeat' constructor
                · repeat' constructor
                refine V.nil ?_
                refine Post.blockNormal (Post.blockNormal (Post.round (i + 1, { c with b := t.text }, q, v2) ?_ ?_ ?_ ?_))
                · exact ⟨hr2, hI2.tail (by omega), hI3.trans (by rw [drop_cons hw, readLike_cons, if_pos hkk, put_b (by assumption)]), (List.getElem?_eq_some_iff.1 hw).1⟩
                · have := (List.getElem?_eq_some_iff.1 hw).1
                  show f.like.length - (i + 1) < f.like.length - i
                  omega
                · exact ⟨rfl, rfl, rfl, rfl, trivial⟩
                · repeat' constructor
              · try simp only [decide_eq_true_eq, decide_eq_false_iff_not, Bool.not_eq_true', Bool.not_eq_false', Bool.not_eq_eq_eq_not, Bool.not_true, Bool.not_false, beq_iff_eq, beq_eq_false_iff_ne, ne_eq, Int.not_lt, Int.not_le, Option.isSome_some, Option.isNone_none, Option.isSome_none, Option.isNone_some, Classical.not_not] at h8
                refine VC.region ?_
                refine V.fieldAddr 2 3 rfl rfl rfl rfl rfl ?_
                apply V.loadL rfl rfl rfl rfl
                · repeat' constructor
                · repeat' constructor
                refine V.fieldAddr 4 3 rfl rfl rfl rfl rfl ?_
                apply V.storeL rfl rfl rfl rfl rfl
                · repeat' constructor
                · repeat' constructor
                refine V.nil ?_
                refine Post.blockNormal (Post.blockNormal (Post.round (i + 1, { c with n := t.number }, q, v2) ?_ ?_ ?_ ?_))
                · exact ⟨hr2, hI2.tail (by omega), hI3.trans (by rw [drop_cons hw, readLike_cons, if_pos hkk, put_n (by assumption) (by assumption)]), (List.getElem?_eq_some_iff.1 hw).1⟩
                · have := (List.getElem?_eq_some_iff.1 hw).1
                  show f.like.length - (i + 1) < f.like.length - i
                  omega
                · exact ⟨rfl, rfl, rfl, rfl, trivial⟩
                · repeat' constructor

end Go.Proofs.Ln
