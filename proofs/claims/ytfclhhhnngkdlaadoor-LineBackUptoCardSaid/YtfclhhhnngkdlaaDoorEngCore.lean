/- A small engine of this session's own: what a Go function's code does, told over literal lists (frame slots, owned blocks), one lemma an operation. -/
import Derived.WalkKit
import Derived.KernelRfl
import Derived.Deep.Quiet
import Derived.StillTail
import Derived.Deep.LoopGhost
import Derived.Maps.AppendAt
import Derived.OrdersHeld
import Derived.Defers
set_option linter.unusedVariables false
set_option linter.unusedSimpArgs false
namespace Go.Proofs.Eng
open Go Go.RowKit

theorem beq_ne {a b : Nat} (h : a ≠ b) : Nat.beq a b = false := by
  cases hb : Nat.beq a b with
  | false => rfl
  | true => exact absurd (Nat.eq_of_beq_eq_true hb) h
theorem ne_beq {a b : Nat} (h : Nat.beq a b = false) : a ≠ b := Nat.ne_of_beq_eq_false h
theorem blt_lt {a b : Nat} (h : Nat.blt a b = true) : a < b := Nat.le_of_ble_eq_true h

abbrev Env := List (Nat × Value)
abbrev Chunk := List (Nat × Obj)
abbrev Hp := List Chunk

/-- the newest entry of a slot -/
def look : Env → Nat → Option Value
  | [], _ => none
  | (k, v) :: E, t => bif Nat.beq k t then some v else look E t

def ev (E : Env) : Operand → Option Value
  | .tmp t => look E t
  | .const v => some v
  | .global g => some (.pointer (some ⟨g, 0, none⟩))
  | .func f => some (.func (.func f) #[] #[])

def evs (E : Env) : List Operand → Option (List Value)
  | [] => some []
  | x :: l => match ev E x, evs E l with
    | some v, some vs => some (v :: vs)
    | _, _ => none

structure Fr (n : Nat) (D : List Deferred) (E : Env) (a : Act) : Prop where
  size : a.tmps.size = n
  dfr : a.defers = D
  look : ∀ t v, look E t = some v → a.tmps.getD t undef = v

theorem Fr.ev {n D E a} (h : Fr n D E a) {x v} (hx : ev E x = some v) : a.eval x = v := by
  cases x with
  | tmp t => exact h.look t v hx
  | const u => simpa [Eng.ev, Act.eval] using hx
  | global g => simpa [Eng.ev, Act.eval] using hx
  | func f => simpa [Eng.ev, Act.eval] using hx

theorem Fr.evs {n D E a} (h : Fr n D E a) : ∀ {l vs}, evs E l = some vs → l.map a.eval = vs
  | [], vs, hx => by simpa [Eng.evs] using hx
  | x :: l, vs, hx => by
    simp only [Eng.evs] at hx
    split at hx
    · rename_i v us h1 h2
      obtain rfl : v :: us = vs := by simpa using hx
      rw [List.map_cons, h.ev h1, h.evs h2]
    · cases hx

theorem Fr.put {n D E a d v} (h : Fr n D E a) (hd : Nat.blt d n = true) : Fr n D ((d, v) :: E) (a.put (some d) v) := by
  have hd' : d < n := blt_lt hd
  refine ⟨by simp [Act.put, h.size], h.dfr, fun t u hu => ?_⟩
  simp only [Eng.look] at hu
  by_cases e : d = t
  · subst e
    have : u = v := by simpa using hu.symm
    subst this
    simp [Act.put, h.size, hd']
  · have e' : Nat.beq d t = false := beq_ne e
    rw [e'] at hu
    have := h.look t u (by simpa using hu)
    simp only [Act.put]
    rw [← this]
    simp [Array.getD_eq_getD_getElem?, Array.getElem?_setIfInBounds, e]

/-- each entry of the list is the newest of its slot in E -/
def All (E : Env) : Env → Prop
  | [] => True
  | p :: r => look E p.1 = some p.2 ∧ All E r

theorem All.look {E : Env} : ∀ {E' : Env}, All E E' → ∀ t v, Eng.look E' t = some v → Eng.look E t = some v
  | [], _, t, v, hv => by simp [Eng.look] at hv
  | p :: r, h, t, v, hv => by
    simp only [Eng.look] at hv
    by_cases e : p.1 = t
    · subst e
      have : v = p.2 := by simpa using hv.symm
      subst this
      exact h.1
    · have e' : Nat.beq p.1 t = false := beq_ne e
      rw [e'] at hv
      exact All.look h.2 t v (by simpa using hv)

theorem Fr.sub {n D E E' a} (h : Fr n D E a) (hs : All E E') : Fr n D E' a := ⟨h.size, h.dfr, fun t v hv => h.look t v (hs.look t v hv)⟩

/-! ### The owned memory -/
structure Wd (w0 : World) (H : Hp) (w : World) : Prop where
  below : Below w0.heap.size w0 w
  nodup : (H.flatten.map Prod.fst).Nodup
  ge : ∀ p ∈ H.flatten, w0.heap.size ≤ p.1
  at_ : ∀ p ∈ H.flatten, w.heap[p.1]? = some p.2

theorem Wd.start (w : World) : Wd w [] w := ⟨Below.refl _ _, by simp, by simp, by simp⟩

theorem Wd.perm {w0 H H' w} (h : Wd w0 H w) (hp : H'.flatten.Perm H.flatten) : Wd w0 H' w :=
  ⟨h.below, (hp.map Prod.fst).nodup_iff.2 h.nodup, fun p hm => h.ge p (hp.mem_iff.1 hm), fun p hm => h.at_ p (hp.mem_iff.1 hm)⟩

theorem Wd.sub {w0 H H' w} (h : Wd w0 H w) (hp : H'.flatten.Sublist H.flatten) : Wd w0 H' w :=
  ⟨h.below, (hp.map Prod.fst).nodup h.nodup, fun p hm => h.ge p (hp.mem hm), fun p hm => h.at_ p (hp.mem hm)⟩

theorem Wd.drop {w0 c H w} (h : Wd w0 (c :: H) w) : Wd w0 H w := h.sub (by simp)

/-- x stands in H, H' is H without it -/
inductive Pick : Hp → Chunk → Hp → Prop
  | head {x H} : Pick (x :: H) x H
  | opened {x y H z H'} (h : Pick (x :: y :: H) z H') : Pick ((x ++ y) :: H) z H'
  | tail {y H x H'} (h : Pick H x H') : Pick (y :: H) x (y :: H')

/-- the chunks X stand in H, R is what is left -/
inductive Picks : Hp → Hp → Hp → Prop
  | emp {H X R} (r : Picks H X R) : Picks H ([] :: X) R
  | join {H x y X R} (r : Picks H (x :: y :: X) R) : Picks H ((x ++ y) :: X) R
  | nil {H} : Picks H [] H
  | cons {H x H' X R} (h : Pick H x H') (r : Picks H' X R) : Picks H (x :: X) R

theorem Pick.perm {H x H'} (h : Pick H x H') : (x :: H').flatten.Perm H.flatten := by
  induction h with
  | head => exact .refl _
  | @opened x y H z H' h ih => simpa using ih
  | @tail y H x H' h ih =>
    simp only [List.flatten_cons] at ih ⊢
    refine List.Perm.trans ?_ (List.Perm.append_left y ih)
    rw [← List.append_assoc, ← List.append_assoc]
    exact List.Perm.append_right _ List.perm_append_comm

theorem Picks.perm {H X R} (h : Picks H X R) : (X ++ R).flatten.Perm H.flatten := by
  induction h with
  | emp r ih => simpa using ih
  | join r ih => simpa using ih
  | nil => exact .refl _
  | @cons H x H' X R h r ih =>
    refine List.Perm.trans ?_ h.perm
    simp only [List.cons_append, List.flatten_cons] at ih ⊢
    exact List.Perm.append_left x ih

/-- J ends with R -/
inductive Suf (R : Hp) : Hp → Prop
  | refl : Suf R R
  | cons {x J} (h : Suf R J) : Suf R (x :: J)

/-- the chunks of H' stand in H, in whatever order, before the rest; what is not asked for is dropped -/
inductive Sb : Hp → Hp → Prop
  | emp {H H'} (r : Sb H H') : Sb H ([] :: H')
  | join {H x y H'} (r : Sb H (x :: y :: H')) : Sb H ((x ++ y) :: H')
  | cons {H x H1 H'} (h : Pick H x H1) (r : Sb H1 H') : Sb H (x :: H')
  | nil {J} : Sb J []
  | tail {J R} (h : Suf R J) : Sb J R

theorem Suf.sub {R J : Hp} (h : Suf R J) : R.flatten.Sublist J.flatten := by
  induction h with
  | refl => exact List.Sublist.refl _
  | @cons x J h ih => rw [List.flatten_cons]; exact ih.trans (List.sublist_append_right _ _)

theorem Wd.has {w0 H H' w} (h : Wd w0 H w) (hp : Sb H H') : Wd w0 H' w := by
  have gen : ∀ {H H' : Hp}, Sb H H' → ∃ L : Chunk, L.Perm H.flatten ∧ H'.flatten.Sublist L := by
    intro H H' hp
    induction hp with
    | emp r ih => simpa using ih
    | join r ih => simpa using ih
    | tail hs => exact ⟨_, .refl _, hs.sub⟩
    | nil => exact ⟨_, .refl _, by simp⟩
    | @cons H x H1 H' hp r ih =>
      obtain ⟨L, h1, h2⟩ := ih
      exact ⟨x ++ L, (List.Perm.append_left x h1).trans (by simpa using hp.perm), by rw [List.flatten_cons]; exact List.Sublist.append_left h2 x⟩
  obtain ⟨L, h1, h2⟩ := gen hp
  have h3 : Wd w0 [L] w := h.perm (by simpa using h1)
  exact h3.sub (by simpa using h2)

theorem Wd.picks {w0 H X R w} (h : Wd w0 H w) (hp : Picks H X R) : Wd w0 (X ++ R) w := h.perm hp.perm

theorem Sb.spec {H H' : Hp} (hp : Sb H H') : ∃ L : Chunk, L.Perm H.flatten ∧ H'.flatten.Sublist L := by
  induction hp with
  | emp r ih => simpa using ih
  | join r ih => simpa using ih
  | tail hs => exact ⟨_, .refl _, hs.sub⟩
  | nil => exact ⟨_, .refl _, by simp⟩
  | @cons H x H1 H' hp r ih =>
    obtain ⟨L, h1, h2⟩ := ih
    exact ⟨x ++ L, (List.Perm.append_left x h1).trans (by simpa using hp.perm), by rw [List.flatten_cons]; exact List.Sublist.append_left h2 x⟩

theorem Wd.appendSub {w0 H H' R w} (h : Wd w0 (H ++ R) w) (hp : Sb H H') : Wd w0 (H' ++ R) w := by
  obtain ⟨L, h1, h2⟩ := hp.spec
  have h3 : Wd w0 (L :: R) w := h.perm (by simpa using List.Perm.append_right R.flatten h1)
  refine h3.sub ?_
  simp only [List.flatten_append, List.flatten_cons]
  exact List.Sublist.append_right h2 _

/-- what is read: a block of the chunk, or one that was there from the first -/
def Mem (w0 : World) (c : Chunk) (b : Nat) (o : Obj) : Prop := (b, o) ∈ c ∨ (b < w0.heap.size ∧ w0.heap[b]? = some o)

theorem Pick.mem {H x H'} (h : Pick H x H') : ∀ p ∈ x, p ∈ H.flatten := fun p hp => h.perm.mem_iff.1 (by simp [hp])

theorem Wd.mem {w0 H H' c w b o} (h : Wd w0 H w) (hc : Pick H c H') (hm : Mem w0 c b o) : w.heap[b]? = some o := by
  rcases hm with hm | ⟨hlt, hm⟩
  · exact h.at_ (b, o) (hc.mem _ hm)
  · rw [h.below.block b hlt]; exact hm

theorem Wd.old {w0 H w b o} (h : Wd w0 H w) (hm : Mem w0 [] b o) : w.heap[b]? = some o := by
  rcases hm with hm | ⟨hlt, hm⟩
  · cases hm
  · rw [h.below.block b hlt]; exact hm

theorem Mem.mono {w0 c c' b o} (h : Mem w0 c b o) (hs : c ⊆ c') : Mem w0 c' b o := h.imp (fun h => hs h) id

/-- a cell that is read -/
def Cel (w0 : World) (c : Chunk) (ad : Addr) (v : Value) : Prop :=
  ad.spot = none ∧ ∃ cs T fr, Mem w0 c ad.block (.cells cs T fr) ∧ cs[ad.off]? = some v

theorem cell_of_heap {w : World} {ad : Addr} {v cs T fr} (hs : ad.spot = none) (h : w.heap[ad.block]? = some (.cells cs T fr)) (hv : cs[ad.off]? = some v) : w.cell? ad = some v := by
  simp [World.cell?, h, hs, hv]

theorem Wd.cel {w0 H H' c w ad v} (h : Wd w0 H w) (hc : Pick H c H') (hm : Cel w0 c ad v) : w.cell? ad = some v := by
  obtain ⟨hs, cs, T, fr, hm, hv⟩ := hm
  exact cell_of_heap hs (h.mem hc hm) hv

theorem Wd.celOld {w0 H w ad v} (h : Wd w0 H w) (hm : Cel w0 [] ad v) : w.cell? ad = some v := by
  obtain ⟨hs, cs, T, fr, hm, hv⟩ := hm
  exact cell_of_heap hs (h.old hm) hv

theorem Cel.mono {w0 c c' ad v} (h : Cel w0 c ad v) (hs : c ⊆ c') : Cel w0 c' ad v := by
  obtain ⟨h1, cs, T, fr, hm, hv⟩ := h
  exact ⟨h1, cs, T, fr, hm.mono hs, hv⟩

/-! ### Changes of the world -/
theorem Wd.drew {w0 H w} (h : Wd w0 H w) : Wd w0 H w.drew := ⟨h.below.drew, h.nodup, h.ge, h.at_⟩

theorem Wd.alloc {w0 H w} (h : Wd w0 H w) (o : Obj) : Wd w0 ([(w.heap.size, o)] :: H) (w.alloc o) := by
  have hlt : ∀ p ∈ H.flatten, p.1 < w.heap.size := fun p hp => (Array.getElem?_eq_some_iff.1 (h.at_ p hp)).1
  refine ⟨h.below.alloc h.below.size o, ?_, ?_, ?_⟩
  · simp only [List.flatten_cons, List.map_append, List.map_cons, List.map_nil, List.cons_append, List.nil_append, List.nodup_cons]
    refine ⟨fun hm => ?_, h.nodup⟩
    obtain ⟨p, hp, e⟩ := List.mem_map.1 hm
    have := hlt p hp
    omega
  · intro p hp
    simp only [List.flatten_cons, List.cons_append, List.nil_append, List.mem_cons] at hp
    rcases hp with rfl | hp
    · exact h.below.size
    · exact h.ge p hp
  · intro p hp
    simp only [List.flatten_cons, List.cons_append, List.nil_append, List.mem_cons] at hp
    rcases hp with rfl | hp
    · exact heap_alloc_new w o
    · rw [Below.heap_alloc w o p.1 (hlt p hp)]; exact h.at_ p hp

/-- one of the owned blocks is turned (whatever the law), all else stays -/
theorem Wd.turn {w0 b o o' H w w'} (h : Wd w0 ([(b, o)] :: H) w) (hos : w'.os = w.os) (htape : w'.tape = w.tape) (hout : w'.output = w.output)
    (hsz : w.heap.size ≤ w'.heap.size) (hb : w'.heap[b]? = some o') (hk : ∀ k, k < w.heap.size → k ≠ b → w'.heap[k]? = w.heap[k]?) : Wd w0 ([(b, o')] :: H) w' := by
  have hge : w0.heap.size ≤ b := h.ge (b, o) (by simp)
  have hnd := h.nodup
  simp only [List.flatten_cons, List.map_append, List.map_cons, List.map_nil, List.cons_append, List.nil_append, List.nodup_cons] at hnd
  refine ⟨⟨hos.trans h.below.os, htape.trans h.below.tape, hout.trans h.below.output, Nat.le_trans h.below.size hsz, fun k hk' => ?_⟩, ?_, ?_, ?_⟩
  · rw [hk k (Nat.lt_of_lt_of_le hk' h.below.size) (by omega)]; exact h.below.block k hk'
  · simpa using hnd
  · intro p hp
    simp only [List.flatten_cons, List.cons_append, List.nil_append, List.mem_cons] at hp
    rcases hp with rfl | hp
    · exact hge
    · exact h.ge p (by simp [hp])
  · intro p hp
    simp only [List.flatten_cons, List.cons_append, List.nil_append, List.mem_cons] at hp
    rcases hp with rfl | hp
    · exact hb
    · have hat := h.at_ p (by simp [hp])
      rw [hk p.1 (Array.getElem?_eq_some_iff.1 hat).1 (fun e => hnd.1 (e ▸ List.mem_map_of_mem hp))]
      exact hat

theorem Wd.setCell {w0 b cs T H w} {k : Nat} {v : Value} (h : Wd w0 ([(b, .cells cs T (0, 0))] :: H) w) :
    Wd w0 ([(b, .cells (cs.setIfInBounds k v) T (0, 0))] :: H) (w.setCell ⟨b, k, none⟩ v) := by
  have hb : w.heap[b]? = some (.cells cs T (0, 0)) := h.at_ (b, .cells cs T (0, 0)) (by simp)
  refine h.turn rfl rfl rfl (by simp [World.setCell]) ?_ (fun j _ hj => Below.heap_setCell w ⟨b, k, none⟩ v j hj)
  simp [World.setCell, Array.getElem?_modify, hb]

/-! ### The walk over a region's operations -/
inductive Md where
  | run
  | quiet
  | pure
/-- each operation yields its value in every world of the class and leaves that world alone -/
def wpPure (P : Program) (ops : Array Oper) (C : World → Prop) (K : Act → Prop) : List Oper → Act → Prop
  | [], a => K a
  | o :: l, a => ∃ v, YieldsIf P ops C o v a ∧ wpPure P ops C K l (a.put o.dst v)
section
variable (P : Program) (w0 : World) (n : Nat) (D : List Deferred) (Q : Exit → Act → World → Prop)

/-- the operations of a region: carried out one behind the other ('run'), or, where the region draws its order, each asked to leave the owned memory as it is ('quiet') -/
def VM (md : Md) (ops : Array Oper) (l : List Oper) (E : Env) (H : Hp) : Prop :=
  match md with
  | .run => ∀ a w, Fr n D E a → Wd w0 H w → wpList P ops Q l a w
  | .quiet => ∀ a, Fr n D E a → wpQuiet P ops (Wd w0 H) (fun a' => ∀ w', Wd w0 H w' → Q .normal a' w') l a
  | .pure => ∀ a, Fr n D E a → wpPure P ops (Wd w0 H) (fun a' => ∀ w', Wd w0 H w' → Q .normal a' w') l a
abbrev V (ops : Array Oper) (l : List Oper) (E : Env) (H : Hp) : Prop := VM P w0 n D Q .run ops l E H
def VC (c : Code) (E : Env) (H : Hp) : Prop := ∀ a w, Fr n D E a → Wd w0 H w → c.wp P Q a w
def Post (e : Exit) (E : Env) (H : Hp) : Prop := ∀ a w, Fr n D E a → Wd w0 H w → Q e a w
end

/-- does the operation's guard let it run? -/
def want (ops : Array Oper) (E : Env) (o : Oper) : Option Bool :=
  match o.guard with
  | none => some true
  | some (j, b) =>
    match ops[j]? with
    | some p => match p.dst with
      | some t => match look E t with
        | some (.bool x) => some (x == b)
        | some (.tuple _) => some false
        | _ => none
      | none => none
    | none => none

theorem want_spec {ops : Array Oper} {E : Env} {o : Oper} {b : Bool} {n D a} (h : want ops E o = some b) (hF : Fr n D E a) (hn : ∀ t, t < n ∨ True) :
    Region.wanted o (yielded ops a.tmps) = b := by
  unfold want at h
  unfold Region.wanted
  split at h
  · rename_i hg
    rw [hg]; simpa using h
  · rename_i j x hg
    rw [hg]
    dsimp only
    split at h
    · rename_i p hp
      split at h
      · rename_i t ht
        split at h
        · rename_i y hy
          have hl := hF.look t _ hy
          have hs : a.tmps[t]? = some (.bool y) := by
            rw [Array.getD_eq_getD_getElem?] at hl
            cases hc : a.tmps[t]? with
            | none => rw [hc] at hl; simp [undef] at hl
            | some u => rw [hc] at hl; simpa using hl
          have : yielded ops a.tmps j = some y := by simp [yielded, hp, ht, hs]
          rw [this]
          have := Option.some.inj h
          rw [← this]
          cases y <;> cases x <;> rfl
        · rename_i l hy
          have hl := hF.look t _ hy
          have : yielded ops a.tmps j = none := by
            rw [Array.getD_eq_getD_getElem?] at hl
            cases hc : a.tmps[t]? with
            | none => simp [yielded, hp, ht, hc]
            | some u =>
              rw [hc] at hl
              obtain rfl : u = .tuple l := by simpa using hl
              simp [yielded, hp, ht, hc]
          rw [this]
          have := Option.some.inj h
          rw [← this]
          rfl
        · cases h
      · cases h
    · cases h

section
variable {P : Program} {w0 : World} {n : Nat} {D : List Deferred} {Q : Exit → Act → World → Prop} {ops : Array Oper} {rest : List Oper} {E : Env} {H : Hp} {md : Md}

theorem V.wp {o : Oper} (hw : want ops E o = some true)
    (h : ∀ a w, Fr n D E a → Wd w0 H w → o.wp P a w (wpList P ops Q rest) Q) : V P w0 n D Q ops (o :: rest) E H := by
  intro a w hF hW
  have := want_spec hw hF (fun _ => .inr trivial)
  simp only [wpList, this, if_true]
  exact .inl (h a w hF hW)

/-- an operation that yields a value and leaves the world, in either mode -/
theorem V.val {d op ty pos af g} {v : Value} (hw : want ops E ⟨some d, op, ty, pos, af, g⟩ = some true) (hd : Nat.blt d n = true)
    (hrun : ∀ a w, Fr n D E a → Wd w0 H w → (execOp a.eval ⟨some d, op, ty, pos, af, g⟩).run P w = .ok (.value v) w)
    (k : VM P w0 n D Q md ops rest ((d, v) :: E) H) : VM P w0 n D Q md ops (⟨some d, op, ty, pos, af, g⟩ :: rest) E H := by
  cases md with
  | run => exact V.wp hw fun a w hF hW => by unfold Oper.wp; rw [hrun a w hF hW]; exact k _ _ (hF.put hd) hW
  | quiet =>
    intro a hF
    have := want_spec hw hF (fun _ => .inr trivial)
    simp only [wpQuiet, this, if_true]
    refine ⟨v, fun w hW => ?_, k _ (hF.put hd)⟩
    unfold Oper.quietAt
    rw [hrun a w hF hW]
    exact ⟨rfl, rfl⟩
  | pure => exact fun a hF => ⟨v, .inl ⟨want_spec hw hF (fun _ => .inr trivial), fun w hW => hrun a w hF hW⟩, k _ (hF.put hd)⟩

/-- an operation whose guard says no -/
theorem V.skip {d op ty pos af g} (hw : want ops E ⟨some d, op, ty, pos, af, g⟩ = some false) (hd : Nat.blt d n = true)
    (k : VM P w0 n D Q md ops rest ((d, undef) :: E) H) : VM P w0 n D Q md ops (⟨some d, op, ty, pos, af, g⟩ :: rest) E H := by
  cases md with
  | run =>
    intro a w hF hW
    have := want_spec hw hF (fun _ => .inr trivial)
    simp only [wpList, this, Bool.false_eq_true, if_false]
    exact k _ w (hF.put hd) hW
  | quiet =>
    intro a hF
    have := want_spec hw hF (fun _ => .inr trivial)
    simp only [wpQuiet, this, Bool.false_eq_true, if_false]
    exact k _ (hF.put hd)
  | pure => exact fun a hF => ⟨undef, .inr ⟨want_spec hw hF (fun _ => .inr trivial), rfl⟩, k _ (hF.put hd)⟩

theorem V.skip0 {op ty pos af g} (hw : want ops E ⟨none, op, ty, pos, af, g⟩ = some false)
    (k : VM P w0 n D Q md ops rest E H) : VM P w0 n D Q md ops (⟨none, op, ty, pos, af, g⟩ :: rest) E H := by
  cases md with
  | run =>
    intro a w hF hW
    have := want_spec hw hF (fun _ => .inr trivial)
    simp only [wpList, this, Bool.false_eq_true, if_false]
    exact k _ w hF hW
  | quiet =>
    intro a hF
    have := want_spec hw hF (fun _ => .inr trivial)
    simp only [wpQuiet, this, Bool.false_eq_true, if_false]
    exact k _ hF
  | pure => exact fun a hF => ⟨undef, .inr ⟨want_spec hw hF (fun _ => .inr trivial), rfl⟩, k _ hF⟩

theorem V.nil (h : Post w0 n D Q .normal E H) : VM P w0 n D Q md ops [] E H := by
  cases md with
  | run => exact fun a w hF hW => h a w hF hW
  | quiet => exact fun a hF w' hW' => h a w' hF hW'
  | pure => exact fun a hF w' hW' => h a w' hF hW'

theorem Fr.know {a : Act} {t : Nat} {x y : Value} (hF : Fr n D E a) (hl : Eng.look E t = some x) (hx : x = y) : Fr n D ((t, y) :: E) a := by
  subst hx
  refine ⟨hF.size, hF.dfr, fun u v hv => ?_⟩
  simp only [Eng.look] at hv
  by_cases e : t = u
  · subst e
    obtain rfl : x = v := by simpa using hv
    exact hF.look t x hl
  · have e' : Nat.beq t u = false := beq_ne e
    rw [e'] at hv
    exact hF.look u v (by simpa using hv)

/-- the entry of a slot is known better -/
theorem V.know {t : Nat} {x y : Value} {l : List Oper} (hl : look E t = some x) (hx : x = y) (k : VM P w0 n D Q md ops l ((t, y) :: E) H) : VM P w0 n D Q md ops l E H := by
  cases md with
  | run => exact fun a w hF hW => k a w (hF.know hl hx) hW
  | quiet => exact fun a hF => k a (hF.know hl hx)
  | pure => exact fun a hF => k a (hF.know hl hx)
theorem VC.know {t : Nat} {x y : Value} {c : Code} (hl : look E t = some x) (hx : x = y) (k : VC P w0 n D Q c ((t, y) :: E) H) : VC P w0 n D Q c E H :=
  fun a w hF hW => k a w (hF.know hl hx) hW

theorem V.split {t : Nat} {b : Bool} {l : List Oper} (hl : look E t = some (.bool b)) (kt : b = true → VM P w0 n D Q md ops l ((t, .bool true) :: E) H)
    (kf : b = false → VM P w0 n D Q md ops l ((t, .bool false) :: E) H) : VM P w0 n D Q md ops l E H := by
  cases hb : b with
  | true => exact V.know hl (by rw [hb]) (kt hb)
  | false => exact V.know hl (by rw [hb]) (kf hb)

/-- less is known, other order -/
theorem V.sub {E' : Env} {H' : Hp} {l : List Oper} (hE : All E E') (hH : Sb H H') (k : V P w0 n D Q ops l E' H') : V P w0 n D Q ops l E H :=
  fun a w hF hW => k a w (hF.sub hE) (hW.has hH)
theorem V.subE {E' : Env} {l : List Oper} (hE : All E E') (k : VM P w0 n D Q md ops l E' H) : VM P w0 n D Q md ops l E H := by
  cases md with
  | run => exact fun a w hF hW => k a w (hF.sub hE) hW
  | quiet => exact fun a hF => k a (hF.sub hE)
  | pure => exact fun a hF => k a (hF.sub hE)
theorem VC.sub {E' : Env} {H' : Hp} {c : Code} (hE : All E E') (hH : Sb H H') (k : VC P w0 n D Q c E' H') : VC P w0 n D Q c E H :=
  fun a w hF hW => k a w (hF.sub hE) (hW.has hH)
theorem VC.subE {E' : Env} {c : Code} (hE : All E E') (k : VC P w0 n D Q c E' H) : VC P w0 n D Q c E H := fun a w hF hW => k a w (hF.sub hE) hW
theorem Post.sub {E' : Env} {H' : Hp} {e : Exit} (hE : All E E') (hH : Sb H H') (k : Post w0 n D Q e E' H') : Post w0 n D Q e E H :=
  fun a w hF hW => k a w (hF.sub hE) (hW.has hH)

/-- the owned blocks regrouped: any list of chunks with the same blocks -/
theorem V.regroup {H' : Hp} {l : List Oper} (hp : H'.flatten.Perm H.flatten) (k : V P w0 n D Q ops l E H') : V P w0 n D Q ops l E H :=
  fun a w hF hW => k a w hF (hW.perm hp)
theorem VC.regroup {H' : Hp} {c : Code} (hp : H'.flatten.Perm H.flatten) (k : VC P w0 n D Q c E H') : VC P w0 n D Q c E H :=
  fun a w hF hW => k a w hF (hW.perm hp)
theorem Post.regroup {H' : Hp} {e : Exit} (hp : H'.flatten.Perm H.flatten) (k : Post w0 n D Q e E H') : Post w0 n D Q e E H :=
  fun a w hF hW => k a w hF (hW.perm hp)

/-! ### A region that draws: a quiet head, a forced tail -/
section tail
variable {P : Program} {ops : Array Oper} {md : Region.Mode} {C : World → Prop}

theorem wpQuiet_mono {Qa Qb : Act → Prop} (h : ∀ a, Qa a → Qb a) : ∀ (l : List Oper) (a : Act), wpQuiet P ops C Qa l a → wpQuiet P ops C Qb l a
  | [], a, hq => h a hq
  | o :: l, a, hq => by
    simp only [wpQuiet] at hq ⊢
    split
    · rename_i hw
      rw [if_pos hw] at hq
      exact Oper.quiet_mono (fun a => wpQuiet_mono h l a) hq
    · rename_i hw
      rw [if_neg hw] at hq
      exact wpQuiet_mono h l _ hq

/-- whatever order the head's operations come up in -/
def HeadQ (P : Program) (md : Region.Mode) (ops : Array Oper) (C : World → Prop) (n : Nat) (L : Array Bool → Act → Prop) : Nat → Array Bool → Act → Prop
  | 0, listed, a => L listed a
  | f + 1, listed, a =>
    Region.ready md ops listed ≠ [] ∧ ∀ i ∈ Region.ready md ops listed, i < n ∧ qOp P ops C i (HeadQ P md ops C n L f (listed.setIfInBounds i true)) a

theorem wpAny_of_headQ {n g : Nat} {L : Array Bool → Act → Prop} {Q' : Exit → Act → World → Prop} (hL : ∀ listed a w, C w → L listed a → wpAny P md ops Q' g listed a w) :
    ∀ (f : Nat) (listed : Array Bool) (a : Act) (w : World), C w → HeadQ P md ops C n L f listed a → wpAny P md ops Q' (f + g) listed a w
  | 0, listed, a, w, hw, h => by rw [Nat.zero_add]; exact hL _ _ _ hw h
  | f + 1, listed, a, w, hw, h => by
    rw [show f + 1 + g = (f + g) + 1 by omega]
    exact ⟨fun h0 => absurd h0 h.1, fun i hi => wpOp_of_qOp hw (fun a' w' hw' h' => wpAny_of_headQ hL f _ a' w' hw' h') (h.2 i hi).2⟩

theorem headQ_first {n i : Nat} {oi : Oper} {v : Value} {L : Array Bool → Act → Prop} (hi : ops[i]? = some oi) (hsel : ∀ (j : Nat) (o : Oper) cs b, ops[j]? = some o → o.op ≠ .select cs b)
    (hs : Region.sinkB md ops n = true) (hc : Region.chainB md ops n = true) (hn : n < ops.size) (hin : i < n)
    (hdone : ∀ listed a, L listed a → ∀ j ∈ Region.ready md ops listed, n ≤ j) :
    ∀ (f : Nat) (listed : Array Bool) (a : Act), HeadInv md ops n listed →
      (∀ j oj, ops[j]? = some oj → j ≠ i → listed.getD j true = false → (∀ e ∈ oj.after, Region.binds md e = true → e.on ≠ i) → oi.apart ops oj = true) →
      i ∈ Region.ready md ops listed → YieldsIn P ops C oi v a →
      HeadQ P md ops C n L f (listed.setIfInBounds i true) (a.put oi.dst v) → HeadQ P md ops C n L (f + 1) listed a := by
  intro f
  induction f with
  | zero =>
    intro listed a inv _ hr hy H
    have hun := (mem_ready.1 hr).1
    refine ⟨fun h => (by rw [h] at hr; cases hr), fun j hj => ?_⟩
    have hjn : j < n := Nat.lt_of_not_le fun h => tail_waits hs hc hn inv _ i rfl hin hun j h hj
    refine ⟨hjn, ?_⟩
    by_cases hji : j = i
    · subst hji; exact hy.qOp hi H
    · have := hdone _ _ H j (ready_mono hj hji)
      omega
  | succ f ih =>
    intro listed a inv hfree hr hy H
    have hun := (mem_ready.1 hr).1
    refine ⟨fun h => (by rw [h] at hr; cases hr), fun j hj => ?_⟩
    have hjn : j < n := Nat.lt_of_not_le fun h => tail_waits hs hc hn inv _ i rfl hin hun j h hj
    refine ⟨hjn, ?_⟩
    by_cases hji : j = i
    · subst hji; exact hy.qOp hi H
    · have h1 := (H.2 j (ready_mono hj hji)).2
      obtain ⟨hjun, oj, hoj, hall⟩ := mem_ready.1 hj
      have hnot : ∀ e ∈ oj.after, Region.binds md e = true → e.on ≠ i := fun e he hb heq => by
        have h1 := hall e he hb
        rw [heq, getD_both hun] at h1
        cases h1
      have h2 := qOp_put hoj (hfree j oj hoj hji hjun hnot) (fun cs b => hsel i oi cs b hi) (fun cs b => hsel j oj cs b hoj) hy h1
      have hfree' : ∀ k ok, ops[k]? = some ok → k ≠ i → (listed.setIfInBounds j true).getD k true = false →
          (∀ e ∈ ok.after, Region.binds md e = true → e.on ≠ i) → oi.apart ops ok = true := fun k ok hk hki hun' hno => by
        refine hfree k ok hk hki ?_ hno
        by_cases hjk : j = k
        · subst hjk; exact hjun
        · rw [getD_set_ne true hjk] at hun'; exact hun'
      refine qOp_mono (fun a' h3 => ih (listed.setIfInBounds j true) a' (inv.set hj hjn) hfree' (ready_mono hr (Ne.symm hji)) h3.1 ?_) h2
      rw [Array.setIfInBounds_comm _ _ hji]
      exact h3.2

theorem headQ_lex {n g : Nat} {Lq : Act → Prop} (hsel : Region.noSelect ops = true) (hs : Region.sinkB md ops n = true) (hc : Region.chainB md ops n = true) (hn : n < ops.size) :
    ∀ (l : List Oper) (k : Nat) (listed : Array Bool) (a : Act), (∀ j, j < l.length → l[j]? = ops[k + j]?) → k + l.length = n → HeadInv md ops n listed →
    Region.lexHead md ops g l.length k listed = true → wpQuiet P ops C Lq l a →
    HeadQ P md ops C n (fun listed' a' => Region.seqB md ops g n listed' = true ∧ Lq a') l.length listed a
  | [], k, listed, a, _, hk, _, hB, h => by
    have : k = n := by simpa using hk
    subst this
    exact ⟨by simpa [Region.lexHead] using hB, h⟩
  | o :: l, k, listed, a, hl, hk, inv, hB, h => by
    have h0 : ops[k]? = some o := by simpa using (hl 0 (by simp)).symm
    simp only [List.length_cons, Region.lexHead, Bool.and_eq_true] at hB
    obtain ⟨⟨hr, hf⟩, hB'⟩ := hB
    have hkn : k < n := by simp only [List.length_cons] at hk; omega
    have hr' : k ∈ Region.ready md ops listed := by simpa using hr
    have hst : qOp P ops C k (wpQuiet P ops C Lq l) a := by unfold qOp; simp only [h0]; exact h
    obtain ⟨v, hy, hK⟩ := yieldsIn_of_qOp h0 hst
    exact headQ_first h0 (Region.noSelect_spec hsel) hs hc hn hkn (fun listed' a' hL => seqB_ready hL.1) l.length listed a inv (Region.free_spec h0 hf) hr' hy
      (headQ_lex hsel hs hc hn l (k + 1) _ _ (fun j hj => by have := hl (j + 1) (by simp; omega); simpa [Nat.add_assoc, Nat.add_comm 1 j] using this) (by simp only [List.length_cons] at hk; omega) (inv.set hr' hkn) hB' hK)

theorem wp_region_quiet_tail {id : Nat} {Q : Exit → Act → World → Prop} {a : Act} {w : World} {l : List Oper} (n : Nat) (hm : P.follows .mixedOrders = true) (hB : Region.lexTailB .any l.toArray n = true) (hC : C w.drew)
    (h : wpQuiet P l.toArray C (fun a' => ∀ w', C w' → wpList P l.toArray Q (l.drop n) a' w') (l.take n) a) : (Code.region id l.toArray true).wp P Q a w := by
  simp only [Region.lexTailB, Bool.and_eq_true, decide_eq_true_eq] at hB
  obtain ⟨⟨⟨⟨hsel, hn⟩, hs⟩, hc⟩, hlex⟩ := hB
  have hn' : n < l.length := by simpa using hn
  have htl : (l.take n).length = n := by simp; omega
  have hdl : (l.drop n).length = l.toArray.size - n := by simp
  have inv0 : HeadInv .any l.toArray n (Array.replicate l.toArray.size false) :=
    ⟨by simp, fun j oj _ hl => (by rw [getD_replicate_false] at hl; cases hl), fun t _ ht => getD_in (by simpa using ht) (getD_replicate_false _ _)⟩
  have H := headQ_lex (md := .any) (g := l.toArray.size - n) hsel hs hc hn (l.take n) 0 _ a (fun j hj => by
    have hj' : j < n := by rw [htl] at hj; exact hj
    simp [hj']) (by simpa using htl) inv0 (by rw [htl]; exact hlex) h
  refine wp_region_any hm ?_
  have := wpAny_of_headQ (Q' := Q) (g := l.toArray.size - n) (fun listed a' w' hw' hL => by
    have := wpAny_of_seq (md := .any) (Q' := Q) (l.drop n) n listed a' w' (fun j => by simp [List.getElem?_drop]) (by rw [hdl]; exact hL.1) (hL.2 w' hw')
    rwa [hdl] at this) _ _ _ _ hC H
  rw [htl, show n + (l.toArray.size - n) = l.toArray.size by omega] at this
  exact this
end tail

/-! ### Code -/
variable {c x y : Code}

theorem VC.seq (h : VC P w0 n D (Exit.then (fun a w => y.wp P Q a w) Q) x E H) : VC P w0 n D Q (.seq x y) E H := fun a w hF hW => wp_seq (h a w hF hW)

/-- behind x stands R, and from R on y -/
theorem VC.seqCut (R : Act → World → Prop) (h : VC P w0 n D (Exit.then R Q) x E H) (k : ∀ a w, R a w → y.wp P Q a w) : VC P w0 n D Q (.seq x y) E H :=
  fun a w hF hW => wp_seq (wp_mono (h a w hF hW) fun e a w hq => by cases e <;> first | exact k _ _ hq | exact hq)

theorem VC.region {id : Nat} {l : List Oper} (h : V P w0 n D Q l.toArray l E H) : VC P w0 n D Q (.region id l.toArray false) E H :=
  fun a w hF hW => wp_region_lit (h a w hF hW)

/-- a region that draws its order, all of whose operations are quiet -/
theorem VC.draw {id : Nat} {l : List Oper} (hm : P.follows .mixedOrders = true) (hB : Region.lexB .any l.toArray = true) (h : VM P w0 n D Q .quiet l.toArray l E H) : VC P w0 n D Q (.region id l.toArray true) E H :=
  fun a w hF hW => wp_region_quiet (C := Wd w0 H) hm hB hW.drew (by simpa using h a hF)

/-- a region that draws its order: m quiet operations, then the others in the text's order -/
theorem VC.drawTail {id : Nat} {l : List Oper} (m : Nat) (hm : P.follows .mixedOrders = true) (hB : Region.lexTailB .any l.toArray m = true)
    (h : VM P w0 n D (fun e a w => e = .normal ∧ wpList P l.toArray Q (l.drop m) a w) .quiet l.toArray (l.take m) E H) : VC P w0 n D Q (.region id l.toArray true) E H :=
  fun a w hF hW => wp_region_quiet_tail (C := Wd w0 H) m hm hB hW.drew (wpQuiet_mono (fun a' h' w' hW' => (h' w' hW').2) _ _ (h a hF))
/-- .. and on with the others -/
theorem Post.tail {l : List Oper} (k : V P w0 n D Q ops l E H) : Post w0 n D (fun e a w => e = .normal ∧ wpList P ops Q l a w) .normal E H := fun a w hF hW => ⟨rfl, k a w hF hW⟩

/-! #### a region whose order is drawn, with operations that write: what only reads is taken first, the rest comes up in whatever order -/
/-- a region's post, False at a panic -/
def NoPan (Q : Exit → Act → World → Prop) : Exit → Act → World → Prop
  | .panic _, _, _ => False
  | e, a, w => Q e a w
theorem NoPan.imp {Q : Exit → Act → World → Prop} : ∀ (e : Exit) (a : Act) (w : World), NoPan Q e a w → Q e a w := fun e a w h => by
  cases e <;> first | exact h | exact (h : False).elim
/-- whatever order is picked, and S holds behind every one of the first m operations -/
def wpAnyX (P : Program) (ops : Array Oper) (Q : Exit → Act → World → Prop) (S : World → Prop) (m : Nat) : Nat → Array Bool → Act → World → Prop
  | 0, listed, a, w => Region.ready .any ops listed = [] ∧ Q .normal a w
  | fuel + 1, listed, a, w =>
    (Region.ready .any ops listed = [] → Q .normal a w) ∧
    ∀ i ∈ Region.ready .any ops listed, wpOp P ops Q i (fun a' w' => (i < m → S w') ∧ wpAnyX P ops Q S m fuel (listed.setIfInBounds i true) a' w') a w
theorem wpAny_of_X {P : Program} {ops : Array Oper} {Q : Exit → Act → World → Prop} {S : World → Prop} {m : Nat} : ∀ (fuel : Nat) (listed : Array Bool) (a : Act) (w : World), wpAnyX P ops Q S m fuel listed a w → wpAny P .any ops Q fuel listed a w
  | 0, _, _, _, h => h
  | fuel + 1, _, _, _, h => ⟨h.1, fun i hi => wpOp_mono (fun a' w' h' => wpAny_of_X fuel _ a' w' h'.2) (h.2 i hi)⟩
/-- those from m on wait for all of the first m -/
def tailWaits (ops : Array Oper) (m : Nat) : Bool := (List.range ops.size).all fun j => Nat.blt j m || match ops[j]? with
  | none => true
  | some oj => (List.range m).all fun i => oj.after.any fun e => Region.binds .any e && e.on == i
theorem tailWaits_spec {ops : Array Oper} {m i j : Nat} {oj : Oper} (h : tailWaits ops m = true) (hj : ops[j]? = some oj) (hjm : m ≤ j) (hi : i < m) : ∃ e ∈ oj.after, Region.binds .any e = true ∧ e.on = i := by
  unfold tailWaits at h
  have h1 := List.all_eq_true.1 h j (List.mem_range.2 (Array.getElem?_eq_some_iff.1 hj).1)
  rw [hj] at h1
  simp only [Bool.or_eq_true] at h1
  rcases h1 with h1 | h1
  · have := blt_lt h1; omega
  · have h2 := List.all_eq_true.1 h1 i (List.mem_range.2 hi)
    obtain ⟨e, he, hb⟩ := Array.any_eq_true'.1 h2
    simp only [Bool.and_eq_true, beq_iff_eq] at hb
    exact ⟨e, he, hb⟩
theorem wpAnyX_first {P : Program} {ops : Array Oper} {Q : Exit → Act → World → Prop} {S : World → Prop} {m i : Nat} {oi : Oper} {v : Value} (ht : tailWaits ops m = true) (him : i < m) (hi : ops[i]? = some oi) (hsel : ∀ (j : Nat) (o : Oper) cs b, ops[j]? = some o → o.op ≠ .select cs b)
    (hQ : ∀ c a w, Q (.panic c) (a.put oi.dst v) w → Q (.panic c) a w) :
    ∀ (fuel : Nat) (listed : Array Bool) (a : Act) (w : World),
      (∀ j oj, ops[j]? = some oj → j ≠ i → listed.getD j true = false → (∀ e ∈ oj.after, Region.binds .any e = true → e.on ≠ i) → oi.apart ops oj = true) →
      i ∈ Region.ready .any ops listed → YieldsIf P ops S oi v a → S w →
      wpAnyX P ops Q S m fuel (listed.setIfInBounds i true) (a.put oi.dst v) w → wpAnyX P ops Q S m (fuel + 1) listed a w := by
  intro fuel
  induction fuel with
  | zero =>
    intro listed a w _ hr hy hS H
    refine ⟨fun h => (by rw [h] at hr; cases hr), fun j hj => ?_⟩
    by_cases hji : j = i
    · subst hji; exact hy.wpOp hi hS ⟨fun _ => hS, H⟩
    · have := ready_mono hj hji
      rw [H.1] at this
      cases this
  | succ fuel ih =>
    intro listed a w hfree hr hy hS H
    refine ⟨fun h => (by rw [h] at hr; cases hr), fun j hj => ?_⟩
    by_cases hji : j = i
    · subst hji; exact hy.wpOp hi hS ⟨fun _ => hS, H⟩
    · have h1 := H.2 j (ready_mono hj hji)
      obtain ⟨hjun, oj, hoj, hall⟩ := mem_ready.1 hj
      have hiun := (mem_ready.1 hr).1
      have hnot : ∀ e ∈ oj.after, Region.binds .any e = true → e.on ≠ i := fun e he hb heq => by
        have h1 := hall e he hb
        rw [heq] at h1
        rcases Nat.lt_or_ge i listed.size with h' | h'
        · simp [h'] at hiun h1; rw [hiun] at h1; cases h1
        · simp [Array.getElem?_eq_none h'] at h1
      have hjm : j < m := by
        rcases Nat.lt_or_ge j m with h | h
        · exact h
        · obtain ⟨e, he, hb, hon⟩ := tailWaits_spec ht hoj h him
          exact absurd hon (hnot e he hb)
      have h2 := wpOp_putIf hoj (hfree j oj hoj hji hjun hnot) (fun cs b => hsel i oi cs b hi) (fun cs b => hsel j oj cs b hoj) hQ hy h1
      have hfree' : ∀ k ok, ops[k]? = some ok → k ≠ i → (listed.setIfInBounds j true).getD k true = false →
          (∀ e ∈ ok.after, Region.binds .any e = true → e.on ≠ i) → oi.apart ops ok = true := fun k ok hk hki hun hno => by
        refine hfree k ok hk hki ?_ hno
        by_cases hjk : j = k
        · subst hjk; exact hjun
        · rw [getD_set_ne true hjk] at hun; exact hun
      refine wpOp_mono (fun a' w' h3 => ?_) h2
      have hSw : S w' := h3.2.1 hjm
      refine ⟨fun _ => hSw, ih (listed.setIfInBounds j true) a' w' hfree' (ready_mono hr (Ne.symm hji)) h3.1 hSw ?_⟩
      rw [Array.setIfInBounds_comm _ _ hji]
      exact h3.2.2
/-- the region at hand: 'm' of its operations go in whatever order, what they read (S) stands as long; the others wait for all of these -/
def VA (P : Program) (w0 : World) (n : Nat) (D : List Deferred) (Q : Exit → Act → World → Prop) (ops : Array Oper) (S : Hp) (m : Nat) (f : Nat) (listed : Array Bool) (E : Env) (H : Hp) : Prop :=
  ∀ a w, Fr n D E a → Wd w0 H w → wpAnyX P ops (NoPan Q) (Wd w0 S) m f listed a w
theorem VC.any {id : Nat} {l : List Oper} (S : Hp) (m f : Nat) (hm : P.follows .mixedOrders = true) (hf : l.toArray.size = f) (h : VA P w0 n D Q l.toArray S m f (Array.replicate f false) E H) : VC P w0 n D Q (.region id l.toArray true) E H := by
  subst hf
  exact fun a w hF hW => Code.wp_mono NoPan.imp (wp_region_any hm (wpAny_of_X _ _ _ _ (h a w.drew hF hW.drew)))
theorem VA.know {ops : Array Oper} {S : Hp} {m f : Nat} {listed : Array Bool} {t : Nat} {x y : Value} (hl : look E t = some x) (hx : x = y) (k : VA P w0 n D Q ops S m f listed ((t, y) :: E) H) : VA P w0 n D Q ops S m f listed E H :=
  fun a w hF hW => k a w (hF.know hl hx) hW
theorem VA.split {ops : Array Oper} {S : Hp} {m f : Nat} {listed : Array Bool} {t : Nat} {b : Bool} (hl : look E t = some (.bool b)) (kt : b = true → VA P w0 n D Q ops S m f listed ((t, .bool true) :: E) H)
    (kf : b = false → VA P w0 n D Q ops S m f listed ((t, .bool false) :: E) H) : VA P w0 n D Q ops S m f listed E H := by
  cases hb : b with
  | true => exact VA.know hl (by rw [hb]) (kt hb)
  | false => exact VA.know hl (by rw [hb]) (kf hb)
theorem VA.take {ops : Array Oper} {S : Hp} {m f : Nat} {listed : Array Bool} {o : Oper} (i : Nat) (hi : ops[i]? = some o) (hs : Region.noSelect ops = true) (ht : tailWaits ops m = true) (him : Nat.blt i m = true) (hf : Region.free .any ops listed i = true) (hr : (Region.ready .any ops listed).contains i = true) (hS : Sb H S)
    (h : VM P w0 n D (fun e a _ => e = .normal ∧ ∀ w, Wd w0 H w → wpAnyX P ops (NoPan Q) (Wd w0 S) m f (listed.setIfInBounds i true) a w) .pure ops [o] E S) : VA P w0 n D Q ops S m (f + 1) listed E H := by
  intro a w hF hW
  have hWS : Wd w0 S w := hW.has hS
  obtain ⟨v, hy, hk⟩ := h a hF
  exact wpAnyX_first ht (blt_lt him) hi (Region.noSelect_spec hs) (fun c a w hp => hp.elim) f listed a w (Region.free_spec hi hf) (by simpa using hr) hy hWS ((hk w hWS).2 w hW)
theorem Post.took {ops : Array Oper} {S : Hp} {m f : Nat} {listed : Array Bool} (k : VA P w0 n D Q ops S m f listed E H) : Post w0 n D (fun e a _ => e = .normal ∧ ∀ w, Wd w0 H w → wpAnyX P ops (NoPan Q) (Wd w0 S) m f listed a w) .normal E S :=
  fun a w hF hW => ⟨rfl, fun w' hW' => k a w' hF hW'⟩
/-- what stands behind operation i that came up -/
def Came (P : Program) (w0 : World) (Q : Exit → Act → World → Prop) (ops : Array Oper) (S : Hp) (m f : Nat) (i : Nat) (listed : Array Bool) : Exit → Act → World → Prop
  | .normal, a, w => (i < m → Wd w0 S w) ∧ wpAnyX P ops (NoPan Q) (Wd w0 S) m f listed a w
  | .panic _, _, _ => False
  | e, a, w => Q e a w
theorem VA.all {ops : Array Oper} {S : Hp} {m f : Nat} {listed : Array Bool} (rs : List Nat) (hr : Region.ready .any ops listed = rs) (hne : rs ≠ [])
    (h : ∀ i ∈ rs, ∃ o, ops[i]? = some o ∧ V P w0 n D (Came P w0 Q ops S m f i (listed.setIfInBounds i true)) ops [o] E H) : VA P w0 n D Q ops S m (f + 1) listed E H := by
  intro a w hF hW
  refine ⟨fun h0 => absurd (hr ▸ h0) hne, fun i hi => ?_⟩
  rw [hr] at hi
  obtain ⟨o, ho, hv⟩ := h i hi
  have h1 := hv a w hF hW
  unfold wpOp
  rw [ho]
  simp only [wpList] at h1 ⊢
  split
  · rename_i hw
    rw [if_pos hw] at h1
    rcases h1 with h1 | ⟨h1, h2⟩
    · refine .inl ?_
      unfold Oper.wp at *
      generalize (execOp a.eval o).run P w = r at *
      cases r with
      | ok nx w' =>
        cases nx <;> simp only [Oper.upon] at h1 ⊢ <;> first
          | exact h1
          | exact Calls.mono h1 (fun e w'' he => by cases e <;> first | exact he | exact (he : False).elim)
          | exact Rows.mono h1 (fun _ _ he => he)
      | halt x w' => cases x <;> simp only [Oper.upon] at h1 ⊢ <;> first | exact h1 | exact (h1 : False).elim
    · exact .inr ⟨h1, h2⟩
  · rename_i hw
    rw [if_neg hw] at h1
    exact h1
theorem VA.one {ops : Array Oper} {S : Hp} {m f : Nat} {listed : Array Bool} {o : Oper} (i : Nat) (hr : Region.ready .any ops listed = [i]) (ho : ops[i]? = some o)
    (h : V P w0 n D (Came P w0 Q ops S m f i (listed.setIfInBounds i true)) ops [o] E H) : VA P w0 n D Q ops S m (f + 1) listed E H :=
  VA.all [i] hr (by simp) fun j hj => by
    obtain rfl : j = i := by simpa using hj
    exact ⟨o, ho, h⟩
theorem VA.two {ops : Array Oper} {S : Hp} {m f : Nat} {listed : Array Bool} {o o' : Oper} (i i' : Nat) (hr : Region.ready .any ops listed = [i, i']) (ho : ops[i]? = some o) (ho' : ops[i']? = some o')
    (h : V P w0 n D (Came P w0 Q ops S m f i (listed.setIfInBounds i true)) ops [o] E H) (h' : V P w0 n D (Came P w0 Q ops S m f i' (listed.setIfInBounds i' true)) ops [o'] E H) : VA P w0 n D Q ops S m (f + 1) listed E H :=
  VA.all [i, i'] hr (by simp) fun j hj => by
    rcases List.mem_cons.1 hj with rfl | hj
    · exact ⟨o, ho, h⟩
    · obtain rfl : j = i' := by simpa using hj
      exact ⟨o', ho', h'⟩
theorem Post.came {ops : Array Oper} {S : Hp} {m f i : Nat} {listed : Array Bool} (hS : Sb H S) (k : VA P w0 n D Q ops S m f listed E H) : Post w0 n D (Came P w0 Q ops S m f i listed) .normal E H :=
  fun a w hF hW => ⟨fun _ => hW.has hS, k a w hF hW⟩
/-- .. one of the last, which may write what was read -/
theorem Post.cameLast {ops : Array Oper} {S : Hp} {m f i : Nat} {listed : Array Bool} (hi : Nat.ble m i = true) (k : VA P w0 n D Q ops S m f listed E H) : Post w0 n D (Came P w0 Q ops S m f i listed) .normal E H :=
  fun a w hF hW => ⟨fun h => absurd h (Nat.not_lt.2 (Nat.le_of_ble_eq_true hi)), k a w hF hW⟩
theorem VA.done {ops : Array Oper} {S : Hp} {m f : Nat} {listed : Array Bool} (hr : Region.ready .any ops listed = []) (h : Post w0 n D Q .normal E H) : VA P w0 n D Q ops S m f listed E H :=
  fun a w hF hW => match f with
    | 0 => ⟨hr, h a w hF hW⟩
    | f + 1 => ⟨fun _ => h a w hF hW, by rw [hr]; simp⟩

theorem VC.skip (h : Post w0 n D Q .normal E H) : VC P w0 n D Q .skip E H := fun a w hF hW => wp_skip (h a w hF hW)
theorem VC.ret (h : Post w0 n D Q .ret E H) : VC P w0 n D Q .ret E H := fun a w hF hW => wp_ret (h a w hF hW)
theorem VC.exit {id : Nat} (h : Post w0 n D Q (.exit id) E H) : VC P w0 n D Q (.exit id) E H := fun a w hF hW => wp_exit (h a w hF hW)
theorem VC.block {id : Nat} (h : VC P w0 n D (Exit.inBlock id Q) c E H) : VC P w0 n D Q (.block id c) E H := fun a w hF hW => wp_block (h a w hF hW)

theorem VC.cond {o : Operand} {b : Bool} (hc : ev E o = some (.bool b)) (ht : b = true → VC P w0 n D Q x E H) (hf : b = false → VC P w0 n D Q y E H) : VC P w0 n D Q (.cond o x y) E H :=
  fun a w hF hW => wp_cond_split (hF.ev hc) (fun e => ht e a w hF hW) (fun e => hf e a w hF hW)
theorem VC.condK {t : Nat} {b : Bool} (hc : look E t = some (.bool b)) (ht : b = true → VC P w0 n D Q x ((t, .bool true) :: E) H) (hf : b = false → VC P w0 n D Q y ((t, .bool false) :: E) H) : VC P w0 n D Q (.cond (.tmp t) x y) E H :=
  VC.cond (o := .tmp t) hc (fun h => VC.know hc (by rw [h]) (ht h)) (fun h => VC.know hc (by rw [h]) (hf h))
theorem VC.condT {o : Operand} (hc : ev E o = some (.bool true)) (h : VC P w0 n D Q x E H) : VC P w0 n D Q (.cond o x y) E H :=
  fun a w hF hW => wp_cond (hF.ev hc) (h a w hF hW)
theorem VC.condF {o : Operand} (hc : ev E o = some (.bool false)) (h : VC P w0 n D Q y E H) : VC P w0 n D Q (.cond o x y) E H :=
  fun a w hF hW => wp_cond (hF.ev hc) (h a w hF hW)

/-! where an exit leads -/
theorem Post.next {K : Act → World → Prop} {Q' : Exit → Act → World → Prop} (h : ∀ a w, Fr n D E a → Wd w0 H w → K a w) : Post w0 n D (Exit.then K Q') .normal E H := fun a w hF hW => h a w hF hW
theorem Post.nextC {Q' Q'' : Exit → Act → World → Prop} (h : VC P w0 n D Q'' y E H) : Post w0 n D (Exit.then (fun a w => y.wp P Q'' a w) Q') .normal E H := fun a w hF hW => h a w hF hW
theorem Post.thenRet {K : Act → World → Prop} {Q' : Exit → Act → World → Prop} (h : Post w0 n D Q' .ret E H) : Post w0 n D (Exit.then K Q') .ret E H := fun a w hF hW => h a w hF hW
theorem Post.thenExit {K : Act → World → Prop} {Q' : Exit → Act → World → Prop} {id : Nat} (h : Post w0 n D Q' (.exit id) E H) : Post w0 n D (Exit.then K Q') (.exit id) E H := fun a w hF hW => h a w hF hW
theorem Post.thenPanic {K : Act → World → Prop} {Q' : Exit → Act → World → Prop} {ch} (h : Post w0 n D Q' (.panic ch) E H) : Post w0 n D (Exit.then K Q') (.panic ch) E H := fun a w hF hW => h a w hF hW
theorem Post.blockNormal {Q' : Exit → Act → World → Prop} {id : Nat} (h : Post w0 n D Q' .normal E H) : Post w0 n D (Exit.inBlock id Q') .normal E H := fun a w hF hW => h a w hF hW
theorem Post.blockRet {Q' : Exit → Act → World → Prop} {id : Nat} (h : Post w0 n D Q' .ret E H) : Post w0 n D (Exit.inBlock id Q') .ret E H := fun a w hF hW => h a w hF hW
theorem Post.blockPanic {Q' : Exit → Act → World → Prop} {id : Nat} {ch} (h : Post w0 n D Q' (.panic ch) E H) : Post w0 n D (Exit.inBlock id Q') (.panic ch) E H := fun a w hF hW => h a w hF hW
theorem Post.blockHit {Q' : Exit → Act → World → Prop} {id : Nat} (h : Post w0 n D Q' .normal E H) : Post w0 n D (Exit.inBlock id Q') (.exit id) E H := fun a w hF hW => by
  simpa [Exit.inBlock] using h a w hF hW
theorem Post.blockMiss {Q' : Exit → Act → World → Prop} {id id' : Nat} (hne : Nat.beq id' id = false) (h : Post w0 n D Q' (.exit id') E H) : Post w0 n D (Exit.inBlock id Q') (.exit id') E H := fun a w hF hW => by
  have : id' ≠ id := ne_beq hne
  simpa [Exit.inBlock, this] using h a w hF hW

/-- what a round hands on: some state of the heads, with a smaller measure -/
def Handed (w0 : World) (n : Nat) (D : List Deferred) {σ : Type} (Es : σ → Env) (Hs : σ → Hp) (ok : σ → Prop) (μ : σ → Nat) (m : Nat) (a : Act) (w : World) : Prop :=
  ∃ s', ok s' ∧ μ s' < m ∧ Fr n D (Es s') a ∧ Wd w0 (Hs s') w

/-- a loop: the states of the heads are told by a type of one's own -/
theorem VC.loop {σ : Type} (Es : σ → Env) (Hs : σ → Hp) (ok : σ → Prop) (μ : σ → Nat) (s0 : σ) (h0 : ok s0) (hE : All E (Es s0)) (hH : Sb H (Hs s0))
    (round : ∀ s, ok s → VC P w0 n D (Exit.then (Handed w0 n D Es Hs ok μ (μ s)) Q) c (Es s) (Hs s)) : VC P w0 n D Q (.loop c) E H := by
  intro a w hF hW
  refine wp_loop_ghost (fun k a w => ∃ s, ok s ∧ μ s = k ∧ Fr n D (Es s) a ∧ Wd w0 (Hs s) w) (μ s0) ⟨s0, h0, rfl, hF.sub hE, hW.has hH⟩ ?_
  rintro k a w ⟨s, hs, rfl, hF, hW⟩
  refine wp_mono (round s hs a w hF hW) fun e a w hq => ?_
  cases e with
  | normal =>
    obtain ⟨s', h1, h2, h3, h4⟩ := hq
    exact ⟨_, h2, s', h1, rfl, h3, h4⟩
  | _ => exact hq

theorem Post.round {σ : Type} {Es : σ → Env} {Hs : σ → Hp} {ok : σ → Prop} {μ : σ → Nat} {m : Nat} {Q' : Exit → Act → World → Prop} (s' : σ) (h0 : ok s') (hm : μ s' < m) (hE : All E (Es s')) (hH : Sb H (Hs s')) :
    Post w0 n D (Exit.then (Handed w0 n D Es Hs ok μ m) Q') .normal E H := fun a w hF hW => ⟨s', h0, hm, hF.sub hE, hW.has hH⟩

/-- a meeting of ways: some state of a type of one's own -/
def Meet (w0 : World) (n : Nat) (D : List Deferred) {σ : Type} (Es : σ → Env) (Hs : σ → Hp) (ok : σ → Prop) (a : Act) (w : World) : Prop :=
  ∃ s, ok s ∧ Fr n D (Es s) a ∧ Wd w0 (Hs s) w
theorem VC.seqMeet {σ : Type} (Es : σ → Env) (Hs : σ → Hp) (ok : σ → Prop) (h : VC P w0 n D (Exit.then (Meet w0 n D Es Hs ok) Q) x E H)
    (k : ∀ s, ok s → VC P w0 n D Q y (Es s) (Hs s)) : VC P w0 n D Q (.seq x y) E H :=
  VC.seqCut (Meet w0 n D Es Hs ok) h fun a w ⟨s, h1, h2, h3⟩ => k s h1 a w h2 h3
theorem Post.meet {σ : Type} {Es : σ → Env} {Hs : σ → Hp} {ok : σ → Prop} {Q' : Exit → Act → World → Prop} (s : σ) (h0 : ok s) (hE : All E (Es s)) (hH : Sb H (Hs s)) :
    Post w0 n D (Exit.then (Meet w0 n D Es Hs ok) Q') .normal E H := fun a w hF hW => ⟨s, h0, hF.sub hE, hW.has hH⟩
/-- within a region: ways through guards meet -/
theorem V.meet {σ : Type} (Es : σ → Env) (Hs : σ → Hp) (ok : σ → Prop) {l1 l2 : List Oper}
    (h : V P w0 n D (Exit.then (Meet w0 n D Es Hs ok) Q) ops l1 E H) (k : ∀ s, ok s → V P w0 n D Q ops l2 (Es s) (Hs s)) : V P w0 n D Q ops (l1 ++ l2) E H := by
  have gen : ∀ (l1 : List Oper) (a : Act) (w : World), wpList P ops (Exit.then (Meet w0 n D Es Hs ok) Q) l1 a w → wpList P ops Q (l1 ++ l2) a w := by
    intro l1
    induction l1 with
    | nil =>
      rintro a w ⟨s, h1, h2, h3⟩
      exact k s h1 a w h2 h3
    | cons o l1 ih =>
      intro a w h
      simp only [List.cons_append, wpList] at h ⊢
      split
      · rename_i hw
        rw [if_pos hw] at h
        rcases h with h | ⟨h1, a1, w1, h2⟩
        · refine .inl ?_
          unfold Oper.wp at h ⊢
          generalize (execOp a.eval o).run P w = r at *
          cases r with
          | ok nx w' =>
            cases nx <;> simp only [Oper.upon] at h ⊢ <;>
              first
                | exact ih _ _ h
                | exact h.mono (fun e w'' he => by cases e <;> first | exact ih _ _ he | exact he)
                | exact h.mono (fun _ _ he => ih _ _ he)
                | exact h
          | halt hx w' => cases hx <;> simp only [Oper.upon] at h ⊢ <;> exact h
        · exact .inr ⟨h1, a1, w1, h2⟩
      · rename_i hw
        rw [if_neg hw] at h
        exact ih _ _ h
  exact fun a w hF hW => gen l1 a w (h a w hF hW)
end

/-! ### Contracts -/
/-- a call, the owned chunks 'Hin' at hand, and whatever else is owned kept -/
def Ct (P : Program) (w0 : World) (f : FuncId) (args : Array Value) (Hin : Hp) (post : Ending → Hp → Prop) : Prop :=
  ∀ (R : Hp) (w : World), Wd w0 (Hin ++ R) w → Calls P f args w fun e w' => ∃ Hout, post e Hout ∧ Wd w0 (Hout ++ R) w'
/-- it returns -/
def Ret (post : Value → Hp → Prop) : Ending → Hp → Prop
  | .returned v, H => post v H
  | _, _ => False
abbrev CtR (P : Program) (w0 : World) (f : FuncId) (args : Array Value) (Hin : Hp) (post : Value → Hp → Prop) : Prop := Ct P w0 f args Hin (Ret post)

theorem Ct.mono {P w0 f args Hin post post'} (h : Ct P w0 f args Hin post) (hp : ∀ e H, post e H → post' e H) : Ct P w0 f args Hin post' :=
  fun R w hW => (h R w hW).mono fun e w' ⟨Ho, h1, h2⟩ => ⟨Ho, hp _ _ h1, h2⟩

theorem Ct.ret_mono {P w0 f args Hin} {post post' : Value → Hp → Prop} (h : Ct P w0 f args Hin (Ret post)) (hp : ∀ v H, post v H → post' v H) : Ct P w0 f args Hin (Ret post') :=
  h.mono fun e H he => match e, he with
    | .returned v, he => hp v H he
/-- .. and what is owned may be told in other pieces -/
theorem Ct.ret_regroup {P w0 f args Hin} {post post' : Value → Hp → Prop} (h : Ct P w0 f args Hin (Ret post)) (hp : ∀ v H, post v H → ∃ H', post' v H' ∧ H'.flatten.Perm H.flatten) : Ct P w0 f args Hin (Ret post') :=
  fun R w hW => (h R w hW).mono fun e w' ⟨Ho, h1, h2⟩ => match e, h1 with
    | .returned v, h1 => by
      obtain ⟨H', h3, h4⟩ := hp v Ho h1
      exact ⟨H', h3, h2.perm (by rw [List.flatten_append, List.flatten_append]; exact h4.append_right _)⟩

/-- the arguments' slots -/
def argE : Nat → List Value → Env
  | _, [] => []
  | i, v :: l => (i, v) :: argE (i + 1) l

theorem argE_look : ∀ (l : List Value) (i t : Nat) (v : Value), look (argE i l) t = some v → i ≤ t ∧ l[t - i]? = some v
  | [], _, _, _, h => by simp [argE, look] at h
  | x :: l, i, t, v, h => by
    simp only [argE, look] at h
    by_cases e : i = t
    · subst e
      have : v = x := by simpa using h.symm
      subst this
      simp
    · have e' : Nat.beq i t = false := beq_ne e
      rw [e'] at h
      obtain ⟨h1, h2⟩ := argE_look l (i + 1) t v (by simpa using h)
      refine ⟨by omega, ?_⟩
      have : t - i = (t - (i + 1)) + 1 := by omega
      rw [this, List.getElem?_cons_succ]
      exact h2

def BodyPost (P : Program) (w0 : World) (fn : Func) (R : Hp) (post : Ending → Hp → Prop) : Exit → Act → World → Prop :=
  bodyPost P fn fun e w' => ∃ Hout, post e Hout ∧ Wd w0 (Hout ++ R) w'

theorem Ct.of_body {P : Program} {w0 : World} {f : FuncId} {fn : Func} {c : Code} {l : List Value} {Hin : Hp} {post : Ending → Hp → Prop} (hf : P.funcs[f]? = some fn) (hb : fn.body = some c) (n : Nat) (hn : fn.ntmps = n) (hl : Nat.ble l.length n = true)
    (h : ∀ R, VC P w0 n [] (BodyPost P w0 fn R post) c (argE 0 l) (Hin ++ R)) : Ct P w0 f l.toArray Hin post := by
  intro R w hW
  refine calls_of_wp hf hb ?_
  have hl' : l.length ≤ n := by simpa using hl
  refine h R _ w ⟨by simp [hn]; omega, rfl, fun t v hv => ?_⟩ hW
  obtain ⟨_, h2⟩ := argE_look l 0 t v hv
  have ht : t < l.length := (List.getElem?_eq_some_iff.1 h2).1
  simp only [Nat.sub_zero] at h2
  have h3 : l[t] = v := (List.getElem?_eq_some_iff.1 h2).2
  simp [Array.getD_eq_getD_getElem?, Array.getElem?_append, ht, h3]

section
variable {P : Program} {w0 : World} {n : Nat} {Q : Exit → Act → World → Prop} {E : Env} {H R : Hp} {fn : Func} {post : Ending → Hp → Prop}

/-- the owned memory at the end: the chunks Hout, then the rest R -/
theorem Post.ret1 {t : Nat} {v : Value} {Hout : Hp} (hr : fn.results = #[.tmp t]) (hv : look E t = some v) (hp : post (.returned v) Hout) (hH : Sb H (Hout ++ R)) :
    Post w0 n [] (BodyPost P w0 fn R post) .ret E H := fun a w hF hW =>
  bodyPost_ret (results_tmp hr _ _ _) hF.dfr ⟨Hout, by rw [hF.look t v hv]; exact hp, hW.has hH⟩
theorem Post.ret0 {Hout : Hp} (hr : fn.results = #[]) (hp : post (.returned (.tuple #[])) Hout) (hH : Sb H (Hout ++ R)) :
    Post w0 n [] (BodyPost P w0 fn R post) .ret E H := fun a w hF hW => bodyPost_ret (results_none hr _ _ _) hF.dfr ⟨Hout, hp, hW.has hH⟩
theorem Post.ret2 {t u : Nat} {v x : Value} {Hout : Hp} (hr : fn.results = #[.tmp t, .tmp u]) (hv : look E t = some v) (hx : look E u = some x) (hp : post (.returned (.tuple #[v, x])) Hout) (hH : Sb H (Hout ++ R)) :
    Post w0 n [] (BodyPost P w0 fn R post) .ret E H := fun a w hF hW =>
  bodyPost_ret (results_tmp2 hr _ _ _) hF.dfr ⟨Hout, by rw [hF.look t v hv, hF.look u x hx]; exact hp, hW.has hH⟩
theorem results_tmp3' {fn : Func} {t u v : Tmp} (h : fn.results = #[.tmp t, .tmp u, .tmp v]) (tmps : Array Value) (P : Program) (w : World) :
    (results fn tmps).run P w = .ok (.tuple #[tmps.getD t undef, tmps.getD u undef, tmps.getD v undef]) w := by simp [results, h]
theorem Post.ret3 {t u s : Nat} {v x y : Value} {Hout : Hp} (hr : fn.results = #[.tmp t, .tmp u, .tmp s]) (hv : look E t = some v) (hx : look E u = some x) (hy : look E s = some y)
    (hp : post (.returned (.tuple #[v, x, y])) Hout) (hH : Sb H (Hout ++ R)) :
    Post w0 n [] (BodyPost P w0 fn R post) .ret E H := fun a w hF hW =>
  bodyPost_ret (results_tmp3' hr _ _ _) hF.dfr ⟨Hout, by rw [hF.look t v hv, hF.look u x hx, hF.look s y hy]; exact hp, hW.has hH⟩
/-- the body's end without a return statement -/
theorem Post.end_ {e : Exit} (he : e = .normal) (h : Post w0 n [] (BodyPost P w0 fn R post) .ret E H) : Post w0 n [] (BodyPost P w0 fn R post) e E H := by
  subst he
  exact h
end

/-- a function that a call enters -/
class Fun (P : Program) (f : FuncId) : Prop where
  enter : ∀ args w, (callFunc f args).run P w = .ok (.enter f args) w

theorem Fun.of {P : Program} {f : FuncId} {fn : Func} (hf : P.funcs[f]? = some fn) (hn : (fn.name == "runtime.NumGoroutine") = false) (hb : fn.body.isNone = false) : Fun P f :=
  ⟨fun args w => by
    simp only [callFunc, Sem.run_bind, run_program, Result.andThen_ok, hf, hn, hb]
    rfl⟩

section
variable {P : Program} {w0 : World} {n : Nat} {D : List Deferred} {Q : Exit → Act → World → Prop} {ops : Array Oper} {rest : List Oper} {E : Env} {H : Hp}

/-- what a call may come to: it returns, or it panics -/
theorem V.callWith {d f args vs tys ty pos af g Hin R post} [hf : Fun P f] (hw : want ops E ⟨d, .call { callee := .value (.func f), args := args, argTypes := tys }, ty, pos, af, g⟩ = some true)
    (he : evs E args.toList = some vs) (hp : Picks H Hin R) (hc : Ct P w0 f vs.toArray Hin post)
    (k : ∀ e Hout, post e Hout → match e with
      | .returned v => ∀ a w, Fr n D E a → Wd w0 (Hout ++ R) w → wpList P ops Q rest (a.put d v) w
      | .panicked ch => Post w0 n D Q (.panic ch) E (Hout ++ R)
      | .outgrown => False) : V P w0 n D Q ops (⟨d, .call { callee := .value (.func f), args := args, argTypes := tys }, ty, pos, af, g⟩ :: rest) E H := by
  refine V.wp hw fun a w hF hW => ?_
  have hargs : args.map a.eval = vs.toArray := by
    have h1 := hF.evs he
    apply Array.ext'
    simpa using h1
  unfold Oper.wp
  have hrun : (execOp a.eval ⟨d, .call { callee := .value (.func f), args := args, argTypes := tys }, ty, pos, af, g⟩).run P w = .ok (.enter f vs.toArray) w := by
    simp only [execOp, resolve, Act.eval, Deferred.ofValue, Sem.run_bind, Sem.run_pure, Result.andThen_ok, invoke, hargs]
    simpa using hf.enter vs.toArray w
  rw [hrun]
  refine (hc R w (hW.picks hp)).mono ?_
  rintro e w' ⟨Ho, h1, h2⟩
  have := k e Ho h1
  cases e with
  | returned v => exact this a w' hF h2
  | panicked ch => exact this a w' hF h2
  | outgrown => exact this.elim

theorem V.call {d f args vs tys ty pos af g Hin R post} [Fun P f] (hw : want ops E ⟨some d, .call { callee := .value (.func f), args := args, argTypes := tys }, ty, pos, af, g⟩ = some true) (hd : Nat.blt d n = true)
    (he : evs E args.toList = some vs) (hp : Picks H Hin R) (hc : CtR P w0 f vs.toArray Hin post)
    (k : ∀ v Hout, post v Hout → V P w0 n D Q ops rest ((d, v) :: E) (Hout ++ R)) : V P w0 n D Q ops (⟨some d, .call { callee := .value (.func f), args := args, argTypes := tys }, ty, pos, af, g⟩ :: rest) E H :=
  V.callWith hw he hp hc fun e Hout hpost => by
    cases e with
    | returned v => exact fun a w hF hW => k v Hout hpost _ w (hF.put hd) hW
    | panicked ch => exact hpost.elim
    | outgrown => exact hpost.elim

/-- a call in a region that draws: it hands back v, and leaves what it got -/
theorem V.callQ {d f args vs tys ty pos af g Hin R post} (v : Value) [hf : Fun P f] (hw : want ops E ⟨some d, .call { callee := .value (.func f), args := args, argTypes := tys }, ty, pos, af, g⟩ = some true) (hd : Nat.blt d n = true)
    (he : evs E args.toList = some vs) (hp : Picks H Hin R) (hc : CtR P w0 f vs.toArray Hin post) (hv : ∀ u Hout, post u Hout → u = v ∧ Sb Hout Hin)
    (k : VM P w0 n D Q .quiet ops rest ((d, v) :: E) H) : VM P w0 n D Q .quiet ops (⟨some d, .call { callee := .value (.func f), args := args, argTypes := tys }, ty, pos, af, g⟩ :: rest) E H := by
  intro a hF
  have hww := want_spec hw hF (fun _ => .inr trivial)
  simp only [wpQuiet, hww, if_true]
  refine ⟨v, fun w hW => ?_, k _ (hF.put hd)⟩
  have hargs : args.map a.eval = vs.toArray := by
    have h1 := hF.evs he
    apply Array.ext'
    simpa using h1
  have hrun : (execOp a.eval ⟨some d, .call { callee := .value (.func f), args := args, argTypes := tys }, ty, pos, af, g⟩).run P w = .ok (.enter f vs.toArray) w := by
    simp only [execOp, resolve, Act.eval, Deferred.ofValue, Sem.run_bind, Sem.run_pure, Result.andThen_ok, invoke, hargs]
    simpa using hf.enter vs.toArray w
  unfold Oper.quietAt
  rw [hrun]
  refine ⟨rfl, (hc R w (hW.picks hp)).mono ?_⟩
  rintro e w' ⟨Ho, h1, h2⟩
  cases e with
  | returned u =>
    obtain ⟨rfl, hs⟩ := hv u Ho h1
    refine ⟨rfl, (Wd.perm (H := Hin ++ R) ?_ hp.perm.symm)⟩
    exact h2.appendSub hs
  | panicked ch => exact h1.elim
  | outgrown => exact h1.elim

/-- a call that is a statement -/
theorem V.call0 {f args vs tys ty pos af g Hin R post} [Fun P f] (hw : want ops E ⟨none, .call { callee := .value (.func f), args := args, argTypes := tys }, ty, pos, af, g⟩ = some true)
    (he : evs E args.toList = some vs) (hp : Picks H Hin R) (hc : CtR P w0 f vs.toArray Hin post)
    (k : ∀ v Hout, post v Hout → V P w0 n D Q ops rest E (Hout ++ R)) : V P w0 n D Q ops (⟨none, .call { callee := .value (.func f), args := args, argTypes := tys }, ty, pos, af, g⟩ :: rest) E H :=
  V.callWith hw he hp hc fun e Hout hpost => by
    cases e with
    | returned v => exact fun a w hF hW => k v Hout hpost _ w hF hW
    | panicked ch => exact hpost.elim
    | outgrown => exact hpost.elim

/-- a call of a function value -/
theorem V.callV {d x f first captured args vs tys ty pos af g Hin R post} [hf : Fun P f] (hw : want ops E ⟨some d, .call { callee := .value (.tmp x), args := args, argTypes := tys }, ty, pos, af, g⟩ = some true) (hd : Nat.blt d n = true)
    (hx : look E x = some (.func (.func f) first captured))
    (he : evs E args.toList = some vs) (hp : Picks H Hin R) (hc : CtR P w0 f (first.toList ++ vs ++ captured.toList).toArray Hin post)
    (k : ∀ v Hout, post v Hout → V P w0 n D Q ops rest ((d, v) :: E) (Hout ++ R)) : V P w0 n D Q ops (⟨some d, .call { callee := .value (.tmp x), args := args, argTypes := tys }, ty, pos, af, g⟩ :: rest) E H := by
  refine V.wp hw fun a w hF hW => ?_
  have hargs : args.map a.eval = vs.toArray := by
    have h1 := hF.evs he
    apply Array.ext'
    simpa using h1
  have hxe : a.eval (.tmp x) = .func (.func f) first captured := hF.look x _ hx
  unfold Oper.wp
  have hrun : (execOp a.eval ⟨some d, .call { callee := .value (.tmp x), args := args, argTypes := tys }, ty, pos, af, g⟩).run P w = .ok (.enter f (first.toList ++ vs ++ captured.toList).toArray) w := by
    simp only [execOp, resolve, hxe, Deferred.ofValue, Sem.run_bind, Sem.run_pure, Result.andThen_ok, invoke, hargs]
    have : first ++ vs.toArray ++ captured = (first.toList ++ vs ++ captured.toList).toArray := by apply Array.ext'; simp
    rw [this]
    exact hf.enter _ w
  rw [hrun]
  refine (hc R w (hW.picks hp)).mono ?_
  rintro e w' ⟨Ho, h1, h2⟩
  cases e with
  | returned v => exact k v Ho h1 _ w' (hF.put hd) h2
  | panicked ch => exact h1.elim
  | outgrown => exact h1.elim
end
end Go.Proofs.Eng
