/- The journal in plain Lean: numbers as bytes, blocks, what an image holds. -/
import Derived.Test.YtpmpomknnppnjaaDoorEngArr2
namespace Go.Proofs.Jn
open Go Go.Proofs.Eng

abbrev Bytes := List UInt8

/-- a number in so many bytes, the highest first -/
def be : Nat → Nat → Bytes
  | 0, _ => []
  | w + 1, n => be w (n / 256) ++ [UInt8.ofNat (n % 256)]
theorem be_length : ∀ w n, (be w n).length = w
  | 0, _ => rfl
  | w + 1, n => by simp [be, be_length w]

/-- the number that bytes are -/
def beVal (l : Bytes) : Nat := l.foldl (fun n c => n * 256 + c.toNat) 0
theorem beVal_snoc (l : Bytes) (c : UInt8) : beVal (l ++ [c]) = beVal l * 256 + c.toNat := by simp [beVal]
theorem beVal_be : ∀ w n, beVal (be w n) = n % 256 ^ w
  | 0, n => by simp [be, beVal, Nat.mod_one]
  | w + 1, n => by
    rw [be, beVal_snoc, beVal_be w]
    have h : (UInt8.ofNat (n % 256)).toNat = n % 256 := by simp
    rw [h, Nat.pow_succ, Nat.mul_comm (256 ^ w) 256, Nat.mod_mul, Nat.mul_comm, Nat.add_comm]
theorem beVal_lt (l : Bytes) : beVal l < 256 ^ l.length := by
  have gen : ∀ (l : Bytes) (n : Nat), l.foldl (fun n c => n * 256 + c.toNat) n < (n + 1) * 256 ^ l.length := by
    intro l
    induction l with
    | nil => intro n; simp
    | cons c l ih =>
      intro n
      have h1 := ih (n * 256 + c.toNat)
      have hc := c.toNat_lt
      simp only [List.foldl_cons, List.length_cons, Nat.pow_succ]
      refine Nat.lt_of_lt_of_le h1 ?_
      have : (n * 256 + c.toNat + 1) * 256 ^ l.length ≤ ((n + 1) * 256) * 256 ^ l.length := Nat.mul_le_mul_right _ (by omega)
      rw [Nat.mul_comm (256 ^ l.length) 256, ← Nat.mul_assoc]
      exact this
  have := gen l 0
  simpa [beVal] using this

theorem or256 (x c : Nat) (h : c < 256) : x * 2 ^ 8 ||| c = x * 256 + c := by
  have := Nat.shiftLeft_add_eq_or_of_lt (show c < 2 ^ 8 by omega) x
  rw [Nat.shiftLeft_eq] at this
  omega

def zb : Bytes := List.replicate 16 0
def headB (boots : Nat) : Bytes := [80, 74, 1, 0] ++ be 4 boots ++ List.replicate 8 0
def titleB (n num : Nat) : Bytes := [80, 82, 0, 0] ++ be 4 n ++ be 8 num
def span (n : Nat) : Nat := (n + 15) / 16
theorem headB_length (b : Nat) : (headB b).length = 16 := by simp [headB, be_length]
theorem titleB_length (a b : Nat) : (titleB a b).length = 16 := by simp [titleB, be_length]
theorem headB_val (b : Nat) (h : b < 4294967296) : beVal (((headB b).drop 4).take 4) = b := by
  have : ((headB b).drop 4).take 4 = be 4 b := by
    simp only [headB, List.cons_append, List.nil_append, List.drop_succ_cons, List.drop_zero]
    rw [List.take_append_of_le_length (by simp [be_length]), List.take_of_length_le (by simp [be_length])]
  rw [this, beVal_be, Nat.mod_eq_of_lt (by omega)]
theorem titleB_val (a b : Nat) (h : a < 4294967296) : beVal (((titleB a b).drop 4).take 4) = a := by
  have : ((titleB a b).drop 4).take 4 = be 4 a := by
    simp only [titleB, List.cons_append, List.nil_append, List.drop_succ_cons, List.drop_zero]
    rw [List.take_append_of_le_length (by simp [be_length]), List.take_of_length_le (by simp [be_length])]
  rw [this, beVal_be, Nat.mod_eq_of_lt (by omega)]
theorem headB_ne (b : Nat) : headB b ≠ zb := by simp [headB, zb, List.replicate]
theorem titleB_ne (a b : Nat) : titleB a b ≠ zb := by simp [titleB, zb, List.replicate]

/-- block i of an image -/
def blk (img : Bytes) (i : Nat) : Bytes := (img.drop (16 * i)).take 16
theorem blk_length {img : Bytes} {nb i : Nat} (h : img.length = 16 * nb) (hi : i < nb) : (blk img i).length = 16 := by
  simp [blk]; omega
/-- block i turned -/
def setBlk (img : Bytes) (i : Nat) (b : Bytes) : Bytes := img.take (16 * i) ++ b ++ img.drop (16 * i + 16)
theorem setBlk_length {img b : Bytes} {nb i : Nat} (h : img.length = 16 * nb) (hi : i < nb) (hb : b.length = 16) : (setBlk img i b).length = 16 * nb := by
  simp [setBlk]; omega
theorem blk_setBlk_same {img b : Bytes} {nb i : Nat} (h : img.length = 16 * nb) (hi : i < nb) (hb : b.length = 16) : blk (setBlk img i b) i = b := by
  have h1 : (img.take (16 * i)).length = 16 * i := by simp; omega
  simp only [blk, setBlk, List.append_assoc]
  rw [List.drop_append_of_le_length (by omega), List.drop_of_length_le (by omega), List.nil_append, List.take_append_of_le_length (by omega), List.take_of_length_le (by omega)]
theorem blk_setBlk_ne {img b : Bytes} {nb i j : Nat} (h : img.length = 16 * nb) (hi : i < nb) (hj : j < nb) (hb : b.length = 16) (hne : i ≠ j) : blk (setBlk img i b) j = blk img j := by
  have h1 : (img.take (16 * i)).length = 16 * i := by simp; omega
  apply List.ext_getElem
  · simp [blk, setBlk]; omega
  · intro k hk1 hk2
    have hk : k < 16 := by simp [blk] at hk1; omega
    simp only [blk, setBlk, List.getElem_take, List.getElem_drop, List.append_assoc]
    rcases Nat.lt_or_ge j i with hlt | hge
    · rw [List.getElem_append_left (by simp; omega)]
      simp
    · rw [List.getElem_append_right (by simp; omega), List.getElem_append_right (by simp; omega)]
      simp only [List.getElem_drop]
      congr 1
      simp
      omega
/-- the highest byte apart -/
theorem be_succ : ∀ (j n : Nat), be (j + 1) n = UInt8.ofNat (n / 256 ^ j % 256) :: be j n
  | 0, n => by simp [be]
  | j + 1, n => by
    rw [be, be_succ j (n / 256), be, Nat.div_div_eq_div_mul, Nat.pow_succ, Nat.mul_comm (256 ^ j) 256]
    rfl
/-- what put has done when j of its bytes are laid -/
def putUp (bs : Bytes) (at_ wide n j : Nat) : Bytes := bs.take (at_ + (wide - j)) ++ be j n ++ bs.drop (at_ + wide)
theorem putUp_zero {bs : Bytes} {at_ wide n : Nat} : putUp bs at_ wide n 0 = bs := by simp [putUp, be]
theorem putUp_length {bs : Bytes} {at_ wide n j : Nat} (hb : bs.length = 16) (h : at_ + wide ≤ 16) (hj : j ≤ wide) : (putUp bs at_ wide n j).length = 16 := by
  simp [putUp, be_length]; omega
theorem putUp_step {bs : Bytes} {at_ wide n j : Nat} (hb : bs.length = 16) (h : at_ + wide ≤ 16) (hj : j < wide) :
    ((putUp bs at_ wide n j).map byv).toArray.setIfInBounds (at_ + (wide - 1 - j)) (byv (UInt8.ofNat (n / 256 ^ j % 256))) = ((putUp bs at_ wide n (j + 1)).map byv).toArray := by
  apply Array.ext'
  simp only [Array.toList_setIfInBounds]
  rw [← List.map_set]
  congr 1
  simp only [putUp, be_succ]
  have h1 : at_ + (wide - j) = at_ + (wide - 1 - j) + 1 := by omega
  have h2 : at_ + (wide - (j + 1)) = at_ + (wide - 1 - j) := by omega
  have hlt : at_ + (wide - 1 - j) < bs.length := by omega
  rw [h1, h2, List.take_succ_eq_append_getElem hlt]
  simp only [List.append_assoc]
  rw [List.set_append_right _ _ (by simp; omega)]
  simp [Nat.min_eq_left (Nat.le_of_lt hlt)]
/-- .. and at its end -/
def putB (bs : Bytes) (at_ wide n : Nat) : Bytes := bs.take at_ ++ be wide n ++ bs.drop (at_ + wide)
theorem putUp_end {bs : Bytes} {at_ wide n : Nat} : putUp bs at_ wide n wide = putB bs at_ wide n := by simp [putUp, putB]
theorem putB_length {bs : Bytes} {at_ wide n : Nat} (hb : bs.length = 16) (h : at_ + wide ≤ 16) : (putB bs at_ wide n).length = 16 := by
  simp [putB, be_length]; omega
theorem putB_head (b : Nat) : putB [80, 74, 1, 0, 0, 0, 0, 0, 0, 0, 0, 0, 0, 0, 0, 0] 4 4 b = headB b := rfl
theorem putB_title (a b : Nat) : putB (putB [80, 82, 0, 0, 0, 0, 0, 0, 0, 0, 0, 0, 0, 0, 0, 0] 4 4 a) 8 8 b = titleB a b := by
  have h : (be 4 a).length = 4 := be_length 4 a
  simp only [putB, titleB, List.take_succ_cons, List.take_zero, List.drop_succ_cons, List.drop_zero]
  match hb : be 4 a, h with
  | [x, y, z, u], _ => simp
end Go.Proofs.Jn
