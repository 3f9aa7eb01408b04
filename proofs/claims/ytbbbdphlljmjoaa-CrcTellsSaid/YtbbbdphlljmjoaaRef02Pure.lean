/- The reference's long division of bits tells the program's CRC: a plain law. No condition. -/
import Derived.Test.YtbbbdphlljmjoaaRef02
import Derived.Test.YtbbbdphlljmjoaaCrcPure
namespace Go.Proofs.Ytbbbdphlljmjoaa.Mine

theorem getD_set_ne (l : List Bool) (i j : Nat) (x : Bool) (h : i ≠ j) : (l.set i x).getD j false = l.getD j false := by
  rw [List.getD_eq_getElem?_getD, List.getD_eq_getElem?_getD, List.getElem?_set_ne h]
theorem getD_set_eq (l : List Bool) (i : Nat) (x : Bool) (h : i < l.length) : (l.set i x).getD i false = x := by
  rw [List.getD_eq_getElem?_getD, List.getElem?_set_self h]; rfl
/-- how often, by parity, position i + d is turned -/
def par (d : Nat) : Nat → Bool
  | 0 => false
  | k + 1 => (d == 32 - pw k) ^^ par d k
theorem flips_getD (l : List Bool) (i d k : Nat) (hk : k ≤ 14) (hi : i + 32 < l.length) : (flips l i k).getD (i + d) false = (l.getD (i + d) false ^^ par d k) := by
  induction k with
  | zero => simp [flips, par]
  | succ k ih =>
    have hp := pw_le k (by omega)
    rw [flips, par]
    by_cases e : d = 32 - pw k
    · have e2 : i + 32 - pw k = i + d := by omega
      rw [e2, getD_set_eq _ _ _ (by rw [flips_length]; omega), ih (by omega), show (d == 32 - pw k) = true from beq_iff_eq.2 e]
      cases l.getD (i + d) false <;> cases par d k <;> rfl
    · rw [getD_set_ne _ _ _ _ (by omega), ih (by omega), show (d == 32 - pw k) = false from beq_eq_false_iff_ne.2 e, Bool.false_xor]
theorem par_poly : ∀ d, d < 32 → par (d + 1) 14 = (3988292384#32).getLsbD d := by decide
theorem par_far (d : Nat) (h : 32 < d) : ∀ k, par d k = false
  | 0 => rfl
  | k + 1 => by
    rw [par, par_far d h k, show (d == 32 - pw k) = false from beq_eq_false_iff_ne.2 (by omega)]; rfl

/-- the register behind i bits of M -/
def regB (M : List Bool) : Nat → BitVec 32
  | 0 => 4294967295#32
  | i + 1 => stepB (regB M i ^^^ if M.getD i false then 1#32 else 0#32)
theorem bit_of (b : Bool) (i : Nat) : (if b then 1#32 else 0#32).getLsbD i = (b && decide (i = 0)) := by
  cases b
  · simp
  · simp [BitVec.getLsbD_one]
theorem stepB_bit (s : BitVec 32) (b : Bool) (t : Nat) :
    (stepB (s ^^^ if b then 1#32 else 0#32)).getLsbD t = (s.getLsbD (t + 1) ^^ ((b ^^ s.getLsbD 0) && (3988292384#32).getLsbD t)) := by
  rw [stepB_eq]
  have h0 : (s ^^^ if b then 1#32 else 0#32).getLsbD 0 = (b ^^ s.getLsbD 0) := by
    rw [BitVec.getLsbD_xor, bit_of]; simp [Bool.xor_comm]
  have h1 : ((s ^^^ if b then 1#32 else 0#32) >>> 1).getLsbD t = s.getLsbD (t + 1) := by
    rw [BitVec.getLsbD_ushiftRight, BitVec.getLsbD_xor, bit_of, Nat.add_comm 1 t]; simp
  rw [h0]
  cases (b ^^ s.getLsbD 0)
  · rw [if_neg (by simp), h1]; simp
  · rw [if_pos rfl, BitVec.getLsbD_xor, h1]; simp
/-- THE INVARIANT of the division -/
theorem div_inv (M : List Bool) (n : Nat) (hM : M.length = n + 32) (i : Nat) (hi : i ≤ n) (d : Nat) :
    (divL (notK M 32) i).getD (i + d) false = (M.getD (i + d) false ^^ (regB M i).getLsbD d) := by
  induction i generalizing d with
  | zero =>
    rw [Nat.zero_add]
    simp only [divL, regB]
    have h1 : ∀ d, d < 32 → (4294967295#32).getLsbD d = true := by decide
    rw [List.getD_eq_getElem?_getD, List.getD_eq_getElem?_getD]
    by_cases hd : d < M.length
    · rw [List.getElem?_eq_getElem (by rw [notK_length]; exact hd), List.getElem?_eq_getElem hd, Option.getD_some, Option.getD_some, notK_get]
      by_cases h32 : d < 32
      · rw [if_pos h32, h1 d h32]; simp
      · rw [if_neg h32, BitVec.getLsbD_of_ge _ _ (by omega)]; simp
    · rw [List.getElem?_eq_none (by rw [notK_length]; omega), List.getElem?_eq_none (by omega), BitVec.getLsbD_of_ge _ _ (by omega)]; rfl
  | succ i ih =>
    have hc := ih (by omega) 0
    rw [Nat.add_zero] at hc
    have hj := ih (by omega) (d + 1)
    have hl : (divL (notK M 32) i).length = n + 32 := by rw [divL_length, notK_length, hM]
    rw [divL, divS, hc, show i + 1 + d = i + (d + 1) by omega]
    have key : (if (M.getD i false ^^ (regB M i).getLsbD 0) = true then flips ((divL (notK M 32) i).set i false) i 14 else divL (notK M 32) i).getD (i + (d + 1)) false =
        ((divL (notK M 32) i).getD (i + (d + 1)) false ^^ ((M.getD i false ^^ (regB M i).getLsbD 0) && par (d + 1) 14)) := by
      split
      · rename_i h
        rw [h, flips_getD _ _ _ _ (Nat.le_refl _) (by rw [List.length_set]; omega), getD_set_ne _ _ _ _ (by omega)]; simp
      · rename_i h
        rw [Bool.not_eq_true] at h
        rw [h]; simp
    rw [key, hj]
    by_cases hd : d < 32
    · rw [regB, stepB_bit, par_poly d hd, Bool.xor_assoc]
    · rw [par_far (d + 1) (by omega), BitVec.getLsbD_of_ge (regB M i) (d + 1) (by omega), BitVec.getLsbD_of_ge (regB M (i + 1)) d (by omega), Bool.and_false, Bool.xor_false, Bool.xor_false]

/-! the bits of bytes -/
theorem bit8_byteV (x : UInt8) (k : Nat) : bit8 x k = (byteV x).getLsbD k := by
  have h := x.toNat_lt
  unfold bit8 byteV
  rw [BitVec.getLsbD_ofNat]
  by_cases hk : k < 32
  · rw [decide_eq_true hk, Bool.true_and, Nat.testBit_eq_decide_div_mod_eq]
    rw [Bool.eq_iff_iff]; simp
  · rw [decide_eq_false hk, Bool.false_and]
    have : x.toNat / 2 ^ k = 0 := Nat.div_eq_of_lt (Nat.lt_of_lt_of_le h (Nat.pow_le_pow_right (by decide) (show 8 ≤ k by omega)))
    rw [this]; rfl
theorem bitsL_getD (bs : List UInt8) (r : List Bool) : ∀ (q k : Nat) (h : q < bs.length) (_ : k < 8), (bitsL bs ++ r).getD (8 * q + k) false = (byteV bs[q]).getLsbD k := by
  induction bs with
  | nil => intro q k h; simp at h
  | cons x l ih =>
    intro q k h hk
    have hc : bitsL (x :: l) ++ r = byteBits x 8 ++ (bitsL l ++ r) := by
      unfold bitsL; rw [List.flatMap_cons, List.append_assoc]
    have hl : (byteBits x 8).length = 8 := by simp [byteBits]
    rw [hc, List.getD_eq_getElem?_getD]
    cases q with
    | zero =>
      rw [List.getElem?_append_left (by rw [hl]; omega), ← bit8_byteV]
      simp [byteBits, hk]
    | succ q =>
      rw [List.getElem?_append_right (by rw [hl]; omega), hl, show 8 * (q + 1) + k - 8 = 8 * q + k by omega]
      have := ih q k (by simpa using h) hk
      rw [List.getD_eq_getElem?_getD] at this
      rw [this]; rfl
theorem lowB8 (x : UInt8) : lowB 8 (byteV x) = byteV x := by
  have h := x.toNat_lt
  unfold lowB byteV
  rw [BitVec.toNat_ofNat]
  congr 1
  omega
theorem regB_byte (bs : List UInt8) (r : List Bool) (q : Nat) (hq : q < bs.length) (k : Nat) (hk : k ≤ 8) :
    regB (bitsL bs ++ r) (8 * q + k) = stepsB k (regB (bitsL bs ++ r) (8 * q) ^^^ lowB k (byteV bs[q])) := by
  induction k with
  | zero =>
    have : lowB 0 (byteV bs[q]) = 0#32 := by unfold lowB; simp [Nat.mod_one]
    rw [this, BitVec.xor_zero]; rfl
  | succ k ih =>
    rw [show 8 * q + (k + 1) = (8 * q + k) + 1 by omega, regB, bitsL_getD bs r q k hq (by omega), ih (by omega), lowB_succ, stepsB]
    congr 1
    cases (byteV bs[q]).getLsbD k
    · simp
    · simp only [if_true]
      rw [← BitVec.xor_assoc, stepsB_xor k _ (1#32 <<< k), stepsB_shl' k (by omega)]
where
  stepsB_shl' (r : Nat) (h : r < 32) : stepsB r (1#32 <<< r) = 1#32 := by
    rw [stepsB_low]
    · apply BitVec.eq_of_getLsbD_eq
      intro i hi
      rw [BitVec.getLsbD_ushiftRight, BitVec.getLsbD_one]
      by_cases e : r + i < 32
      · rw [one_shl_bit _ _ e]
        by_cases h0 : i = 0
        · subst h0; simp
        · simp [h0]
      · rw [BitVec.getLsbD_of_ge _ _ (by omega)]
        have : ¬ i = 0 := by omega
        simp [this]
    · intro i hi
      rw [one_shl_bit _ _ (by omega)]
      simp; omega
theorem regB_add (bs : List UInt8) (r : List Bool) (q : Nat) (hq : q ≤ bs.length) : regB (bitsL bs ++ r) (8 * q) = addB 4294967295#32 (bs.take q) := by
  induction q with
  | zero => simp [regB, addB_nil]
  | succ q ih =>
    rw [Nat.mul_succ, regB_byte bs r q (by omega) 8 (Nat.le_refl _), ih (by omega), lowB8, addB_take _ _ _ (by omega), byteB_eq]

/-! the number -/
theorem inc_bit (x : BitVec 32) (i : Nat) (hi : i < 32) : (x <<< 1 + 1#32).getLsbD i = (decide (i = 0) || x.getLsbD (i - 1)) := by
  have h : x <<< 1 &&& 1#32 = 0#32 := by
    apply BitVec.eq_of_getLsbD_eq
    intro i hi
    rw [BitVec.getLsbD_and, BitVec.getLsbD_one, BitVec.getLsbD_shiftLeft]
    by_cases h0 : i = 0
    · subst h0; simp
    · simp [h0]
  rw [BitVec.add_eq_or_of_and_eq_zero _ _ h, BitVec.getLsbD_or, BitVec.getLsbD_one, BitVec.getLsbD_shiftLeft]
  by_cases h0 : i = 0
  · subst h0; simp
  · simp [h0, hi, show ¬ i < 1 by omega]
theorem accB_bit (R : List Bool) (t : Nat) (ht : t ≤ 32) (i : Nat) (hi : i < 32) : (accB R t).getLsbD i = (decide (i < t) && !(R.getD (32 - t + i) false)) := by
  induction t generalizing i with
  | zero => simp [accB]
  | succ t ih =>
    rw [accB]
    by_cases h0 : i = 0
    · subst h0
      rw [show 32 - (t + 1) + 0 = 31 - t by omega]
      split
      · rename_i h
        rw [h, BitVec.getLsbD_shiftLeft]; simp
      · rename_i h
        rw [inc_bit _ _ (by omega)]
        rw [Bool.not_eq_true] at h
        rw [h]; simp
    · have e : 32 - (t + 1) + i = 32 - t + (i - 1) := by omega
      have hd : decide (i < t + 1) = decide (i - 1 < t) := by
        by_cases h : i - 1 < t
        · rw [decide_eq_true h, decide_eq_true (by omega)]
        · rw [decide_eq_false h, decide_eq_false (by omega)]
      rw [e, hd, ← ih (by omega) (i - 1) (by omega)]
      split
      · rw [BitVec.getLsbD_shiftLeft]; simp [hi, show ¬ i < 1 by omega]
      · rw [inc_bit _ _ hi]; simp [h0]
/-- THE LAW: the reference and the program tell the same. -/
theorem refB_eq (bs : List UInt8) : refB bs = crcB bs := by
  unfold refB crcB
  apply BitVec.eq_of_getLsbD_eq
  intro i hi
  have hM : (bitsL bs ++ List.replicate 32 false).length = 8 * bs.length + 32 := by rw [List.length_append, bitsL_length]; simp
  rw [accB_bit _ 32 (Nat.le_refl _) i hi, decide_eq_true hi, Bool.true_and, Nat.sub_self, Nat.zero_add, BitVec.getLsbD_not, decide_eq_true hi, Bool.true_and]
  congr 1
  have h1 := div_inv (bitsL bs ++ List.replicate 32 false) (8 * bs.length) hM (8 * bs.length) (Nat.le_refl _) i
  rw [List.getD_eq_getElem?_getD, List.getElem?_drop, ← List.getD_eq_getElem?_getD, h1, regB_add bs _ bs.length (Nat.le_refl _), List.take_length]
  have h2 : (bitsL bs ++ List.replicate 32 false).getD (8 * bs.length + i) false = false := by
    rw [List.getD_eq_getElem?_getD, List.getElem?_append_right (by rw [bitsL_length]; omega), bitsL_length, List.getElem?_replicate]
    split <;> rfl
  rw [h2, Bool.false_xor]
end Go.Proofs.Ytbbbdphlljmjoaa.Mine
