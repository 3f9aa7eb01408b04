/- A burst of changed bits is always seen by the CRC: a plain law. -/
import Derived.Test.YtjpglpdfopeegaaCrcPureOf
namespace Go.Proofs.Ytjpglpdfopeegaa.Mine
open Go.RowKit
set_option linter.unusedVariables false

/-! the plain law -/
def bitV (r : Nat) : UInt8 := UInt8.ofNat (2 ^ r)
def flipL (l : List UInt8) (p : Nat) : List UInt8 := l.set (p / 8) (l.getD (p / 8) 0 ^^^ bitV (p % 8))
def burL (b : List UInt8) (bit : Nat) (x : BitVec 32) : Nat → List UInt8
  | 0 => b
  | k + 1 => if (x >>> k) &&& 1#32 = 1#32 then flipL (burL b bit x k) (bit + k) else burL b bit x k
theorem flipL_length (l : List UInt8) (p : Nat) : (flipL l p).length = l.length := by simp [flipL]
theorem burL_length (b : List UInt8) (bit : Nat) (x : BitVec 32) (k : Nat) : (burL b bit x k).length = b.length := by
  induction k with
  | zero => rfl
  | succ k ih => rw [burL]; split <;> simp [flipL_length, ih]
theorem byteV_bit : ∀ r, r < 8 → byteV (bitV r) = 1#32 <<< r := by decide
theorem stepsB_shl (r : Nat) (h : r < 32) : stepsB r (1#32 <<< r) = 1#32 := by
  rw [stepsB_low]
  · apply BitVec.eq_of_getLsbD_eq
    intro i hi
    rw [BitVec.getLsbD_ushiftRight, BitVec.getLsbD_one]
    by_cases e : r + i < 32
    · rw [one_shl_bit _ _ e]
      by_cases h0 : i = 0
      · subst h0; simp
      · simp [h0]
    · rw [BitVec.getLsbD_of_ge _ _ (by omega)]
      have : ¬ i = 0 := by omega
      simp [this]
  · intro i hi
    rw [one_shl_bit _ _ (by omega)]
    simp; omega
theorem addB_flip (s : BitVec 32) (l : List UInt8) (p : Nat) (hp : p < 8 * l.length) : addB s (flipL l p) = addB s l ^^^ stepsB (8 * l.length - p) 1#32 := by
  have hq : p / 8 < l.length := by omega
  have hr : p % 8 < 8 := Nat.mod_lt _ (by omega)
  have hd := Nat.div_add_mod p 8
  generalize p / 8 = q at *
  have hl : l = l.take q ++ l[q] :: l.drop (q + 1) := by
    rw [← List.drop_eq_getElem_cons hq, List.take_append_drop]
  have hf : flipL l p = l.take q ++ (l[q] ^^^ bitV (p % 8)) :: l.drop (q + 1) := by
    unfold flipL
    rw [show p / 8 = q by omega, List.set_eq_take_append_cons_drop, if_pos hq, List.getD_eq_getElem?_getD, List.getElem?_eq_getElem hq]; rfl
  rw [hf]
  conv => rhs; rw [hl]
  rw [addB_append, addB_append, addB_cons, addB_cons, byteB_eq, byteB_eq, byteV_xor, ← BitVec.xor_assoc, stepsB_xor, addB_xor, byteV_bit _ hr]
  congr 1
  rw [List.length_append, List.length_cons, List.length_take, List.length_drop, ← stepsB_add]
  have e1 : 8 * (l.length - (q + 1)) + 8 = (8 * (min q l.length + (l.length - (q + 1) + 1)) - p) + p % 8 := by omega
  rw [e1, stepsB_add, stepsB_shl _ (by omega)]
theorem addB_bur (s : BitVec 32) (b : List UInt8) (bit : Nat) (x : BitVec 32) (hb : bit + 32 ≤ 8 * b.length) (k : Nat) (hk : k ≤ 32) :
    addB s (burL b bit x k) = addB s b ^^^ ofB (fun i => stepsB (8 * b.length - bit) (1#32 <<< i)) x k := by
  induction k with
  | zero => simp [burL, ofB]
  | succ k ih =>
    rw [burL, ofB]
    by_cases h : (x >>> k) &&& 1#32 = 1#32
    · rw [if_pos h, if_pos h, addB_flip _ _ _ (by rw [burL_length]; omega), ih (by omega), burL_length, BitVec.xor_assoc]
      congr 2
      have : 8 * b.length - bit = (8 * b.length - (bit + k)) + k := by omega
      rw [this, stepsB_add, stepsB_shl _ (by omega)]
    · rw [if_neg h, if_neg h, ih (by omega)]
theorem stepB_inj (x : BitVec 32) (h : stepB x = 0#32) : x = 0#32 := by
  rw [stepB_eq] at h
  cases h0 : x.getLsbD 0
  · rw [h0] at h
    apply BitVec.eq_of_getLsbD_eq
    intro i hi
    rw [BitVec.getLsbD_zero]
    by_cases e : i = 0
    · subst e; exact h0
    · have := congrArg (fun z => z.getLsbD (i - 1)) h
      simp only [Bool.false_eq_true, if_false, BitVec.getLsbD_ushiftRight, BitVec.getLsbD_zero] at this
      rwa [show 1 + (i - 1) = i by omega] at this
  · rw [h0] at h
    have := congrArg (fun z => z.getLsbD 31) h
    simp only [if_true, BitVec.getLsbD_xor, BitVec.getLsbD_ushiftRight, BitVec.getLsbD_zero] at this
    rw [BitVec.getLsbD_of_ge _ _ (by omega)] at this
    exact absurd this (by decide)
theorem stepsB_inj (n : Nat) (x : BitVec 32) (h : stepsB n x = 0#32) : x = 0#32 := by
  induction n with
  | zero => exact h
  | succ n ih => exact ih (stepB_inj _ h)
/-- THE LAW: a burst is seen. -/
theorem burst_seen (b : List UInt8) (bit : Nat) (x : BitVec 32) (hb : bit + 32 ≤ 8 * b.length) (hx : x ≠ 0#32) : crcB (burL b bit x 32) ≠ crcB b := by
  unfold crcB
  rw [addB_bur _ _ _ _ hb 32 (Nat.le_refl _), ofB_eq (8 * b.length - bit) _ (fun _ _ => rfl)]
  intro h
  apply hx
  apply stepsB_inj (8 * b.length - bit)
  rw [not_eq_xor, not_eq_xor] at h
  have h2 := congrArg (fun z => addB 4294967295#32 b ^^^ (4294967295#32 ^^^ z)) h
  simp only [← BitVec.xor_assoc, BitVec.xor_self, BitVec.zero_xor] at h2
  exact h2

/-! the walk -/
theorem shl_bit (r : Nat) (h : r < 8) : (2 : Int) ^ r % 256 = ((bitV r).toNat : Int) := by
  unfold bitV
  rw [UInt8.toNat_ofNat']
  simp
end Go.Proofs.Ytjpglpdfopeegaa.Mine
