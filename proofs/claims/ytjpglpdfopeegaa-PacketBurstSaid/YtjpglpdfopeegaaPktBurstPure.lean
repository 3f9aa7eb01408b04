/- The plain law of bursts: bytes with their sum behind, of which some bits within 32 in a row are changed, are none with their sum behind. No program in sight. -/
import Derived.Test.YtjpglpdfopeegaaPktPure
import Derived.Test.YtjpglpdfopeegaaBurstPure
namespace Go.Proofs.Ytjpglpdfopeegaa.Mine
open Go.RowKit
set_option linter.unusedVariables false
set_option linter.unusedSimpArgs false

theorem byte_low (y : BitVec 32) : byteV (UInt8.ofNat y.toNat) = lowB 8 y := by
  unfold byteV lowB
  rw [UInt8.toNat_ofNat']
theorem split8 (y : BitVec 32) : y = lowB 8 y ^^^ ((y >>> 8) <<< 8) := by
  apply BitVec.eq_of_getLsbD_eq
  intro i hi
  rw [BitVec.getLsbD_xor, lowB_bit 8 y i hi, BitVec.getLsbD_shiftLeft, BitVec.getLsbD_ushiftRight]
  by_cases h : i < 8
  · simp [h]
  · have : 8 + (i - 8) = i := by omega
    simp [h, hi, this]
theorem steps8 (y : BitVec 32) : stepsB 8 ((y >>> 8) <<< 8) = y >>> 8 := by
  rw [stepsB_low]
  · apply BitVec.eq_of_getLsbD_eq
    intro i hi
    rw [BitVec.getLsbD_ushiftRight, BitVec.getLsbD_shiftLeft, BitVec.getLsbD_ushiftRight]
    by_cases h : 8 + i < 32
    · have : 8 + (8 + i - 8) = 8 + i := by omega
      simp [h, this]
    · have hf : y.getLsbD (8 + i) = false := BitVec.getLsbD_of_ge _ _ (by omega)
      simp [h, BitVec.getLsbD_ushiftRight, hf]
  · intro i hi
    rw [BitVec.getLsbD_shiftLeft]
    simp [hi]
theorem byte_step (s y : BitVec 32) : stepsB 8 (s ^^^ y) = byteB s (UInt8.ofNat y.toNat) ^^^ (y >>> 8) := by
  rw [byteB_eq, byte_low]
  conv => lhs; rw [split8 y]
  rw [← BitVec.xor_assoc, stepsB_xor, steps8]
theorem shr_toNat (x : BitVec 32) (k : Nat) : (x >>> k).toNat = x.toNat / 2 ^ k := by rw [BitVec.toNat_ushiftRight, Nat.shiftRight_eq_div_pow]
theorem addB_le (s x : BitVec 32) : addB s (leB x) = stepsB 32 (s ^^^ x) := by
  have e1 : (x >>> 8).toNat = x.toNat / 256 := shr_toNat x 8
  have e2 : ((x >>> 8) >>> 8).toNat = x.toNat / 65536 := by rw [shr_toNat, e1]; omega
  have e3 : (((x >>> 8) >>> 8) >>> 8).toNat = x.toNat / 16777216 := by rw [shr_toNat, e2]; omega
  have e4 : (((x >>> 8) >>> 8) >>> 8) >>> 8 = 0#32 := by
    apply BitVec.eq_of_toNat_eq
    rw [shr_toNat, e3]
    have := x.isLt
    simp; omega
  rw [show stepsB 32 (s ^^^ x) = stepsB (8 + (8 + (8 + 8))) (s ^^^ x) from rfl, stepsB_add, stepsB_add, stepsB_add, byte_step, byte_step, byte_step, byte_step, e1, e2, e3, e4, BitVec.xor_zero]
  rfl
/-- the CRC of bytes with their sum behind is always the same -/
theorem residue (b : List UInt8) : crcB (sumL b) = ~~~(stepsB 32 4294967295#32) := by
  have h : ∀ s : BitVec 32, s ^^^ ~~~s = 4294967295#32 := fun s => by
    rw [not_eq_xor s, ← BitVec.xor_assoc, BitVec.xor_comm s, BitVec.xor_assoc, BitVec.xor_self, BitVec.xor_zero]
  unfold sumL crcB
  rw [addB_append, addB_le, h]
theorem burst_none (b b' : List UInt8) (bit : Nat) (x : BitVec 32) (hb : bit + 32 ≤ 8 * (sumL b).length) (hx : x ≠ 0#32) : sumL b' ≠ burL (sumL b) bit x 32 := by
  intro h
  refine burst_seen (sumL b) bit x hb hx ?_
  rw [← h, residue, residue]
theorem Pk.dec_burst (b : List UInt8) (bit : Nat) (x : BitVec 32) (hb : bit + 32 ≤ 8 * (sumL b).length) (hx : x ≠ 0#32) : Pk.dec (burL (sumL b) bit x 32) = (Pk.zero, 220) := by
  rcases Pk.dec_ok (burL (sumL b) bit x 32) with ⟨_, _, _, h, _⟩ | h
  · exact absurd h (burst_none b _ bit x hb hx)
  · exact h
theorem An.dec_burst (b : List UInt8) (bit : Nat) (x : BitVec 32) (hb : bit + 32 ≤ 8 * (sumL b).length) (hx : x ≠ 0#32) : An.dec (burL (sumL b) bit x 32) = (An.zero, 220) := by
  rcases An.dec_ok (burL (sumL b) bit x 32) with ⟨_, _, _, h⟩ | h
  · exact absurd h (burst_none b _ bit x hb hx)
  · exact h
end Go.Proofs.Ytjpglpdfopeegaa.Mine
