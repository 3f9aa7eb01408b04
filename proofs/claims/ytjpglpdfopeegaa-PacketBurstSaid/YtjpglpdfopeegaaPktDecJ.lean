/- What packet.Decode computes, joined of its three walks. Condition: that the bytes lie there. -/
import Derived.Test.YtjpglpdfopeegaaPktDecO
import Derived.Test.YtjpglpdfopeegaaPktDecC
import Derived.Test.YtjpglpdfopeegaaPktDecB
namespace Go.Proofs.Ytjpglpdfopeegaa.Mine
open Go.RowKit
set_option linter.unusedVariables false
set_option linter.unusedSimpArgs false

theorem numB_lt_take (l : List UInt8) (k : Nat) : numB (l.take k) < 256 ^ k :=
  Nat.lt_of_lt_of_le (numB_lt _) (Nat.pow_le_pow_right (by decide) (by simp; omega))
theorem Pk.raw_ok (bs : List UInt8) : (Pk.raw bs).ok ∧ (Pk.raw bs).data.length ≤ 1000 := by
  unfold Pk.raw
  have n4 : ∀ l : List UInt8, numB (l.take 4) < 4294967296 := fun l => numB_lt_take l 4
  have n2 : ∀ l : List UInt8, numB (l.take 2) < 65536 := fun l => numB_lt_take l 2
  dsimp only
  split
  · refine ⟨⟨⟨Int.natCast_nonneg _, ?_, Int.natCast_nonneg _, ?_, ?_⟩, Int.le_refl 0, (by decide : (0 : Int) < 65536)⟩, Nat.zero_le _⟩
    · have := n4 ((bs.take (bs.length - 4)).drop 1); dsimp only; omega
    · have := n4 (((bs.take (bs.length - 4)).drop 1).drop 4); dsimp only; omega
    · simp; omega
  · split
    · refine ⟨⟨Man.zero_ok, Int.natCast_nonneg _, ?_⟩, ?_⟩
      · have := n2 ((bs.take (bs.length - 4)).drop 1); dsimp only; omega
      · simp; omega
    · exact ⟨Pk.of_ok _, Nat.zero_le _⟩
theorem decode_any (A : Option Addr) (c : Nat) (bs : List UInt8) (w : World) (hB : Byt w A bs) (hc : bs.length ≤ c) (hcm : c ≤ maxLen) :
    Calls Try.prog 11 #[.slice A bs.length c] w (DecPost (Pk.dec bs) w) := by
  obtain ⟨h1, h2⟩ := Pk.raw_ok bs
  have hk : numB ((bs.take (bs.length - 4)).take 1) < 256 := numB_lt_take _ 1
  have hkk : numB ((bs.take (bs.length - 4)).take 1) = (UInt8.ofNat (numB ((bs.take (bs.length - 4)).take 1))).toNat := by simp; omega
  have heq : ∀ k : UInt8, UInt8.ofNat (numB ((bs.take (bs.length - 4)).take 1)) = k ↔ numB ((bs.take (bs.length - 4)).take 1) = k.toNat := fun k => by
    rw [← UInt8.toNat_inj]; omega
  have hraw : Pk.raw bs = Pk.raw bs := rfl
  by_cases e1 : UInt8.ofNat (numB ((bs.take (bs.length - 4)).take 1)) = 1
  · refine dec_begin A c bs w hB hc hcm _ h1 rfl h2 _ hkk (by rw [e1]; rfl) ?_
    unfold Pk.raw; dsimp only; rw [if_pos e1, e1]
  · have b1 : (((UInt8.ofNat (numB ((bs.take (bs.length - 4)).take 1))).toNat : Int) == 1) = false := by
      rw [beq_eq_false_iff_ne]; intro h; exact e1 (UInt8.toNat_inj.1 (by simp; omega))
    by_cases e2 : UInt8.ofNat (numB ((bs.take (bs.length - 4)).take 1)) = 2
    · refine dec_chunk A c bs w hB hc hcm _ h1 rfl h2 _ hkk b1 (by rw [e2]; rfl) ?_
      unfold Pk.raw; dsimp only; rw [if_neg e1, if_pos e2, e2]
    · refine dec_other A c bs w hB hc hcm _ h1 rfl h2 _ hkk b1 ?_ ?_
      · rw [beq_eq_false_iff_ne]; intro h; exact e2 (UInt8.toNat_inj.1 (by simp; omega))
      · unfold Pk.raw; dsimp only; rw [if_neg e1, if_neg e2]
end Go.Proofs.Ytjpglpdfopeegaa.Mine
