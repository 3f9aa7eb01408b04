/- The plain law of packets: what is encoded is decoded. No program in sight. -/
import Derived.Test.YtjpglpdfopeegaaPktDecJ
namespace Go.Proofs.Ytjpglpdfopeegaa.Mine
open Go.RowKit
set_option linter.unusedVariables false
set_option linter.unusedSimpArgs false

theorem leB_length (x : BitVec 32) : (leB x).length = 4 := rfl
theorem sumL_length (b : List UInt8) : (sumL b).length = b.length + 4 := by simp [sumL, leB_length]
theorem sumL_take (b : List UInt8) : (sumL b).take ((sumL b).length - 4) = b := by
  rw [sumL_length, Nat.add_sub_cancel]; simp [sumL]
theorem numB1 (x : UInt8) : numB [x] = x.toNat := by simp [numB]
theorem numB_big2 (n : Nat) (h : n < 65536) : numB (bigL n 2) = n := by
  have : bigL n 2 = [UInt8.ofNat (n / 2 ^ 8), UInt8.ofNat (n / 2 ^ 0)] := rfl
  rw [this]; simp [numB]; omega
theorem numB_big4 (n : Nat) (h : n < 4294967296) : numB (bigL n 4) = n := by
  have : bigL n 4 = [UInt8.ofNat (n / 2 ^ 24), UInt8.ofNat (n / 2 ^ 16), UInt8.ofNat (n / 2 ^ 8), UInt8.ofNat (n / 2 ^ 0)] := rfl
  rw [this]; simp [numB]; omega
theorem take_l {α : Type} (a b : List α) (n : Nat) (h : a.length = n) : (a ++ b).take n = a := by subst h; simp
theorem drop_l {α : Type} (a b : List α) (n : Nat) (h : a.length = n) : (a ++ b).drop n = b := by subst h; simp
theorem Man.right_eq {m : Man} (h : m.right = true) : 4 ≤ m.size ∧ m.size ≤ 4096 ∧ m.size % 4 = 0 ∧ 1 ≤ m.limit.toNat ∧ m.limit.toNat ≤ 32 := by
  unfold Man.right at h; exact of_decide_eq_true h
theorem ofNat_toNat8 (x : UInt8) : UInt8.ofNat x.toNat = x := by simp
/-- what a right packet has beside its kind's own things -/
theorem Pk.right_one {p : Pk} (h : p.right = true) (h1 : p.kind = 1) : p.index = 0 ∧ p.data = [] := by
  unfold Pk.right at h
  rw [if_pos h1] at h
  simp only [Bool.and_eq_true, beq_iff_eq] at h
  exact ⟨h.2.1, List.eq_nil_of_length_eq_zero h.2.2⟩
theorem Pk.right_two {p : Pk} (h : p.right = true) (h2 : p.kind = 2) : p.man = Man.zero ∧ 4 ≤ p.data.length ∧ p.data.length ≤ 64 := by
  unfold Pk.right at h
  rw [if_neg (by rw [h2]; decide), if_pos h2] at h
  simp only [Bool.and_eq_true, decide_eq_true_eq] at h
  exact ⟨h.1, h.2.2.1, h.2.2.2.1⟩
theorem Pk.right_else {p : Pk} (h : p.right = true) (h1 : p.kind ≠ 1) (h2 : p.kind ≠ 2) : p = Pk.of p.kind := by
  unfold Pk.right at h
  rw [if_neg h1, if_neg h2] at h
  unfold Pk.bare at h
  simp only [Bool.and_eq_true, decide_eq_true_eq, beq_iff_eq] at h
  obtain ⟨k, m, i, d⟩ := p
  have := List.eq_nil_of_length_eq_zero h.2.2.2
  simp only [Pk.of]
  dsimp only at h this ⊢
  rw [h.2.1, h.2.2.1, this]
theorem Pk.raw_enc (p : Pk) (hp : p.ok) (hr : p.right = true) : Pk.raw (sumL p.body) = p := by
  unfold Pk.raw
  rw [sumL_take]
  dsimp only
  by_cases h1 : p.kind = 1
  · obtain ⟨hi, hd⟩ := Pk.right_one hr h1
    have hb : p.body = [1] ++ (bigL p.man.number.toNat 4 ++ (bigL p.man.size.toNat 4 ++ (p.man.digest ++ [p.man.limit]))) := by unfold Pk.body; rw [if_pos h1]
    rw [hb, take_l [1] _ 1 rfl, drop_l [1] _ 1 rfl, take_l _ _ 4 (bigL_length _ _), drop_l _ _ 4 (bigL_length _ _), take_l _ _ 4 (bigL_length _ _), drop_l _ _ 4 (bigL_length _ _), take_l _ _ 32 hp.1.2.2.2.2, drop_l _ _ 32 hp.1.2.2.2.2]
    have a := hp.1.1
    have b := hp.1.2.1
    have c := hp.1.2.2.1
    have d := hp.1.2.2.2.1
    have e := hp.1.2.2.2.2
    rw [numB_big4 _ (by omega), numB_big4 _ (by omega), numB1, if_pos (by decide), e]
    obtain ⟨k, ⟨n, s, dg, l⟩, i, dt⟩ := p
    dsimp only at *
    subst h1 hi hd
    simp [numB1]
    omega
  · by_cases h2 : p.kind = 2
    · obtain ⟨hm, hd1, hd2⟩ := Pk.right_two hr h2
      have hb : p.body = [2] ++ (bigL p.index.toNat 2 ++ p.data) := by unfold Pk.body; rw [if_neg h1, if_pos h2]
      have a := hp.2.1
      have b := hp.2.2
      rw [hb, take_l [2] _ 1 rfl, drop_l [2] _ 1 rfl, take_l _ _ 2 (bigL_length _ _), drop_l _ _ 2 (bigL_length _ _), numB_big2 _ (by omega), numB1, if_neg (by decide), if_pos (by decide), List.take_of_length_le hd2]
      obtain ⟨k, m, i, dt⟩ := p
      dsimp only at *
      subst h2 hm
      simp; omega
    · have hb : p.body = [p.kind] := by unfold Pk.body; rw [if_neg h1, if_neg h2]
      rw [hb, show ([p.kind] : List UInt8).take 1 = [p.kind] from rfl, numB1, ofNat_toNat8, if_neg h1, if_neg h2]
      exact (Pk.right_else hr h1 h2).symm
theorem Pk.enc_right {p : Pk} (hr : p.right = true) : p.enc = (sumL p.body, 0) := by unfold Pk.enc; rw [if_pos hr]
theorem Pk.enc_wrong {p : Pk} (hr : p.right = false) : p.enc = ([], 220) := by unfold Pk.enc; rw [hr]; rfl
/-- what is encoded is decoded -/
theorem Pk.dec_enc (p : Pk) (hp : p.ok) (hr : p.right = true) : Pk.dec (sumL p.body) = (p, 0) := by
  unfold Pk.dec
  rw [Pk.raw_enc p hp hr, Pk.enc_right hr, if_pos ⟨rfl, rfl⟩]
/-- what is decoded without an error is right, and its bytes are those -/
theorem Pk.dec_ok (bs : List UInt8) : ((Pk.dec bs).2 = 0 ∧ (Pk.dec bs).1.ok ∧ (Pk.dec bs).1.right = true ∧ sumL (Pk.dec bs).1.body = bs ∧ (Pk.dec bs).1.data.length ≤ 1000) ∨ Pk.dec bs = (Pk.zero, 220) := by
  by_cases h : (Pk.raw bs).enc.2 = 0 ∧ (Pk.raw bs).enc.1 = bs
  · left
    have e : Pk.dec bs = (Pk.raw bs, 0) := by unfold Pk.dec; rw [if_pos h]
    rw [e]
    cases hr : (Pk.raw bs).right with
    | false => rw [Pk.enc_wrong hr] at h; exact absurd h.1 (by decide)
    | true =>
      rw [Pk.enc_right hr] at h
      exact ⟨rfl, (Pk.raw_ok bs).1, rfl, h.2, (Pk.raw_ok bs).2⟩
  · right
    unfold Pk.dec; rw [if_neg h]
theorem An.raw_enc (a : An) (ha : a.ok) (hr : a.right = true) : An.raw (sumL a.body) = a := by
  unfold An.raw
  rw [sumL_take]
  dsimp only
  obtain ⟨h0, h1, h2⟩ := ha
  obtain ⟨r1, r2, r3⟩ : a.kind.toNat ≤ 6 ∧ 0 ≤ a.err ∧ a.err ≤ 65535 := by unfold An.right at hr; exact of_decide_eq_true hr
  have hb : a.body = [a.kind] ++ (bigL a.err.toNat 2 ++ ([a.state] ++ bigL a.count 2)) := rfl
  rw [hb, take_l [a.kind] _ 1 rfl, drop_l [a.kind] _ 1 rfl, take_l _ _ 2 (bigL_length _ _), drop_l _ _ 2 (bigL_length _ _), take_l [a.state] _ 1 rfl, drop_l [a.state] _ 1 rfl, List.take_of_length_le (by rw [bigL_length]; exact Nat.le_refl _), numB1, numB1, numB_big2 _ (by omega), numB_big2 _ (by omega), ofNat_toNat8, ofNat_toNat8]
  obtain ⟨k, e, s, n⟩ := a
  dsimp only at *
  congr 1
  omega
theorem An.enc_right {a : An} (hr : a.right = true) : a.enc = (sumL a.body, 0) := by unfold An.enc; rw [if_pos hr]
theorem An.enc_wrong {a : An} (hr : a.right = false) : a.enc = ([], 220) := by unfold An.enc; rw [hr]; rfl
theorem An.dec_enc (a : An) (ha : a.ok) (hr : a.right = true) : An.dec (sumL a.body) = (a, 0) := by
  unfold An.dec
  rw [An.raw_enc a ha hr, An.enc_right hr, if_pos ⟨rfl, rfl⟩]
theorem An.dec_ok (bs : List UInt8) : ((An.dec bs).2 = 0 ∧ (An.dec bs).1.ok ∧ (An.dec bs).1.right = true ∧ sumL (An.dec bs).1.body = bs) ∨ An.dec bs = (An.zero, 220) := by
  by_cases h : (An.raw bs).enc.2 = 0 ∧ (An.raw bs).enc.1 = bs
  · left
    have e : An.dec bs = (An.raw bs, 0) := by unfold An.dec; rw [if_pos h]
    rw [e]
    cases hr : (An.raw bs).right with
    | false => rw [An.enc_wrong hr] at h; exact absurd h.1 (by decide)
    | true =>
      rw [An.enc_right hr] at h
      exact ⟨rfl, An.raw_ok bs, rfl, h.2⟩
  · right
    unfold An.dec; rw [if_neg h]
end Go.Proofs.Ytjpglpdfopeegaa.Mine
