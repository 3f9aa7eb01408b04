/- Plain laws of the CRC that the program computes: it is linear, parts are joined by shifting, a burst of 32 bits is always seen. No program in sight. No condition but those of each theorem. -/
import Derived.Test.YtjpglpdfopeegaaCrcOf
namespace Go.Proofs.Ytjpglpdfopeegaa.Mine

theorem and1_eq (x : BitVec 32) : x &&& 1#32 = if x.getLsbD 0 then 1#32 else 0#32 := by
  apply BitVec.eq_of_getLsbD_eq
  intro i hi
  by_cases h : i = 0
  · subst h
    rw [BitVec.getLsbD_and]
    cases hx : x.getLsbD 0 <;> rfl
  · rw [BitVec.getLsbD_and, BitVec.getLsbD_one]
    cases hx : x.getLsbD 0 <;> simp [BitVec.getLsbD_one, h]
theorem stepB_eq (x : BitVec 32) : stepB x = if x.getLsbD 0 then (x >>> 1) ^^^ 3988292384#32 else x >>> 1 := by
  unfold stepB
  rw [and1_eq]
  cases hx : x.getLsbD 0
  · simp
  · simp only [if_true]
    congr 1
theorem stepB_xor (x y : BitVec 32) : stepB (x ^^^ y) = stepB x ^^^ stepB y := by
  simp only [stepB_eq, BitVec.getLsbD_xor, BitVec.ushiftRight_xor_distrib]
  cases x.getLsbD 0 <;> cases y.getLsbD 0 <;> simp
  · ac_rfl
  · ac_rfl
  · rw [show ∀ a b p : BitVec 32, (a ^^^ p) ^^^ (b ^^^ p) = (a ^^^ b) ^^^ (p ^^^ p) from fun a b p => by ac_rfl]
    simp
theorem stepB_zero : stepB 0#32 = 0#32 := by decide
theorem stepsB_xor (n : Nat) (x y : BitVec 32) : stepsB n (x ^^^ y) = stepsB n x ^^^ stepsB n y := by
  induction n with
  | zero => rfl
  | succ n ih => rw [stepsB, ih, stepB_xor]; rfl
theorem stepsB_zero (n : Nat) : stepsB n 0#32 = 0#32 := by
  induction n with
  | zero => rfl
  | succ n ih => rw [stepsB, ih, stepB_zero]
theorem stepsB_add (m n : Nat) (x : BitVec 32) : stepsB (m + n) x = stepsB m (stepsB n x) := by
  induction m with
  | zero => rw [Nat.zero_add]; rfl
  | succ m ih => rw [Nat.succ_add, stepsB, ih]; rfl
theorem stepB_even (x : BitVec 32) (h : x.getLsbD 0 = false) : stepB x = x >>> 1 := by
  rw [stepB_eq, h]; rfl
theorem stepsB_low (n : Nat) (x : BitVec 32) (h : ∀ i, i < n → x.getLsbD i = false) : stepsB n x = x >>> n := by
  induction n with
  | zero => simp [stepsB]
  | succ n ih =>
    rw [stepsB, ih fun i hi => h i (by omega), stepB_even]
    · apply BitVec.eq_of_toNat_eq
      rw [BitVec.toNat_ushiftRight, BitVec.toNat_ushiftRight, BitVec.toNat_ushiftRight, Nat.shiftRight_add]
    · simpa using h n (by omega)
theorem nib_eq (s : BitVec 32) : nib s = stepsB 4 s := by
  have hs : s = (s &&& ~~~15#32) ^^^ (s &&& 15#32) := by
    apply BitVec.eq_of_getLsbD_eq
    intro i hi
    simp only [BitVec.getLsbD_xor, BitVec.getLsbD_and, BitVec.getLsbD_not, hi, decide_true, Bool.true_and]
    cases s.getLsbD i <;> cases (15#32).getLsbD i <;> rfl
  have h15 : ∀ i, i < 4 → (15#32).getLsbD i = true := by decide
  have h16 : ∀ i, i < 28 → (15#32).getLsbD (4 + i) = false := by decide
  have h1 : stepsB 4 (s &&& ~~~15#32) = s >>> 4 := by
    rw [stepsB_low]
    · apply BitVec.eq_of_getLsbD_eq
      intro i hi
      simp only [BitVec.getLsbD_ushiftRight, BitVec.getLsbD_and, BitVec.getLsbD_not]
      by_cases h : i < 28
      · rw [h16 i h, decide_eq_true (show 4 + i < 32 by omega)]; simp
      · rw [decide_eq_false (show ¬ 4 + i < 32 by omega), BitVec.getLsbD_of_ge _ _ (by omega)]; simp
    · intro i hi
      simp only [BitVec.getLsbD_and, BitVec.getLsbD_not, h15 i hi]; simp
  unfold nib
  conv => rhs; rw [hs]
  rw [stepsB_xor, h1]
/-- a byte, as the bits that it has -/
def byteV (x : UInt8) : BitVec 32 := BitVec.ofNat 32 x.toNat
theorem byteB_eq (s : BitVec 32) (x : UInt8) : byteB s x = stepsB 8 (s ^^^ byteV x) := by
  unfold byteB
  rw [nib_eq, nib_eq]
  exact (stepsB_add 4 4 _).symm
theorem byteV_xor (x y : UInt8) : byteV (x ^^^ y) = byteV x ^^^ byteV y := by
  unfold byteV
  apply BitVec.eq_of_toNat_eq
  have h1 := x.toNat_lt
  have h2 := y.toNat_lt
  have h3 := (x ^^^ y).toNat_lt
  rw [BitVec.toNat_xor, BitVec.toNat_ofNat, BitVec.toNat_ofNat, BitVec.toNat_ofNat, Nat.mod_eq_of_lt (by omega), Nat.mod_eq_of_lt (by omega), Nat.mod_eq_of_lt (by omega), UInt8.toNat_xor]

theorem addB_nil (s : BitVec 32) : addB s [] = s := rfl
theorem addB_cons (s : BitVec 32) (x : UInt8) (l : List UInt8) : addB s (x :: l) = addB (byteB s x) l := rfl
theorem addB_append (s : BitVec 32) (p q : List UInt8) : addB s (p ++ q) = addB (addB s p) q := List.foldl_append
theorem addB_xor (l : List UInt8) : ∀ s d : BitVec 32, addB (s ^^^ d) l = addB s l ^^^ stepsB (8 * l.length) d := by
  induction l with
  | nil => intro s d; rfl
  | cons x l ih =>
    intro s d
    rw [addB_cons, addB_cons, byteB_eq, byteB_eq, show s ^^^ d ^^^ byteV x = (s ^^^ byteV x) ^^^ d by ac_rfl, stepsB_xor, ih, List.length_cons, Nat.mul_succ, stepsB_add]
theorem not_xor (x y : BitVec 32) : ~~~(x ^^^ y) = ~~~x ^^^ y := by
  apply BitVec.eq_of_getLsbD_eq
  intro i hi
  simp only [BitVec.getLsbD_xor, BitVec.getLsbD_not, hi, decide_true, Bool.true_and]
  cases x.getLsbD i <;> cases y.getLsbD i <;> rfl
theorem not_eq_xor (x : BitVec 32) : ~~~x = 4294967295#32 ^^^ x := by
  apply BitVec.eq_of_getLsbD_eq
  intro i hi
  have h : ∀ i, i < 32 → (4294967295#32).getLsbD i = true := by decide
  simp only [BitVec.getLsbD_xor, BitVec.getLsbD_not, hi, decide_true, Bool.true_and, h i hi, Bool.true_xor]
/-- THE LAW OF JOINING -/
theorem crcB_append (p q : List UInt8) : crcB (p ++ q) = stepsB (8 * q.length) (crcB p) ^^^ crcB q := by
  unfold crcB
  rw [addB_append]
  have e : addB 4294967295#32 p = 4294967295#32 ^^^ ~~~(addB 4294967295#32 p) := by
    rw [not_eq_xor, ← BitVec.xor_assoc, BitVec.xor_self, BitVec.zero_xor]
  rw [e, addB_xor, not_xor, BitVec.xor_comm, ← e]

/-! the matrices -/
theorem bit_shr (x : BitVec 32) (k : Nat) : ((x >>> k) &&& 1#32 = 1#32) ↔ x.getLsbD k = true := by
  rw [and1_eq]
  simp only [BitVec.getLsbD_ushiftRight, Nat.add_zero]
  cases x.getLsbD k <;> simp
def lowB (k : Nat) (x : BitVec 32) : BitVec 32 := BitVec.ofNat 32 (x.toNat % 2 ^ k)
theorem lowB_bit (k : Nat) (x : BitVec 32) (i : Nat) (hi : i < 32) : (lowB k x).getLsbD i = (decide (i < k) && x.getLsbD i) := by
  unfold lowB
  rw [BitVec.getLsbD_ofNat, Nat.testBit_mod_two_pow]
  simp [hi, BitVec.getLsbD]
theorem one_shl_bit (k i : Nat) (hi : i < 32) : (1#32 <<< k).getLsbD i = decide (i = k) := by
  rw [BitVec.getLsbD_shiftLeft, BitVec.getLsbD_one]
  by_cases h : i = k
  · subst h; simp [hi]
  · simp only [h, decide_false]
    by_cases h2 : i < k
    · simp [h2]
    · have : ¬ (i - k = 0) := by omega
      simp [this]
theorem lowB_succ (k : Nat) (x : BitVec 32) : lowB (k + 1) x = if x.getLsbD k then lowB k x ^^^ (1#32 <<< k) else lowB k x := by
  apply BitVec.eq_of_getLsbD_eq
  intro i hi
  rw [lowB_bit _ _ _ hi]
  by_cases e : i = k
  · subst e
    cases hx : x.getLsbD i
    · rw [if_neg (by simp), lowB_bit _ _ _ hi]; simp [hx]
    · rw [if_pos rfl, BitVec.getLsbD_xor, lowB_bit _ _ _ hi, one_shl_bit _ _ hi]; simp
  · have h1 : decide (i < k + 1) = decide (i < k) := by
      by_cases h : i < k
      · rw [decide_eq_true h, decide_eq_true (by omega)]
      · rw [decide_eq_false h, decide_eq_false (by omega)]
    rw [h1]
    split
    · rw [BitVec.getLsbD_xor, lowB_bit _ _ _ hi, one_shl_bit _ _ hi]; simp [e]
    · rw [lowB_bit _ _ _ hi]
theorem lowB_all (x : BitVec 32) : lowB 32 x = x := by
  apply BitVec.eq_of_getLsbD_eq
  intro i hi
  rw [lowB_bit _ _ _ hi, decide_eq_true hi, Bool.true_and]
theorem ofB_low (n : Nat) (m : Nat → BitVec 32) (hm : ∀ i, i < 32 → m i = stepsB n (1#32 <<< i)) (x : BitVec 32) (k : Nat) (hk : k ≤ 32) : ofB m x k = stepsB n (lowB k x) := by
  induction k with
  | zero =>
    have : lowB 0 x = 0#32 := by unfold lowB; simp [Nat.mod_one]
    rw [this, stepsB_zero]; rfl
  | succ k ih =>
    rw [ofB, lowB_succ, ih (by omega)]
    by_cases h : x.getLsbD k = true
    · rw [if_pos ((bit_shr x k).2 h), if_pos h, stepsB_xor, hm k (by omega)]
    · rw [if_neg (fun h' => h ((bit_shr x k).1 h')), if_neg h]
theorem ofB_eq (n : Nat) (m : Nat → BitVec 32) (hm : ∀ i, i < 32 → m i = stepsB n (1#32 <<< i)) (x : BitVec 32) : ofB m x 32 = stepsB n x := by
  rw [ofB_low n m hm x 32 (Nat.le_refl _), lowB_all]
theorem addB3 (s : BitVec 32) (a b c o : List UInt8) (k : Nat) (ha : k ≤ a.length) (hb : k ≤ b.length) (hc : k ≤ c.length) (ho : k ≤ o.length)
    (h : ∀ i (h0 : i < k), o[i] = a[i] ^^^ b[i] ^^^ c[i]) : addB s (o.take k) = addB s (a.take k) ^^^ addB s (b.take k) ^^^ addB s (c.take k) := by
  induction k with
  | zero =>
    simp only [List.take_zero, addB_nil]
    rw [BitVec.xor_self, BitVec.zero_xor]
  | succ k ih =>
    rw [addB_take _ _ _ (by omega), addB_take _ _ _ (by omega), addB_take _ _ _ (by omega), addB_take _ _ _ (by omega), ih (by omega) (by omega) (by omega) (by omega) fun i h0 => h i (by omega), h k (by omega)]
    simp only [byteB_eq, byteV_xor, ← stepsB_xor]
    congr 1
    ac_rfl
theorem crcB3 (a b c o : List UInt8) (k : Nat) (ha : k ≤ a.length) (hb : k ≤ b.length) (hc : k ≤ c.length) (ho : o.length = k)
    (h : ∀ i (h0 : i < k), o[i] = a[i] ^^^ b[i] ^^^ c[i]) : crcB o = crcB (a.take k) ^^^ crcB (b.take k) ^^^ crcB (c.take k) := by
  have h := addB3 4294967295#32 a b c o k ha hb hc (by omega) h
  rw [List.take_of_length_le (by omega)] at h
  unfold crcB
  rw [h, not_eq_xor, not_eq_xor, not_eq_xor, not_eq_xor]
  rw [show ∀ z p q r : BitVec 32, z ^^^ p ^^^ (z ^^^ q) ^^^ (z ^^^ r) = (z ^^^ z) ^^^ (z ^^^ (p ^^^ q ^^^ r)) from fun z p q r => by ac_rfl]
  rw [BitVec.xor_self, BitVec.zero_xor]
end Go.Proofs.Ytjpglpdfopeegaa.Mine
