/- CellShifts: to shift to the left is to multiply, to the right to divide, by a power of two; both ways the bits that are left are as they were: the plain law and a walk over the law's code. Conditions: that the numbers fit their kind. -/
import Derived.Test.YtmmnakapcbkioaaLawCellSums
namespace Go.Proofs.Ytmmnakapcbkioaa.Mine
open Go.RowKit
set_option linter.unusedVariables false

/-! plain laws of powers of two -/
theorem pow_lt (n : Nat) (hn : n < 32) : 0 < (2 : Int) ^ n ∧ (2 : Int) ^ n < 4294967296 ∧ (2 : Int) ^ n * (2 : Int) ^ (32 - n) = 4294967296 ∧ 0 < (2 : Int) ^ (32 - n) ∧ (2 : Int) ^ (32 - n) ≤ 4294967296 := by
  have h1 : 0 < 2 ^ n := Nat.two_pow_pos n
  have h2 : 2 ^ n ≤ 2 ^ 31 := Nat.pow_le_pow_right (by omega) (by omega)
  have h3 : 2 ^ n * 2 ^ (32 - n) = 2 ^ 32 := by rw [← Nat.pow_add]; congr 1; omega
  have h4 : 0 < 2 ^ (32 - n) := Nat.two_pow_pos _
  have h5 : 2 ^ (32 - n) ≤ 2 ^ 32 := Nat.pow_le_pow_right (by omega) (by omega)
  have c : ∀ k : Nat, (2 : Int) ^ k = ((2 ^ k : Nat) : Int) := fun k => by simp
  rw [c, c, ← Int.natCast_mul, h3]
  omega
theorem shlI_lt (x : Int) (n : Nat) (hn : n < 32) : shlI x n = x * 2 ^ n % 4294967296 := by
  unfold shlI; rw [Int.toNat_natCast, Nat.min_eq_left (by omega)]
theorem shrI_lt (x : Int) (n : Nat) (hn : n < 32) : shrI x n = x / 2 ^ n := by
  unfold shrI; rw [Int.toNat_natCast, Nat.min_eq_left (by omega)]
theorem back_eq (x : Int) (n : Nat) (hn : n < 32) : x * 2 ^ n % 4294967296 / 2 ^ n = x % 2 ^ (32 - n) := by
  obtain ⟨h1, _, h3, _, _⟩ := pow_lt n hn
  rw [← h3, Int.mul_comm x, Int.mul_emod_mul_of_pos _ _ h1, Int.mul_ediv_cancel_left _ (by omega)]
theorem forth_eq (x : Int) (n : Nat) (hn : n < 32) (hx : In32 x) : x / 2 ^ n * 2 ^ n % 4294967296 = x - x % 2 ^ n := by
  obtain ⟨h1, _, _, _, _⟩ := pow_lt n hn
  have h := Int.emod_add_mul_ediv x (2 ^ n)
  rw [Int.mul_comm] at h
  have h2 := Int.emod_nonneg x (show (2 : Int) ^ n ≠ 0 by omega)
  have h3 := Int.ediv_nonneg hx.1 (show 0 ≤ (2 : Int) ^ n by omega)
  have h4 := Int.mul_nonneg h3 (show 0 ≤ (2 : Int) ^ n by omega)
  unfold In32 at hx
  generalize x / 2 ^ n * 2 ^ n = y at *
  generalize x % 2 ^ n = z at *
  omega
theorem u32_small (n : Int) (h0 : 0 ≤ n) (h1 : n < 2 ^ 32) : IntKind.u32.wrap n = n := by rw [IntKind.wrap_u32]; omega
theorem and_mask (x : Int) (k : Nat) (hk : k ≤ 32) (hx : In32 x) : bits .and .u32 x ((2 : Int) ^ k - 1) = x % 2 ^ k :=
  bits_mask .u32 32 (by decide) u32_small k hk x hx.1 (by have := hx.2; omega)
theorem andNot_mask (x : Int) (k : Nat) (hk : k < 32) (hx : In32 x) : bits .andNot .u32 x ((2 : Int) ^ k - 1) = x - x % 2 ^ k := by
  have h := and_mask x k (by omega) hx
  have hx0 := hx.1
  have hx1 := hx.2
  have h1 := (pow_lt k hk).1
  have hm0 := Int.emod_nonneg x (show (2 : Int) ^ k ≠ 0 by omega)
  generalize (2 : Int) ^ k - 1 = m at h
  unfold bits at h ⊢
  have e : ∀ z : BitVec 32, IntKind.u32.wrap (z.toNat : Int) = (z.toNat : Int) := fun z => u32_small _ (by omega) (by have := z.isLt; omega)
  have h' : IntKind.u32.wrap ((BitVec.ofInt 32 x &&& BitVec.ofInt 32 m).toNat : Int) = x % 2 ^ k := h
  show IntKind.u32.wrap ((BitVec.ofInt 32 x &&& ~~~(BitVec.ofInt 32 m)).toNat : Int) = _
  rw [e] at h' ⊢
  have hX : ((BitVec.ofInt 32 x).toNat : Int) = x := by
    rw [BitVec.toNat_ofInt]; omega
  generalize BitVec.ofInt 32 x = X at *
  generalize BitVec.ofInt 32 m = M at *
  have hd : X &&& M &&& (X &&& ~~~M) = 0#32 := by
    apply BitVec.eq_of_getLsbD_eq
    intro i hi
    simp only [BitVec.getLsbD_and, BitVec.getLsbD_not, hi, decide_true, Bool.true_and, BitVec.getLsbD_zero]
    cases X.getLsbD i <;> cases M.getLsbD i <;> rfl
  have ho : X &&& M ||| X &&& ~~~M = X := by
    apply BitVec.eq_of_getLsbD_eq
    intro i hi
    simp only [BitVec.getLsbD_or, BitVec.getLsbD_and, BitVec.getLsbD_not, hi, decide_true, Bool.true_and]
    cases X.getLsbD i <;> cases M.getLsbD i <;> rfl
  have ha := BitVec.add_eq_or_of_and_eq_zero _ _ hd
  rw [ho] at ha
  have hn := congrArg BitVec.toNat ha
  rw [BitVec.toNat_add] at hn
  have l1 := (X &&& M).isLt
  have l2 := (X &&& ~~~M).isLt
  have l3 := X.isLt
  have l4 : (X &&& M).toNat ≤ X.toNat := by rw [BitVec.toNat_and]; exact Nat.and_le_left
  omega

set_option maxRecDepth 100000 in
set_option maxHeartbeats 4000000 in
theorem shifts_lt (x : Int) (n : Nat) (hx : In32 x) (hn : n < 32) (w : World) :
    Calls Try.prog 4 #[.int .u32 x, .int .u32 (n : Int)] w fun e w' => e = .returned (.bool true) ∧ Below w.heap.size w w' := by
  obtain ⟨x0, x1⟩ := hx
  obtain ⟨L, hL⟩ : ∃ L, L = shlI x n := ⟨_, rfl⟩
  obtain ⟨R, hR⟩ : ∃ R, R = shrI x n := ⟨_, rfl⟩
  obtain ⟨P, hP⟩ : ∃ P, P = (2 : Int) ^ n % 4294967296 := ⟨_, rfl⟩
  obtain ⟨p1, p2, p3, p4, p5⟩ := pow_lt n hn
  have hL0 : 0 ≤ L ∧ L < 4294967296 := by rw [hL, shlI_lt x n hn]; omega
  have hR0 : 0 ≤ R ∧ R < 4294967296 := by
    rw [hR, shrI_lt x n hn]
    exact ⟨Int.ediv_nonneg x0 (by omega), Int.lt_of_le_of_lt (Int.ediv_le_self _ x0) x1⟩
  have hP2 : P = 2 ^ n := by rw [hP]; omega
  have hP0 : 0 < P ∧ P < 4294967296 := by omega
  have HP2 := Lib.hid hP2
  clear hP2 p1 p2 p3 p4 p5
  obtain ⟨hL0, hL1⟩ := hL0
  obtain ⟨hR0, hR1⟩ := hR0
  obtain ⟨hP0, hP1⟩ := hP0
  have c1 := fun w : World => shl_any x n x0 x1 (by omega) (by omega) w
  have c2 := fun w : World => shr_any x n x0 x1 (by omega) (by omega) w
  rw [← hL] at c1
  rw [← hR] at c2
  have hP' := hP.symm
  have C1 := Lib.hid c1
  have C2 := Lib.hid c2
  have HL := Lib.hid hL
  have HR := Lib.hid hR
  have HP := Lib.hid hP
  clear c1 c2 hL hR hP
  go_enter Try.func4, Try.ntmps4
  go_wp2_with fail
  refine (C1.out _).mono ?_
  rintro _ w1 ⟨rfl, rfl⟩
  go_wp2_with fail
  refine (C2.out _).mono ?_
  rintro _ w1 ⟨rfl, rfl⟩
  go_wp2_with fail
  refine (product_ex x P ⟨x0, x1⟩ ⟨by omega, hP1⟩ _).mono ?_
  rintro _ w1 ⟨low, high, rfl, hlo, hhi, HLo, rfl⟩
  have k1 : (L == low) = true := by
    apply eq_true'
    have := HLo.out
    have hl := HL.out
    rw [shlI_lt x n hn, ← HP2.out, ← this] at hl
    unfold In32 at hlo
    omega
  go_wp2_with fail
  refine (divide_any x 0 P x0 x1 (by omega) (by omega) (by omega) hP1 _).mono ?_
  rintro _ w1 ⟨rfl, q1⟩
  obtain ⟨d1, d2, hd, hdR⟩ : ∃ d1 d2, divT x 0 P = (d1, d2, 0) ∧ R = d2 := by
    refine ⟨x % P, R, ?_, rfl⟩
    unfold divT
    rw [if_neg (by omega), if_neg (by omega), HR.out, shrI_lt x n hn, ← HP2.out, Int.zero_mul, Int.zero_add]
  rw [hd]
  have k2 : (R == d2) = true := eq_true' hdR
  clear hd hdR
  have HK1 := Lib.hid k1
  have HK2 := Lib.hid k2
  clear k1 k2
  have c3 := fun w : World => shr_any L n hL0 hL1 (by omega) (by omega) w
  have c4 := fun w : World => shl_any R n hR0 hR1 (by omega) (by omega) w
  obtain ⟨back, hback⟩ : ∃ z, z = shrI L n := ⟨_, rfl⟩
  obtain ⟨forth, hforth⟩ : ∃ z, z = shlI R n := ⟨_, rfl⟩
  rw [← hback] at c3
  rw [← hforth] at c4
  have C3 := Lib.hid c3
  have C4 := Lib.hid c4
  have HB := Lib.hid hback
  have HF := Lib.hid hforth
  clear c3 c4 hback hforth
  go_wp2_with fail
  refine (C3.out _).mono ?_
  rintro _ w2 ⟨rfl, rfl⟩
  go_wp2_with fail
  refine (C4.out _).mono ?_
  rintro _ w2 ⟨rfl, rfl⟩
  have k1 := HK1.out
  have k2 := HK2.out
  have k3 : (back == bits .and .u32 x ((2 ^ (32 - n) - 1) % 4294967296)) = true := by
    apply eq_true'
    obtain ⟨p1, p2, p3, p4, p5⟩ := pow_lt n hn
    rw [HB.out, HL.out, shlI_lt x n hn, shrI_lt _ n hn, back_eq x n hn, Int.emod_eq_of_lt (show 0 ≤ (2 : Int) ^ (32 - n) - 1 by omega) (by omega), and_mask x (32 - n) (by omega) ⟨x0, x1⟩]
  have k4 : (forth == bits .andNot .u32 x (P - 1)) = true := by
    apply eq_true'
    rw [HF.out, HR.out, shlI_lt _ n hn, shrI_lt _ n hn, forth_eq x n hn ⟨x0, x1⟩, HP2.out, andNot_mask x n hn ⟨x0, x1⟩]
  go_wp2_with (go_at_call 10; refine (awake_any _).mono ?_; rintro _ w3 ⟨rfl, hb3⟩)
  go_ret
  exact ⟨rfl, bcall q1 hb3⟩

set_option maxRecDepth 100000 in
set_option maxHeartbeats 4000000 in
theorem shifts_ge (x n : Int) (hx : In32 x) (hn : In32 n) (h : 32 ≤ n) (w : World) :
    Calls Try.prog 4 #[.int .u32 x, .int .u32 n] w fun e w' => e = .returned (.bool true) ∧ Below w.heap.size w w' := by
  obtain ⟨x0, x1⟩ := hx
  obtain ⟨n0, n1⟩ := hn
  have c1 := fun w : World => shl_any x n x0 x1 n0 n1 w
  have c2 := fun w : World => shr_any x n x0 x1 n0 n1 w
  have e1 : shlI x n = 0 := by unfold shlI; rw [Nat.min_eq_right (by omega)]; omega
  have e2 : shrI x n = 0 := by unfold shrI; rw [Nat.min_eq_right (by omega)]; omega
  rw [e1] at c1
  rw [e2] at c2
  have C1 := Lib.hid c1
  have C2 := Lib.hid c2
  clear c1 c2 e1 e2
  go_enter Try.func4, Try.ntmps4
  go_wp2_with fail
  refine (C1.out _).mono ?_
  rintro _ w1 ⟨rfl, rfl⟩
  go_wp2_with fail
  refine (C2.out _).mono ?_
  rintro _ w1 ⟨rfl, rfl⟩
  go_wp2_with (go_at_call 10; refine (awake_any _).mono ?_; rintro _ w3 ⟨rfl, hb3⟩)
  go_ret
  exact ⟨rfl, hb3⟩
theorem shifts_any (x n : Int) (hx : In32 x) (hn : In32 n) (w : World) :
    Calls Try.prog 4 #[.int .u32 x, .int .u32 n] w fun e w' => e = .returned (.bool true) ∧ Below w.heap.size w w' := by
  by_cases h : 32 ≤ n
  · exact shifts_ge x n hx hn h w
  · obtain ⟨k, rfl⟩ := Int.eq_ofNat_of_zero_le hn.1
    exact shifts_lt x k hx (by omega) w
end Go.Proofs.Ytmmnakapcbkioaa.Mine
