/- What the reference's own functions of cells compute (lightshipref07: Double, Shift, Product, Long, Divide, Both), each by a walk over its code, as whole numbers. Conditions: that the numbers fit their kinds. -/
import Derived.Test.YtmmnakapcbkioaaCell
namespace Go.Proofs.Ytmmnakapcbkioaa.Mine
open Go.RowKit
set_option linter.unusedVariables false

theorem refDouble_any (a b : Int) (h0 : 0 ≤ a) (h1 : a < 4294967296) (h2 : 0 ≤ b) (h3 : b < 4294967296) (w : World) :
    Calls Try.prog 17 #[.int .u32 a, .int .u32 b] w fun e w' => e = .returned (.int .u64 (dbl a b)) ∧ w = w' := by
  go_enter Try.func17, Try.ntmps17
  go_wp2
  go_ret
  exact ⟨ret1 (by unfold dbl; omega), rfl⟩

/-! shifts -/
theorem shl_succ (x : Int) (k : Nat) : (x * 2 ^ k % 4294967296 + x * 2 ^ k % 4294967296) % 4294967296 = x * 2 ^ (k + 1) % 4294967296 := by
  rw [Int.pow_succ, ← Int.mul_assoc]
  generalize x * 2 ^ k = y
  omega
theorem shr_succ (x : Int) (k : Nat) : x / 2 ^ k / 2 = x / 2 ^ (k + 1) := by
  rw [Int.pow_succ, Int.ediv_ediv_of_nonneg (Int.pow_nonneg (by decide))]
theorem shr_bd (x : Int) (k : Nat) (h0 : 0 ≤ x) (h1 : x < 4294967296) : 0 ≤ x / 2 ^ k ∧ x / 2 ^ k < 4294967296 := by
  have h2 : (0 : Int) ≤ 2 ^ k := Int.pow_nonneg (by decide)
  refine ⟨Int.ediv_nonneg h0 h2, ?_⟩
  have := Int.ediv_le_self (2 ^ k) h0
  omega
theorem refShl_any (x n : Int) (h0 : 0 ≤ x) (h1 : x < 4294967296) (h2 : 0 ≤ n) (h3 : n < 4294967296) (w : World) :
    Calls Try.prog 19 #[.int .u32 x, .int .u32 n, .bool true] w fun e w' => e = .returned (.int .u32 (shlI x n)) ∧ w = w' := by
  go_enter Try.func19, Try.ntmps19
  go_wp2_with fail
  go_loopw [0, 7] (fun v i wr => ∃ k : Nat, (k : Int) ≤ n ∧ k ≤ 32 ∧ i = .int .u32 k ∧ v = .int .u32 (x * 2 ^ k % 4294967296) ∧ w = wr) (fun _ i _ => 32 - (intOf i).toNat)
  case atStart => exact ⟨0, by omega, by omega, rfl, by simp; omega, rfl⟩
  case round =>
    obtain ⟨k, hk, hk2, rfl, rfl, rfl⟩ := hrel
    have hs := shl_succ x k
    have hend : ¬ ((k : Int) < n ∧ k < 32) → x * 2 ^ k % 4294967296 = shlI x n := by
      intro h; unfold shlI; rw [show min n.toNat 32 = k by omega]
    have hy0 : 0 ≤ x * 2 ^ k % 4294967296 ∧ x * 2 ^ k % 4294967296 < 4294967296 := by omega
    generalize x * 2 ^ k % 4294967296 = y at *
    obtain ⟨y2, hy2⟩ : ∃ z, z = x * 2 ^ (k + 1) % 4294967296 := ⟨_, rfl⟩
    rw [← hy2] at hs
    have HY2 := Lib.hid hy2
    clear hy2
    obtain ⟨hy0, hy1⟩ := hy0
    by_cases hlt : (k : Int) < n ∧ k < 32
    · obtain ⟨hl1, hl2⟩ := hlt
      clear hend
      go_wp2
      go_roundw
      case rel => exact ⟨k + 1, by omega, by omega, by go_num, by rw [hs, HY2.out], trivial⟩
      case measure => simp [intOf]; omega
    · have he := hend hlt
      clear hend
      by_cases hl1 : (k : Int) < n
      · have hl2 : ¬ ((k : Int) < 32) := by omega
        clear hlt
        go_wp2
        go_ret
        exact ⟨rfl, rfl⟩
      · clear hlt
        go_wp2
        go_ret
        exact ⟨rfl, rfl⟩
theorem refShr_any (x n : Int) (h0 : 0 ≤ x) (h1 : x < 4294967296) (h2 : 0 ≤ n) (h3 : n < 4294967296) (w : World) :
    Calls Try.prog 19 #[.int .u32 x, .int .u32 n, .bool false] w fun e w' => e = .returned (.int .u32 (shrI x n)) ∧ w = w' := by
  go_enter Try.func19, Try.ntmps19
  go_wp2_with fail
  go_loopw [0, 7] (fun v i wr => ∃ k : Nat, (k : Int) ≤ n ∧ k ≤ 32 ∧ i = .int .u32 k ∧ v = .int .u32 (x / 2 ^ k) ∧ w = wr) (fun _ i _ => 32 - (intOf i).toNat)
  case atStart => exact ⟨0, by omega, by omega, rfl, by simp, rfl⟩
  case round =>
    obtain ⟨k, hk, hk2, rfl, rfl, rfl⟩ := hrel
    have hs := shr_succ x k
    have hend : ¬ ((k : Int) < n ∧ k < 32) → x / 2 ^ k = shrI x n := by
      intro h; unfold shrI; rw [show min n.toNat 32 = k by omega]
    have hy0 := shr_bd x k h0 h1
    generalize x / 2 ^ k = y at *
    obtain ⟨y2, hy2⟩ : ∃ z, z = x / 2 ^ (k + 1) := ⟨_, rfl⟩
    rw [← hy2] at hs
    have HY2 := Lib.hid hy2
    clear hy2
    obtain ⟨hy0, hy1⟩ := hy0
    by_cases hlt : (k : Int) < n ∧ k < 32
    · obtain ⟨hl1, hl2⟩ := hlt
      clear hend
      go_wp2
      go_roundw
      case rel => exact ⟨k + 1, by omega, by omega, by go_num, by rw [hs, HY2.out], trivial⟩
      case measure => simp [intOf]; omega
    · have he := hend hlt
      clear hend
      by_cases hl1 : (k : Int) < n
      · have hl2 : ¬ ((k : Int) < 32) := by omega
        clear hlt
        go_wp2
        go_ret
        exact ⟨rfl, rfl⟩
      · clear hlt
        go_wp2
        go_ret
        exact ⟨rfl, rfl⟩

/-! products -/
/-- how the loop of the product keeps its sum -/
def Prd (P o x b : Int) : Prop := ∃ z, o + x * b = P + 18446744073709551616 * z
theorem prd_odd {P o x b : Int} (h : Prd P o x b) (hb : b % 2 = 1) : Prd P ((o + x) % 18446744073709551616) ((x + x) % 18446744073709551616) (b / 2) := by
  obtain ⟨z, hz⟩ := h
  have hb2 : b = 2 * (b / 2) + 1 := by omega
  generalize b / 2 = c at *
  subst hb2
  have e1 := Int.emod_add_mul_ediv (o + x) 18446744073709551616
  have e2 := Int.emod_add_mul_ediv (x + x) 18446744073709551616
  generalize (o + x) % 18446744073709551616 = o2 at *
  generalize (o + x) / 18446744073709551616 = f at *
  generalize (x + x) % 18446744073709551616 = x2 at *
  generalize (x + x) / 18446744073709551616 = e at *
  refine ⟨z - f - e * c, ?_⟩
  have h1 : x2 * c = (x + x - 18446744073709551616 * e) * c := by rw [show x2 = x + x - 18446744073709551616 * e by omega]
  rw [Int.sub_mul, Int.add_mul, Int.mul_assoc] at h1
  rw [Int.mul_add, show x * (2 * c) = 2 * (x * c) by rw [← Int.mul_assoc, Int.mul_comm x 2, Int.mul_assoc], Int.mul_one] at hz
  generalize x * c = xc at *
  generalize e * c = ec at *
  omega
theorem prd_even {P o x b : Int} (h : Prd P o x b) (hb : ¬ b % 2 = 1) : Prd P o ((x + x) % 18446744073709551616) (b / 2) := by
  obtain ⟨z, hz⟩ := h
  have hb2 : b = 2 * (b / 2) := by omega
  generalize b / 2 = c at *
  subst hb2
  have e2 := Int.emod_add_mul_ediv (x + x) 18446744073709551616
  generalize (x + x) % 18446744073709551616 = x2 at *
  generalize (x + x) / 18446744073709551616 = e at *
  refine ⟨z - e * c, ?_⟩
  have h1 : x2 * c = (x + x - 18446744073709551616 * e) * c := by rw [show x2 = x + x - 18446744073709551616 * e by omega]
  rw [Int.sub_mul, Int.add_mul, Int.mul_assoc] at h1
  rw [show x * (2 * c) = 2 * (x * c) by rw [← Int.mul_assoc, Int.mul_comm x 2, Int.mul_assoc]] at hz
  generalize x * c = xc at *
  generalize e * c = ec at *
  omega
theorem prd_end {P o x : Int} (h : Prd P o x 0) (h0 : 0 ≤ P) (h1 : P < 18446744073709551616) (h2 : 0 ≤ o) (h3 : o < 18446744073709551616) : o = P := by
  obtain ⟨z, hz⟩ := h
  rw [Int.mul_zero] at hz; omega
theorem refProduct_any (a b : Int) (h0 : 0 ≤ a) (h1 : a < 4294967296) (h2 : 0 ≤ b) (h3 : b < 4294967296) (w : World) :
    Calls Try.prog 18 #[.int .u32 a, .int .u32 b] w fun e w' => e = .returned (.int .u64 (a * b)) ∧ w = w' := by
  have hm := mul_bd h0 h1 h2 h3
  have hp : Prd (a * b) 0 a b := ⟨0, by omega⟩
  generalize a * b = P at *
  obtain ⟨hm0, hm1⟩ := hm
  go_enter Try.func18, Try.ntmps18
  go_wp2_with fail
  go_loopw [1, 5, 6] (fun v o y wr => ∃ c q z : Int, 0 ≤ c ∧ c < 4294967296 ∧ 0 ≤ q ∧ q < 18446744073709551616 ∧ 0 ≤ z ∧ z < 18446744073709551616 ∧ v = .int .u32 c ∧ o = .int .u64 q ∧ y = .int .u64 z ∧ Hid (Prd P q z c) ∧ w = wr) (fun v _ _ _ => (intOf v).toNat)
  case atStart => exact ⟨b, 0, a, h2, h3, by omega, by omega, h0, by omega, rfl, rfl, rfl, hp, rfl⟩
  case round =>
    obtain ⟨c, q, z, hc0, hc1, hq0, hq1, hz0, hz1, rfl, rfl, rfl, hr, rfl⟩ := hrel
    by_cases hc : 0 < c
    · by_cases ht : c % 2 = 1
      · have hr2 := prd_odd hr.out ht
        have HR2 := Lib.hid hr2
        clear hr2
        have hb1 : 0 ≤ (q + z) % 18446744073709551616 ∧ (q + z) % 18446744073709551616 < 18446744073709551616 := by omega
        have hb2 : 0 ≤ (z + z) % 18446744073709551616 ∧ (z + z) % 18446744073709551616 < 18446744073709551616 := by omega
        have e1 := u64_mod (q + z)
        have e2 := u64_mod (z + z)
        generalize (q + z) % 18446744073709551616 = q2 at *
        generalize (z + z) % 18446744073709551616 = z2 at *
        go_wp2
        go_roundw
        case rel => exact ⟨c / 2, q2, z2, by omega, by omega, hb1.1, hb1.2, hb2.1, hb2.2, rfl, rfl, rfl, HR2, trivial⟩
        case measure => simp [intOf]; omega
      · have hr2 := prd_even hr.out ht
        have HR2 := Lib.hid hr2
        clear hr2
        have hb2 : 0 ≤ (z + z) % 18446744073709551616 ∧ (z + z) % 18446744073709551616 < 18446744073709551616 := by omega
        have e2 := u64_mod (z + z)
        generalize (z + z) % 18446744073709551616 = z2 at *
        have ht2 : (c % 2 == 1) = false := by rw [beq_eq_false_iff_ne]; exact ht
        clear ht
        go_wp2
        go_roundw
        case rel => exact ⟨c / 2, q, z2, by omega, by omega, hq0, hq1, hb2.1, hb2.2, rfl, rfl, rfl, HR2, trivial⟩
        case measure => simp [intOf]; omega
    · have he : c = 0 := by omega
      subst he
      have he2 := prd_end hr.out hm0 (by omega) hq0 hq1
      go_wp2
      go_ret
      exact ⟨rfl, rfl⟩

/-! the long division -/
theorem long_step (X Y d r q : Int) (t : Int) (hY : Y = 2 * X + t) (ht : 0 ≤ t ∧ t ≤ 1) (hd : 0 < d) (hr : r = X % d) (hq : q = X / d) :
    (2 * r + t < d → Y % d = 2 * r + t ∧ Y / d = 2 * q) ∧ (d ≤ 2 * r + t → Y % d = 2 * r + t - d ∧ Y / d = 2 * q + 1) := by
  have h1 := Int.emod_add_mul_ediv X d
  rw [← hr, ← hq] at h1
  have h2 : 0 ≤ r := by rw [hr]; exact Int.emod_nonneg _ (by omega)
  have h3 : r < d := by rw [hr]; exact Int.emod_lt_of_pos _ hd
  have h4 : d * (2 * q) = 2 * (d * q) := by rw [← Int.mul_assoc, Int.mul_comm d 2, Int.mul_assoc]
  constructor
  · intro h
    have e : Y = (2 * r + t) + d * (2 * q) := by rw [h4]; omega
    rw [e, Int.add_mul_emod_self_left, Int.add_mul_ediv_left _ _ (by omega), Int.emod_eq_of_lt (by omega) h, Int.ediv_eq_zero_of_lt (by omega) h]
    exact ⟨rfl, by omega⟩
  · intro h
    have e : Y = (2 * r + t - d) + d * (2 * q + 1) := by rw [Int.mul_add, h4]; omega
    rw [e, Int.add_mul_emod_self_left, Int.add_mul_ediv_left _ _ (by omega), Int.emod_eq_of_lt (by omega) (by omega), Int.ediv_eq_zero_of_lt (by omega) (by omega)]
    exact ⟨rfl, by omega⟩
theorem refLong_any (x d : Int) (x0 : 0 ≤ x) (x1 : x < 18446744073709551616) (d0 : 0 < d) (d1 : d < 18446744073709551616) (w : World) :
    Calls Try.prog 31 #[.int .u64 x, .int .u64 d] w fun e w' => e = .returned (.tuple #[.int .u64 (x % d), .int .u64 (x / d)]) ∧ w = w' := by
  go_enter Try.func31, Try.ntmps31
  go_wp2_with fail
  go_loopw [6, 7, 8] (fun r q i wr => ∃ j : Int, -1 ≤ j ∧ j ≤ 63 ∧ i = .int .i64 j ∧ r = .int .u64 (x / 2 ^ (j + 1).toNat % d) ∧ q = .int .u64 (x / 2 ^ (j + 1).toNat / d) ∧ w = wr) (fun _ _ i _ => (intOf i + 1).toNat)
  case atStart => exact ⟨63, by omega, by omega, rfl, by rw [show x / 2 ^ ((63 : Int) + 1).toNat = 0 from Int.ediv_eq_zero_of_lt x0 x1]; simp, by rw [show x / 2 ^ ((63 : Int) + 1).toNat = 0 from Int.ediv_eq_zero_of_lt x0 x1]; simp, rfl⟩
  case round =>
    obtain ⟨j, hj, hj2, rfl, rfl, rfl, rfl⟩ := hrel
    by_cases hjn : 0 ≤ j
    · have hj3 : j ≠ -1 := by omega
      have hX := shr_succ x j.toNat
      have hX0 : 0 ≤ x / 2 ^ j.toNat := Int.ediv_nonneg x0 (Int.pow_nonneg (by decide))
      have hX1 := Int.ediv_le_self (2 ^ j.toNat) x0
      have hmin : min j.toNat 64 = j.toNat := by omega
      have hj1 : (j + 1).toNat = j.toNat + 1 := by omega
      have hj4 : (j - 1 + 1).toNat = j.toNat := by omega
      rw [hj1, ← hX]
      obtain ⟨Y, hYd⟩ : ∃ z, z = x / 2 ^ j.toNat := ⟨_, rfl⟩
      rw [← hYd] at hX0 hX1 ⊢
      have hst := long_step (Y / 2) Y d _ _ (Y % 2) (by omega) (by omega) d0 rfl rfl
      have hr0 : 0 ≤ Y / 2 % d := Int.emod_nonneg _ (by omega)
      have hr1 : Y / 2 % d < d := Int.emod_lt_of_pos _ d0
      have hq0 : 0 ≤ Y / 2 / d := Int.ediv_nonneg (by omega) (by omega)
      have hq1 := Int.ediv_le_self d (show 0 ≤ Y / 2 by omega)
      have hsh : (x / 2 ^ j.toNat).tmod 2 = Y % 2 := by rw [← hYd]; exact Int.tmod_eq_emod_of_nonneg (by omega)
      have hq2 : Y / 2 / d < 9223372036854775808 := by omega
      have ht : 0 ≤ Y % 2 ∧ Y % 2 ≤ 1 := by omega
      have HYd := Lib.hid hYd
      have HJ := Lib.hid hj4
      obtain ⟨R2, hR2⟩ : ∃ z, z = Y % d := ⟨_, rfl⟩
      obtain ⟨Q2, hQ2⟩ : ∃ z, z = Y / d := ⟨_, rfl⟩
      have HR2 := Lib.hid hR2
      have HQ2 := Lib.hid hQ2
      rw [← hR2, ← hQ2] at hst
      generalize Y / 2 % d = r at *
      generalize Y / 2 / d = q at *
      have hY2 : 0 ≤ Y ∧ Y < 18446744073709551616 := by omega
      clear hYd hR2 hQ2 hX hX0 hX1 hmin hj1 hj4 hq1
      obtain ⟨t, htd⟩ : ∃ z, z = Y % 2 := ⟨_, rfl⟩
      rw [← htd] at hst ht hsh
      clear htd
      obtain ⟨ht0, ht1⟩ := ht
      have hqq : IntKind.u64.wrap (q + q) = 2 * q := by rw [u64_id _ (by omega) (by omega)]; omega
      by_cases ho : 9223372036854775808 ≤ r
      · have ⟨hs1, hs2⟩ := hst.2 (by omega)
        have hv : IntKind.u64.wrap (IntKind.u64.wrap (IntKind.u64.wrap (r + r) + t) - d) = R2 := by rw [u64_mod, u64_mod, u64_mod]; omega
        have hqq2 : IntKind.u64.wrap (2 * q + 1) = Q2 := by rw [u64_id _ (by omega) (by omega)]; omega
        clear hst hs1 hs2
        go_wp2
        go_roundw
        case rel => exact ⟨j - 1, by omega, by omega, by go_num, by rw [HJ.out, ← HYd.out, ← HR2.out], by rw [HJ.out, ← HYd.out, ← HQ2.out], trivial⟩
        case measure => simp [intOf]; omega
      · by_cases hlt : 2 * r + t < d
        · have ⟨hs1, hs2⟩ := hst.1 hlt
          have hv : IntKind.u64.wrap (r + r + t) = R2 := by rw [u64_mod]; omega
          have hv3 : r + r + t = R2 := by omega
          have hlt2 : ¬ d ≤ R2 := by omega
          have hqq2 : 2 * q = Q2 := by omega
          rw [hqq2] at hqq
          clear hst hs1 hs2 hlt
          go_wp2
          go_roundw
          case rel => exact ⟨j - 1, by omega, by omega, by go_num, by rw [HJ.out, ← HYd.out, ← HR2.out], by rw [HJ.out, ← HYd.out, ← HQ2.out], trivial⟩
          case measure => simp [intOf]; omega
        · have ⟨hs1, hs2⟩ := hst.2 (by omega)
          obtain ⟨v, hvd⟩ : ∃ z, z = 2 * r + t := ⟨_, rfl⟩
          have hv : IntKind.u64.wrap (r + r + t) = v := by rw [u64_mod]; omega
          have hv3 : r + r + t = v := by omega
          have hv2 : IntKind.u64.wrap (v - d) = R2 := by rw [u64_id _ (by omega) (by omega)]; omega
          have hle : d ≤ v := by omega
          have hqq2 : IntKind.u64.wrap (2 * q + 1) = Q2 := by rw [u64_id _ (by omega) (by omega)]; omega
          clear hst hs1 hs2 hlt hvd
          go_wp2
          go_roundw
          case rel => exact ⟨j - 1, by omega, by omega, by go_num, by rw [HJ.out, ← HYd.out, ← HR2.out], by rw [HJ.out, ← HYd.out, ← HQ2.out], trivial⟩
          case measure => simp [intOf]; omega
    · have he : j = -1 := by omega
      subst he
      have hx : x / 2 ^ ((-1 : Int) + 1).toNat = x := by simp
      rw [hx]
      go_wp2
      go_ret2
      exact ⟨rfl, rfl⟩
end Go.Proofs.Ytmmnakapcbkioaa.Mine
