/- What the functions of package cell compute, each by a walk over its code, as whole numbers. Conditions: that the numbers fit their kinds. -/
import Derived.Test.YtmmnakapcbkioaaCBase
namespace Go.Proofs.Ytmmnakapcbkioaa.Mine
open Go.RowKit
set_option linter.unusedVariables false

theorem ret1 {k : IntKind} {a b : Int} (h : a = b) : Ending.returned (.int k a) = .returned (.int k b) := by rw [h]
theorem ret2 {k l : IntKind} {a b c d : Int} (h : a = b) (h2 : c = d) : Ending.returned (.tuple #[.int k a, .int l c]) = .returned (.tuple #[.int k b, .int l d]) := by rw [h, h2]
theorem ret3 {k l m : IntKind} {a b c d e f : Int} (h : a = b) (h2 : c = d) (h3 : e = f) : Ending.returned (.tuple #[.int k a, .int l c, .int m e]) = .returned (.tuple #[.int k b, .int l d, .int m f]) := by rw [h, h2, h3]
theorem u64_id (n : Int) (h0 : 0 ≤ n) (h1 : n < 18446744073709551616) : IntKind.u64.wrap n = n := by
  simp [IntKind.wrap, IntKind.bits, IntKind.signed]; omega
theorem u64_mod (n : Int) : IntKind.u64.wrap n = n % 18446744073709551616 := by
  simp [IntKind.wrap, IntKind.bits, IntKind.signed]
theorem i64_id (n : Int) (h0 : -9223372036854775808 ≤ n) (h1 : n < 9223372036854775808) : wrap64 n = n := by unfold wrap64; omega
theorem or_join (h l : Int) (h0 : 0 ≤ h) (h1 : h < 4294967296) (l0 : 0 ≤ l) (l1 : l < 4294967296) : bits .or .u64 (h * 4294967296) l = h * 4294967296 + l :=
  bits_join .u64 64 (by decide) (fun n h0 h1 => u64_id n h0 h1) 32 _ _ (by omega) (by omega) (by omega) l0 (by omega) (by omega)

/-! shifts -/
def shlI (x n : Int) : Int := x * 2 ^ min n.toNat 32 % 4294967296
def shrI (x n : Int) : Int := x / 2 ^ min n.toNat 32
theorem shl_any (x n : Int) (h0 : 0 ≤ x) (h1 : x < 4294967296) (h2 : 0 ≤ n) (h3 : n < 4294967296) (w : World) :
    Calls Try.prog 11 #[.int .u32 x, .int .u32 n, .bool true] w fun e w' => e = .returned (.int .u32 (shlI x n)) ∧ w = w' := by
  go_enter Try.func11, Try.ntmps11
  go_wp2
  go_ret
  exact ⟨rfl, rfl⟩
theorem shr_any (x n : Int) (h0 : 0 ≤ x) (h1 : x < 4294967296) (h2 : 0 ≤ n) (h3 : n < 4294967296) (w : World) :
    Calls Try.prog 11 #[.int .u32 x, .int .u32 n, .bool false] w fun e w' => e = .returned (.int .u32 (shrI x n)) ∧ w = w' := by
  go_enter Try.func11, Try.ntmps11
  go_wp2
  go_ret
  exact ⟨rfl, rfl⟩
theorem flag_true (w : World) : Calls Try.prog 26 #[.bool true] w fun e w' => e = .returned (.int .u32 4294967295) ∧ w = w' := by
  go_enter Try.func26, Try.ntmps26
  go_wp2
  go_ret
  exact ⟨rfl, rfl⟩
theorem flag_false (w : World) : Calls Try.prog 26 #[.bool false] w fun e w' => e = .returned (.int .u32 0) ∧ w = w' := by
  go_enter Try.func26, Try.ntmps26
  go_wp2
  go_ret
  exact ⟨rfl, rfl⟩

/-! products -/
theorem mul_bd {a b : Int} (h0 : 0 ≤ a) (h1 : a < 4294967296) (h2 : 0 ≤ b) (h3 : b < 4294967296) : 0 ≤ a * b ∧ a * b ≤ 18446744065119617025 := by
  refine ⟨Int.mul_nonneg h0 h2, ?_⟩
  have h4 : a * b ≤ 4294967295 * b := Int.mul_le_mul_of_nonneg_right (by omega) h2
  omega
theorem product_any (a b : Int) (h0 : 0 ≤ a) (h1 : a < 4294967296) (h2 : 0 ≤ b) (h3 : b < 4294967296) (w : World) :
    Calls Try.prog 12 #[.int .u32 a, .int .u32 b] w fun e w' => e = .returned (.tuple #[.int .u32 (a * b % 4294967296), .int .u32 (a * b / 4294967296)]) ∧ w = w' := by
  have hm := mul_bd h0 h1 h2 h3
  have e1 : IntKind.u64.wrap (a * b) % 4294967296 = a * b % 4294967296 := by rw [u64_id _ hm.1 (by omega)]
  have e2 : IntKind.u64.wrap (a * b) / 4294967296 % 4294967296 = a * b / 4294967296 := by rw [u64_id _ hm.1 (by omega)]; omega
  clear hm
  have E1 := Lib.hid e1
  have E2 := Lib.hid e2
  clear e1 e2
  go_enter Try.func12, Try.ntmps12
  go_wp2
  go_ret2
  exact ⟨ret2 E1.out E2.out, rfl⟩
theorem smul_bd {a b : Int} (h0 : -2147483648 ≤ a) (h1 : a < 2147483648) (h2 : -2147483648 ≤ b) (h3 : b < 2147483648) : -4611686018427387904 ≤ a * b ∧ a * b ≤ 4611686018427387904 := by
  have ha : a.natAbs ≤ 2147483648 := by omega
  have hb : b.natAbs ≤ 2147483648 := by omega
  have h := Nat.mul_le_mul ha hb
  rw [← Int.natAbs_mul] at h
  omega
theorem signed_any (a b : Int) (h0 : -2147483648 ≤ a) (h1 : a < 2147483648) (h2 : -2147483648 ≤ b) (h3 : b < 2147483648) (w : World) :
    Calls Try.prog 15 #[.int .i32 a, .int .i32 b] w fun e w' => e = .returned (.tuple #[.int .u32 (a * b % 4294967296), .int .i32 (a * b / 4294967296)]) ∧ w = w' := by
  have hm := smul_bd h0 h1 h2 h3
  have e1 : IntKind.u64.wrap (wrap64 (a * b)) % 4294967296 = a * b % 4294967296 := by rw [i64_id _ (by omega) (by omega), u64_mod]; omega
  have e2 : wrap32 (IntKind.u64.wrap (wrap64 (a * b)) / 4294967296 % 4294967296) = a * b / 4294967296 := by rw [i64_id _ (by omega) (by omega), u64_mod]; unfold wrap32; omega
  clear hm
  have E1 := Lib.hid e1
  have E2 := Lib.hid e2
  clear e1 e2
  go_enter Try.func15, Try.ntmps15
  go_wp2
  go_ret2
  exact ⟨ret2 E1.out E2.out, rfl⟩

/-! unsigned division -/
def divT (a b c : Int) : Int × Int × Int := if c = 0 then (0, 0, -10) else if c ≤ b then (0, 0, -11) else ((b * 4294967296 + a) % c, (b * 4294967296 + a) / c, 0)
abbrev TU (t : Int × Int × Int) : Value := .tuple #[.int .u32 t.1, .int .u32 t.2.1, .int .i32 t.2.2]
abbrev TI (t : Int × Int × Int) : Value := .tuple #[.int .i32 t.1, .int .i32 t.2.1, .int .i32 t.2.2]
theorem div32_any (hi lo y : Int) (h0 : 0 ≤ lo) (h1 : lo < 4294967296) (h2 : 0 ≤ hi) (h3 : hi < 4294967296) (h4 : hi < y) (h5 : y < 4294967296) (w : World) :
    Calls Try.prog 28 #[.int .u32 hi, .int .u32 lo, .int .u32 y] w fun e w' => e = .returned (.tuple #[.int .u32 ((hi * 4294967296 + lo) / y), .int .u32 ((hi * 4294967296 + lo) % y)]) ∧ ∃ n, w.drewN n = w' := by
  have hc : (y == 0) = false := by rw [beq_eq_false_iff_ne]; omega
  have hc2 : (y != 0) = true := by rw [bne_iff_ne]; omega
  have hor := or_join hi lo h2 h3 h0 h1
  have hq : (hi * 4294967296 + lo) / y < 4294967296 := by
    apply Int.ediv_lt_of_lt_mul (by omega)
    have : (hi + 1) * 4294967296 ≤ y * 4294967296 := by omega
    omega
  have hq0 : 0 ≤ (hi * 4294967296 + lo) / y := Int.ediv_nonneg (by omega) (by omega)
  have hr0 : 0 ≤ (hi * 4294967296 + lo) % y := Int.emod_nonneg _ (by omega)
  have hr : (hi * 4294967296 + lo) % y < y := Int.emod_lt_of_pos _ (by omega)
  have hy : ¬ y = 0 := by omega
  have e1 : Int.tdiv (hi * 4294967296 + lo) y = (hi * 4294967296 + lo) / y := Int.tdiv_eq_ediv_of_nonneg (by omega)
  have e2 : Int.tmod (hi * 4294967296 + lo) y = (hi * 4294967296 + lo) % y := Int.tmod_eq_emod_of_nonneg (by omega)
  generalize (hi * 4294967296 + lo) / y = q at *
  generalize (hi * 4294967296 + lo) % y = r at *
  have w1 : IntKind.u64.wrap q = q := u64_id q hq0 (by omega)
  have w2 : q % 4294967296 = q := by omega
  have w3 : r % 4294967296 = r := by omega
  go_enter Try.func28, Try.ntmps28
  go_wp2_with fail
  go_quiet (fail)
  go_wp2
  go_ret2
  exact ⟨rfl, nq, rfl⟩
theorem divide_any (a b c : Int) (h0 : 0 ≤ a) (h1 : a < 4294967296) (h2 : 0 ≤ b) (h3 : b < 4294967296) (h4 : 0 ≤ c) (h5 : c < 4294967296) (w : World) :
    Calls Try.prog 13 #[.int .u32 a, .int .u32 b, .int .u32 c] w fun e w' => e = .returned (TU (divT a b c)) ∧ Below w.heap.size w w' := by
  unfold divT
  by_cases hc : c = 0
  · subst hc
    go_enter Try.func13, Try.ntmps13
    go_wp2
    go_ret3
    exact ⟨rfl, Below.refl _ _⟩
  · have hc0 : (c == 0) = false := by rw [beq_eq_false_iff_ne]; omega
    rw [if_neg hc]
    by_cases hcb : c ≤ b
    · rw [if_pos hcb]
      clear hc
      go_enter Try.func13, Try.ntmps13
      go_wp2
      go_ret3
      exact ⟨rfl, Below.refl _ _⟩
    · rw [if_neg hcb]
      clear hc
      go_enter Try.func13, Try.ntmps13
      go_wp2_with (go_at_call 28; refine (div32_any b a c h0 h1 h2 h3 (by omega) h5 _).mono ?_; rintro e w' ⟨rfl, n, rfl⟩)
      go_ret3
      exact ⟨rfl, below_drewN (Below.refl _ _) _⟩

/-! double cells -/
def dbl (lo hi : Int) : Int := hi * 4294967296 + lo
theorem sum_any (a b c d : Int) (h0 : 0 ≤ a) (h1 : a < 4294967296) (h2 : 0 ≤ b) (h3 : b < 4294967296) (h4 : 0 ≤ c) (h5 : c < 4294967296) (h6 : 0 ≤ d) (h7 : d < 4294967296) (w : World) :
    Calls Try.prog 14 #[.int .u32 a, .int .u32 b, .int .u32 c, .int .u32 d] w fun e w' =>
      e = .returned (.tuple #[.int .u32 ((dbl a b + dbl c d) % 18446744073709551616 % 4294967296), .int .u32 ((dbl a b + dbl c d) % 18446744073709551616 / 4294967296)]) ∧ w = w' := by
  have o1 := or_join b a h2 h3 h0 h1
  have o2 := or_join d c h6 h7 h4 h5
  go_enter Try.func14, Try.ntmps14
  go_wp2
  go_ret2
  exact ⟨ret2 (by rw [u64_mod]; unfold dbl; rfl) (by rw [u64_mod]; unfold dbl; omega), rfl⟩
theorem negative_any (a b : Int) (h0 : 0 ≤ a) (h1 : a < 4294967296) (h2 : 0 ≤ b) (h3 : b < 4294967296) (w : World) :
    Calls Try.prog 22 #[.int .u32 a, .int .u32 b] w fun e w' =>
      e = .returned (.tuple #[.int .u32 ((-(dbl a b)) % 18446744073709551616 % 4294967296), .int .u32 ((-(dbl a b)) % 18446744073709551616 / 4294967296)]) ∧ w = w' := by
  have o1 := or_join b a h2 h3 h0 h1
  go_enter Try.func22, Try.ntmps22
  go_wp2
  go_ret2
  exact ⟨ret2 (by rw [u64_mod]; unfold dbl; rfl) (by rw [u64_mod]; unfold dbl; omega), rfl⟩

/-! signed division -/
def floRQ (r q c : Int) : Int × Int := if r ≠ 0 ∧ (!(decide (r < 0) == decide (c < 0))) = true then (r + c, q - 1) else (r, q)
def fitT (r q : Int) : Int × Int × Int := if q < -2147483648 ∨ 2147483647 < q then (0, 0, -11) else (r, q, 0)
def symT (X c : Int) : Int × Int × Int := if c = 0 then (0, 0, -10) else if c = -1 ∧ X = -9223372036854775808 then (0, 0, -11) else fitT (X.tmod c) (X.tdiv c)
def floT (X c : Int) : Int × Int × Int := if c = 0 then (0, 0, -10) else if c = -1 ∧ X = -9223372036854775808 then (0, 0, -11) else fitT (floRQ (X.tmod c) (X.tdiv c) c).1 (floRQ (X.tmod c) (X.tdiv c) c).2
theorem q_bd (X c : Int) (h0 : -9223372036854775808 ≤ X) (h1 : X < 9223372036854775808) (hc : c ≠ 0) (h : ¬ (c = -1 ∧ X = -9223372036854775808)) : -9223372036854775808 ≤ X.tdiv c ∧ X.tdiv c < 9223372036854775808 := by
  have hn : (X.tdiv c).natAbs = X.natAbs / c.natAbs := Int.natAbs_tdiv X c
  have hX : X.natAbs ≤ 9223372036854775808 := by omega
  by_cases h2 : c.natAbs = 1
  · rcases (show c = 1 ∨ c = -1 by omega) with rfl | rfl
    · rw [Int.tdiv_one]; omega
    · rw [Int.tdiv_neg, Int.tdiv_one]; omega
  · have h3 : X.natAbs / c.natAbs ≤ X.natAbs / 2 := Nat.div_le_div_left (by omega) (by omega)
    omega
theorem q_bd2 (X c : Int) (h0 : -9223372036854775808 ≤ X) (h1 : X < 9223372036854775808) (hc : c ≠ 0) (hr : X.tmod c ≠ 0) : -4611686018427387904 ≤ X.tdiv c ∧ X.tdiv c ≤ 4611686018427387904 := by
  have hn : (X.tdiv c).natAbs = X.natAbs / c.natAbs := Int.natAbs_tdiv X c
  by_cases h2 : c.natAbs = 1
  · exfalso; apply hr
    rcases (show c = 1 ∨ c = -1 by omega) with rfl | rfl
    · exact Int.tmod_one X
    · rw [Int.tmod_neg, Int.tmod_one]
  · have h3 : X.natAbs / c.natAbs ≤ X.natAbs / 2 := Nat.div_le_div_left (by omega) (by omega)
    omega
theorem r_bd (X c : Int) (hc : c ≠ 0) : (X.tmod c).natAbs < c.natAbs := by
  rw [Int.natAbs_tmod]; exact Nat.mod_lt _ (by omega)
theorem sym1_any (r q : Int) (w : World) : Calls Try.prog 24 #[.int .i64 r, .int .i64 q] w fun e w' => e = .returned (.tuple #[.int .i64 r, .int .i64 q]) ∧ w = w' := by
  go_enter Try.func24, Try.ntmps24
  go_wp2
  go_ret2
  exact ⟨rfl, rfl⟩
theorem flo1_any (r q c : Int) (B : Nat) (w : World) (hcell : w.cell? ⟨B, 0, none⟩ = some (.int .i32 c)) (hc : -2147483648 ≤ c) (hc2 : c < 2147483648) (hr0 : -2147483648 ≤ r) (hr1 : r < 2147483648) (hq : r ≠ 0 → -4611686018427387904 ≤ q ∧ q ≤ 4611686018427387904) :
    Calls Try.prog 25 #[.int .i64 r, .int .i64 q, .pointer (some ⟨B, 0, none⟩)] w fun e w' => e = .returned (.tuple #[.int .i64 (floRQ r q c).1, .int .i64 (floRQ r q c).2]) ∧ w = w' := by
  unfold floRQ
  by_cases h : r = 0
  · subst h
    go_enter Try.func25, Try.ntmps25
    go_wp2
    go_ret2
    exact ⟨rfl, rfl⟩
  · have hb : (r != 0) = true := by rw [bne_iff_ne]; exact h
    have hq1 := hq h
    clear hq
    by_cases h2 : (!(decide (r < 0) == decide (c < 0))) = true
    · rw [if_pos ⟨h, h2⟩]
      clear h
      have w1 : wrap64 (q - 1) = q - 1 := i64_id _ (by omega) (by omega)
      go_enter Try.func25, Try.ntmps25
      go_wp2
      go_ret2
      exact ⟨rfl, rfl⟩
    · rw [if_neg (fun h3 => h2 h3.2)]
      clear h
      have h3 : (!(decide (r < 0) == decide (c < 0))) = false := by rw [Bool.not_eq_true] at h2; exact h2
      clear h2
      go_enter Try.func25, Try.ntmps25
      go_wp2
      go_ret2
      exact ⟨rfl, rfl⟩

/-- what 'double', turned to a signed number, tells -/
theorem x_val (a b : Int) (h0 : 0 ≤ a) (h1 : a < 4294967296) (h2 : -2147483648 ≤ b) (h3 : b < 2147483648) : wrap64 (bits .or .u64 (b % 4294967296 * 4294967296) a) = dbl a b := by
  rw [or_join _ _ (by omega) (by omega) h0 h1]
  unfold wrap64 dbl; omega

set_option maxHeartbeats 2000000 in
theorem divided_sym (a b c : Int) (h0 : 0 ≤ a) (h1 : a < 4294967296) (h2 : -2147483648 ≤ b) (h3 : b < 2147483648) (h4 : -2147483648 ≤ c) (h5 : c < 2147483648) (w : World) :
    Calls Try.prog 23 #[.int .u32 a, .int .i32 b, .int .i32 c, .func (.func 24) #[] #[]] w fun e w' => e = .returned (TI (symT (dbl a b) c)) ∧ ∃ n, w.drewN n = w' := by
  have hX := x_val a b h0 h1 h2 h3
  have hX0 : -9223372036854775808 ≤ dbl a b ∧ dbl a b < 9223372036854775808 := by unfold dbl; omega
  generalize dbl a b = X at *
  unfold symT
  by_cases hc : c = 0
  · subst hc
    go_enter Try.func23, Try.ntmps23
    go_wp2
    go_ret3
    exact ⟨rfl, 0, rfl⟩
  · have hc0 : (c == 0) = false := by rw [beq_eq_false_iff_ne]; exact hc
    rw [if_neg hc]
    by_cases hmin : c = -1 ∧ X = -9223372036854775808
    · rw [if_pos hmin]
      obtain ⟨rfl, rfl⟩ := hmin
      clear hc
      go_enter Try.func23, Try.ntmps23
      go_wp2
      go_ret3
      exact ⟨rfl, 0, rfl⟩
    · rw [if_neg hmin]
      have hqb := q_bd X c hX0.1 hX0.2 hc hmin
      have hqb2 := fun hr => q_bd2 X c hX0.1 hX0.2 hc hr
      have hrb := r_bd X c hc
      have hcc : ¬ c = 0 := hc
      obtain ⟨q, hq⟩ : ∃ z, z = X.tdiv c := ⟨_, rfl⟩
      obtain ⟨r, hr⟩ : ∃ z, z = X.tmod c := ⟨_, rfl⟩
      rw [← hq, ← hr]
      rw [← hq] at hqb hqb2
      rw [← hr] at hqb2 hrb
      have hq' := hq.symm
      have hr' := hr.symm
      clear hq hr
      have w1 : wrap64 q = q := i64_id _ hqb.1 hqb.2
      have hr0 : -2147483648 ≤ r ∧ r < 2147483648 := by omega
      obtain ⟨hr0, hr1⟩ := hr0
      obtain ⟨r2, hr2⟩ : ∃ z, z = r := ⟨_, rfl⟩
      obtain ⟨q2, hq2⟩ : ∃ z, z = q := ⟨_, rfl⟩
      have hcall : ∀ w, True → Calls Try.prog 24 #[.int .i64 r, .int .i64 q] w fun e w' => e = .returned (.tuple #[.int .i64 r2, .int .i64 q2]) ∧ w' = w := fun w _ => by
        rw [hr2, hq2]; exact (sym1_any r q w).mono fun _ _ h => ⟨h.1, h.2.symm⟩
      have hT : True := trivial
      have hr3 : -2147483648 ≤ r2 ∧ r2 < 2147483648 := by omega
      have hq3 : -9223372036854775808 ≤ q2 ∧ q2 < 9223372036854775808 := by omega
      have hgoal : fitT r q = fitT r2 q2 := by rw [hr2, hq2]
      rw [hgoal]
      clear hgoal
      clear hr2 hq2
      have hmb : (c == -1) = true → (X == -9223372036854775808) = false := fun h => by
        rw [beq_eq_false_iff_ne]; exact fun h2 => hmin ⟨by simpa using h, h2⟩
      unfold fitT
      clear hX0 hqb hqb2 hrb hmin hc
      obtain ⟨hq0, hq1⟩ := hq3
      obtain ⟨hs0, hs1⟩ := hr3
      by_cases hc1 : c = -1
      · have hcb : (c == -1) = true := by rw [beq_iff_eq]; exact hc1
        have hxb := hmb hcb
        clear hmb hc1
        · skip
          by_cases hf1 : q2 < -2147483648
          · rw [if_pos (.inl hf1)]
            go_enter Try.func23, Try.ntmps23
            go_wp2
            go_quiet ((go_at_call 24; exact Calls.quiet_of_same (hcall _ (by assumption))))
            go_wp2
            go_ret3
            exact ⟨rfl, nq, rfl⟩
          · by_cases hf2 : 2147483647 < q2
            · rw [if_pos (.inr hf2)]
              have hd : decide (q2 ≤ 2147483647) = false := decide_eq_false (by omega)
              go_enter Try.func23, Try.ntmps23
              go_wp2
              go_quiet ((go_at_call 24; exact Calls.quiet_of_same (hcall _ (by assumption))))
              go_wp2
              go_ret3
              exact ⟨rfl, nq, rfl⟩
            · rw [if_neg (by omega)]
              go_enter Try.func23, Try.ntmps23
              go_wp2
              go_quiet ((go_at_call 24; exact Calls.quiet_of_same (hcall _ (by assumption))))
              go_wp2
              go_ret3
              exact ⟨rfl, nq, rfl⟩
      · have hcb : (c == -1) = false := by rw [beq_eq_false_iff_ne]; exact hc1
        clear hmb hc1
        · skip
          by_cases hf1 : q2 < -2147483648
          · rw [if_pos (.inl hf1)]
            go_enter Try.func23, Try.ntmps23
            go_wp2
            go_quiet ((go_at_call 24; exact Calls.quiet_of_same (hcall _ (by assumption))))
            go_wp2
            go_ret3
            exact ⟨rfl, nq, rfl⟩
          · by_cases hf2 : 2147483647 < q2
            · rw [if_pos (.inr hf2)]
              have hd : decide (q2 ≤ 2147483647) = false := decide_eq_false (by omega)
              go_enter Try.func23, Try.ntmps23
              go_wp2
              go_quiet ((go_at_call 24; exact Calls.quiet_of_same (hcall _ (by assumption))))
              go_wp2
              go_ret3
              exact ⟨rfl, nq, rfl⟩
            · rw [if_neg (by omega)]
              go_enter Try.func23, Try.ntmps23
              go_wp2
              go_quiet ((go_at_call 24; exact Calls.quiet_of_same (hcall _ (by assumption))))
              go_wp2
              go_ret3
              exact ⟨rfl, nq, rfl⟩

theorem flo_bd (r q c : Int) (hr : r.natAbs < c.natAbs) (hq0 : -9223372036854775808 ≤ q) (hq1 : q < 9223372036854775808) (hq : r ≠ 0 → -4611686018427387904 ≤ q ∧ q ≤ 4611686018427387904) (h4 : -2147483648 ≤ c) (h5 : c < 2147483648) :
    -2147483648 ≤ (floRQ r q c).1 ∧ (floRQ r q c).1 < 2147483648 ∧ -9223372036854775808 ≤ (floRQ r q c).2 ∧ (floRQ r q c).2 < 9223372036854775808 := by
  unfold floRQ
  split
  · rename_i h
    have := hq h.1
    have h2 := h.2
    simp only [Bool.not_eq_true', beq_eq_false_iff_ne, ne_eq, decide_eq_decide] at h2
    refine ⟨?_, ?_, ?_, ?_⟩ <;> simp only <;> omega
  · refine ⟨?_, ?_, hq0, hq1⟩ <;> simp only <;> omega
set_option maxHeartbeats 2000000 in
theorem divided_flo (a b c : Int) (B : Nat) (h0 : 0 ≤ a) (h1 : a < 4294967296) (h2 : -2147483648 ≤ b) (h3 : b < 2147483648) (h4 : -2147483648 ≤ c) (h5 : c < 2147483648) (w : World) (hcell : w.cell? ⟨B, 0, none⟩ = some (.int .i32 c)) :
    Calls Try.prog 23 #[.int .u32 a, .int .i32 b, .int .i32 c, .func (.func 25) #[] #[.pointer (some ⟨B, 0, none⟩)]] w fun e w' => e = .returned (TI (floT (dbl a b) c)) ∧ ∃ n, w.drewN n = w' := by
  have hX := x_val a b h0 h1 h2 h3
  have hX0 : -9223372036854775808 ≤ dbl a b ∧ dbl a b < 9223372036854775808 := by unfold dbl; omega
  generalize dbl a b = X at *
  unfold floT
  by_cases hc : c = 0
  · subst hc
    go_enter Try.func23, Try.ntmps23
    go_wp2
    go_ret3
    exact ⟨rfl, 0, rfl⟩
  · have hc0 : (c == 0) = false := by rw [beq_eq_false_iff_ne]; exact hc
    rw [if_neg hc]
    by_cases hmin : c = -1 ∧ X = -9223372036854775808
    · rw [if_pos hmin]
      obtain ⟨rfl, rfl⟩ := hmin
      clear hc
      go_enter Try.func23, Try.ntmps23
      go_wp2
      go_ret3
      exact ⟨rfl, 0, rfl⟩
    · rw [if_neg hmin]
      have hqb := q_bd X c hX0.1 hX0.2 hc hmin
      have hqb2 := fun hr => q_bd2 X c hX0.1 hX0.2 hc hr
      have hrb := r_bd X c hc
      have hcc : ¬ c = 0 := hc
      obtain ⟨q, hq⟩ : ∃ z, z = X.tdiv c := ⟨_, rfl⟩
      obtain ⟨r, hr⟩ : ∃ z, z = X.tmod c := ⟨_, rfl⟩
      rw [← hq, ← hr]
      rw [← hq] at hqb hqb2
      rw [← hr] at hqb2 hrb
      have hq' := hq.symm
      have hr' := hr.symm
      clear hq hr
      have w1 : wrap64 q = q := i64_id _ hqb.1 hqb.2
      have hr0 : -2147483648 ≤ r ∧ r < 2147483648 := by omega
      obtain ⟨hr0, hr1⟩ := hr0
      obtain ⟨r2, hr2⟩ : ∃ z, z = (floRQ r q c).1 := ⟨_, rfl⟩
      obtain ⟨q2, hq2⟩ : ∃ z, z = (floRQ r q c).2 := ⟨_, rfl⟩
      have hcall : ∀ w, w.cell? ⟨B, 0, none⟩ = some (.int .i32 c) → Calls Try.prog 25 #[.int .i64 r, .int .i64 q, .pointer (some ⟨B, 0, none⟩)] w fun e w' => e = .returned (.tuple #[.int .i64 r2, .int .i64 q2]) ∧ w' = w := fun w hw => by
        rw [hr2, hq2]; exact (flo1_any r q c B w hw h4 h5 hr0 hr1 hqb2).mono fun _ _ h => ⟨h.1, h.2.symm⟩
      have hb2 := flo_bd r q c hrb hqb.1 hqb.2 hqb2 h4 h5
      rw [← hr2, ← hq2] at hb2
      have hr3 : -2147483648 ≤ r2 ∧ r2 < 2147483648 := ⟨hb2.1, hb2.2.1⟩
      have hq3 : -9223372036854775808 ≤ q2 ∧ q2 < 9223372036854775808 := hb2.2.2
      rw [← hr2, ← hq2]
      clear hr2 hq2 hb2
      have hmb : (c == -1) = true → (X == -9223372036854775808) = false := fun h => by
        rw [beq_eq_false_iff_ne]; exact fun h2 => hmin ⟨by simpa using h, h2⟩
      unfold fitT
      clear hX0 hqb hqb2 hrb hmin hc
      obtain ⟨hq0, hq1⟩ := hq3
      obtain ⟨hs0, hs1⟩ := hr3
      by_cases hc1 : c = -1
      · have hcb : (c == -1) = true := by rw [beq_iff_eq]; exact hc1
        have hxb := hmb hcb
        clear hmb hc1
        · skip
          by_cases hf1 : q2 < -2147483648
          · rw [if_pos (.inl hf1)]
            go_enter Try.func23, Try.ntmps23
            go_wp2
            go_quiet ((go_at_call 25; exact Calls.quiet_of_same (hcall _ (by assumption))))
            go_wp2
            go_ret3
            exact ⟨rfl, nq, rfl⟩
          · by_cases hf2 : 2147483647 < q2
            · rw [if_pos (.inr hf2)]
              have hd : decide (q2 ≤ 2147483647) = false := decide_eq_false (by omega)
              go_enter Try.func23, Try.ntmps23
              go_wp2
              go_quiet ((go_at_call 25; exact Calls.quiet_of_same (hcall _ (by assumption))))
              go_wp2
              go_ret3
              exact ⟨rfl, nq, rfl⟩
            · rw [if_neg (by omega)]
              go_enter Try.func23, Try.ntmps23
              go_wp2
              go_quiet ((go_at_call 25; exact Calls.quiet_of_same (hcall _ (by assumption))))
              go_wp2
              go_ret3
              exact ⟨rfl, nq, rfl⟩
      · have hcb : (c == -1) = false := by rw [beq_eq_false_iff_ne]; exact hc1
        clear hmb hc1
        · skip
          by_cases hf1 : q2 < -2147483648
          · rw [if_pos (.inl hf1)]
            go_enter Try.func23, Try.ntmps23
            go_wp2
            go_quiet ((go_at_call 25; exact Calls.quiet_of_same (hcall _ (by assumption))))
            go_wp2
            go_ret3
            exact ⟨rfl, nq, rfl⟩
          · by_cases hf2 : 2147483647 < q2
            · rw [if_pos (.inr hf2)]
              have hd : decide (q2 ≤ 2147483647) = false := decide_eq_false (by omega)
              go_enter Try.func23, Try.ntmps23
              go_wp2
              go_quiet ((go_at_call 25; exact Calls.quiet_of_same (hcall _ (by assumption))))
              go_wp2
              go_ret3
              exact ⟨rfl, nq, rfl⟩
            · rw [if_neg (by omega)]
              go_enter Try.func23, Try.ntmps23
              go_wp2
              go_quiet ((go_at_call 25; exact Calls.quiet_of_same (hcall _ (by assumption))))
              go_wp2
              go_ret3
              exact ⟨rfl, nq, rfl⟩

theorem symmetric_any (a b c : Int) (h0 : 0 ≤ a) (h1 : a < 4294967296) (h2 : -2147483648 ≤ b) (h3 : b < 2147483648) (h4 : -2147483648 ≤ c) (h5 : c < 2147483648) (w : World) :
    Calls Try.prog 8 #[.int .u32 a, .int .i32 b, .int .i32 c] w fun e w' => e = .returned (TI (symT (dbl a b) c)) ∧ Below w.heap.size w w' := by
  have hc := divided_sym a b c h0 h1 h2 h3 h4 h5
  generalize symT (dbl a b) c = t at *
  have HC := Lib.hid hc
  clear hc
  go_enter Try.func8, Try.ntmps8
  go_wp2_with (go_at_call 23; refine (HC.out _).mono ?_; rintro e w' ⟨rfl, n, rfl⟩)
  go_ret3
  exact ⟨rfl, below_drewN (Below.refl _ _) _⟩
theorem floored_any (a b c : Int) (h0 : 0 ≤ a) (h1 : a < 4294967296) (h2 : -2147483648 ≤ b) (h3 : b < 2147483648) (h4 : -2147483648 ≤ c) (h5 : c < 2147483648) (w : World) :
    Calls Try.prog 9 #[.int .u32 a, .int .i32 b, .int .i32 c] w fun e w' => e = .returned (TI (floT (dbl a b) c)) ∧ Below w.heap.size w w' := by
  have hc := fun w : World => divided_flo a b c w.heap.size h0 h1 h2 h3 h4 h5 (w.alloc (.cells #[.int .i32 c] 21)) (by simp)
  generalize floT (dbl a b) c = t at *
  have HC := Lib.hid hc
  clear hc
  go_enter Try.func9, Try.ntmps9
  go_wp2_with (go_at_call 23; refine (HC.out _).mono ?_; rintro e w' ⟨rfl, n, rfl⟩)
  go_ret3
  exact ⟨rfl, below_drewN ((Below.refl _ _).alloc (Nat.le_refl _) _) _⟩
end Go.Proofs.Ytmmnakapcbkioaa.Mine
