/- What the reference's divisions compute (lightshipref07: Divide, Both), by walks over their code. Conditions: that the numbers fit their kinds. -/
import Derived.Test.YtmmnakapcbkioaaRef07
namespace Go.Proofs.Ytmmnakapcbkioaa.Mine
open Go.RowKit
set_option linter.unusedVariables false

theorem refDivide_any (a b c : Int) (h0 : 0 ≤ a) (h1 : a < 4294967296) (h2 : 0 ≤ b) (h3 : b < 4294967296) (h4 : 0 ≤ c) (h5 : c < 4294967296) (w : World) :
    Calls Try.prog 20 #[.int .u32 a, .int .u32 b, .int .u32 c] w fun e w' => e = .returned (TU (divT a b c)) ∧ w = w' := by
  by_cases hc : c = 0
  · unfold divT
    subst hc
    go_enter Try.func20, Try.ntmps20
    go_wp2
    go_ret3
    exact ⟨rfl, rfl⟩
  · have hc0 : (c == 0) = false := by rw [beq_eq_false_iff_ne]; omega
    have d1 := fun w : World => refDouble_any a b h0 h1 h2 h3 w
    have hD : dbl a b = b * 4294967296 + a := rfl
    have d2 := fun w : World => refLong_any (dbl a b) c (by omega) (by omega) (by omega) (by omega) w
    obtain ⟨T, hT⟩ : ∃ z, z = divT a b c := ⟨_, rfl⟩
    rw [← hT]
    unfold divT at hT
    rw [if_neg hc, ← hD] at hT
    have hr0 : 0 ≤ dbl a b % c := Int.emod_nonneg _ hc
    have hr1 : dbl a b % c < c := Int.emod_lt_of_pos _ (by omega)
    have hq0 : 0 ≤ dbl a b / c := Int.ediv_nonneg (by omega) (by omega)
    have hq1 : dbl a b / c < 4294967296 ↔ ¬ c ≤ b := by
      rw [Int.ediv_lt_iff_lt_mul (by omega)]
      omega
    generalize dbl a b = D at *
    generalize D % c = r at *
    generalize D / c = q at *
    clear hD
    by_cases hcb : c ≤ b
    · rw [if_pos hcb] at hT
      subst hT
      have hq : 4294967295 < q := by
        have := fun h => hq1.1 h hcb
        omega
      clear hc hcb hq1
      go_enter Try.func20, Try.ntmps20
      go_wp2_with fail
      refine (d1 _).mono ?_
      rintro _ _ ⟨rfl, rfl⟩
      go_wp2_with fail
      refine (d2 _).mono ?_
      rintro _ _ ⟨rfl, rfl⟩
      go_wp2
      go_ret3
      exact ⟨rfl, rfl⟩
    · rw [if_neg hcb] at hT
      subst hT
      have hq := hq1.2 hcb
      clear hc hcb hq1
      go_enter Try.func20, Try.ntmps20
      go_wp2_with fail
      refine (d1 _).mono ?_
      rintro _ _ ⟨rfl, rfl⟩
      go_wp2_with fail
      refine (d2 _).mono ?_
      rintro _ _ ⟨rfl, rfl⟩
      go_wp2
      go_ret3
      exact ⟨rfl, rfl⟩

/-! signed divisions: what the model of package cell says, by the division without signs -/
/-- the quotient and the remainder of X by c, of those without their signs -/
theorem tdm (X c : Int) (hc : c ≠ 0) : X.tdiv c = (if (decide (X < 0) != decide (c < 0)) then -(((X.natAbs : Int)) / (c.natAbs : Int)) else (X.natAbs : Int) / (c.natAbs : Int))
    ∧ X.tmod c = (if X < 0 then -((X.natAbs : Int) % (c.natAbs : Int)) else (X.natAbs : Int) % (c.natAbs : Int)) := by
  obtain ⟨N, hN⟩ : ∃ z : Int, z = (X.natAbs : Int) := ⟨_, rfl⟩
  obtain ⟨n, hn⟩ : ∃ z : Int, z = (c.natAbs : Int) := ⟨_, rfl⟩
  rw [← hN, ← hn]
  have h0 : 0 ≤ N := by omega
  have e1 : N.tdiv n = N / n := Int.tdiv_eq_ediv_of_nonneg h0
  have e2 : N.tmod n = N % n := Int.tmod_eq_emod_of_nonneg h0
  by_cases hX : X < 0 <;> by_cases hc0 : c < 0
  · rw [show X = -N by omega, show c = -n by omega, Int.neg_tdiv, Int.tdiv_neg, Int.neg_tmod, Int.tmod_neg, e1, e2]
    have a1 : decide (-N < 0) = true := by rw [decide_eq_true_iff]; omega
    have a2 : decide (-n < 0) = true := by rw [decide_eq_true_iff]; omega
    rw [a1, a2, if_pos (show -N < 0 by omega)]; simp
  · rw [show X = -N by omega, show c = n by omega, Int.neg_tdiv, Int.neg_tmod, e1, e2]
    have a1 : decide (-N < 0) = true := by rw [decide_eq_true_iff]; omega
    have a2 : decide (n < 0) = false := by rw [decide_eq_false_iff_not]; omega
    rw [a1, a2, if_pos (show -N < 0 by omega)]; simp
  · rw [show X = N by omega, show c = -n by omega, Int.tdiv_neg, Int.tmod_neg, e1, e2]
    have a1 : decide (N < 0) = false := by rw [decide_eq_false_iff_not]; omega
    have a2 : decide (-n < 0) = true := by rw [decide_eq_true_iff]; omega
    rw [a1, a2, if_neg (show ¬ N < 0 by omega)]; simp
  · rw [show X = N by omega, show c = n by omega, e1, e2]
    have a1 : decide (N < 0) = false := by rw [decide_eq_false_iff_not]; omega
    have a2 : decide (n < 0) = false := by rw [decide_eq_false_iff_not]; omega
    rw [a1, a2, if_neg (show ¬ N < 0 by omega)]; simp
theorem fit_ok (r q : Int) (h0 : -2147483648 ≤ q) (h1 : q < 2147483648) : fitT r q = (r, q, 0) := by unfold fitT; rw [if_neg (by omega)]
theorem fit_no (r q : Int) (h : q < -2147483648 ∨ 2147483647 < q) : fitT r q = (0, 0, -11) := by unfold fitT; rw [if_pos h]
/-- the least double cell by -1 has no quotient that fits, either -/
theorem sym_fit (X c : Int) (hc : c ≠ 0) : symT X c = fitT (X.tmod c) (X.tdiv c) := by
  unfold symT
  rw [if_neg hc]
  split
  · rename_i h
    obtain ⟨rfl, rfl⟩ := h
    rfl
  · rfl
theorem flo_fit (X c : Int) (hc : c ≠ 0) : floT X c = fitT (floRQ (X.tmod c) (X.tdiv c) c).1 (floRQ (X.tmod c) (X.tdiv c) c).2 := by
  unfold floT
  rw [if_neg hc]
  split
  · rename_i h
    obtain ⟨rfl, rfl⟩ := h
    rfl
  · rfl
theorem flo_same (r q c : Int) (h : r = 0 ∨ (r < 0 ↔ c < 0)) : floRQ r q c = (r, q) := by
  unfold floRQ
  rw [if_neg]
  intro h2
  have h3 := h2.2
  simp only [Bool.not_eq_true', beq_eq_false_iff_ne, ne_eq, decide_eq_decide] at h3
  rcases h with h | h
  · exact h2.1 h
  · exact h3 h
theorem flo_other (r q c : Int) (h : r ≠ 0) (h2 : ¬ (r < 0 ↔ c < 0)) : floRQ r q c = (r + c, q - 1) := by
  unfold floRQ
  rw [if_pos]
  refine ⟨h, ?_⟩
  simp only [Bool.not_eq_true', beq_eq_false_iff_ne, ne_eq, decide_eq_decide]
  exact h2

set_option maxRecDepth 100000 in
set_option maxHeartbeats 8000000 in
theorem refBoth_snn (a h c : Int) (h0 : 0 ≤ a) (h1 : a < 4294967296) (h2 : -2147483648 ≤ h) (h3 : h < 2147483648) (h4 : -2147483648 ≤ c) (h5 : c < 2147483648) (hM : h < 0) (hL : c < 0) (w : World) :
    Calls Try.prog 21 #[.int .u32 a, .int .i32 h, .int .i32 c, .bool false] w fun e w' => e = .returned (TI (symT (dbl a h) c)) ∧ w = w' := by
  have hc : c ≠ 0 := by omega
  have hX : dbl a h = h * 4294967296 + a := rfl
  have t := tdm (dbl a h) c hc
  have hc0 : (c == 0) = false := by rw [beq_eq_false_iff_ne]; exact hc
  have d1 := fun w : World => refDouble_any a (h % 4294967296) h0 h1 (by omega) (by omega) w
  have hD : dbl a (h % 4294967296) = h % 4294967296 * 4294967296 + a := rfl
  have hbM : decide (h < 0) = true := by rw [decide_eq_true_iff]; omega
  have hb : decide (dbl a h < 0) = true := by rw [decide_eq_true_iff]; omega
  have hbc : decide (c < 0) = true := by rw [decide_eq_true_iff]; omega
  rw [sym_fit _ _ hc, t.1, t.2, hb, hbc, if_pos (show dbl a h < 0 by omega)]
  clear t hb
  rw [show (true != true) = false from rfl, if_neg (by decide)]
  have hN0 : 0 ≤ ((dbl a h).natAbs : Int) := by omega
  have hN1 : ((dbl a h).natAbs : Int) ≤ 9223372036854775808 := by omega
  have hn0 : 0 < (c.natAbs : Int) := by omega
  have hn1 : (c.natAbs : Int) ≤ 2147483648 := by omega
  have hND : IntKind.u64.wrap (-(dbl a (h % 4294967296))) = ((dbl a h).natAbs : Int) := by rw [u64_mod, hD]; omega
  have hnC : (c.natAbs : Int) = -c := by omega
  have hnW : IntKind.u64.wrap (-(IntKind.u64.wrap c)) = -c := by rw [u64_mod, u64_mod]; omega
  have hnW2 : IntKind.u64.wrap (-c) = -c := by rw [u64_mod]; omega
  have d2 := fun w : World => refLong_any ((dbl a h).natAbs : Int) (c.natAbs : Int) hN0 (by omega) hn0 (by omega) w
  have hr0 : 0 ≤ ((dbl a h).natAbs : Int) % (c.natAbs : Int) := Int.emod_nonneg _ (by omega)
  have hr1 : ((dbl a h).natAbs : Int) % (c.natAbs : Int) < (c.natAbs : Int) := Int.emod_lt_of_pos _ (by omega)
  have hq0 : 0 ≤ ((dbl a h).natAbs : Int) / (c.natAbs : Int) := Int.ediv_nonneg (by omega) (by omega)
  have hq1 := Int.ediv_le_self (c.natAbs : Int) hN0
  generalize ((dbl a h).natAbs : Int) = N at *
  rw [hnC] at d2 hr0 hr1 hq0 hq1 hn0 hn1 ⊢
  clear hnC
  generalize N % (-c) = r at *
  generalize N / (-c) = q at *
  have hD0 : 0 ≤ dbl a (h % 4294967296) ∧ dbl a (h % 4294967296) < 18446744073709551616 := by omega
  generalize dbl a (h % 4294967296) = D at *
  obtain ⟨hD0, hD1⟩ := hD0
  clear hD hX
  obtain ⟨n, hn⟩ : ∃ z, z = -c := ⟨_, rfl⟩
  rw [← hn] at d2 hr1 hn0 hn1 hnW hnW2
  have Hn := Lib.hid hn
  clear hn
  by_cases hov : 2147483647 < q
  · skip
    rw [fit_no _ _ (by omega)]
    go_enter Try.func21, Try.ntmps21
    go_wp2_with fail
    refine (d1 _).mono ?_
    rintro _ _ ⟨rfl, rfl⟩
    go_wp2_with fail
    refine (d2 _).mono ?_
    rintro _ _ ⟨rfl, rfl⟩
    go_wp2
    go_ret3
    exact ⟨rfl, rfl⟩
  · skip
    rw [fit_ok _ _ (by omega) (by omega)]
    go_enter Try.func21, Try.ntmps21
    go_wp2_with fail
    refine (d1 _).mono ?_
    rintro _ _ ⟨rfl, rfl⟩
    go_wp2_with fail
    refine (d2 _).mono ?_
    rintro _ _ ⟨rfl, rfl⟩
    go_wp2
    go_ret3
    exact ⟨rfl, rfl⟩
set_option maxRecDepth 100000 in
set_option maxHeartbeats 8000000 in
theorem refBoth_snp (a h c : Int) (h0 : 0 ≤ a) (h1 : a < 4294967296) (h2 : -2147483648 ≤ h) (h3 : h < 2147483648) (h4 : -2147483648 ≤ c) (h5 : c < 2147483648) (hM : h < 0) (hL : 0 < c) (w : World) :
    Calls Try.prog 21 #[.int .u32 a, .int .i32 h, .int .i32 c, .bool false] w fun e w' => e = .returned (TI (symT (dbl a h) c)) ∧ w = w' := by
  have hc : c ≠ 0 := by omega
  have hX : dbl a h = h * 4294967296 + a := rfl
  have t := tdm (dbl a h) c hc
  have hc0 : (c == 0) = false := by rw [beq_eq_false_iff_ne]; exact hc
  have d1 := fun w : World => refDouble_any a (h % 4294967296) h0 h1 (by omega) (by omega) w
  have hD : dbl a (h % 4294967296) = h % 4294967296 * 4294967296 + a := rfl
  have hbM : decide (h < 0) = true := by rw [decide_eq_true_iff]; omega
  have hb : decide (dbl a h < 0) = true := by rw [decide_eq_true_iff]; omega
  have hbc : decide (c < 0) = false := by rw [decide_eq_false_iff_not]; omega
  rw [sym_fit _ _ hc, t.1, t.2, hb, hbc, if_pos (show dbl a h < 0 by omega)]
  clear t hb
  rw [show (true != false) = true from rfl, if_pos rfl]
  have hN0 : 0 ≤ ((dbl a h).natAbs : Int) := by omega
  have hN1 : ((dbl a h).natAbs : Int) ≤ 9223372036854775808 := by omega
  have hn0 : 0 < (c.natAbs : Int) := by omega
  have hn1 : (c.natAbs : Int) ≤ 2147483648 := by omega
  have hND : IntKind.u64.wrap (-(dbl a (h % 4294967296))) = ((dbl a h).natAbs : Int) := by rw [u64_mod, hD]; omega
  have hnC : (c.natAbs : Int) = c := by omega
  have d2 := fun w : World => refLong_any ((dbl a h).natAbs : Int) (c.natAbs : Int) hN0 (by omega) hn0 (by omega) w
  have hr0 : 0 ≤ ((dbl a h).natAbs : Int) % (c.natAbs : Int) := Int.emod_nonneg _ (by omega)
  have hr1 : ((dbl a h).natAbs : Int) % (c.natAbs : Int) < (c.natAbs : Int) := Int.emod_lt_of_pos _ (by omega)
  have hq0 : 0 ≤ ((dbl a h).natAbs : Int) / (c.natAbs : Int) := Int.ediv_nonneg (by omega) (by omega)
  have hq1 := Int.ediv_le_self (c.natAbs : Int) hN0
  generalize ((dbl a h).natAbs : Int) = N at *
  rw [hnC] at d2 hr0 hr1 hq0 hq1 hn0 hn1 ⊢
  clear hnC
  generalize N % c = r at *
  generalize N / c = q at *
  have hD0 : 0 ≤ dbl a (h % 4294967296) ∧ dbl a (h % 4294967296) < 18446744073709551616 := by omega
  generalize dbl a (h % 4294967296) = D at *
  obtain ⟨hD0, hD1⟩ := hD0
  clear hD hX
  by_cases hov : 2147483648 < q
  · skip
    rw [fit_no _ _ (by omega)]
    go_enter Try.func21, Try.ntmps21
    go_wp2_with fail
    refine (d1 _).mono ?_
    rintro _ _ ⟨rfl, rfl⟩
    go_wp2_with fail
    refine (d2 _).mono ?_
    rintro _ _ ⟨rfl, rfl⟩
    go_wp2
    go_ret3
    exact ⟨rfl, rfl⟩
  · skip
    rw [fit_ok _ _ (by omega) (by omega)]
    go_enter Try.func21, Try.ntmps21
    go_wp2_with fail
    refine (d1 _).mono ?_
    rintro _ _ ⟨rfl, rfl⟩
    go_wp2_with fail
    refine (d2 _).mono ?_
    rintro _ _ ⟨rfl, rfl⟩
    go_wp2
    go_ret3
    exact ⟨rfl, rfl⟩
set_option maxRecDepth 100000 in
set_option maxHeartbeats 8000000 in
theorem refBoth_spn (a h c : Int) (h0 : 0 ≤ a) (h1 : a < 4294967296) (h2 : -2147483648 ≤ h) (h3 : h < 2147483648) (h4 : -2147483648 ≤ c) (h5 : c < 2147483648) (hM : 0 ≤ h) (hL : c < 0) (w : World) :
    Calls Try.prog 21 #[.int .u32 a, .int .i32 h, .int .i32 c, .bool false] w fun e w' => e = .returned (TI (symT (dbl a h) c)) ∧ w = w' := by
  have hc : c ≠ 0 := by omega
  have hX : dbl a h = h * 4294967296 + a := rfl
  have t := tdm (dbl a h) c hc
  have hc0 : (c == 0) = false := by rw [beq_eq_false_iff_ne]; exact hc
  have d1 := fun w : World => refDouble_any a (h % 4294967296) h0 h1 (by omega) (by omega) w
  have hD : dbl a (h % 4294967296) = h % 4294967296 * 4294967296 + a := rfl
  have hbM : decide (h < 0) = false := by rw [decide_eq_false_iff_not]; omega
  have hb : decide (dbl a h < 0) = false := by rw [decide_eq_false_iff_not]; omega
  have hbc : decide (c < 0) = true := by rw [decide_eq_true_iff]; omega
  rw [sym_fit _ _ hc, t.1, t.2, hb, hbc, if_neg (show ¬ dbl a h < 0 by omega)]
  clear t hb
  rw [show (false != true) = true from rfl, if_pos rfl]
  have hN0 : 0 ≤ ((dbl a h).natAbs : Int) := by omega
  have hN1 : ((dbl a h).natAbs : Int) ≤ 9223372036854775808 := by omega
  have hn0 : 0 < (c.natAbs : Int) := by omega
  have hn1 : (c.natAbs : Int) ≤ 2147483648 := by omega
  have hND : dbl a (h % 4294967296) = ((dbl a h).natAbs : Int) := by rw [hD]; omega
  rw [hND, show h % 4294967296 = h by omega] at d1
  have hnC : (c.natAbs : Int) = -c := by omega
  have hnW : IntKind.u64.wrap (-(IntKind.u64.wrap c)) = -c := by rw [u64_mod, u64_mod]; omega
  have hnW2 : IntKind.u64.wrap (-c) = -c := by rw [u64_mod]; omega
  have d2 := fun w : World => refLong_any ((dbl a h).natAbs : Int) (c.natAbs : Int) hN0 (by omega) hn0 (by omega) w
  have hr0 : 0 ≤ ((dbl a h).natAbs : Int) % (c.natAbs : Int) := Int.emod_nonneg _ (by omega)
  have hr1 : ((dbl a h).natAbs : Int) % (c.natAbs : Int) < (c.natAbs : Int) := Int.emod_lt_of_pos _ (by omega)
  have hq0 : 0 ≤ ((dbl a h).natAbs : Int) / (c.natAbs : Int) := Int.ediv_nonneg (by omega) (by omega)
  have hq1 := Int.ediv_le_self (c.natAbs : Int) hN0
  generalize ((dbl a h).natAbs : Int) = N at *
  rw [hnC] at d2 hr0 hr1 hq0 hq1 hn0 hn1 ⊢
  clear hnC
  generalize N % (-c) = r at *
  generalize N / (-c) = q at *
  clear hD hX hND
  obtain ⟨n, hn⟩ : ∃ z, z = -c := ⟨_, rfl⟩
  rw [← hn] at d2 hr1 hn0 hn1 hnW hnW2
  have Hn := Lib.hid hn
  clear hn
  by_cases hov : 2147483648 < q
  · skip
    rw [fit_no _ _ (by omega)]
    go_enter Try.func21, Try.ntmps21
    go_wp2_with fail
    refine (d1 _).mono ?_
    rintro _ _ ⟨rfl, rfl⟩
    go_wp2_with fail
    refine (d2 _).mono ?_
    rintro _ _ ⟨rfl, rfl⟩
    go_wp2
    go_ret3
    exact ⟨rfl, rfl⟩
  · skip
    rw [fit_ok _ _ (by omega) (by omega)]
    go_enter Try.func21, Try.ntmps21
    go_wp2_with fail
    refine (d1 _).mono ?_
    rintro _ _ ⟨rfl, rfl⟩
    go_wp2_with fail
    refine (d2 _).mono ?_
    rintro _ _ ⟨rfl, rfl⟩
    go_wp2
    go_ret3
    exact ⟨rfl, rfl⟩
set_option maxRecDepth 100000 in
set_option maxHeartbeats 8000000 in
theorem refBoth_spp (a h c : Int) (h0 : 0 ≤ a) (h1 : a < 4294967296) (h2 : -2147483648 ≤ h) (h3 : h < 2147483648) (h4 : -2147483648 ≤ c) (h5 : c < 2147483648) (hM : 0 ≤ h) (hL : 0 < c) (w : World) :
    Calls Try.prog 21 #[.int .u32 a, .int .i32 h, .int .i32 c, .bool false] w fun e w' => e = .returned (TI (symT (dbl a h) c)) ∧ w = w' := by
  have hc : c ≠ 0 := by omega
  have hX : dbl a h = h * 4294967296 + a := rfl
  have t := tdm (dbl a h) c hc
  have hc0 : (c == 0) = false := by rw [beq_eq_false_iff_ne]; exact hc
  have d1 := fun w : World => refDouble_any a (h % 4294967296) h0 h1 (by omega) (by omega) w
  have hD : dbl a (h % 4294967296) = h % 4294967296 * 4294967296 + a := rfl
  have hbM : decide (h < 0) = false := by rw [decide_eq_false_iff_not]; omega
  have hb : decide (dbl a h < 0) = false := by rw [decide_eq_false_iff_not]; omega
  have hbc : decide (c < 0) = false := by rw [decide_eq_false_iff_not]; omega
  rw [sym_fit _ _ hc, t.1, t.2, hb, hbc, if_neg (show ¬ dbl a h < 0 by omega)]
  clear t hb
  rw [show (false != false) = false from rfl, if_neg (by decide)]
  have hN0 : 0 ≤ ((dbl a h).natAbs : Int) := by omega
  have hN1 : ((dbl a h).natAbs : Int) ≤ 9223372036854775808 := by omega
  have hn0 : 0 < (c.natAbs : Int) := by omega
  have hn1 : (c.natAbs : Int) ≤ 2147483648 := by omega
  have hND : dbl a (h % 4294967296) = ((dbl a h).natAbs : Int) := by rw [hD]; omega
  rw [hND, show h % 4294967296 = h by omega] at d1
  have hnC : (c.natAbs : Int) = c := by omega
  have d2 := fun w : World => refLong_any ((dbl a h).natAbs : Int) (c.natAbs : Int) hN0 (by omega) hn0 (by omega) w
  have hr0 : 0 ≤ ((dbl a h).natAbs : Int) % (c.natAbs : Int) := Int.emod_nonneg _ (by omega)
  have hr1 : ((dbl a h).natAbs : Int) % (c.natAbs : Int) < (c.natAbs : Int) := Int.emod_lt_of_pos _ (by omega)
  have hq0 : 0 ≤ ((dbl a h).natAbs : Int) / (c.natAbs : Int) := Int.ediv_nonneg (by omega) (by omega)
  have hq1 := Int.ediv_le_self (c.natAbs : Int) hN0
  generalize ((dbl a h).natAbs : Int) = N at *
  rw [hnC] at d2 hr0 hr1 hq0 hq1 hn0 hn1 ⊢
  clear hnC
  generalize N % c = r at *
  generalize N / c = q at *
  clear hD hX hND
  by_cases hov : 2147483647 < q
  · skip
    rw [fit_no _ _ (by omega)]
    go_enter Try.func21, Try.ntmps21
    go_wp2_with fail
    refine (d1 _).mono ?_
    rintro _ _ ⟨rfl, rfl⟩
    go_wp2_with fail
    refine (d2 _).mono ?_
    rintro _ _ ⟨rfl, rfl⟩
    go_wp2
    go_ret3
    exact ⟨rfl, rfl⟩
  · skip
    rw [fit_ok _ _ (by omega) (by omega)]
    go_enter Try.func21, Try.ntmps21
    go_wp2_with fail
    refine (d1 _).mono ?_
    rintro _ _ ⟨rfl, rfl⟩
    go_wp2_with fail
    refine (d2 _).mono ?_
    rintro _ _ ⟨rfl, rfl⟩
    go_wp2
    go_ret3
    exact ⟨rfl, rfl⟩
set_option maxRecDepth 100000 in
set_option maxHeartbeats 8000000 in
theorem refBoth_fnn (a h c : Int) (h0 : 0 ≤ a) (h1 : a < 4294967296) (h2 : -2147483648 ≤ h) (h3 : h < 2147483648) (h4 : -2147483648 ≤ c) (h5 : c < 2147483648) (hM : h < 0) (hL : c < 0) (w : World) :
    Calls Try.prog 21 #[.int .u32 a, .int .i32 h, .int .i32 c, .bool true] w fun e w' => e = .returned (TI (floT (dbl a h) c)) ∧ w = w' := by
  have hc : c ≠ 0 := by omega
  have hX : dbl a h = h * 4294967296 + a := rfl
  have t := tdm (dbl a h) c hc
  have hc0 : (c == 0) = false := by rw [beq_eq_false_iff_ne]; exact hc
  have d1 := fun w : World => refDouble_any a (h % 4294967296) h0 h1 (by omega) (by omega) w
  have hD : dbl a (h % 4294967296) = h % 4294967296 * 4294967296 + a := rfl
  have hbM : decide (h < 0) = true := by rw [decide_eq_true_iff]; omega
  have hb : decide (dbl a h < 0) = true := by rw [decide_eq_true_iff]; omega
  have hbc : decide (c < 0) = true := by rw [decide_eq_true_iff]; omega
  rw [flo_fit _ _ hc, t.1, t.2, hb, hbc, if_pos (show dbl a h < 0 by omega)]
  clear t hb
  rw [show (true != true) = false from rfl, if_neg (by decide)]
  have hN0 : 0 ≤ ((dbl a h).natAbs : Int) := by omega
  have hN1 : ((dbl a h).natAbs : Int) ≤ 9223372036854775808 := by omega
  have hn0 : 0 < (c.natAbs : Int) := by omega
  have hn1 : (c.natAbs : Int) ≤ 2147483648 := by omega
  have hND : IntKind.u64.wrap (-(dbl a (h % 4294967296))) = ((dbl a h).natAbs : Int) := by rw [u64_mod, hD]; omega
  have hnC : (c.natAbs : Int) = -c := by omega
  have hnW : IntKind.u64.wrap (-(IntKind.u64.wrap c)) = -c := by rw [u64_mod, u64_mod]; omega
  have hnW2 : IntKind.u64.wrap (-c) = -c := by rw [u64_mod]; omega
  have d2 := fun w : World => refLong_any ((dbl a h).natAbs : Int) (c.natAbs : Int) hN0 (by omega) hn0 (by omega) w
  have hr0 : 0 ≤ ((dbl a h).natAbs : Int) % (c.natAbs : Int) := Int.emod_nonneg _ (by omega)
  have hr1 : ((dbl a h).natAbs : Int) % (c.natAbs : Int) < (c.natAbs : Int) := Int.emod_lt_of_pos _ (by omega)
  have hq0 : 0 ≤ ((dbl a h).natAbs : Int) / (c.natAbs : Int) := Int.ediv_nonneg (by omega) (by omega)
  have hq1 := Int.ediv_le_self (c.natAbs : Int) hN0
  generalize ((dbl a h).natAbs : Int) = N at *
  rw [hnC] at d2 hr0 hr1 hq0 hq1 hn0 hn1 ⊢
  clear hnC
  generalize N % (-c) = r at *
  generalize N / (-c) = q at *
  have hD0 : 0 ≤ dbl a (h % 4294967296) ∧ dbl a (h % 4294967296) < 18446744073709551616 := by omega
  generalize dbl a (h % 4294967296) = D at *
  obtain ⟨hD0, hD1⟩ := hD0
  clear hD hX
  obtain ⟨n, hn⟩ : ∃ z, z = -c := ⟨_, rfl⟩
  rw [← hn] at d2 hr1 hn0 hn1 hnW hnW2
  have Hn := Lib.hid hn
  clear hn
  rw [flo_same _ _ _ (by omega)]
  by_cases hov : 2147483647 < q
  · skip
    rw [fit_no _ _ (by omega)]
    go_enter Try.func21, Try.ntmps21
    go_wp2_with fail
    refine (d1 _).mono ?_
    rintro _ _ ⟨rfl, rfl⟩
    go_wp2_with fail
    refine (d2 _).mono ?_
    rintro _ _ ⟨rfl, rfl⟩
    go_wp2
    go_ret3
    exact ⟨rfl, rfl⟩
  · skip
    rw [fit_ok _ _ (by omega) (by omega)]
    go_enter Try.func21, Try.ntmps21
    go_wp2_with fail
    refine (d1 _).mono ?_
    rintro _ _ ⟨rfl, rfl⟩
    go_wp2_with fail
    refine (d2 _).mono ?_
    rintro _ _ ⟨rfl, rfl⟩
    go_wp2
    go_ret3
    exact ⟨rfl, rfl⟩
set_option maxRecDepth 100000 in
set_option maxHeartbeats 8000000 in
theorem refBoth_fnp (a h c : Int) (h0 : 0 ≤ a) (h1 : a < 4294967296) (h2 : -2147483648 ≤ h) (h3 : h < 2147483648) (h4 : -2147483648 ≤ c) (h5 : c < 2147483648) (hM : h < 0) (hL : 0 < c) (w : World) :
    Calls Try.prog 21 #[.int .u32 a, .int .i32 h, .int .i32 c, .bool true] w fun e w' => e = .returned (TI (floT (dbl a h) c)) ∧ w = w' := by
  have hc : c ≠ 0 := by omega
  have hX : dbl a h = h * 4294967296 + a := rfl
  have t := tdm (dbl a h) c hc
  have hc0 : (c == 0) = false := by rw [beq_eq_false_iff_ne]; exact hc
  have d1 := fun w : World => refDouble_any a (h % 4294967296) h0 h1 (by omega) (by omega) w
  have hD : dbl a (h % 4294967296) = h % 4294967296 * 4294967296 + a := rfl
  have hbM : decide (h < 0) = true := by rw [decide_eq_true_iff]; omega
  have hb : decide (dbl a h < 0) = true := by rw [decide_eq_true_iff]; omega
  have hbc : decide (c < 0) = false := by rw [decide_eq_false_iff_not]; omega
  rw [flo_fit _ _ hc, t.1, t.2, hb, hbc, if_pos (show dbl a h < 0 by omega)]
  clear t hb
  rw [show (true != false) = true from rfl, if_pos rfl]
  have hN0 : 0 ≤ ((dbl a h).natAbs : Int) := by omega
  have hN1 : ((dbl a h).natAbs : Int) ≤ 9223372036854775808 := by omega
  have hn0 : 0 < (c.natAbs : Int) := by omega
  have hn1 : (c.natAbs : Int) ≤ 2147483648 := by omega
  have hND : IntKind.u64.wrap (-(dbl a (h % 4294967296))) = ((dbl a h).natAbs : Int) := by rw [u64_mod, hD]; omega
  have hnC : (c.natAbs : Int) = c := by omega
  have d2 := fun w : World => refLong_any ((dbl a h).natAbs : Int) (c.natAbs : Int) hN0 (by omega) hn0 (by omega) w
  have hr0 : 0 ≤ ((dbl a h).natAbs : Int) % (c.natAbs : Int) := Int.emod_nonneg _ (by omega)
  have hr1 : ((dbl a h).natAbs : Int) % (c.natAbs : Int) < (c.natAbs : Int) := Int.emod_lt_of_pos _ (by omega)
  have hq0 : 0 ≤ ((dbl a h).natAbs : Int) / (c.natAbs : Int) := Int.ediv_nonneg (by omega) (by omega)
  have hq1 := Int.ediv_le_self (c.natAbs : Int) hN0
  generalize ((dbl a h).natAbs : Int) = N at *
  rw [hnC] at d2 hr0 hr1 hq0 hq1 hn0 hn1 ⊢
  clear hnC
  generalize N % c = r at *
  generalize N / c = q at *
  have hD0 : 0 ≤ dbl a (h % 4294967296) ∧ dbl a (h % 4294967296) < 18446744073709551616 := by omega
  generalize dbl a (h % 4294967296) = D at *
  obtain ⟨hD0, hD1⟩ := hD0
  clear hD hX
  by_cases hrz : 0 < r
  · rw [flo_other _ _ _ (by omega) (by omega)]
    by_cases hov : 2147483648 < (q + 1)
    · skip
      rw [fit_no _ _ (by omega)]
      go_enter Try.func21, Try.ntmps21
      go_wp2_with fail
      refine (d1 _).mono ?_
      rintro _ _ ⟨rfl, rfl⟩
      go_wp2_with fail
      refine (d2 _).mono ?_
      rintro _ _ ⟨rfl, rfl⟩
      go_wp2
      go_ret3
      exact ⟨rfl, rfl⟩
    · skip
      rw [fit_ok _ _ (by omega) (by omega)]
      go_enter Try.func21, Try.ntmps21
      go_wp2_with fail
      refine (d1 _).mono ?_
      rintro _ _ ⟨rfl, rfl⟩
      go_wp2_with fail
      refine (d2 _).mono ?_
      rintro _ _ ⟨rfl, rfl⟩
      go_wp2
      go_ret3
      exact ⟨ret3 (by omega) (by dsimp only; omega) rfl, rfl⟩
  · rw [flo_same _ _ _ (by omega)]
    by_cases hov : 2147483648 < q
    · skip
      rw [fit_no _ _ (by omega)]
      go_enter Try.func21, Try.ntmps21
      go_wp2_with fail
      refine (d1 _).mono ?_
      rintro _ _ ⟨rfl, rfl⟩
      go_wp2_with fail
      refine (d2 _).mono ?_
      rintro _ _ ⟨rfl, rfl⟩
      go_wp2
      go_ret3
      exact ⟨rfl, rfl⟩
    · skip
      rw [fit_ok _ _ (by omega) (by omega)]
      go_enter Try.func21, Try.ntmps21
      go_wp2_with fail
      refine (d1 _).mono ?_
      rintro _ _ ⟨rfl, rfl⟩
      go_wp2_with fail
      refine (d2 _).mono ?_
      rintro _ _ ⟨rfl, rfl⟩
      go_wp2
      go_ret3
      exact ⟨rfl, rfl⟩
set_option maxRecDepth 100000 in
set_option maxHeartbeats 8000000 in
theorem refBoth_fpn (a h c : Int) (h0 : 0 ≤ a) (h1 : a < 4294967296) (h2 : -2147483648 ≤ h) (h3 : h < 2147483648) (h4 : -2147483648 ≤ c) (h5 : c < 2147483648) (hM : 0 ≤ h) (hL : c < 0) (w : World) :
    Calls Try.prog 21 #[.int .u32 a, .int .i32 h, .int .i32 c, .bool true] w fun e w' => e = .returned (TI (floT (dbl a h) c)) ∧ w = w' := by
  have hc : c ≠ 0 := by omega
  have hX : dbl a h = h * 4294967296 + a := rfl
  have t := tdm (dbl a h) c hc
  have hc0 : (c == 0) = false := by rw [beq_eq_false_iff_ne]; exact hc
  have d1 := fun w : World => refDouble_any a (h % 4294967296) h0 h1 (by omega) (by omega) w
  have hD : dbl a (h % 4294967296) = h % 4294967296 * 4294967296 + a := rfl
  have hbM : decide (h < 0) = false := by rw [decide_eq_false_iff_not]; omega
  have hb : decide (dbl a h < 0) = false := by rw [decide_eq_false_iff_not]; omega
  have hbc : decide (c < 0) = true := by rw [decide_eq_true_iff]; omega
  rw [flo_fit _ _ hc, t.1, t.2, hb, hbc, if_neg (show ¬ dbl a h < 0 by omega)]
  clear t hb
  rw [show (false != true) = true from rfl, if_pos rfl]
  have hN0 : 0 ≤ ((dbl a h).natAbs : Int) := by omega
  have hN1 : ((dbl a h).natAbs : Int) ≤ 9223372036854775808 := by omega
  have hn0 : 0 < (c.natAbs : Int) := by omega
  have hn1 : (c.natAbs : Int) ≤ 2147483648 := by omega
  have hND : dbl a (h % 4294967296) = ((dbl a h).natAbs : Int) := by rw [hD]; omega
  rw [hND, show h % 4294967296 = h by omega] at d1
  have hnC : (c.natAbs : Int) = -c := by omega
  have hnW : IntKind.u64.wrap (-(IntKind.u64.wrap c)) = -c := by rw [u64_mod, u64_mod]; omega
  have hnW2 : IntKind.u64.wrap (-c) = -c := by rw [u64_mod]; omega
  have d2 := fun w : World => refLong_any ((dbl a h).natAbs : Int) (c.natAbs : Int) hN0 (by omega) hn0 (by omega) w
  have hr0 : 0 ≤ ((dbl a h).natAbs : Int) % (c.natAbs : Int) := Int.emod_nonneg _ (by omega)
  have hr1 : ((dbl a h).natAbs : Int) % (c.natAbs : Int) < (c.natAbs : Int) := Int.emod_lt_of_pos _ (by omega)
  have hq0 : 0 ≤ ((dbl a h).natAbs : Int) / (c.natAbs : Int) := Int.ediv_nonneg (by omega) (by omega)
  have hq1 := Int.ediv_le_self (c.natAbs : Int) hN0
  generalize ((dbl a h).natAbs : Int) = N at *
  rw [hnC] at d2 hr0 hr1 hq0 hq1 hn0 hn1 ⊢
  clear hnC
  generalize N % (-c) = r at *
  generalize N / (-c) = q at *
  clear hD hX hND
  obtain ⟨n, hn⟩ : ∃ z, z = -c := ⟨_, rfl⟩
  rw [← hn] at d2 hr1 hn0 hn1 hnW hnW2
  have Hn := Lib.hid hn
  clear hn
  by_cases hrz : 0 < r
  · rw [flo_other _ _ _ (by omega) (by omega)]
    by_cases hov : 2147483648 < (q + 1)
    · skip
      rw [fit_no _ _ (by omega)]
      go_enter Try.func21, Try.ntmps21
      go_wp2_with fail
      refine (d1 _).mono ?_
      rintro _ _ ⟨rfl, rfl⟩
      go_wp2_with fail
      refine (d2 _).mono ?_
      rintro _ _ ⟨rfl, rfl⟩
      go_wp2
      go_ret3
      exact ⟨rfl, rfl⟩
    · skip
      rw [fit_ok _ _ (by omega) (by omega)]
      go_enter Try.func21, Try.ntmps21
      go_wp2_with fail
      refine (d1 _).mono ?_
      rintro _ _ ⟨rfl, rfl⟩
      go_wp2_with fail
      refine (d2 _).mono ?_
      rintro _ _ ⟨rfl, rfl⟩
      go_wp2
      go_ret3
      exact ⟨ret3 (by have := Hn.out; omega) (by dsimp only; omega) rfl, rfl⟩
  · rw [flo_same _ _ _ (by omega)]
    by_cases hov : 2147483648 < q
    · skip
      rw [fit_no _ _ (by omega)]
      go_enter Try.func21, Try.ntmps21
      go_wp2_with fail
      refine (d1 _).mono ?_
      rintro _ _ ⟨rfl, rfl⟩
      go_wp2_with fail
      refine (d2 _).mono ?_
      rintro _ _ ⟨rfl, rfl⟩
      go_wp2
      go_ret3
      exact ⟨rfl, rfl⟩
    · skip
      rw [fit_ok _ _ (by omega) (by omega)]
      go_enter Try.func21, Try.ntmps21
      go_wp2_with fail
      refine (d1 _).mono ?_
      rintro _ _ ⟨rfl, rfl⟩
      go_wp2_with fail
      refine (d2 _).mono ?_
      rintro _ _ ⟨rfl, rfl⟩
      go_wp2
      go_ret3
      exact ⟨rfl, rfl⟩
set_option maxRecDepth 100000 in
set_option maxHeartbeats 8000000 in
theorem refBoth_fpp (a h c : Int) (h0 : 0 ≤ a) (h1 : a < 4294967296) (h2 : -2147483648 ≤ h) (h3 : h < 2147483648) (h4 : -2147483648 ≤ c) (h5 : c < 2147483648) (hM : 0 ≤ h) (hL : 0 < c) (w : World) :
    Calls Try.prog 21 #[.int .u32 a, .int .i32 h, .int .i32 c, .bool true] w fun e w' => e = .returned (TI (floT (dbl a h) c)) ∧ w = w' := by
  have hc : c ≠ 0 := by omega
  have hX : dbl a h = h * 4294967296 + a := rfl
  have t := tdm (dbl a h) c hc
  have hc0 : (c == 0) = false := by rw [beq_eq_false_iff_ne]; exact hc
  have d1 := fun w : World => refDouble_any a (h % 4294967296) h0 h1 (by omega) (by omega) w
  have hD : dbl a (h % 4294967296) = h % 4294967296 * 4294967296 + a := rfl
  have hbM : decide (h < 0) = false := by rw [decide_eq_false_iff_not]; omega
  have hb : decide (dbl a h < 0) = false := by rw [decide_eq_false_iff_not]; omega
  have hbc : decide (c < 0) = false := by rw [decide_eq_false_iff_not]; omega
  rw [flo_fit _ _ hc, t.1, t.2, hb, hbc, if_neg (show ¬ dbl a h < 0 by omega)]
  clear t hb
  rw [show (false != false) = false from rfl, if_neg (by decide)]
  have hN0 : 0 ≤ ((dbl a h).natAbs : Int) := by omega
  have hN1 : ((dbl a h).natAbs : Int) ≤ 9223372036854775808 := by omega
  have hn0 : 0 < (c.natAbs : Int) := by omega
  have hn1 : (c.natAbs : Int) ≤ 2147483648 := by omega
  have hND : dbl a (h % 4294967296) = ((dbl a h).natAbs : Int) := by rw [hD]; omega
  rw [hND, show h % 4294967296 = h by omega] at d1
  have hnC : (c.natAbs : Int) = c := by omega
  have d2 := fun w : World => refLong_any ((dbl a h).natAbs : Int) (c.natAbs : Int) hN0 (by omega) hn0 (by omega) w
  have hr0 : 0 ≤ ((dbl a h).natAbs : Int) % (c.natAbs : Int) := Int.emod_nonneg _ (by omega)
  have hr1 : ((dbl a h).natAbs : Int) % (c.natAbs : Int) < (c.natAbs : Int) := Int.emod_lt_of_pos _ (by omega)
  have hq0 : 0 ≤ ((dbl a h).natAbs : Int) / (c.natAbs : Int) := Int.ediv_nonneg (by omega) (by omega)
  have hq1 := Int.ediv_le_self (c.natAbs : Int) hN0
  generalize ((dbl a h).natAbs : Int) = N at *
  rw [hnC] at d2 hr0 hr1 hq0 hq1 hn0 hn1 ⊢
  clear hnC
  generalize N % c = r at *
  generalize N / c = q at *
  clear hD hX hND
  rw [flo_same _ _ _ (by omega)]
  by_cases hov : 2147483647 < q
  · skip
    rw [fit_no _ _ (by omega)]
    go_enter Try.func21, Try.ntmps21
    go_wp2_with fail
    refine (d1 _).mono ?_
    rintro _ _ ⟨rfl, rfl⟩
    go_wp2_with fail
    refine (d2 _).mono ?_
    rintro _ _ ⟨rfl, rfl⟩
    go_wp2
    go_ret3
    exact ⟨rfl, rfl⟩
  · skip
    rw [fit_ok _ _ (by omega) (by omega)]
    go_enter Try.func21, Try.ntmps21
    go_wp2_with fail
    refine (d1 _).mono ?_
    rintro _ _ ⟨rfl, rfl⟩
    go_wp2_with fail
    refine (d2 _).mono ?_
    rintro _ _ ⟨rfl, rfl⟩
    go_wp2
    go_ret3
    exact ⟨rfl, rfl⟩
end Go.Proofs.Ytmmnakapcbkioaa.Mine
