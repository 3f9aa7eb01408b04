/- CellBoth: both signed divisions tell the same, where nothing is left, or the signs are alike; else the floored quotient is one less, and its remainder by the divisor more: the plain law and a walk over the law's code. Conditions: that the numbers fit their kinds. -/
import Derived.Test.YtmmnakapcbkioaaLawCellSums
namespace Go.Proofs.Ytmmnakapcbkioaa.Mine
open Go.RowKit
set_option linter.unusedVariables false

theorem tmod_sign (X c : Int) (h : X.tmod c ≠ 0) : (X.tmod c < 0 ↔ X < 0) := by
  rcases (show X < 0 ∨ 0 ≤ X by omega) with h0 | h0
  · have h1 : X.tmod c = -((-X).tmod c) := by rw [Int.neg_tmod, Int.neg_neg]
    have h2 := Int.tmod_nonneg c (show 0 ≤ -X by omega)
    omega
  · have h2 := Int.tmod_nonneg c h0
    omega
/-- what the two divisions tell, case by case -/
theorem both_cases (lo hi c : Int) (l0 : 0 ≤ lo) (l1 : lo < 4294967296) (h0 : -2147483648 ≤ hi) (h1 : hi < 2147483648) (c0 : -2147483648 ≤ c) (c1 : c < 2147483648) (r q e s t f : Int)
    (hs : symT (dbl lo hi) c = (r, q, e)) (hf : floT (dbl lo hi) c = (s, t, f)) :
    ((e = -10 ∨ e = -11) ∧ (f = e ∨ f = 0)) ∨ (e = 0 ∧ f = -11 ∧ q = -2147483648 ∧ r ≠ 0) ∨
    (e = 0 ∧ f = 0 ∧ (r = 0 ∨ decide (hi < 0) = decide (c < 0)) ∧ s = r ∧ t = q) ∨
    (e = 0 ∧ f = 0 ∧ r ≠ 0 ∧ decide (hi < 0) ≠ decide (c < 0) ∧ t = q - 1 ∧ s = r + c ∧ -2147483648 ≤ q - 1 ∧ q - 1 < 2147483648 ∧ -2147483648 ≤ r + c ∧ r + c < 2147483648) := by
  have hX : dbl lo hi < 0 ↔ hi < 0 := by unfold dbl; omega
  have hX0 : -9223372036854775808 ≤ dbl lo hi := by unfold dbl; omega
  have hX1 : dbl lo hi < 9223372036854775808 := by unfold dbl; omega
  generalize dbl lo hi = X at *
  unfold symT at hs
  unfold floT at hf
  by_cases hc : c = 0
  · rw [if_pos hc] at hs hf
    simp only [Prod.mk.injEq] at hs hf
    omega
  · rw [if_neg hc] at hs hf
    by_cases hm : c = -1 ∧ X = -9223372036854775808
    · rw [if_pos hm] at hs hf
      simp only [Prod.mk.injEq] at hs hf
      omega
    · rw [if_neg hm] at hs hf
      have hrb := r_bd X c hc
      have hsg := tmod_sign X c
      generalize X.tdiv c = Q at *
      generalize X.tmod c = R at *
      unfold fitT at hs
      have hff : fitT (floRQ R Q c).1 (floRQ R Q c).2 = (s, t, f) := hf
      unfold floRQ at hff
      by_cases hR : R ≠ 0 ∧ (!(decide (R < 0) == decide (c < 0))) = true
      · rw [if_pos hR] at hff
        have hd := hR.2
        simp only [Bool.not_eq_true', beq_eq_false_iff_ne, ne_eq, decide_eq_decide] at hd
        have hsg2 := hsg hR.1
        unfold fitT at hff
        simp only at hff
        split at hs <;> split at hff <;> simp only [Prod.mk.injEq] at hs hff
        · omega
        · omega
        · right; left
          obtain ⟨rfl, rfl, rfl⟩ := hs
          have := hR.1
          omega
        · right; right; right
          obtain ⟨rfl, rfl, rfl⟩ := hs
          refine ⟨rfl, hff.2.2.symm, hR.1, ?_, by omega, by omega, by omega, by omega, by omega, by omega⟩
          rw [ne_eq, decide_eq_decide]; omega
      · rw [if_neg hR] at hff
        unfold fitT at hff
        simp only at hff
        split at hs <;> split at hff <;> simp only [Prod.mk.injEq] at hs hff
        · omega
        · omega
        · omega
        · right; right; left
          obtain ⟨rfl, rfl, rfl⟩ := hs
          refine ⟨rfl, hff.2.2.symm, ?_, hff.1.symm, hff.2.1.symm⟩
          by_cases h : R = 0
          · exact .inl h
          · right
            have hd : ¬ ((!(decide (R < 0) == decide (c < 0))) = true) := fun h2 => hR ⟨h, h2⟩
            simp only [Bool.not_eq_true', beq_eq_false_iff_ne, ne_eq, decide_eq_decide, Classical.not_not] at hd
            have := hsg h
            rw [decide_eq_decide]; omega

set_option maxRecDepth 100000 in
set_option maxHeartbeats 4000000 in
theorem both_any (lo hi c : Int) (l0 : 0 ≤ lo) (l1 : lo < 4294967296) (h0 : -2147483648 ≤ hi) (h1 : hi < 2147483648) (c0 : -2147483648 ≤ c) (c1 : c < 2147483648) (w : World) :
    Calls Try.prog 3 #[.int .u32 lo, .int .i32 hi, .int .i32 c] w fun e w' => e = .returned (.bool true) ∧ Below w.heap.size w w' := by
  obtain ⟨⟨r, q, e⟩, hs⟩ : ∃ z, z = symT (dbl lo hi) c := ⟨_, rfl⟩
  obtain ⟨⟨s, t, f⟩, hf⟩ : ∃ z, z = floT (dbl lo hi) c := ⟨_, rfl⟩
  have hcs := both_cases lo hi c l0 l1 h0 h1 c0 c1 r q e s t f hs.symm hf.symm
  have k1 := fun w : World => symmetric_any lo hi c l0 l1 h0 h1 c0 c1 w
  have k2 := fun w : World => floored_any lo hi c l0 l1 h0 h1 c0 c1 w
  rw [← hs] at k1
  rw [← hf] at k2
  have K1 := Lib.hid k1
  have K2 := Lib.hid k2
  clear hs hf k1 k2
  rcases hcs with ⟨he, hfe⟩ | ⟨rfl, rfl, rfl, hr⟩ | ⟨rfl, rfl, hrs, rfl, rfl⟩ | ⟨rfl, rfl, hr, hsg, rfl, rfl, b1, b2, b3, b4⟩
  · have e1 : (e != 0) = true := by rw [bne_iff_ne]; omega
    have e2 : ((f == e) = true) ∨ ((f == e) = false ∧ (f == 0) = true) := by
      by_cases h : f = e
      · exact .inl (beq_iff_eq.2 h)
      · exact .inr ⟨beq_eq_false_iff_ne.2 h, beq_iff_eq.2 (by omega)⟩
    clear he hfe
    rcases e2 with e2 | ⟨e2, e3⟩
    all_goals
      go_enter Try.func3, Try.ntmps3
      go_wp2_with (first
        | (go_at_call 8; refine (K1.out _).mono ?_; rintro _ w1 ⟨rfl, q1⟩)
        | (go_at_call 9; refine (K2.out _).mono ?_; rintro _ w2 ⟨rfl, q2⟩)
        | (go_at_call 10; refine (awake_any _).mono ?_; rintro _ w3 ⟨rfl, q3⟩))
      go_ret
      exact ⟨rfl, bcall (bcall q1 q2) q3⟩
  · have e1 : (r != 0) = true := by rw [bne_iff_ne]; exact hr
    clear hr
    go_enter Try.func3, Try.ntmps3
    go_wp2_with (first
      | (go_at_call 8; refine (K1.out _).mono ?_; rintro _ w1 ⟨rfl, q1⟩)
      | (go_at_call 9; refine (K2.out _).mono ?_; rintro _ w2 ⟨rfl, q2⟩)
      | (go_at_call 10; refine (awake_any _).mono ?_; rintro _ w3 ⟨rfl, q3⟩))
    go_ret
    exact ⟨rfl, bcall (bcall q1 q2) q3⟩
  · have e0 : (s == s) = true := by simp
    have e9 : (t == t) = true := by simp
    have e2 : ((s == 0) = true) ∨ ((s == 0) = false ∧ (decide (hi < 0) == decide (c < 0)) = true) := by
      by_cases h : s = 0
      · exact .inl (beq_iff_eq.2 h)
      · exact .inr ⟨beq_eq_false_iff_ne.2 h, beq_iff_eq.2 (by rcases hrs with h2 | h2; exact absurd h2 h; exact h2)⟩
    clear hrs
    rcases e2 with e2 | ⟨e2, e3⟩
    all_goals
      go_enter Try.func3, Try.ntmps3
      go_wp2_with (first
        | (go_at_call 8; refine (K1.out _).mono ?_; rintro _ w1 ⟨rfl, q1⟩)
        | (go_at_call 9; refine (K2.out _).mono ?_; rintro _ w2 ⟨rfl, q2⟩)
        | (go_at_call 10; refine (awake_any _).mono ?_; rintro _ w3 ⟨rfl, q3⟩))
      go_ret
      exact ⟨rfl, bcall (bcall q1 q2) q3⟩
  · have e1 : (r == 0) = false := by rw [beq_eq_false_iff_ne]; exact hr
    have e2 : (decide (hi < 0) == decide (c < 0)) = false := by rw [beq_eq_false_iff_ne]; exact hsg
    have e3 : wrap32 (q - 1) = q - 1 := by unfold wrap32; omega
    have e4 : wrap32 (r + c) = r + c := by unfold wrap32; omega
    have e5 : (q - 1 == q - 1) = true := by simp
    have e6 : (r + c == r + c) = true := by simp
    clear hr hsg
    go_enter Try.func3, Try.ntmps3
    go_wp2_with (first
      | (go_at_call 8; refine (K1.out _).mono ?_; rintro _ w1 ⟨rfl, q1⟩)
      | (go_at_call 9; refine (K2.out _).mono ?_; rintro _ w2 ⟨rfl, q2⟩)
      | (go_at_call 10; refine (awake_any _).mono ?_; rintro _ w3 ⟨rfl, q3⟩))
    go_ret
    exact ⟨rfl, bcall (bcall q1 q2) q3⟩
end Go.Proofs.Ytmmnakapcbkioaa.Mine
