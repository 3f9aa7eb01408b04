/- CellDivides: the quotient times the divisor, and the remainder, is what was divided, and the remainder is less than the divisor, without their signs; and has the sign that it should: the plain law and a walk over the law's code. Conditions: that the numbers fit their kinds. -/
import Derived.Test.YtmmnakapcbkioaaLawCellBoth
import Derived.Deep.DeepCutAuto
namespace Go.Proofs.Ytmmnakapcbkioaa.Mine
open Go.RowKit
set_option linter.unusedVariables false

theorem run_max2i {P : Program} (w : World) (ats : Array TypeId) (ty : TypeId) (a b : Int) : (Builtin.max_ ats ty #[.int .i64 a, .int .i64 b]).run P w = .ok (.int .i64 (if a < b then b else a)) w := by
  simp only [Builtin.max_, List.foldlM_cons, List.foldlM_nil, Builtin.max2, Sem.run_bind, Sem.run_pure, Result.andThen_ok]
theorem less_any (a b : Int) (h : b.natAbs < a.natAbs) (a0 : -2147483648 ≤ a) (a1 : a < 2147483648) (w : World) :
    Calls Try.prog 16 #[.int .i32 a, .int .i32 b] w fun e w' => e = .returned (.bool false) ∧ w = w' := by
  have b0 : -2147483648 ≤ b := by omega
  have b1 : b < 2147483648 := by omega
  have m1 := fun (w : World) (ats : Array TypeId) (ty : TypeId) => run_max2i (P := Try.prog) w ats ty a (-a)
  have m2 := fun (w : World) (ats : Array TypeId) (ty : TypeId) => run_max2i (P := Try.prog) w ats ty b (-b)
  have hle : ¬ (if a < -a then -a else a) ≤ (if b < -b then -b else b) := by split <;> split <;> omega
  generalize (if a < -a then -a else a) = x at *
  generalize (if b < -b then -b else b) = y at *
  go_enter Try.func16, Try.ntmps16
  go_wp2
  go_ret
  exact ⟨rfl, rfl⟩
/-- what a signed division tells -/
def Told (fl : Bool) (lo hi c r q e : Int) : Prop :=
  (e = -10 ∧ c = 0 ∧ r = 0 ∧ q = 0) ∨ (e = -11 ∧ c ≠ 0 ∧ r = 0 ∧ q = 0) ∨
  (e = 0 ∧ c ≠ 0 ∧ q * c + r = dbl lo hi ∧ r.natAbs < c.natAbs ∧ -2147483648 ≤ q ∧ q < 2147483648 ∧ (r ≠ 0 → decide (r < 0) = if fl then decide (c < 0) else decide (hi < 0)))
theorem told_fit (fl : Bool) (lo hi c R Q r q e : Int) (hc : c ≠ 0) (h : fitT R Q = (r, q, e)) (h1 : Q * c + R = dbl lo hi) (h2 : R.natAbs < c.natAbs)
    (h3 : R ≠ 0 → decide (R < 0) = if fl then decide (c < 0) else decide (hi < 0)) : Told fl lo hi c r q e := by
  unfold fitT at h
  split at h <;> simp only [Prod.mk.injEq] at h
  · right; left; omega
  · right; right
    obtain ⟨rfl, rfl, rfl⟩ := h
    exact ⟨rfl, hc, h1, h2, by omega, by omega, h3⟩
theorem sym_told (lo hi c : Int) (l0 : 0 ≤ lo) (l1 : lo < 4294967296) (h0 : -2147483648 ≤ hi) (h1 : hi < 2147483648) (r q e : Int) (hs : symT (dbl lo hi) c = (r, q, e)) : Told false lo hi c r q e := by
  have hX : dbl lo hi < 0 ↔ hi < 0 := by unfold dbl; omega
  unfold symT at hs
  by_cases hc : c = 0
  · rw [if_pos hc] at hs
    simp only [Prod.mk.injEq] at hs
    left; omega
  · rw [if_neg hc] at hs
    by_cases hm : c = -1 ∧ dbl lo hi = -9223372036854775808
    · rw [if_pos hm] at hs
      simp only [Prod.mk.injEq] at hs
      right; left; omega
    · rw [if_neg hm] at hs
      refine told_fit false lo hi c _ _ r q e hc hs ?_ (r_bd _ c hc) ?_
      · have := Int.tmod_add_mul_tdiv (dbl lo hi) c
        rw [Int.mul_comm] at this; omega
      · intro h
        have := tmod_sign _ _ h
        show decide _ = decide (hi < 0)
        rw [decide_eq_decide]; omega
theorem flo_told (lo hi c : Int) (l0 : 0 ≤ lo) (l1 : lo < 4294967296) (h0 : -2147483648 ≤ hi) (h1 : hi < 2147483648) (r q e : Int) (hs : floT (dbl lo hi) c = (r, q, e)) : Told true lo hi c r q e := by
  unfold floT at hs
  by_cases hc : c = 0
  · rw [if_pos hc] at hs
    simp only [Prod.mk.injEq] at hs
    left; omega
  · rw [if_neg hc] at hs
    by_cases hm : c = -1 ∧ dbl lo hi = -9223372036854775808
    · rw [if_pos hm] at hs
      simp only [Prod.mk.injEq] at hs
      right; left; omega
    · rw [if_neg hm] at hs
      have hq := Int.tmod_add_mul_tdiv (dbl lo hi) c
      rw [Int.mul_comm] at hq
      have hrb := r_bd (dbl lo hi) c hc
      generalize (dbl lo hi).tdiv c = Q at *
      generalize (dbl lo hi).tmod c = R at *
      unfold floRQ at hs
      by_cases hR : R ≠ 0 ∧ (!(decide (R < 0) == decide (c < 0))) = true
      · rw [if_pos hR] at hs
        have hd := hR.2
        simp only [Bool.not_eq_true', beq_eq_false_iff_ne, ne_eq, decide_eq_decide] at hd
        have h9 := hR.1
        refine told_fit true lo hi c _ _ r q e hc hs ?_ (by simp only; omega) ?_
        · simp only
          rw [Int.sub_mul]; omega
        · intro _
          show decide _ = decide (c < 0)
          rw [decide_eq_decide]; simp only; omega
      · rw [if_neg hR] at hs
        refine told_fit true lo hi c _ _ r q e hc hs (by simp only; omega) (by simp only; omega) ?_
        intro h
        show decide _ = decide (c < 0)
        have hd : ¬ ((!(decide (R < 0) == decide (c < 0))) = true) := fun h2 => hR ⟨h, h2⟩
        simp only [Bool.not_eq_true', beq_eq_false_iff_ne, ne_eq, decide_eq_decide, Classical.not_not] at hd
        rw [decide_eq_decide]; exact hd
theorem join_mod (p : Int) : p / 4294967296 % 4294967296 * 4294967296 + p % 4294967296 = p % 18446744073709551616 := by
  have h1 := Int.emod_add_mul_ediv p 4294967296
  have h2 := Int.emod_add_mul_ediv (p / 4294967296) 4294967296
  have h3 := Int.emod_nonneg p (show (4294967296 : Int) ≠ 0 by decide)
  have h4 := Int.emod_lt_of_pos p (show (0 : Int) < 4294967296 by decide)
  have h5 := Int.emod_nonneg (p / 4294967296) (show (4294967296 : Int) ≠ 0 by decide)
  have h6 := Int.emod_lt_of_pos (p / 4294967296) (show (0 : Int) < 4294967296 by decide)
  generalize p / 4294967296 % 4294967296 = a at *
  generalize p % 4294967296 = b at *
  generalize p / 4294967296 / 4294967296 = k at *
  have : p = a * 4294967296 + b + 18446744073709551616 * k := by omega
  rw [this, Int.add_mul_emod_self_left]
  exact (Int.emod_eq_of_lt (by omega) (by omega)).symm
theorem join_sign (r : Int) (r0 : -2147483648 ≤ r) (r1 : r < 2147483648) : r / 2147483648 % 4294967296 * 4294967296 + r % 4294967296 = r % 18446744073709551616 := by omega
theorem join_hi (lo hi : Int) (l0 : 0 ≤ lo) (l1 : lo < 4294967296) (h0 : -2147483648 ≤ hi) (h1 : hi < 2147483648) : (hi * 4294967296 + lo) % 18446744073709551616 = hi % 4294967296 * 4294967296 + lo := by omega
/-- the sum that the law makes is what was divided -/
theorem sum_back (lo hi p r x y : Int) (l0 : 0 ≤ lo) (l1 : lo < 4294967296) (h0 : -2147483648 ≤ hi) (h1 : hi < 2147483648) (hp : p + r = dbl lo hi) (hx : In32 x) (r0 : -2147483648 ≤ r) (r1 : r < 2147483648)
    (p0 : -4611686018427387904 ≤ p) (p1 : p ≤ 4611686018427387904)
    (H : y * 4294967296 + x = (p / 4294967296 % 4294967296 * 4294967296 + p % 4294967296 + (r / 2147483648 % 4294967296 * 4294967296 + r % 4294967296)) % 18446744073709551616) : x = lo ∧ y = hi % 4294967296 := by
  unfold dbl at hp
  rw [join_mod p, join_sign r r0 r1, ← Int.add_emod, hp, join_hi lo hi l0 l1 h0 h1] at H
  exact parts_eq x y lo (hi % 4294967296) H hx ⟨l0, l1⟩

/-! the walk -/
theorem keep_blk {wr w1 : World} {g : Nat} {o : Obj} (h : Hid (wr.heap[g]? = some o)) (hb : Below wr.heap.size wr w1) : Hid (w1.heap[g]? = some o) :=
  (hb.block g (Array.getElem?_eq_some_iff.1 h.out).1).trans h.out
theorem signed_ex (q c : Int) (q0 : -2147483648 ≤ q) (q1 : q < 2147483648) (c0 : -2147483648 ≤ c) (c1 : c < 2147483648) (w : World) :
    Calls Try.prog 15 #[.int .i32 q, .int .i32 c] w fun e w' => ∃ a b, e = .returned (.tuple #[.int .u32 a, .int .i32 b]) ∧ In32 a ∧ In32 (b % 4294967296) ∧ (-2147483648 ≤ b ∧ b < 2147483648) ∧ Hid (a = q * c % 4294967296 ∧ b = q * c / 4294967296) ∧ w = w' := by
  refine (signed_any q c q0 q1 c0 c1 w).mono ?_
  rintro e w' ⟨rfl, rfl⟩
  have := smul_bd q0 q1 c0 c1
  unfold In32
  generalize q * c = p at *
  exact ⟨_, _, rfl, by omega, by omega, by omega, ⟨rfl, rfl⟩, rfl⟩
set_option maxRecDepth 100000 in
set_option maxHeartbeats 8000000 in
theorem divides_any (lo hi c : Int) (l0 : 0 ≤ lo) (l1 : lo < 4294967296) (h0 : -2147483648 ≤ hi) (h1 : hi < 2147483648) (c0 : -2147483648 ≤ c) (c1 : c < 2147483648) (w : World) :
    Calls Try.prog 5 #[.int .u32 lo, .int .i32 hi, .int .i32 c] w fun e w' => e = .returned (.bool true) ∧ Below w.heap.size w w' := by
  obtain ⟨hu, hhu⟩ : ∃ z, hi % 4294967296 = z := ⟨_, rfl⟩
  obtain ⟨cu, hcu⟩ : ∃ z, c % 4294967296 = z := ⟨_, rfl⟩
  have u0 : 0 ≤ hu := by omega
  have u1 : hu < 4294967296 := by omega
  have u2 : 0 ≤ cu := by omega
  have u3 : cu < 4294967296 := by omega
  have hcz : c = 0 ↔ cu = 0 := by omega
  have d1 := fun w : World => divide_any lo hu cu l0 l1 u0 u1 u2 u3 w
  obtain ⟨⟨R, Q, E⟩, hd⟩ : ∃ z, z = divT lo hu cu := ⟨_, rfl⟩
  have hdc : (E = -10 ∧ c = 0 ∧ R = 0 ∧ Q = 0) ∨ (E = -11 ∧ c ≠ 0 ∧ cu ≤ hu ∧ R = 0 ∧ Q = 0) ∨ (E = 0 ∧ 0 ≤ R ∧ R < cu ∧ 0 ≤ Q ∧ Q < 4294967296 ∧ R + cu * Q = hu * 4294967296 + lo) := by
    unfold divT at hd
    split at hd
    · simp only [Prod.mk.injEq] at hd; left; omega
    · rename_i hz
      split at hd
      · simp only [Prod.mk.injEq] at hd; right; left; omega
      · rename_i hle
        simp only [Prod.mk.injEq] at hd
        right; right
        obtain ⟨rfl, rfl, rfl⟩ := hd
        refine ⟨rfl, Int.emod_nonneg _ hz, Int.emod_lt_of_pos _ (by omega), Int.ediv_nonneg (by omega) u2, ?_, Int.emod_add_mul_ediv _ _⟩
        apply Int.ediv_lt_of_lt_mul (by omega)
        have : (hu + 1) * 4294967296 ≤ cu * 4294967296 := by omega
        omega
  rw [← hd] at d1
  have D1 := Lib.hid d1
  have HDC := Lib.hid hdc
  clear d1 hd hdc hcz
  go_enter Try.func5, Try.ntmps5
  go_upto_if 34 with (go_at_call 13; refine (D1.out _).mono ?_; rintro _ w1 ⟨rfl, q1⟩)
  go_cut [] (fun wx => Below w.heap.size w wx)
  case first =>
    rcases HDC.out with ⟨rfl, hc, rfl, rfl⟩ | ⟨rfl, hc, hle, rfl, rfl⟩ | ⟨rfl, hr0, hr1, hq0, hq1, hqr⟩
    · have e1 : (c == 0) = true := by rw [beq_iff_eq]; exact hc
      clear hc HDC
      go_wp2_with fail
      go_meet
      exact q1
    · have e1 : (c == 0) = false := by rw [beq_eq_false_iff_ne]; exact hc
      clear hc HDC
      go_wp2_with fail
      go_meet
      exact q1
    · have HQ := Lib.hid hqr
      clear HDC hqr
      go_wp2_with fail
      refine (product_ex Q cu ⟨hq0, hq1⟩ ⟨u2, u3⟩ _).mono ?_
      rintro _ w2 ⟨a, b, rfl, ha, hb, HP, rfl⟩
      go_wp2_with fail
      refine (sum_ex a b R 0 ha hb ⟨hr0, by omega⟩ (by unfold In32; omega) _).mono ?_
      rintro _ w2 ⟨x, y, rfl, hx, hy, HS, rfl⟩
      have hxy : x = lo ∧ y = hu := by
        have k1 := HS.out
        have k2 := HQ.out
        have k3 := HP.out
        rw [Int.mul_comm] at k2
        rw [k3, Int.zero_mul, Int.zero_add] at k1
        generalize Q * cu = P at *
        refine parts_eq x y lo hu ?_ hx ⟨l0, l1⟩
        rw [k1]; omega
      have e2 := ne_false hxy.1
      have e3 := ne_false hxy.2
      clear hxy hx hy HS HP ha hb hq0 hq1 hr0 HQ
      go_wp2_with fail
      go_meet
      exact q1
  case rest =>
    clear HDC D1 hhu hcu u0 u1 u2 u3
    have q1 := hcut
    clear hcut
    go_wp2_with fail
    obtain ⟨g, hgg⟩ : ∃ g, g = wc.heap.size := ⟨_, rfl⟩
    have HG0 : Hid ((wc.alloc (.cells #[.bool false, .bool true] 4)).heap[g]? = some (.cells #[.bool false, .bool true] 4 (0, 0))) := by rw [hgg]; exact heap_alloc_new wc _
    have BW := q1.alloc q1.size (.cells #[.bool false, .bool true] 4)
    rw [← hgg]
    generalize wc.alloc (.cells #[.bool false, .bool true] 4) = W at *
    clear hgg q1
    go_loopw [90] (fun i wr => ∃ k : Nat, k ≤ 2 ∧ i = .int .i64 k ∧ Hid (wr.heap[g]? = some (.cells #[.bool false, .bool true] 4 (0, 0))) ∧ Below w.heap.size w wr) (fun i _ => 2 - (intOf i).toNat)
    case atStart => exact ⟨0, by omega, rfl, HG0, BW⟩
    case round =>
      clear HG0 BW
      obtain ⟨k, hk, rfl, hg, hb⟩ := hrel
      have hc0 : wr.cell? ⟨g, 0, none⟩ = some (.bool false) := by rw [cell_of_row _ _ _ _ _ _ hg.out]; rfl
      have hc1 : wr.cell? ⟨g, 1, none⟩ = some (.bool true) := by rw [cell_of_row _ _ _ _ _ _ hg.out]; rfl
      rcases (show k = 0 ∨ k = 1 ∨ k = 2 by omega) with rfl | rfl | rfl
      · clear hc1
        have hcell := hc0
        obtain ⟨⟨r, q, e⟩, hs⟩ : ∃ z, z = symT (dbl lo hi) c := ⟨_, rfl⟩
        have ht := sym_told lo hi c l0 l1 h0 h1 r q e hs.symm
        have k1 := fun w : World => symmetric_any lo hi c l0 l1 h0 h1 c0 c1 w
        rw [← hs] at k1
        have K1 := Lib.hid k1
        clear k1 hs
        have HT := Lib.hid ht
        clear ht
        go_wp2_with fail
        refine (K1.out _).mono ?_
        rintro _ w1 ⟨rfl, q1⟩
        have hg1 := keep_blk hg q1
        have B1 := bcall hb q1
        rcases HT.out with ⟨rfl, rfl, rfl, rfl⟩ | ⟨rfl, hc9, rfl, rfl⟩ | ⟨rfl, hc9, hqr, hrb, q0, q9, hsg⟩
        · clear HT
          go_wp2_with fail
          go_roundw
          case rel => exact ⟨1, by omega, rfl, hg1, B1⟩
          case measure => simp [intOf]
        · clear HT
          have e1 : (c == 0) = false := by rw [beq_eq_false_iff_ne]; exact hc9
          clear hc9
          go_wp2_with fail
          go_roundw
          case rel => exact ⟨1, by omega, rfl, hg1, B1⟩
          case measure => simp [intOf]
        · clear HT
          have hp := smul_bd q0 q9 c0 c1
          have r0 : -2147483648 ≤ r := by omega
          have r1 : r < 2147483648 := by omega
          have HQR := Lib.hid hqr
          have HSG := Lib.hid hsg
          have HP := Lib.hid hp
          clear hqr hsg hp hc9
          go_wp2_with fail
          refine (signed_ex q c q0 q9 c0 c1 _).mono ?_
          rintro _ w3 ⟨a, b, rfl, ha, hb3, ⟨hb0, hb1⟩, HAB, rfl⟩
          go_wp2_with fail
          refine (sum_ex a (b % 4294967296) (r % 4294967296) (r / 2147483648 % 4294967296) ha hb3 (by unfold In32; omega) (by unfold In32; omega) _).mono ?_
          rintro _ w3 ⟨x, y, rfl, hx, hy, HS, rfl⟩
          have hxy : x = lo ∧ y = hi % 4294967296 := by
            obtain ⟨rfl, rfl⟩ := HAB.out
            exact sum_back lo hi (q * c) r x y l0 l1 h0 h1 HQR.out hx r0 r1 HP.out.1 HP.out.2 HS.out
          have e1 := ne_false hxy.1
          have e2 := ne_false hxy.2
          clear hxy
          go_wp2_with fail
          refine (less_any c r hrb c0 c1 _).mono ?_
          rintro _ w3 ⟨rfl, rfl⟩
          by_cases hr0 : r = 0
          · have e3 : (r != 0) = false := ne_false hr0
            clear hr0
            go_wp2_with fail
            go_roundw
            case rel => exact ⟨1, by omega, rfl, hg1, B1⟩
            case measure => simp [intOf]
          · have e3 : (r != 0) = true := by rw [bne_iff_ne]; exact hr0
            have e4 : decide (r < 0) = decide (hi < 0) := HSG.out hr0
            rw [decide_eq_decide] at e4
            rcases (show (decide (r < 0) = true ∧ decide (hi < 0) = true) ∨ (decide (r < 0) = false ∧ decide (hi < 0) = false) by simp only [decide_eq_true_eq, decide_eq_false_iff_not]; omega) with ⟨s1, s2⟩ | ⟨s1, s2⟩
            all_goals
              clear hr0 e4
              go_wp2_with fail
              go_roundw
              case rel => exact ⟨1, by omega, rfl, hg1, B1⟩
              case measure => simp [intOf]
      · clear hc0
        have hcell := hc1
        obtain ⟨⟨r, q, e⟩, hs⟩ : ∃ z, z = floT (dbl lo hi) c := ⟨_, rfl⟩
        have ht := flo_told lo hi c l0 l1 h0 h1 r q e hs.symm
        have k1 := fun w : World => symmetric_any lo hi c l0 l1 h0 h1 c0 c1 w
        have k2 := fun w : World => floored_any lo hi c l0 l1 h0 h1 c0 c1 w
        rw [← hs] at k2
        have K2 := Lib.hid k2
        clear k2
        have K1 := Lib.hid k1
        clear k1 hs
        have HT := Lib.hid ht
        clear ht
        go_wp2_with fail
        refine (K1.out _).mono ?_
        rintro _ w1 ⟨rfl, q1⟩
        have hg1 := keep_blk hg q1
        have B1 := bcall hb q1
        go_wp2_with fail
        refine (K2.out _).mono ?_
        rintro _ w2 ⟨rfl, q2⟩
        have hg1 := keep_blk hg1 q2
        have B1 := bcall B1 q2
        rcases HT.out with ⟨rfl, rfl, rfl, rfl⟩ | ⟨rfl, hc9, rfl, rfl⟩ | ⟨rfl, hc9, hqr, hrb, q0, q9, hsg⟩
        · clear HT
          go_wp2_with fail
          go_roundw
          case rel => exact ⟨2, by omega, rfl, hg1, B1⟩
          case measure => simp [intOf]
        · clear HT
          have e1 : (c == 0) = false := by rw [beq_eq_false_iff_ne]; exact hc9
          clear hc9
          go_wp2_with fail
          go_roundw
          case rel => exact ⟨2, by omega, rfl, hg1, B1⟩
          case measure => simp [intOf]
        · clear HT
          have hp := smul_bd q0 q9 c0 c1
          have r0 : -2147483648 ≤ r := by omega
          have r1 : r < 2147483648 := by omega
          have HQR := Lib.hid hqr
          have HSG := Lib.hid hsg
          have HP := Lib.hid hp
          clear hqr hsg hp hc9
          go_wp2_with fail
          refine (signed_ex q c q0 q9 c0 c1 _).mono ?_
          rintro _ w3 ⟨a, b, rfl, ha, hb3, ⟨hb0, hb1⟩, HAB, rfl⟩
          go_wp2_with fail
          refine (sum_ex a (b % 4294967296) (r % 4294967296) (r / 2147483648 % 4294967296) ha hb3 (by unfold In32; omega) (by unfold In32; omega) _).mono ?_
          rintro _ w3 ⟨x, y, rfl, hx, hy, HS, rfl⟩
          have hxy : x = lo ∧ y = hi % 4294967296 := by
            obtain ⟨rfl, rfl⟩ := HAB.out
            exact sum_back lo hi (q * c) r x y l0 l1 h0 h1 HQR.out hx r0 r1 HP.out.1 HP.out.2 HS.out
          have e1 := ne_false hxy.1
          have e2 := ne_false hxy.2
          clear hxy
          go_wp2_with fail
          refine (less_any c r hrb c0 c1 _).mono ?_
          rintro _ w3 ⟨rfl, rfl⟩
          by_cases hr0 : r = 0
          · have e3 : (r != 0) = false := ne_false hr0
            clear hr0
            go_wp2_with fail
            go_roundw
            case rel => exact ⟨2, by omega, rfl, hg1, B1⟩
            case measure => simp [intOf]
          · have e3 : (r != 0) = true := by rw [bne_iff_ne]; exact hr0
            have e4 : decide (r < 0) = decide (c < 0) := HSG.out hr0
            rw [decide_eq_decide] at e4
            rcases (show (decide (r < 0) = true ∧ decide (c < 0) = true) ∨ (decide (r < 0) = false ∧ decide (c < 0) = false) by simp only [decide_eq_true_eq, decide_eq_false_iff_not]; omega) with ⟨s1, s2⟩ | ⟨s1, s2⟩
            all_goals
              clear hr0 e4
              go_wp2_with fail
              go_roundw
              case rel => exact ⟨2, by omega, rfl, hg1, B1⟩
              case measure => simp [intOf]
      · clear hc0 hc1
        go_wp2_with (go_at_call 10; refine (awake_any _).mono ?_; rintro _ w3 ⟨rfl, q3⟩)
        go_ret
        exact ⟨rfl, bcall hb q3⟩
end Go.Proofs.Ytmmnakapcbkioaa.Mine
