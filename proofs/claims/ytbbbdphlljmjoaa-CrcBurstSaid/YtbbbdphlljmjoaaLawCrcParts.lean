/- CrcParts: in whichever parts bytes come, the CRC is the same, and joined of those of the parts: a walk over the law's code. Conditions: those of the theorem (the slice can be read). -/
import Derived.Test.YtbbbdphlljmjoaaLawCrc
namespace Go.Proofs.Ytbbbdphlljmjoaa.Mine
open Go.RowKit
set_option linter.unusedVariables false

theorem among_nat (x n : Nat) (h : 0 < n) (hn : n < 4611686018427387904) (w : World) :
    Calls Try.prog 15 #[.int .i64 (x : Int), .int .i64 (n : Int)] w fun e w' => e = .returned (.int .i64 ((x % n : Nat) : Int)) ∧ w = w' := by
  refine (among_any x n (by omega) w).mono ?_
  rintro e w' ⟨rfl, rfl⟩
  rw [among_eq _ _ (by omega) (by omega)]
  exact ⟨rfl, rfl⟩

theorem join_of (p q : List UInt8) (z : Int) (hz : z = (q.length : Int)) (hq : q.length < 9223372036854775807) (w : World) :
    Calls Try.prog 16 #[U (crcB p), U (crcB q), .int .i64 z] w fun e w' => e = .returned (U (crcB (p ++ q))) ∧ Below w.heap.size w w' := by
  subst hz
  refine (join_any (crcB p) (crcB q) q.length w hq).mono ?_
  rintro e w' ⟨rfl, hb⟩
  rw [join_law p q (by omega)]
  exact ⟨rfl, hb⟩

set_option maxHeartbeats 2000000 in
theorem parts_any (A : Option Addr) (ca o t : Nat) (b : List UInt8) (w : World) (ha : Byt w A b) (hla : b.length ≤ ca) (hca : ca ≤ maxLen) (ho : o < 65536) (ht : t < 65536) :
    Calls Try.prog 4 #[.slice A b.length ca, .int .u16 (o : Int), .int .u16 (t : Int)] w fun e w' => e = .returned (.bool true) ∧ Below w.heap.size w w' := by
  unfold maxLen at hca
  by_cases hl : 1000 < b.length
  · go_enter Try.func4, Try.ntmps4
    go_wp2_with (go_at_call 7; refine (awake_any _).mono ?_; rintro e w1 ⟨rfl, hb1⟩)
    go_ret
    exact ⟨rfl, hb1⟩
  · obtain ⟨n, hn⟩ : ∃ n, n = b.length + 1 := ⟨_, rfl⟩
    have hn1 : ((b.length : Nat) : Int) + 1 = ((n : Nat) : Int) := by omega
    obtain ⟨i', hi'⟩ : ∃ i, i = o % n := ⟨_, rfl⟩
    obtain ⟨k', hk'⟩ : ∃ k, k = t % n := ⟨_, rfl⟩
    obtain ⟨i, hi⟩ : ∃ i, i = min i' k' := ⟨_, rfl⟩
    obtain ⟨k, hk⟩ : ∃ k, k = max i' k' := ⟨_, rfl⟩
    have hi1 : i' < n := by rw [hi']; exact Nat.mod_lt _ (by omega)
    have hk1 : k' < n := by rw [hk']; exact Nat.mod_lt _ (by omega)
    have hik : i ≤ k := by omega
    have hkb : k ≤ b.length := by omega
    have hmin := fun (w : World) (ats : Array TypeId) (ty : TypeId) => run_min2n (P := Try.prog) w ats ty i' k' i hi
    have hmax := fun (w : World) (ats : Array TypeId) (ty : TypeId) => run_max2n (P := Try.prog) w ats ty i' k' k hk
    have c1 := fun w => (hi' ▸ among_nat o n (by omega) (by omega) w : Calls Try.prog 15 #[.int .i64 (o : Int), .int .i64 (n : Int)] w fun e w' => e = .returned (.int .i64 ((i' : Nat) : Int)) ∧ w = w')
    have c2 := fun w => (hk' ▸ among_nat t n (by omega) (by omega) w : Calls Try.prog 15 #[.int .i64 (t : Int), .int .i64 (n : Int)] w fun e w' => e = .returned (.int .i64 ((k' : Nat) : Int)) ∧ w = w')
    have C1 := Lib.hid c1
    have C2 := Lib.hid c2
    clear c1 c2 hi' hk' hi hk hn
    have HN := Lib.hid hn1
    clear hn1
    go_enter Try.func4, Try.ntmps4
    go_wp2_with fail
    rw [HN.out]
    refine (C1.out _).mono ?_
    rintro e w1 ⟨rfl, rfl⟩
    go_wp2_with fail
    rw [HN.out]
    refine (C2.out _).mono ?_
    rintro e w1 ⟨rfl, rfl⟩
    go_wp2_with fail
    have i1 : (i : Int) ≤ (ca : Int) := by omega
    have i2 : (k : Int) ≤ (ca : Int) := by omega
    have i3 : (i : Int) ≤ (k : Int) := by omega
    have i4 : (k : Int) ≤ (b.length : Int) := by omega
    obtain ⟨A2, hA2⟩ : ∃ A2, A2 = if ca = i then A else A.map fun x => x.add i := ⟨_, rfl⟩
    obtain ⟨A3, hA3⟩ : ∃ A3, A3 = if ca = k then A else A.map fun x => x.add k := ⟨_, rfl⟩
    have hy := ha.cut ca i k hkb hla
    have hz := ha.cut ca k b.length (Nat.le_refl _) hla
    rw [← hA2] at hy
    rw [← hA3] at hz
    have hA2' := hA2.symm
    have hA3' := hA3.symm
    clear hA2 hA3
    go_quiet (fail)
    clear hA2' hA3'
    have hxl : (b.take i).length = i := by simp; omega
    have hyl : ((b.take k).drop i).length = k - i := by simp; omega
    have hzl : ((b.take b.length).drop k).length = b.length - k := by simp
    have hx := ha.take i
    have hall : b.take i ++ ((b.take k).drop i ++ (b.take b.length).drop k) = b := by
      rw [List.take_length]
      have h1 : b.take i = (b.take k).take i := by rw [List.take_take, Nat.min_eq_left hik]
      rw [h1, ← List.append_assoc, List.take_append_drop, List.take_append_drop]
    have hsum : ~~~(addB (addB (addB 4294967295#32 (b.take i)) ((b.take k).drop i)) ((b.take b.length).drop k)) = crcB b := by
      rw [← addB_append, ← addB_append, hall]; rfl
    have hall2 : b.take i ++ (b.take k).drop i ++ (b.take b.length).drop k = b := by rw [List.append_assoc]; exact hall
    generalize b.take i = X at *
    generalize (b.take k).drop i = Y at *
    generalize (b.take b.length).drop k = Z at *
    have HXL := Lib.hid hxl; have HYL := Lib.hid hyl; have HZL := Lib.hid hzl; have HSUM := Lib.hid hsum; have HALL := Lib.hid hall; have HALL2 := Lib.hid hall2
    clear hxl hyl hzl hsum hall hall2
    have B0 : Below w.heap.size w (w.drewN nq) := below_drewN (Below.refl _ _) nq
    generalize w.drewN nq = W0 at *
    have hs : b.length ≤ 140737488355328 := by omega
    have hck : ((Z.length : Nat) : Int) = ((b.length - k : Nat) : Int) := by rw [HZL.out]
    have hcy : ((Y.length : Nat) : Int) = ((k - i : Nat) : Int) := by rw [HYL.out]
    have hyz : (((Y ++ Z).length : Nat) : Int) = ((k - i : Nat) : Int) + ((b.length - k : Nat) : Int) := by rw [List.length_append, HYL.out, HZL.out]; omega
    have HCK := Lib.hid hck; have HCY := Lib.hid hcy; have HYZ := Lib.hid hyz
    have bY : Y.length < 9223372036854775807 := by rw [HYL.out]; omega
    have bZ : Z.length < 9223372036854775807 := by rw [HZL.out]; omega
    have bYZ : (Y ++ Z).length < 9223372036854775807 := by rw [List.length_append, HYL.out, HZL.out]; omega
    have BY := Lib.hid bY; have BZ := Lib.hid bZ; have BYZ := Lib.hid bYZ
    clear hck hcy hyz bY bZ bYZ
    have n0 : (N (crcB b) != N (crcB b)) = false := by simp
    have n1 : (N (crcB b) == N (crcB b)) = true := by simp
    go_wp2_with fail
    refine (of_at A b.length ca b _ rfl (ha.kept B0) hla hs).mono ?_
    rintro e W1 ⟨rfl, q1⟩
    have B1 := bcall B0 q1
    go_wp2_with fail
    refine (begin_any _).mono ?_
    rintro e w1 ⟨rfl, rfl⟩
    go_wp2_with fail
    refine (add_at _ A i ca X _ HXL.out (hx.kept B1) (by omega) (by omega)).mono ?_
    rintro e W2 ⟨rfl, q2⟩
    have B2 := bcall B1 q2
    go_wp2_with fail
    refine (add_at _ A2 (k - i) (ca - i) Y _ HYL.out (hy.kept B2) (by omega) (by omega)).mono ?_
    rintro e W3 ⟨rfl, q3⟩
    have B3 := bcall B2 q3
    go_wp2_with fail
    refine (add_at _ A3 (b.length - k) (ca - k) Z _ HZL.out (hz.kept B3) (by omega) (by omega)).mono ?_
    rintro e W4 ⟨rfl, q4⟩
    have B4 := bcall B3 q4
    go_wp2_with fail
    refine (end_any _ _).mono ?_
    rintro e w1 ⟨rfl, rfl⟩
    rw [HSUM.out]
    go_wp2_with fail
    refine (of_at A i ca X _ HXL.out (hx.kept B4) (by omega) (by omega)).mono ?_
    rintro e W5 ⟨rfl, q5⟩
    have B5 := bcall B4 q5
    go_wp2_with fail
    refine (of_at A2 (k - i) (ca - i) Y _ HYL.out (hy.kept B5) (by omega) (by omega)).mono ?_
    rintro e W6 ⟨rfl, q6⟩
    have B6 := bcall B5 q6
    go_wp2_with fail
    refine (join_of X Y _ HCY.out.symm BY.out _).mono ?_
    rintro e W7 ⟨rfl, q7⟩
    have B7 := bcall B6 q7
    go_wp2_with fail
    refine (of_at A2 (k - i) (ca - i) Y _ HYL.out (hy.kept B7) (by omega) (by omega)).mono ?_
    rintro e W8 ⟨rfl, q8⟩
    have B8 := bcall B7 q8
    go_wp2_with fail
    refine (of_at A3 (b.length - k) (ca - k) Z _ HZL.out (hz.kept B8) (by omega) (by omega)).mono ?_
    rintro e W9 ⟨rfl, q9⟩
    have B9 := bcall B8 q9
    go_wp2_with fail
    refine (join_of Y Z _ HCK.out.symm BZ.out _).mono ?_
    rintro e W10 ⟨rfl, q10⟩
    have B10 := bcall B9 q10
    go_wp2_with fail
    refine (of_at A3 (b.length - k) (ca - k) Z _ HZL.out (hz.kept B10) (by omega) (by omega)).mono ?_
    rintro e W11 ⟨rfl, q11⟩
    have B11 := bcall B10 q11
    go_wp2_with fail
    refine (join_of (X ++ Y) Z _ HCK.out.symm BZ.out _).mono ?_
    rintro e W12 ⟨rfl, q12⟩
    have B12 := bcall B11 q12
    rw [HALL2.out]
    go_wp2_with fail
    refine (of_at A i ca X _ HXL.out (hx.kept B12) (by omega) (by omega)).mono ?_
    rintro e W13 ⟨rfl, q13⟩
    have B13 := bcall B12 q13
    go_wp2_with fail
    refine (join_of X (Y ++ Z) _ HYZ.out.symm BYZ.out _).mono ?_
    rintro e W14 ⟨rfl, q14⟩
    have B14 := bcall B13 q14
    rw [HALL.out]
    go_wp2_with fail
    refine (awake_any _).mono ?_
    rintro e W15 ⟨rfl, q15⟩
    have B15 := bcall B14 q15
    go_wp2_with fail
    go_ret
    exact ⟨rfl, B15⟩
end Go.Proofs.Ytbbbdphlljmjoaa.Mine
