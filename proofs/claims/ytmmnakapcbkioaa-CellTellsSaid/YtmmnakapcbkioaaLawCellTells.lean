/- CellTells: sums, products, divisions and shifts are those of the document: a walk over the law's code. Conditions: that the numbers fit their kind. -/
import Derived.Test.YtmmnakapcbkioaaLawCellDivides
import Derived.Test.YtmmnakapcbkioaaRef07B
namespace Go.Proofs.Ytmmnakapcbkioaa.Mine
open Go.RowKit
set_option linter.unusedVariables false

theorem refBoth_any (a h c : Int) (fl : Bool) (h0 : 0 ≤ a) (h1 : a < 4294967296) (h2 : -2147483648 ≤ h) (h3 : h < 2147483648) (h4 : -2147483648 ≤ c) (h5 : c < 2147483648) (w : World) :
    Calls Try.prog 21 #[.int .u32 a, .int .i32 h, .int .i32 c, .bool fl] w fun e w' => e = .returned (TI (if fl then floT (dbl a h) c else symT (dbl a h) c)) ∧ w = w' := by
  by_cases hc : c = 0
  · subst hc
    have e0 : (if fl then floT (dbl a h) 0 else symT (dbl a h) 0) = (0, 0, -10) := by cases fl <;> rfl
    rw [e0]
    go_enter Try.func21, Try.ntmps21
    go_wp2
    go_ret3
    exact ⟨rfl, rfl⟩
  · cases fl <;> by_cases hM : h < 0 <;> by_cases hL : c < 0
    · exact refBoth_snn a h c h0 h1 h2 h3 h4 h5 hM hL w
    · exact refBoth_snp a h c h0 h1 h2 h3 h4 h5 hM (by omega) w
    · exact refBoth_spn a h c h0 h1 h2 h3 h4 h5 (by omega) hL w
    · exact refBoth_spp a h c h0 h1 h2 h3 h4 h5 (by omega) (by omega) w
    · exact refBoth_fnn a h c h0 h1 h2 h3 h4 h5 hM hL w
    · exact refBoth_fnp a h c h0 h1 h2 h3 h4 h5 hM (by omega) w
    · exact refBoth_fpn a h c h0 h1 h2 h3 h4 h5 (by omega) hL w
    · exact refBoth_fpp a h c h0 h1 h2 h3 h4 h5 (by omega) (by omega) w
theorem refDouble_at (a b v : Int) (ha : In32 a) (hb : In32 b) (h : b * 4294967296 + a = v) (w : World) :
    Calls Try.prog 17 #[.int .u32 a, .int .u32 b] w fun e w' => e = .returned (.int .u64 v) ∧ w = w' := by
  subst h
  exact refDouble_any a b ha.1 ha.2 hb.1 hb.2 w
theorem shl_in (x n : Int) : In32 (shlI x n) := by unfold In32 shlI; omega
theorem shr_in (x n : Int) (h : In32 x) : In32 (shrI x n) := by unfold shrI; exact shr_bd x _ h.1 h.2
/-- the product of signed numbers, of that of those without signs -/
theorem signed_want (a b s t : Int) (hs : s = a ∨ s = a - 4294967296) (ht : t = b ∨ t = b - 4294967296) :
    (s * t) % 18446744073709551616 = ((a * b - (if s = a then 0 else b * 4294967296)) % 18446744073709551616 - (if t = b then 0 else a * 4294967296)) % 18446744073709551616 := by
  rcases hs with rfl | rfl <;> rcases ht with rfl | rfl
  · simp
  · rw [if_pos rfl, if_neg (by omega), Int.sub_zero, Int.emod_sub_emod, Int.mul_sub]
  · rw [if_pos rfl, if_neg (by omega), Int.sub_zero, Int.emod_emod_of_dvd _ (Int.dvd_refl _), Int.sub_mul, Int.mul_comm 4294967296 t]
  · rw [if_neg (by omega), if_neg (by omega), Int.emod_sub_emod, Int.sub_mul, Int.mul_sub, Int.mul_sub]
    generalize a * b = P
    omega

set_option maxRecDepth 100000 in
set_option maxHeartbeats 16000000 in
theorem tells_any (a b c d : Int) (ha : In32 a) (hb : In32 b) (hc : In32 c) (hd : In32 d) (w : World) :
    Calls Try.prog 6 #[.int .u32 a, .int .u32 b, .int .u32 c, .int .u32 d] w fun e w' => e = .returned (.bool true) ∧ Below w.heap.size w w' := by
  obtain ⟨sa, hsa⟩ : ∃ z, wrap32 a = z := ⟨_, rfl⟩
  obtain ⟨sb, hsb⟩ : ∃ z, wrap32 b = z := ⟨_, rfl⟩
  obtain ⟨sc, hsc⟩ : ∃ z, wrap32 c = z := ⟨_, rfl⟩
  have ka : -2147483648 ≤ sa ∧ sa < 2147483648 ∧ ((0 ≤ sa ∧ sa = a) ∨ (sa < 0 ∧ sa = a - 4294967296)) := by unfold wrap32 In32 at *; omega
  have kb : -2147483648 ≤ sb ∧ sb < 2147483648 ∧ ((0 ≤ sb ∧ sb = b) ∨ (sb < 0 ∧ sb = b - 4294967296)) := by unfold wrap32 In32 at *; omega
  have kc : -2147483648 ≤ sc ∧ sc < 2147483648 := by unfold wrap32 In32 at *; omega
  have hw := signed_want a b sa sb (by omega) (by omega)
  have hS := smul_bd ka.1 ka.2.1 kb.1 kb.2.1
  have hP := mul_bd ha.1 ha.2 hb.1 hb.2
  have m1 := fun w : World => product_any a b ha.1 ha.2 hb.1 hb.2 w
  have m2 := fun w : World => refProduct_any a b ha.1 ha.2 hb.1 hb.2 w
  have m3 := fun w : World => signed_any sa sb ka.1 ka.2.1 kb.1 kb.2.1 w
  generalize sa * sb = S at *
  generalize a * b = P at *
  have n1 := fun w : World => refDouble_at (P % 4294967296) (P / 4294967296) P (by unfold In32; omega) (by unfold In32; omega) (by omega) w
  obtain ⟨V, hV⟩ : ∃ z, z = S % 18446744073709551616 := ⟨_, rfl⟩
  have n2 := fun w : World => refDouble_at (S % 4294967296) (S / 4294967296 % 4294967296) V (by unfold In32; omega) (by unfold In32; omega) (by rw [hV]; exact join_mod S) w
  have hx : 0 ≤ S % 4294967296 ∧ S % 4294967296 < 4294967296 := by omega
  have hy : -2147483648 ≤ S / 4294967296 ∧ S / 4294967296 < 2147483648 := by omega
  rw [← hV] at hw
  generalize S % 4294967296 = x at *
  generalize S / 4294967296 = y at *
  have hlo : 0 ≤ P % 4294967296 ∧ P % 4294967296 < 4294967296 := by omega
  have hhi : 0 ≤ P / 4294967296 ∧ P / 4294967296 < 4294967296 := by omega
  generalize P % 4294967296 = low at *
  generalize P / 4294967296 = high at *
  have p1 := fun w : World => shl_any a b ha.1 ha.2 hb.1 hb.2 w
  have p2 := fun w : World => refShl_any a b ha.1 ha.2 hb.1 hb.2 w
  have p3 := fun w : World => shr_any a b ha.1 ha.2 hb.1 hb.2 w
  have p4 := fun w : World => refShr_any a b ha.1 ha.2 hb.1 hb.2 w
  have hsl := shl_in a b
  have hsr := shr_in a b ha
  generalize shlI a b = sl at *
  generalize shrI a b = sr at *
  have o1 := fun w : World => divide_any a b c ha.1 ha.2 hb.1 hb.2 hc.1 hc.2 w
  have o2 := fun w : World => refDivide_any a b c ha.1 ha.2 hb.1 hb.2 hc.1 hc.2 w
  obtain ⟨⟨R, Q, E⟩, hdiv⟩ : ∃ z, z = divT a b c := ⟨_, rfl⟩
  rw [← hdiv] at o1 o2
  have hhw : ∃ V1, ((0 ≤ sa ∧ V1 = P) ∨ (sa < 0 ∧ IntKind.u64.wrap (P - b * 4294967296) = V1)) ∧ ((0 ≤ sb ∧ V = V1) ∨ (sb < 0 ∧ IntKind.u64.wrap (V1 - a * 4294967296) = V)) ∧ 0 ≤ V1 ∧ V1 < 18446744073709551616 := by
    simp only [u64_mod]
    rcases ka.2.2 with ⟨i1, i2⟩ | ⟨i1, i2⟩ <;> rcases kb.2.2 with ⟨j1, j2⟩ | ⟨j1, j2⟩
    · rw [if_pos i2, if_pos j2] at hw; exact ⟨P, .inl ⟨i1, rfl⟩, .inl ⟨j1, by omega⟩, by omega, by omega⟩
    · rw [if_pos i2, if_neg (by omega)] at hw; exact ⟨P, .inl ⟨i1, rfl⟩, .inr ⟨j1, by rw [hw]; omega⟩, by omega, by omega⟩
    · rw [if_neg (by omega), if_pos j2] at hw; exact ⟨V, .inr ⟨i1, by rw [hw]; omega⟩, .inl ⟨j1, rfl⟩, by omega, by omega⟩
    · rw [if_neg (by omega), if_neg (by omega)] at hw; exact ⟨_, .inr ⟨i1, rfl⟩, .inr ⟨j1, hw.symm⟩, by omega, by omega⟩
  obtain ⟨V1, hv1, hv2, hv3, hv4⟩ := hhw
  have hVb : 0 ≤ V ∧ V < 18446744073709551616 := by omega
  obtain ⟨hV0, hV1⟩ := hVb
  have HV1 := Lib.hid hv1
  have HV2 := Lib.hid hv2
  clear hv1 hv2
  obtain ⟨ka0, ka1, -⟩ := ka
  obtain ⟨kb0, kb1, -⟩ := kb
  obtain ⟨kc0, kc1⟩ := kc
  clear hw hV hdiv hS hP
  obtain ⟨hx0, hx1⟩ := hx
  obtain ⟨hy0, hy1⟩ := hy
  have ha0 := ha.1
  have ha1 := ha.2
  have hb0 := hb.1
  have hb1 := hb.2
  have hc0 := hc.1
  have hc1 := hc.2
  have hd0 := hd.1
  have hd1 := hd.2
  go_enter Try.func6, Try.ntmps6
  go_wp2_with fail
  refine (m1 _).mono ?_
  rintro _ _ ⟨rfl, rfl⟩
  go_wp2_with fail
  refine (m3 _).mono ?_
  rintro _ _ ⟨rfl, rfl⟩
  go_wp2_with fail
  refine (n1 _).mono ?_
  rintro _ _ ⟨rfl, rfl⟩
  go_wp2_with fail
  refine (m2 _).mono ?_
  rintro _ _ ⟨rfl, rfl⟩
  go_wp2_with fail
  refine (p1 _).mono ?_
  rintro _ _ ⟨rfl, rfl⟩
  go_wp2_with fail
  refine (p2 _).mono ?_
  rintro _ _ ⟨rfl, rfl⟩
  go_wp2_with fail
  refine (p3 _).mono ?_
  rintro _ _ ⟨rfl, rfl⟩
  go_wp2_with fail
  refine (p4 _).mono ?_
  rintro _ _ ⟨rfl, rfl⟩
  go_wp2_with fail
  refine (m2 _).mono ?_
  rintro _ _ ⟨rfl, rfl⟩
  go_upto_if 74 with fail
  go_cut [13] (fun v wx => v = .int .u64 V1 ∧ wx = w)
  case first =>
    rcases HV1.out with ⟨i1, e1⟩ | ⟨i1, e1⟩
    · have E1 := Lib.hid e1
      clear e1
      go_wp2_with fail
      go_meet
      exact ⟨by rw [E1.out], rfl⟩
    · go_wp2_with fail
      go_meet
      exact ⟨rfl, rfl⟩
  case rest =>
  obtain ⟨rfl, rfl⟩ := hcut
  go_upto_if 82 with fail
  go_cut [13] (fun v wx => v = .int .u64 V ∧ wx = wc)
  case first =>
    rcases HV2.out with ⟨i1, e1⟩ | ⟨i1, e1⟩
    · have E1 := Lib.hid e1
      clear e1
      go_wp2_with fail
      go_meet
      exact ⟨by rw [E1.out], rfl⟩
    · go_wp2_with fail
      go_meet
      exact ⟨rfl, rfl⟩
  case rest =>
  obtain ⟨rfl, rfl⟩ := hcut
  clear HV1 HV2 hv3 hv4 ka0
  go_wp2_with fail
  refine (n2 _).mono ?_
  rintro _ _ ⟨rfl, rfl⟩
  go_wp2_with fail
  refine (o1 _).mono ?_
  rintro _ w1 ⟨rfl, q1⟩
  go_wp2_with fail
  refine (o2 _).mono ?_
  rintro _ _ ⟨rfl, rfl⟩
  go_wp2_with fail
  obtain ⟨g, hgg⟩ : ∃ g, g = w1.heap.size := ⟨_, rfl⟩
  have HG0 : Hid ((w1.alloc (.cells #[.bool false, .bool true] 4)).heap[g]? = some (.cells #[.bool false, .bool true] 4 (0, 0))) := by rw [hgg]; exact heap_alloc_new w1 _
  have BW := q1.alloc q1.size (.cells #[.bool false, .bool true] 4)
  rw [← hgg]
  generalize w1.alloc (.cells #[.bool false, .bool true] 4) = W at *
  clear hgg q1 hV0 hV1 hx0 hx1 hy0 hy1 hsl hsr n2 o1 o2
  go_loopw [125] (fun i wr => ∃ k : Nat, k ≤ 2 ∧ i = .int .i64 k ∧ Hid (wr.heap[g]? = some (.cells #[.bool false, .bool true] 4 (0, 0))) ∧ Below wc.heap.size wc wr) (fun i _ => 2 - (intOf i).toNat)
  case atStart => exact ⟨0, by omega, rfl, HG0, BW⟩
  case round =>
    clear HG0 BW
    obtain ⟨k, hk, rfl, hg, hbw⟩ := hrel
    have hcl0 : wr.cell? ⟨g, 0, none⟩ = some (.bool false) := by rw [cell_of_row _ _ _ _ _ _ hg.out]; rfl
    have hcl1 : wr.cell? ⟨g, 1, none⟩ = some (.bool true) := by rw [cell_of_row _ _ _ _ _ _ hg.out]; rfl
    rcases (show k = 0 ∨ k = 1 ∨ k = 2 by omega) with rfl | rfl | rfl
    · clear hcl1
      have hcell := hcl0
      have k1 := fun w : World => symmetric_any a sb sc ha0 ha1 kb0 kb1 kc0 kc1 w
      have k3 := fun w : World => refBoth_any a sb sc false ha0 ha1 kb0 kb1 kc0 kc1 w
      rw [if_neg (by decide)] at k3
      obtain ⟨⟨r, q, e⟩, hs⟩ : ∃ z, z = symT (dbl a sb) sc := ⟨_, rfl⟩
      rw [← hs] at k1 k3
      clear hs
      go_wp2_with fail
      refine (k1 _).mono ?_
      rintro _ w2 ⟨rfl, q1⟩
      have hg1 := keep_blk hg q1
      have B1 := bcall hbw q1
      go_wp2_with fail
      refine (k3 _).mono ?_
      rintro _ _ ⟨rfl, rfl⟩
      go_wp2_with fail
      go_roundw
      case rel => exact ⟨1, by omega, rfl, hg1, B1⟩
      case measure => simp [intOf]
    · clear hcl0
      have hcell := hcl1
      have k1 := fun w : World => symmetric_any a sb sc ha0 ha1 kb0 kb1 kc0 kc1 w
      have k2 := fun w : World => floored_any a sb sc ha0 ha1 kb0 kb1 kc0 kc1 w
      have k3 := fun w : World => refBoth_any a sb sc true ha0 ha1 kb0 kb1 kc0 kc1 w
      rw [if_pos rfl] at k3
      obtain ⟨⟨r, q, e⟩, hs⟩ : ∃ z, z = floT (dbl a sb) sc := ⟨_, rfl⟩
      rw [← hs] at k2 k3
      clear hs
      go_wp2_with fail
      refine (k1 _).mono ?_
      rintro _ w2 ⟨rfl, q1⟩
      have hg1 := keep_blk hg q1
      have B1 := bcall hbw q1
      go_wp2_with fail
      refine (k2 _).mono ?_
      rintro _ w2 ⟨rfl, q2⟩
      have hg1 := keep_blk hg1 q2
      have B1 := bcall B1 q2
      go_wp2_with fail
      refine (k3 _).mono ?_
      rintro _ _ ⟨rfl, rfl⟩
      go_wp2_with fail
      go_roundw
      case rel => exact ⟨2, by omega, rfl, hg1, B1⟩
      case measure => simp [intOf]
    · clear hcl0 hcl1
      obtain ⟨D, hD⟩ : ∃ z, z = dbl a b := ⟨_, rfl⟩
      obtain ⟨D2, hD2⟩ : ∃ z, z = dbl c d := ⟨_, rfl⟩
      have hDb : D = b * 4294967296 + a := hD
      have hD2b : D2 = d * 4294967296 + c := hD2
      have t1 := fun w : World => sum_any a b c d ha0 ha1 hb0 hb1 hc0 hc1 hd0 hd1 w
      have t2 := fun w : World => negative_any a b ha0 ha1 hb0 hb1 w
      have t3 := fun w : World => refDouble_at a b D ha hb hDb.symm w
      have t4 := fun w : World => refDouble_at c d D2 hc hd hD2b.symm w
      rw [← hD, ← hD2] at t1
      rw [← hD] at t2
      have e1 : IntKind.u64.wrap (D + D2) = (D + D2) % 18446744073709551616 := u64_mod _
      have e2 : IntKind.u64.wrap (-D) = (-D) % 18446744073709551616 := u64_mod _
      have s0 : 0 ≤ (D + D2) % 18446744073709551616 ∧ (D + D2) % 18446744073709551616 < 18446744073709551616 := by omega
      have n0 : 0 ≤ (-D) % 18446744073709551616 ∧ (-D) % 18446744073709551616 < 18446744073709551616 := by omega
      have D0 : 0 ≤ D ∧ D < 18446744073709551616 := by unfold In32 at *; omega
      have D3 : 0 ≤ D2 ∧ D2 < 18446744073709551616 := by unfold In32 at *; omega
      generalize (D + D2) % 18446744073709551616 = s at *
      generalize (-D) % 18446744073709551616 = n at *
      clear hD hD2 hDb hD2b
      have t5 := fun w : World => refDouble_at (s % 4294967296) (s / 4294967296) s (by unfold In32; omega) (by unfold In32; omega) (by omega) w
      have t6 := fun w : World => refDouble_at (n % 4294967296) (n / 4294967296) n (by unfold In32; omega) (by unfold In32; omega) (by omega) w
      have i1 : 0 ≤ s % 4294967296 ∧ s % 4294967296 < 4294967296 := by omega
      have i2 : 0 ≤ s / 4294967296 ∧ s / 4294967296 < 4294967296 := by omega
      have i3 : 0 ≤ n % 4294967296 ∧ n % 4294967296 < 4294967296 := by omega
      have i4 : 0 ≤ n / 4294967296 ∧ n / 4294967296 < 4294967296 := by omega
      generalize s % 4294967296 = sl2 at *
      generalize s / 4294967296 = sh2 at *
      generalize n % 4294967296 = nl2 at *
      generalize n / 4294967296 = nh2 at *
      go_wp2_with fail
      refine (t1 _).mono ?_
      rintro _ _ ⟨rfl, rfl⟩
      go_wp2_with fail
      refine (t2 _).mono ?_
      rintro _ _ ⟨rfl, rfl⟩
      go_wp2_with fail
      refine (t5 _).mono ?_
      rintro _ _ ⟨rfl, rfl⟩
      go_wp2_with fail
      refine (t3 _).mono ?_
      rintro _ _ ⟨rfl, rfl⟩
      go_wp2_with fail
      refine (t4 _).mono ?_
      rintro _ _ ⟨rfl, rfl⟩
      have e3 : (s == s) = true := by simp
      have e4 : (n == n) = true := by simp
      go_wp2_with fail
      refine (t6 _).mono ?_
      rintro _ _ ⟨rfl, rfl⟩
      go_wp2_with fail
      refine (t3 _).mono ?_
      rintro _ _ ⟨rfl, rfl⟩
      go_wp2_with (go_at_call 10; refine (awake_any _).mono ?_; rintro _ w3 ⟨rfl, q3⟩)
      go_ret
      exact ⟨rfl, bcall hbw q3⟩
end Go.Proofs.Ytmmnakapcbkioaa.Mine
