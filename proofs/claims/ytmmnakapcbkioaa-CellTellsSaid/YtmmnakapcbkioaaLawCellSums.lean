/- CellSums: sums may be made in any order; a number and its negative are 0; a product is the same the other way about, and of a sum it is both products together: a walk over the law's code. Conditions: that the numbers fit their kind. -/
import Derived.Test.YtmmnakapcbkioaaLawCell
namespace Go.Proofs.Ytmmnakapcbkioaa.Mine
open Go.RowKit
set_option linter.unusedVariables false

def In32 (x : Int) : Prop := 0 ≤ x ∧ x < 4294967296
theorem sum_ex (a b c d : Int) (ha : In32 a) (hb : In32 b) (hc : In32 c) (hd : In32 d) (w : World) :
    Calls Try.prog 14 #[.int .u32 a, .int .u32 b, .int .u32 c, .int .u32 d] w fun e w' =>
      ∃ x y, e = .returned (.tuple #[.int .u32 x, .int .u32 y]) ∧ In32 x ∧ In32 y ∧ Hid (y * 4294967296 + x = (b * 4294967296 + a + (d * 4294967296 + c)) % 18446744073709551616) ∧ w = w' := by
  refine (sum_any a b c d ha.1 ha.2 hb.1 hb.2 hc.1 hc.2 hd.1 hd.2 w).mono ?_
  rintro e w' ⟨rfl, rfl⟩
  unfold dbl In32
  exact ⟨_, _, rfl, by omega, by omega, (by unfold Hid; omega), rfl⟩
theorem neg_ex (a b : Int) (ha : In32 a) (hb : In32 b) (w : World) :
    Calls Try.prog 22 #[.int .u32 a, .int .u32 b] w fun e w' =>
      ∃ x y, e = .returned (.tuple #[.int .u32 x, .int .u32 y]) ∧ In32 x ∧ In32 y ∧ Hid (y * 4294967296 + x = (-(b * 4294967296 + a)) % 18446744073709551616) ∧ w = w' := by
  refine (negative_any a b ha.1 ha.2 hb.1 hb.2 w).mono ?_
  rintro e w' ⟨rfl, rfl⟩
  unfold dbl In32
  exact ⟨_, _, rfl, by omega, by omega, (by unfold Hid; omega), rfl⟩
theorem product_ex (a b : Int) (ha : In32 a) (hb : In32 b) (w : World) :
    Calls Try.prog 12 #[.int .u32 a, .int .u32 b] w fun e w' =>
      ∃ x y, e = .returned (.tuple #[.int .u32 x, .int .u32 y]) ∧ In32 x ∧ In32 y ∧ Hid (y * 4294967296 + x = a * b) ∧ w = w' := by
  refine (product_any a b ha.1 ha.2 hb.1 hb.2 w).mono ?_
  rintro e w' ⟨rfl, rfl⟩
  have := mul_bd ha.1 ha.2 hb.1 hb.2
  unfold In32
  generalize a * b = p at *
  exact ⟨_, _, rfl, by omega, by omega, (by unfold Hid; omega), rfl⟩
theorem ne_false {a b : Int} (h : a = b) : (a != b) = false := by rw [h]; simp
theorem eq_true' {a b : Int} (h : a = b) : (a == b) = true := by rw [h]; simp

theorem sums_assoc (a b c d e f x y z zw u v s t : Int)
 (H1 : y * 4294967296 + x = (b * 4294967296 + a + (d * 4294967296 + c)) % 18446744073709551616)
 (H2 : zw * 4294967296 + z = (y * 4294967296 + x + (f * 4294967296 + e)) % 18446744073709551616)
 (H3 : v * 4294967296 + u = (d * 4294967296 + c + (f * 4294967296 + e)) % 18446744073709551616)
 (H4 : t * 4294967296 + s = (b * 4294967296 + a + (v * 4294967296 + u)) % 18446744073709551616)
 : zw * 4294967296 + z = t * 4294967296 + s := by
  rw [H2, H4, H1, H3]
  generalize b * 4294967296 + a = A at *
  generalize d * 4294967296 + c = B at *
  generalize f * 4294967296 + e = C at *
  rw [Int.emod_add_emod, Int.add_emod_emod, Int.add_assoc]
theorem parts_eq (z zw s t : Int) (h : zw * 4294967296 + z = t * 4294967296 + s) (h0 : 0 ≤ z ∧ z < 4294967296) (h1 : 0 ≤ s ∧ s < 4294967296) : z = s ∧ zw = t := by omega
theorem sums_neg (a b n m ze no : Int) (H5 : m * 4294967296 + n = (-(b * 4294967296 + a)) % 18446744073709551616)
 (H6 : no * 4294967296 + ze = (b * 4294967296 + a + (m * 4294967296 + n)) % 18446744073709551616) : no * 4294967296 + ze = 0 := by
  rw [H6, H5, Int.add_emod_emod]
  generalize b * 4294967296 + a = A
  rw [Int.add_right_neg]; rfl

set_option maxRecDepth 100000 in
set_option maxHeartbeats 4000000 in
theorem sums_any (a b c d e f : Int) (ha : In32 a) (hb : In32 b) (hc : In32 c) (hd : In32 d) (he : In32 e) (hf : In32 f) (w : World) :
    Calls Try.prog 7 #[.int .u32 a, .int .u32 b, .int .u32 c, .int .u32 d, .int .u32 e, .int .u32 f] w fun e w' => e = .returned (.bool true) ∧ Below w.heap.size w w' := by
  go_enter Try.func7, Try.ntmps7
  go_wp2_with fail
  refine (sum_ex a b c d ha hb hc hd _).mono ?_
  rintro _ w1 ⟨x, y, rfl, hx, hy, H1, rfl⟩
  go_wp2_with fail
  refine (sum_ex x y e f hx hy he hf _).mono ?_
  rintro _ w1 ⟨z, zw, rfl, hz, hzw, H2, rfl⟩
  go_wp2_with fail
  refine (sum_ex c d e f hc hd he hf _).mono ?_
  rintro _ w1 ⟨u, v, rfl, hu, hv, H3, rfl⟩
  go_wp2_with fail
  refine (sum_ex a b u v ha hb hu hv _).mono ?_
  rintro _ w1 ⟨s, t, rfl, hs, ht, H4, rfl⟩
  go_wp2_with fail
  refine (neg_ex a b ha hb _).mono ?_
  rintro _ w1 ⟨n, m, rfl, hn, hm, H5, rfl⟩
  go_wp2_with fail
  refine (sum_ex a b n m ha hb hn hm _).mono ?_
  rintro _ w1 ⟨zero, none_, rfl, hze, hno, H6, rfl⟩
  have k0 := parts_eq z zw s t (sums_assoc a b c d e f x y z zw u v s t H1.out H2.out H3.out H4.out) hz hs
  have k9 := parts_eq zero none_ 0 0 (sums_neg a b n m zero none_ H5.out H6.out) hze (by decide)
  have k : z = s ∧ zw = t ∧ zero = 0 ∧ none_ = 0 := ⟨k0.1, k0.2, k9.1, k9.2⟩
  clear k0 k9
  have k1 := ne_false k.1
  have k2 := ne_false k.2.1
  have k3 := ne_false k.2.2.1
  have k4 := ne_false k.2.2.2
  clear k
  go_wp2_with fail
  refine (product_ex a b ha hb _).mono ?_
  rintro _ w1 ⟨low, high, rfl, hl, hh, H7, rfl⟩
  go_wp2_with fail
  refine (product_ex b a hb ha _).mono ?_
  rintro _ w1 ⟨other, way, rfl, ho, hw, H8, rfl⟩
  have k := parts_eq low high other way (H7.out.trans ((Int.mul_comm a b).trans H8.out.symm)) hl ho
  have k5 := ne_false k.1
  have k6 := ne_false k.2
  clear k
  have hb2 : In32 (b / 2) := by unfold In32 at *; omega
  have hb3 : In32 (b - b / 2) := by unfold In32 at *; omega
  have hsub : (b - b / 2) % 4294967296 = b - b / 2 := by unfold In32 at *; omega
  have hlt : 0 ≤ b ∧ b < 4294967296 := hb
  go_wp2_with fail
  refine (product_ex a (b / 2) ha hb2 _).mono ?_
  rintro _ w1 ⟨p, q, rfl, hp, hq, H9, rfl⟩
  go_wp2_with fail
  refine (product_ex a (b - b / 2) ha hb3 _).mono ?_
  rintro _ w1 ⟨r, k, rfl, hr, hk, H10, rfl⟩
  go_wp2_with fail
  refine (sum_ex p q r k hp hq hr hk _).mono ?_
  rintro _ w1 ⟨i, j, rfl, hi, hj, H11, rfl⟩
  have hd2 := parts_eq i j low high (H11.out.trans (by
    rw [H9.out, H10.out, H7.out, ← Int.mul_add, show b / 2 + (b - b / 2) = b by omega]
    have := mul_bd ha.1 ha.2 hb.1 hb.2
    omega)) hi hl
  have k7 := eq_true' hd2.1
  have k8 := eq_true' hd2.2
  clear hd2
  go_wp2_with (go_at_call 10; refine (awake_any _).mono ?_; rintro _ w1 ⟨rfl, hb1⟩)
  go_ret
  exact ⟨rfl, hb1⟩
end Go.Proofs.Ytmmnakapcbkioaa.Mine
