/- The chapter's examples of the CRC are met (the statements' own 'awake'), by a walk over its code. No condition. -/
import Derived.Test.YtbbbdphlljmjoaaCrc
import Derived.Test.YtbbbdphlljmjoaaLow
import Derived.Test.YtbbbdphlljmjoaaCrcPure
import Derived.StillTailTactics
import Derived.Deep.RegionHeld3
namespace Go.Proofs.Ytbbbdphlljmjoaa.Mine
open Go.RowKit
set_option linter.unusedVariables false

theorem ex1 : (N (crcB []) == 0) = true := by decide +kernel
theorem ex2 : (N (crcB [49, 50, 51, 52, 53, 54, 55, 56, 57]) == 3421780262) = true := by decide +kernel
theorem ex3 : (N (crcB [0]) == 3523407757) = true := by decide +kernel
theorem ex4 : (N (joinL oneB (crcB [49, 50, 51, 52]) 64 5 ^^^ crcB [53, 54, 55, 56, 57]) == 3421780262) = true := by decide +kernel

set_option maxHeartbeats 1000000 in
theorem awake_any (w : World) : Calls Try.prog 7 #[] w fun e w' => e = .returned (.bool true) ∧ Below w.heap.size w w' := by
  have h1 := ex1
  have h2 := ex2
  have h3 := ex3
  have h4 := ex4
  go_enter Try.func7, Try.ntmps7
  go_wp2_with fail
  refine (of_any none 0 [] _ (Byt.nil _ _) (Nat.le_refl _) (by decide)).mono ?_
  rintro e w1 ⟨rfl, hb1⟩
  have kc := fun (w : World) (C : Array Value) (n c : Nat) => Lib.run_convert_bytes_const (P := Try.prog) w 22 5 C n c Try.underlying22 Try.underlying5
  go_wp2_with fail
  refine (of_any _ 9 [49, 50, 51, 52, 53, 54, 55, 56, 57] _ (Byt.new _ _ _ _ _ rfl) (by decide) (by decide)).mono ?_
  rintro e w2 ⟨rfl, hb2⟩
  go_wp2_with fail
  refine (of_any _ 1 [0] _ (Byt.new _ _ _ _ _ rfl) (by decide) (by decide)).mono ?_
  rintro e w3 ⟨rfl, hb3⟩
  go_wp2_with fail
  refine (of_any _ 4 [49, 50, 51, 52] _ (Byt.new _ _ _ _ _ rfl) (by decide) (by decide)).mono ?_
  rintro e w4 ⟨rfl, hb4⟩
  go_wp2_with fail
  refine (of_any _ 5 [53, 54, 55, 56, 57] _ (Byt.new _ _ _ _ _ rfl) (by decide) (by decide)).mono ?_
  rintro e w5 ⟨rfl, hb5⟩
  go_wp2_with fail
  refine (join_any _ _ 5 _ (by decide)).mono ?_
  rintro e w6 ⟨rfl, hb6⟩
  go_wp2_with fail
  go_ret
  refine ⟨rfl, ?_⟩
  have al : ∀ {W W' : World} {o : Obj}, Below w.heap.size w W → Below (W.alloc o).heap.size (W.alloc o) W' → Below w.heap.size w W' := fun h h' =>
    (h.alloc h.size _).trans (h'.mono (by have := h.size; simp; omega))
  have c2 := al hb1 hb2
  have c3 := al c2 hb3
  have c4 := al c3 hb4
  have c5 := al c4 hb5
  exact c5.trans (hb6.mono c5.size)

/-- of three texts that which stands in an odd number of them -/
def odd3 (a b c : List UInt8) (k : Nat) : UInt8 := a.getD k 0 ^^^ b.getD k 0 ^^^ c.getD k 0
def oddL (a b c : List UInt8) (n k : Nat) : List UInt8 := (List.range n).map fun j => if j < k then odd3 a b c j else 0
theorem oddL_length (a b c : List UInt8) (n k : Nat) : (oddL a b c n k).length = n := by simp [oddL]
theorem oddL_zero (a b c : List UInt8) (n : Nat) : oddL a b c n 0 = List.replicate n 0 := by
  apply List.ext_getElem
  · simp [oddL]
  · intro i h1 h2; simp [oddL]
theorem oddL_set (a b c : List UInt8) (n k : Nat) : (oddL a b c n k).set k (odd3 a b c k) = oddL a b c n (k + 1) := by
  apply List.ext_getElem
  · simp [oddL]
  · intro i h1 h2
    simp only [oddL, List.getElem_set, List.getElem_map, List.getElem_range]
    by_cases e : k = i
    · subst e; simp
    · simp only [e, if_false]
      by_cases h3 : i < k
      · rw [if_pos h3, if_pos (by omega)]
      · rw [if_neg h3, if_neg (by omega)]

set_option maxHeartbeats 1000000 in
/-- What is kept through the last statement of CrcLinear: nothing old has turned, the text that was made stands. -/
def Held (w : World) (v : Value) (bs : List UInt8) (W : World) : Prop := Below w.heap.size w W ∧ Row W w.heap.size v bs
theorem Held.drew {w : World} {v : Value} {bs : List UInt8} {W : World} (h : Held w v bs W) : Held w v bs W.drew := ⟨h.1.drew, h.2⟩
theorem Held.step {w : World} {v : Value} {bs : List UInt8} {W W' : World} (h : Held w v bs W) (hb : Below W.heap.size W W') : Held w v bs W' := ⟨h.1.trans (hb.mono h.1.size), h.2.below hb⟩
theorem Held.arg {w : World} {v : Value} {bs : List UInt8} {W : World} (h : Held w v bs W) {A : Option Addr} {l : List UInt8} (hl : Byt w A l) : Byt W A l := hl.kept h.1
theorem Held.own {w : World} {g n c : Nat} {bs : List UInt8} {W : World} (h : Held w (.slice (some ⟨g, 0, none⟩) n c) bs W) : Byt W (some ⟨g, 0, none⟩) bs := by
  obtain ⟨A, c', e, hb, _⟩ := h.2.form
  cases e
  exact hb
attribute [local go_sem] b_xor
theorem lin_any (A B C : Option Addr) (ca cb cc : Nat) (a b c : List UInt8) (w : World) (ha : Byt w A a) (hb : Byt w B b) (hc : Byt w C c) (hla : a.length ≤ ca) (hlb : b.length ≤ cb) (hlc : c.length ≤ cc)
    (hca : ca ≤ maxLen) (hcb : cb ≤ maxLen) (hcc : cc ≤ maxLen) :
    Calls Try.prog 6 #[.slice A a.length ca, .slice B b.length cb, .slice C c.length cc] w fun e w' => e = .returned (.bool true) ∧ Below w.heap.size w w' := by
  unfold maxLen at hca hcb hcc
  obtain ⟨n, hn⟩ : ∃ n, n = min a.length (min b.length c.length) := ⟨_, rfl⟩
  have hmin := fun (w : World) (ats : Array TypeId) (ty : TypeId) => run_min3n (P := Try.prog) w ats ty a.length b.length c.length n hn
  have hna : n ≤ a.length := by omega
  have hnb : n ≤ b.length := by omega
  have hnc : n ≤ c.length := by omega
  clear hn
  by_cases h3 : 300 < n
  · go_enter Try.func6, Try.ntmps6
    go_wp2_with (go_at_call 7; refine (awake_any _).mono ?_; rintro e w1 ⟨rfl, hb1⟩)
    go_ret
    exact ⟨rfl, hb1⟩
  · go_enter Try.func6, Try.ntmps6
    go_wp2_with (refine wpList_make_zeros rfl _ _ rfl w.heap.size n rfl rfl (by omega) (Nat.le_refl _) ?_; intro w1 hr1 hg1)
    clear hmin
    have hb1 : Below w.heap.size w w1 := (Below.refl _ _).grown hg1 (Nat.le_refl _) (fun k h => by cases h)
    rw [← oddL_zero a b c n] at hr1
    go_loopw [24] (fun i wr => ∃ k : Nat, k ≤ n ∧ i = .int .i64 k ∧ Row wr w.heap.size (.slice (some ⟨w.heap.size, 0, none⟩) n n) (oddL a b c n k) ∧ Below w.heap.size w wr) (fun i _ => n - (intOf i).toNat)
    case atStart => exact ⟨0, Nat.zero_le _, rfl, hr1, hb1⟩
    case round =>
      obtain ⟨k, hk, rfl, hr, hbr⟩ := hrel
      by_cases hlt : k < n
      · obtain ⟨ba, oa, rfl, fa⟩ := ha.at (by omega)
        obtain ⟨bb, ob, rfl, fb⟩ := hb.at (by omega)
        obtain ⟨bc, oc, rfl, fc⟩ := hc.at (by omega)
        have ga : wr.cell? ⟨ba, oa + k, none⟩ = some (B8 a[k]) := (hbr.cell (p := ⟨ba, oa + k, none⟩) (ha.lt (by omega))).trans (fa k (by omega))
        have gb : wr.cell? ⟨bb, ob + k, none⟩ = some (B8 b[k]) := (hbr.cell (p := ⟨bb, ob + k, none⟩) (hb.lt (by omega))).trans (fb k (by omega))
        have gc : wr.cell? ⟨bc, oc + k, none⟩ = some (B8 c[k]) := (hbr.cell (p := ⟨bc, oc + k, none⟩) (hc.lt (by omega))).trans (fc k (by omega))
        have go := hr.cell k (by rw [oddL_length]; omega)
        have gf := hr.free k
        go_wp2_with fail
        have hodd : odd3 a b c k = a[k] ^^^ b[k] ^^^ c[k] := by simp [odd3, List.getD_eq_getElem?_getD, show k < a.length by omega, show k < b.length by omega, show k < c.length by omega]
        have hset := hr.set k (odd3 a b c k)
        rw [oddL_set, hodd] at hset
        generalize a[k] = xa at ga hset
        generalize b[k] = xb at gb hset
        generalize c[k] = xc at gc hset
        rw [B8, ← b8_xor, ← b8_xor] at hset
        clear hodd
        have HS := Lib.hid hset
        clear hset
        generalize (oddL a b c n k)[k]'(by rw [oddL_length]; exact hlt) = xo at go
        have i1 : (k : Int) < (a.length : Int) := by omega
        have i2 : (k : Int) < (b.length : Int) := by omega
        have i3 : (k : Int) < (c.length : Int) := by omega
        have i4 : (k : Int) < (n : Int) := by omega
        have i0 : 0 ≤ (k : Int) := by omega
        have na : ba ≠ w.heap.size := Nat.ne_of_lt (ha.lt (by omega))
        have nb : bb ≠ w.heap.size := Nat.ne_of_lt (hb.lt (by omega))
        have nc : bc ≠ w.heap.size := Nat.ne_of_lt (hc.lt (by omega))
        go_region_held3 (fun w' => w'.cell? ⟨ba, oa + k, none⟩ = some (B8 xa) ∧ w'.cell? ⟨bb, ob + k, none⟩ = some (B8 xb) ∧ w'.cell? ⟨bc, oc + k, none⟩ = some (B8 xc)) (first | exact ⟨ga, gb, gc⟩ | exact ⟨cell_set_far' ga na, cell_set_far' gb nb, cell_set_far' gc nc⟩) ((first | fail))
        go_wp2
        go_roundw
        case rel => exact ⟨k + 1, by omega, by go_num, HS.out, (hbr.setCell (by simp) _).drew⟩
        case measure => simp [intOf]; omega
      · have hkn : k = n := by omega
        rw [hkn] at hr
        clear hkn
        have hbn : n ≤ 140737488355328 := by omega
        have hlo := oddL_length a b c n n
        have hlin : (N (crcB (oddL a b c n n)) == N (crcB (a.take n) ^^^ crcB (b.take n) ^^^ crcB (c.take n))) = true := by
          rw [N_eq, beq_iff_eq]
          refine crcB3 a b c _ n hna hnb hnc hlo fun i h0 => ?_
          simp [oddL, odd3, h0, List.getD_eq_getElem?_getD, show i < a.length by omega, show i < b.length by omega, show i < c.length by omega]
        have hH : Held w (.slice (some ⟨w.heap.size, 0, none⟩) n n) (oddL a b c n n) wr := ⟨hbr, hr⟩
        have HO := Lib.hid hlo
        clear hlo hr hbr hr1 hb1 hg1
        have i1 : (n : Int) ≤ (ca : Int) := by omega
        have i2 : (n : Int) ≤ (cb : Int) := by omega
        have i3 : (n : Int) ≤ (cc : Int) := by omega
        have i0 : 0 ≤ (n : Int) := by omega
        go_wp2_with fail
        go_region_held3 (fun W' => Held w (.slice (some ⟨w.heap.size, 0, none⟩) n n) (oddL a b c n n) W')
          (first | assumption | exact Held.drew (by assumption))
          ((first
            | (go_at_call 12; ((with_reducible refine (of_at (some ⟨w.heap.size, 0, none⟩) n n (oddL a b c n n) _ HO.out (by exact Held.own (by assumption)) (Nat.le_refl _) hbn).mono ?_); rintro e W1 ⟨rfl, hq⟩; have hS1 := Held.step (by assumption) hq))
            | (go_at_call 12; ((with_reducible refine (of_at A n ca (a.take n) _ (by simp; omega) (by exact (Held.arg (by assumption) ha).take n) (by omega) hbn).mono ?_); rintro e W1 ⟨rfl, hq⟩; have hS1 := Held.step (by assumption) hq))
            | (go_at_call 12; ((with_reducible refine (of_at B n cb (b.take n) _ (by simp; omega) (by exact (Held.arg (by assumption) hb).take n) (by omega) hbn).mono ?_); rintro e W1 ⟨rfl, hq⟩; have hS1 := Held.step (by assumption) hq))
            | (go_at_call 12; ((with_reducible refine (of_at C n cc (c.take n) _ (by simp; omega) (by exact (Held.arg (by assumption) hc).take n) (by omega) hbn).mono ?_); rintro e W1 ⟨rfl, hq⟩; have hS1 := Held.step (by assumption) hq))
            | (go_at_call 7; ((with_reducible refine (awake_any _).mono ?_); rintro e W1 ⟨rfl, hq⟩; have hS1 := Held.step (by assumption) hq))))
        go_wp2
        go_ret
        exact ⟨rfl, hS1.1⟩
end Go.Proofs.Ytbbbdphlljmjoaa.Mine
