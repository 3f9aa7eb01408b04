/- What the reader of package packet computes (take, number), and slices.Clone and slices.Equal, by walks over their code. Conditions: those of each theorem. -/
import Derived.Test.YtjpglpdfopeegaaPktAns
import Derived.Lib.SliceRun
namespace Go.Proofs.Ytjpglpdfopeegaa.Mine
open Go.RowKit
set_option linter.unusedVariables false
set_option linter.unusedSimpArgs false

/-- what is left of a slice, m taken -/
abbrev restV (A : Option Addr) (n c m : Nat) : Value := .slice (if c = m then A else A.map fun x => x.add m) (n - m) (c - m)
theorem take_any (r : Nat) (A : Option Addr) (n c k m : Nat) (hm : m = min k n) (w : World) (hcell : w.cell? ⟨r, 0, none⟩ = some (.slice A n c)) (hf : w.frozen? ⟨r, 0, none⟩ = false) (hn : n ≤ c) (hc : c ≤ maxLen) (hk : k ≤ 1000) :
    Calls Try.prog 26 #[.pointer (some ⟨r, 0, none⟩), .int .i64 k] w fun e w' => e = .returned (.slice A m c) ∧ w' = w.setCell ⟨r, 0, none⟩ (restV A n c m) := by
  have hmn := run_min2n (P := Try.prog) w #[3, 3] 3 k n m hm
  have h1 : m ≤ n := by omega
  clear hm
  unfold maxLen at hc
  go_enter Try.func26, Try.ntmps26
  go_wp2_with fail
  all_goals
    go_ret
    exact ⟨rfl, by unfold restV; simp [*]⟩
/-- the number of bytes, the highest first -/
def numB (l : List UInt8) : Nat := l.foldl (fun n x => n * 256 + x.toNat) 0
theorem numB_snoc (l : List UInt8) (x : UInt8) : numB (l ++ [x]) = numB l * 256 + x.toNat := by simp [numB, List.foldl_append]
theorem numB_lt_go (l : List UInt8) (n : Nat) : l.foldl (fun n x => n * 256 + x.toNat) n < (n + 1) * 256 ^ l.length := by
  induction l generalizing n with
  | nil => simp
  | cons x l ih =>
    have := x.toNat_lt
    rw [List.foldl_cons, List.length_cons, Nat.pow_succ]
    refine Nat.lt_of_lt_of_le (ih _) ?_
    rw [Nat.mul_comm (256 ^ l.length) 256, ← Nat.mul_assoc]
    exact Nat.mul_le_mul_right _ (by omega)
theorem numB_lt (l : List UInt8) : numB l < 256 ^ l.length := by simpa [numB] using numB_lt_go l 0
theorem or_byte (n x : Nat) (hn : n < 16777216) (hx : x < 256) : bits .or .u32 ((n : Int) * 256) (x : Int) = ((n * 256 + x : Nat) : Int) := by
  have e1 : ((n : Int) * 256) = N (BitVec.ofNat 32 (n * 256)) := by rw [N_lit _ (by omega)]; omega
  have e2 : (x : Int) = N (BitVec.ofNat 32 x) := by rw [N_lit _ (by omega)]
  rw [e1, e2, b_or]
  unfold N
  rw [BitVec.toNat_or, BitVec.toNat_ofNat, BitVec.toNat_ofNat, Nat.mod_eq_of_lt (by omega), Nat.mod_eq_of_lt (by omega)]
  have := Nat.shiftLeft_add_eq_or_of_lt (a := n) (b := x) (i := 8) hx
  rw [Nat.shiftLeft_eq] at this
  rw [← this]
theorem Byt.set_far {w : World} {A : Option Addr} {bs : List UInt8} (h : Byt w A bs) (r : Nat) (v : Value) (hA : bs ≠ [] → ∀ a, A = some a → a.block ≠ r) : Byt (w.setCell ⟨r, 0, none⟩ v) A bs := by
  intro j hj
  obtain ⟨b, off, rfl, hc⟩ := h j hj
  exact ⟨b, off, rfl, cell_set_far hc (hA (fun e => by rw [e] at hj; simp at hj) ⟨b, off, none⟩ rfl)⟩
theorem number_any (r : Nat) (A : Option Addr) (c k m : Nat) (bs : List UInt8) (hm : m = min k bs.length) (w : World) (hcell : w.cell? ⟨r, 0, none⟩ = some (.slice A bs.length c)) (hf : w.frozen? ⟨r, 0, none⟩ = false)
    (hn : bs.length ≤ c) (hc : c ≤ maxLen) (hk : k ≤ 4) (hB : Byt w A bs) (hA : bs ≠ [] → ∀ a, A = some a → a.block ≠ r) :
    Calls Try.prog 25 #[.pointer (some ⟨r, 0, none⟩), .int .i64 k] w fun e w' => e = .returned (.int .u32 (numB (bs.take m))) ∧ w' = w.setCell ⟨r, 0, none⟩ (restV A bs.length c m) := by
  have tc := take_any r A bs.length c k m hm w hcell hf hn hc (by omega)
  have hB2 := (hB.set_far r (restV A bs.length c m) hA).take m
  have hl : (bs.take m).length = m := by simp; omega
  have hm4 : m ≤ 4 := by omega
  have hmc : m ≤ c := by omega
  clear hm hB hcell hA
  generalize bs.take m = xs at *
  generalize restV A bs.length c m = V at *
  subst hl
  have HB := Lib.hid hB2
  clear hB2
  go_enter Try.func25, Try.ntmps25
  go_wp2_with (go_at_call 26; refine tc.mono ?_; rintro _ w1 ⟨rfl, rfl⟩)
  clear tc
  generalize hW : w.setCell ⟨r, 0, none⟩ V = W at *
  have HW := Lib.hid hW
  clear hW
  go_loopw [5, 12] (fun s i wr => ∃ k : Nat, k ≤ xs.length ∧ i = .int .i64 k ∧ s = .int .u32 (numB (xs.take k)) ∧ W = wr) (fun _ i _ => xs.length - (intOf i).toNat)
  case atStart => exact ⟨0, Nat.zero_le _, rfl, rfl, rfl⟩
  case round =>
    obtain ⟨k, hk, rfl, rfl, rfl⟩ := hrel
    by_cases hlt : k < xs.length
    · obtain ⟨b, off, rfl, hcell⟩ := HB.out k hlt
      have ht : numB (xs.take (k + 1)) = numB (xs.take k) * 256 + xs[k].toNat := by
        rw [List.take_succ_eq_append_getElem hlt, numB_snoc]
      have hlt2 := numB_lt (xs.take k)
      rw [List.length_take, Nat.min_eq_left hk] at hlt2
      have hx := xs[k].toNat_lt
      generalize xs[k] = x at *
      obtain ⟨s, hs⟩ : ∃ s, s = numB (xs.take k) := ⟨_, rfl⟩
      rw [← hs] at ht hlt2 ⊢
      have hs3 : s < 16777216 := Nat.lt_of_lt_of_le hlt2 (Nat.le_trans (Nat.pow_le_pow_right (by omega) (show k ≤ 3 by omega)) (by decide))
      have HT := Lib.hid ht
      clear ht hs hlt2
      have ho := or_byte s x.toNat hs3 hx
      go_wp2
      go_roundw
      case rel => exact ⟨k + 1, by omega, by go_num, by rw [HT.out]; go_num, trivial⟩
      case measure => simp [intOf]; omega
    · have hkl : k = xs.length := by omega
      subst hkl
      rw [List.take_length]
      go_wp2
      go_ret
      exact ⟨rfl, HW.out.symm⟩
theorem Byt.block {w : World} {A : Option Addr} {bs : List UInt8} (h : Byt w A bs) (hn : bs ≠ []) (a : Addr) (ha : A = some a) : a.block < w.heap.size := by
  obtain ⟨b, off, e, hc⟩ := h 0 (List.length_pos_iff.2 hn)
  rw [ha] at e
  cases e
  exact block_lt_of_cell hc
/-! slices.Clone, slices.Equal -/
theorem row_empty (w : World) : Row (w.alloc (.cells #[] 5)) w.heap.size (.slice (some ⟨w.heap.size, 0, none⟩) 0 0) [] :=
  ⟨rfl, .inr ⟨w.heap.size, 0, #[], rfl, Nat.le_refl _, heap_alloc_new _ _, Nat.zero_le _, Nat.zero_le _, rfl, by simp⟩⟩
theorem clone_any (A : Option Addr) (c : Nat) (xs : List UInt8) (w : World) (hx : Byt w A xs) (hn : xs.length ≤ 140737488355328) :
    Calls Try.prog 27 #[.slice A xs.length c] w fun e w' => ∃ v, e = .returned v ∧ Row w' w.heap.size v xs ∧ Below w.heap.size w w' := by
  by_cases hA : A = none
  · have h0 : xs = [] := by
      cases xs with
      | nil => rfl
      | cons x l =>
        obtain ⟨b, off, e, _⟩ := hx 0 (by simp)
        rw [hA] at e; cases e
    subst hA h0
    have e0 := Go.Lib.run_eql_slice_nil (P := Try.prog) w 27 5 none 0 c 0 0 Try.underlying27
    simp only [List.length_nil, Option.isNone_none] at e0
    go_enter Try.func27, Try.ntmps27
    go_wp2_with fail
    go_ret
    exact ⟨_, rfl, Row.nil _ _, Below.refl _ _⟩
  · obtain ⟨ad, rfl⟩ : ∃ ad, A = some ad := by cases A with
      | none => exact absurd rfl hA
      | some a => exact ⟨a, rfl⟩
    clear hA
    have e0 := Go.Lib.run_eql_slice_nil (P := Try.prog) w 27 5 (some ad) xs.length c 0 0 Try.underlying27
    simp only [Option.isNone_some] at e0
    go_enter Try.func27, Try.ntmps27
    go_wp2_with (at_builtin; refine wpList_append_bytes rfl (.tmp 5) (.tmp 6) rfl w.heap.size _ [] rfl (row_empty w) (some ad) c xs rfl (hx.kept (balloc _ _)) (by simpa using hn) (Nat.le_of_lt (size_lt_alloc _ _)) ?_; intro v2 w2 hr2 hg2 ho2)
    go_ret
    exact ⟨_, rfl, by simpa using hr2, grown_below (balloc _ _) (row_empty w).rowV (Nat.le_refl _) hg2⟩
theorem equal_any (A : Option Addr) (c : Nat) (xs : List UInt8) (A' : Option Addr) (c' : Nat) (ys : List UInt8) (w : World) (hx : Byt w A xs) (hy : Byt w A' ys) (hc' : ys.length ≤ c') (hcm : c' ≤ maxLen) :
    Calls Try.prog 28 #[.slice A xs.length c, .slice A' ys.length c'] w fun e w' => e = .returned (.bool (xs == ys)) ∧ Below w.heap.size w w' := by
  unfold maxLen at hcm
  by_cases hl : xs.length = ys.length
  · have HX := Lib.hid hx
    have HY := Lib.hid hy
    clear hx hy
    rw [← hl] at hc' ⊢
    go_enter Try.func28, Try.ntmps28
    go_wp2_with fail
    go_loopw [5, 13] (fun s i wr => ∃ k : Nat, k ≤ xs.length ∧ i = .int .i64 k ∧ xs.take k = ys.take k ∧ Below w.heap.size w wr) (fun _ i _ => xs.length - (intOf i).toNat)
    case atStart => exact ⟨0, Nat.zero_le _, rfl, rfl, Below.refl _ _⟩
    case round =>
      obtain ⟨k, hk, rfl, hkk, hb⟩ := hrel
      by_cases hlt : k < xs.length
      · have hx := (HX.out.kept hb) k hlt
        have hy := (HY.out.kept hb) k (by omega)
        obtain ⟨b, off, rfl, hcell⟩ := hx
        obtain ⟨b', off', rfl, hcell'⟩ := hy
        have hne : xs[k] ≠ ys[k] → (xs == ys) = false := fun h => by
          rw [beq_eq_false_iff_ne]; intro e; subst e; exact h rfl
        have hee : xs[k] = ys[k] → xs.take (k + 1) = ys.take (k + 1) := fun h => by
          rw [List.take_succ_eq_append_getElem hlt, List.take_succ_eq_append_getElem (by omega), hkk, h]
        generalize xs[k] = x at *
        generalize ys[k] = y at *
        have hxy : ((x.toNat : Int) == (y.toNat : Int)) = (x == y) := by
          rw [Bool.eq_iff_iff]; simp [← UInt8.toNat_inj]; omega
        have HNE := Lib.hid hne
        have HEE := Lib.hid hee
        have HKK := Lib.hid hkk
        clear hne hee hkk
        cases hq : (x == y)
        · rw [hq] at hxy
          go_wp2
          go_region
          go_wp2
          go_ret
          exact ⟨by rw [HNE.out (by simpa using hq)]; rfl, hb.drew⟩
        · rw [hq] at hxy
          go_wp2
          go_region
          go_wp2
          go_roundw
          case rel => exact ⟨k + 1, by omega, by go_num, HEE.out (by simpa using hq), hb.drew⟩
          case measure => simp [intOf]; omega
      · have hkl : k = xs.length := by omega
        subst hkl
        have e : xs = ys := by rw [List.take_length, hl, List.take_length] at hkk; exact hkk
        go_wp2_with fail
        go_ret
        exact ⟨by rw [e]; simp, hb⟩
  · have e : (xs == ys) = false := by rw [beq_eq_false_iff_ne]; intro e; exact hl (by rw [e])
    rw [e]
    generalize xs.length = n at *
    generalize ys.length = m at *
    have hl2 : ((n : Int) == (m : Int)) = false := by rw [beq_eq_false_iff_ne]; omega
    go_enter Try.func28, Try.ntmps28
    go_wp2_with fail
    go_ret
    exact ⟨rfl, Below.refl _ _⟩
end Go.Proofs.Ytjpglpdfopeegaa.Mine
