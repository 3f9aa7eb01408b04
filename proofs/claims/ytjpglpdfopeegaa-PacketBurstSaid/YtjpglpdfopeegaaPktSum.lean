/- What the functions of package packet compute that put bytes together (big, Concat, summed), each by a walk over its code. Conditions: those of each theorem. -/
import Derived.Test.YtjpglpdfopeegaaPktRight
import Derived.Lib.AppendZeros
namespace Go.Proofs.Ytjpglpdfopeegaa.Mine
open Go.RowKit
set_option linter.unusedVariables false
set_option linter.unusedSimpArgs false

/-- the lowest k bytes of a number, the highest first -/
def bigL (n k : Nat) : List UInt8 := (List.range k).map fun j => UInt8.ofNat (n / 2 ^ (8 * (k - 1 - j)))
theorem bigL_length (n k : Nat) : (bigL n k).length = k := by simp [bigL]
theorem bigL_take (n k j : Nat) (h : j < k) : (bigL n k).take (j + 1) = (bigL n k).take j ++ [UInt8.ofNat (n / 2 ^ (8 * (k - 1 - j)))] := by
  rw [List.take_succ_eq_append_getElem (by rw [bigL_length]; exact h)]
  simp [bigL]
theorem Row.alloc {w : World} {B : Nat} {v : Value} {bs : List UInt8} (h : Row w B v bs) (o : Obj) : Row (w.alloc o) B v bs := h.below ((Below.refl _ _).alloc (Nat.le_refl _) o)
theorem big_any (n k : Nat) (hn : n < 4294967296) (hk : k ≤ 4) (w : World) :
    Calls Try.prog 24 #[.int .u32 n, .int .i64 k] w fun e w' => ∃ v, e = .returned v ∧ Row w' w.heap.size v (bigL n k) ∧ Below w.heap.size w w' := by
  go_enter Try.func24, Try.ntmps24
  go_wp2_with fail
  go_loopw [5, 6] (fun v i wr => ∃ j : Nat, j ≤ k ∧ i = .int .i64 ((k : Int) - 1 - j) ∧ Row wr w.heap.size v ((bigL n k).take j) ∧ Below w.heap.size w wr) (fun _ i _ => (intOf i + 1).toNat)
  case atStart => exact ⟨0, Nat.zero_le _, by simp, by simpa using Row.nil _ _, Below.refl _ _⟩
  case round =>
    obtain ⟨j, hj, rfl, hr, hb⟩ := hrel
    by_cases hlt : j < k
    · have ht := bigL_take n k j hlt
      have HT := Lib.hid ht
      obtain ⟨i, hi⟩ : ∃ i : Nat, i = k - 1 - j := ⟨_, rfl⟩
      have hi2 : (k : Int) - 1 - j = i := by omega
      rw [← hi] at HT
      rw [hi2]
      have hi4 : i < 4 := by omega
      clear hi ht
      have HI2 := Lib.hid hi2
      clear hi2
      obtain ⟨x, hx⟩ : ∃ x, x = UInt8.ofNat (n / 2 ^ (8 * i)) := ⟨_, rfl⟩
      have hx8 : (n : Int) / 2 ^ (8 * i) % 256 = (x.toNat : Int) := by
        rw [hx, UInt8.toNat_ofNat']
        simp
      rw [← hx] at HT
      clear hx
      go_wp2_with (at_builtin; refine wpList_append_bytes rfl (.tmp 13) (.tmp 19) rfl w.heap.size _ _ rfl (hr.alloc _) _ 1 [x] rfl (Byt.new _ _ _ _ _ rfl) (by simp; omega) (by have := hb.size; simp; try omega) ?_; intro v2 w2 hr2 hg2 ho2)
      have hb2 := grown_below (hb.alloc hb.size _) (hr.alloc _).rowV (Nat.le_refl _) hg2
      go_roundw
      case rel => exact ⟨j + 1, by omega, by have := HI2.out; go_num, by rw [HT.out]; exact hr2, hb2⟩
      case measure => have := HI2.out; simp [intOf]; try omega
    · have hjk : j = k := by omega
      subst hjk
      rw [List.take_of_length_le (by rw [bigL_length]; exact Nat.le_refl _)] at hr
      go_wp2_with fail
      go_ret
      exact ⟨_, rfl, hr, hb⟩
/-! slices.Grow of nothing -/
theorem zeros_run (w : World) (ty : TypeId) (n : Nat) (h0 : 0 < n) (hn : n ≤ 140737488355328) :
    ∃ c cs, (Builtin.append_ #[27, 3] ty #[.slice none 0 0, .int .i64 n]).run Try.prog w = .ok (.slice (some ⟨w.heap.size, 0, none⟩) n c) (w.drew.alloc (.cells cs 5)) ∧ n ≤ c ∧ c ≤ maxLen ∧ cs.size = c := by
  obtain ⟨i0, hi, hz0, hz1, hz2⟩ := info_parts Try.info8
  refine ⟨_, _, Lib.run_append_nil_zeros w _ _ ty 5 i0 _ .i64 .i64 Try.underlying27 Try.underlying3 hi hz0 n h0 (by omega) (by omega) (by rw [hz2]; omega), grownCap_ge _ _ _ _, grownCap_le_maxLen _ _ _ _ (by unfold maxLen; omega), ?_⟩
  have hg := grownCap_ge w n 0 5
  have hz : ∀ k, (Builtin.zeroCells (Value.int .u8 0).cells k).size = k := fun k => by
    have : (Value.int IntKind.u8 0).cells = #[.int .u8 0] := rfl
    simp [Builtin.zeroCells, this]
  rw [Array.size_append, hz, hz]; omega
theorem grow_any (n : Nat) (hn : n ≤ 140737488355328) (w : World) :
    Calls Try.prog 40 #[.slice none 0 0, .int .i64 n] w fun e w' => ∃ v, e = .returned v ∧ Row w' w.heap.size v [] ∧ Below w.heap.size w w' := by
  by_cases h0 : n = 0
  · subst h0
    go_enter Try.func40, Try.ntmps40
    go_wp2
    go_ret
    exact ⟨_, rfl, Row.nil _ _, Below.refl _ _⟩
  · have h1 : 0 < n := by omega
    go_enter Try.func40, Try.ntmps40
    go_wp2_with (at_builtin; obtain ⟨c, cs, hr, hc1, hc2, hcs⟩ := zeros_run w 27 n h1 hn; refine Lib.wpList_append_run _ rfl (.tmp 20) (.tmp 21) _ _ rfl _ _ rfl rfl _ _ hr ?_)
    go_ret
    refine ⟨_, rfl, ⟨rfl, .inr ⟨w.heap.size, c, cs, rfl, Nat.le_refl _, heap_alloc_new _ _, Nat.zero_le _, hc2, by omega, by simp⟩⟩, ?_⟩
    exact ((Below.refl _ _).drew).alloc (Nat.le_refl _) _
/-! slices.Concat -/
/-- a part: where its bytes lie, its room, its bytes -/
abbrev Part := Option Addr × Nat × List UInt8
abbrev partV (p : Part) : Value := .slice p.1 p.2.2.length p.2.1
def lenL (L : List Part) : Nat := (L.map fun p => p.2.2.length).sum
def catL (L : List Part) : List UInt8 := L.flatMap fun p => p.2.2
theorem lenL_take (L : List Part) (k : Nat) (h : k < L.length) : lenL (L.take (k + 1)) = lenL (L.take k) + L[k].2.2.length := by
  unfold lenL
  rw [List.take_succ_eq_append_getElem h, List.map_append, List.sum_append]
  rfl
theorem catL_take (L : List Part) (k : Nat) (h : k < L.length) : catL (L.take (k + 1)) = catL (L.take k) ++ L[k].2.2 := by
  unfold catL
  rw [List.take_succ_eq_append_getElem h, List.flatMap_append]; simp
theorem catL_length (L : List Part) : (catL L).length = lenL L := by
  unfold catL lenL
  induction L with
  | nil => rfl
  | cons p l ih => rw [List.flatMap_cons, List.length_append, ih]; simp
theorem lenL_le (L : List Part) (k : Nat) : lenL (L.take k) ≤ lenL L := by
  have : lenL L = lenL (L.take k) + lenL (L.drop k) := by
    unfold lenL
    rw [← List.sum_append, ← List.map_append, List.take_append_drop]
  omega
set_option maxHeartbeats 1000000 in
theorem concat_any (L : List Part) (g c : Nat) (w : World) (hc : L.length ≤ c) (hL : L.length ≤ 100) (hcell : ∀ k (h : k < L.length), w.cell? ⟨g, k, none⟩ = some (partV L[k])) (hB : ∀ p ∈ L, Byt w p.1 p.2.2 ∧ p.2.2.length ≤ p.2.1) (hn : lenL L ≤ 1000000) :
    Calls Try.prog 36 #[.slice (some ⟨g, 0, none⟩) L.length c] w fun e w' => ∃ v, e = .returned v ∧ Row w' w.heap.size v (catL L) ∧ Below w.heap.size w w' := by
  have HC := Lib.hid hcell
  have HBB := Lib.hid hB
  clear hcell hB
  go_enter Try.func36, Try.ntmps36
  go_wp2_with fail
  go_loopw [3, 11] (fun s i wr => ∃ k : Nat, k ≤ L.length ∧ i = .int .i64 k ∧ s = .int .i64 (lenL (L.take k)) ∧ w = wr) (fun _ i _ => L.length - (intOf i).toNat)
  case atStart => exact ⟨0, Nat.zero_le _, rfl, rfl, rfl⟩
  case round =>
    obtain ⟨k, hk, rfl, rfl, rfl⟩ := hrel
    by_cases hlt : k < L.length
    · have hx := HC.out k hlt
      have ht := lenL_take L k hlt
      have hle := lenL_le L (k + 1)
      generalize L[k] = p at *
      obtain ⟨A, ca, xs⟩ := p
      obtain ⟨s, hs⟩ : ∃ s, s = lenL (L.take k) := ⟨_, rfl⟩
      rw [← hs] at ht ⊢
      simp only [partV] at hx
      have hb : s + xs.length ≤ 1000000 := by simp at ht; omega
      have HT := Lib.hid ht
      clear ht hs hle
      go_wp2
      go_roundw
      case rel => exact ⟨k + 1, by omega, by go_num, by rw [HT.out]; go_num, trivial⟩
      case measure => simp [intOf]; omega
    · have hkl : k = L.length := by omega
      subst hkl
      rw [List.take_length]
      go_wp2_with (go_at_call 40; refine (grow_any (lenL L) (by omega) _).mono ?_; rintro _ w1 ⟨v, rfl, hr, hb⟩)
      go_loopw [6, 27] (fun v i wr => ∃ k : Nat, k ≤ L.length ∧ i = .int .i64 k ∧ Row wr w.heap.size v (catL (L.take k)) ∧ Below w.heap.size w wr) (fun _ i _ => L.length - (intOf i).toNat)
      case atStart => exact ⟨0, Nat.zero_le _, rfl, hr, hb⟩
      case round =>
        clear hr hb
        obtain ⟨k, hk, rfl, hr, hb⟩ := hrel
        by_cases hlt : k < L.length
        · have hx0 := HC.out k hlt
          have hbt := HBB.out _ (List.getElem_mem hlt)
          have ht := catL_take L k hlt
          have hle := lenL_le L (k + 1)
          have hle2 := lenL_take L k hlt
          have hcl := catL_length (L.take k)
          generalize L[k] = p at *
          obtain ⟨A, ca, xs⟩ := p
          have hx := (hb.cell (p := ⟨g, k, none⟩) (block_lt_of_cell hx0)).trans hx0
          simp only [partV] at hx
          have hbt1 : Byt wr A xs := hbt.1.kept hb
          have hle3 : (catL (L.take k)).length + xs.length ≤ 1000000 := by simp at hle2; omega
          have HT := Lib.hid ht
          clear ht hle hle2 hcl hx0 hbt
          go_wp2_with (at_builtin; refine wpList_append_bytes rfl (.tmp 31) (.tmp 32) rfl w.heap.size _ _ rfl hr A ca xs rfl hbt1 (by omega) hb.size ?_; intro v2 w2 hr2 hg2 ho2)
          have hb2 := grown_below hb hr.rowV (Nat.le_refl _) hg2
          go_roundw
          case rel => exact ⟨k + 1, by omega, by go_num, by rw [HT.out]; exact hr2, hb2⟩
          case measure => simp [intOf]; omega
        · have hkl : k = L.length := by omega
          subst hkl
          rw [List.take_length] at hr
          go_wp2_with fail
          go_ret
          exact ⟨_, rfl, hr, hb⟩
/-- a number's bytes, the lowest first -/
def leB (x : BitVec 32) : List UInt8 := [UInt8.ofNat x.toNat, UInt8.ofNat (x.toNat / 256), UInt8.ofNat (x.toNat / 65536), UInt8.ofNat (x.toNat / 16777216)]
def sumL (bs : List UInt8) : List UInt8 := bs ++ leB (crcB bs)
theorem le_bytes (x : BitVec 32) : ∃ b0 b1 b2 b3 : UInt8, leB x = [b0, b1, b2, b3] ∧ 0 ≤ N x ∧ N x < 4294967296 ∧ N x % 256 = (b0.toNat : Int) ∧ N x / 256 % 256 = (b1.toNat : Int) ∧ N x / 65536 % 256 = (b2.toNat : Int) ∧ N x / 16777216 = (b3.toNat : Int) := by
  have h := x.isLt
  refine ⟨_, _, _, _, rfl, ?_⟩
  unfold N
  simp only [UInt8.toNat_ofNat']
  omega
theorem summed_any (L : List Part) (g c : Nat) (w : World) (hc : L.length ≤ c) (hL : L.length ≤ 100) (hcell : ∀ k (h : k < L.length), w.cell? ⟨g, k, none⟩ = some (partV L[k])) (hB : ∀ p ∈ L, Byt w p.1 p.2.2 ∧ p.2.2.length ≤ p.2.1) (hn : lenL L ≤ 1000000) :
    Calls Try.prog 23 #[.slice (some ⟨g, 0, none⟩) L.length c] w fun e w' => ∃ v, e = .returned v ∧ Row w' w.heap.size v (sumL (catL L)) ∧ Below w.heap.size w w' := by
  have hlen := catL_length L
  have cc := fun w0 (h0 : w = w0) => concat_any L g c w hc hL hcell hB hn
  clear hcell hB
  generalize catL L = bs at *
  have oc := fun A ca w hbt hca => of_any A ca bs w hbt hca (show bs.length ≤ 140737488355328 by omega)
  have hl6 : bs.length ≤ 1000000 := by omega
  clear hlen hn
  unfold sumL
  obtain ⟨b0, b1, b2, b3, hle, n0, n1, e0, e1, e2, e3⟩ := le_bytes (crcB bs)
  rw [hle]
  clear hle
  simp only [U] at oc
  generalize N (crcB bs) = n at *
  go_enter Try.func23, Try.ntmps23
  go_wp2_with fail
  refine (cc _ rfl).mono ?_
  rintro _ w1 ⟨v, rfl, hr, hb⟩
  obtain ⟨A, ca, rfl, hbt, hca⟩ := hr.form
  go_wp2_with fail
  refine (oc A ca _ hbt hca).mono ?_
  rintro _ w2 ⟨rfl, hb2⟩
  have hr2 := hr.below hb2
  have hb3 := bcall hb hb2
  go_wp2_with (at_builtin; refine wpList_append_bytes rfl (.tmp 9) (.tmp 21) rfl w.heap.size _ _ rfl (hr2.alloc _) _ 4 [b0, b1, b2, b3] rfl (Byt.new _ _ _ _ _ rfl) (by simp; omega) (by have := hb3.size; simp; try omega) ?_; intro v2 w3 hr3 hg3 ho3)
  have hb4 := grown_below (hb3.alloc hb3.size _) (hr2.alloc _).rowV (Nat.le_refl _) hg3
  go_ret
  exact ⟨_, rfl, hr3, hb4⟩
end Go.Proofs.Ytjpglpdfopeegaa.Mine
