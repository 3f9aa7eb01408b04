/- What the functions of package crc compute, each by a walk over its code: as bit vectors of 32 bits. Conditions: those of each theorem. -/
import Derived.Test.YtjpglpdfopeegaaBase
namespace Go.Proofs.Ytjpglpdfopeegaa.Mine
open Go.RowKit
set_option linter.unusedVariables false

def stepB (x : BitVec 32) : BitVec 32 := (x >>> 1) ^^^ (3988292384#32 &&& (-(x &&& 1#32)))
def stepsB : Nat → BitVec 32 → BitVec 32
  | 0, x => x
  | n + 1, x => stepB (stepsB n x)

theorem step_val (x : BitVec 32) : bits .xor .u32 (N x / 2) (bits .and .u32 3988292384 (-(bits .and .u32 (N x) 1) % 4294967296)) = N (stepB x) := by
  rw [b_and1, b_neg, b_half]
  have h := b_and 3988292384#32 (-(x &&& 1#32))
  rw [N_lit _ (by decide)] at h
  exact (congrArg _ h).trans (b_xor _ _)

theorem step_any (x : BitVec 32) (w : World) :
    Calls Try.prog 49 #[U x] w fun e w' => e = .returned (U (stepB x)) ∧ w = w' := by
  go_enter Try.func49, Try.ntmps49
  go_wp2
  go_ret
  exact ⟨congrArg (fun n => Ending.returned (.int .u32 n)) (step_val x), rfl⟩

theorem steps_any (x : BitVec 32) (n : Nat) (hn : n < 1000) (w : World) :
    Calls Try.prog 48 #[U x, .int .i64 n] w fun e w' => e = .returned (U (stepsB n x)) ∧ w = w' := by
  go_enter Try.func48, Try.ntmps48
  go_wp2
  go_loop [0, 6] (fun a i => ∃ k : Nat, k ≤ n ∧ i = .int .i64 k ∧ a = U (stepsB k x)) (fun _ i => n - (intOf i).toNat)
  case atStart => exact ⟨0, Nat.zero_le _, rfl, rfl⟩
  case round =>
    obtain ⟨k, hk, rfl, rfl⟩ := hrel
    by_cases hlt : k < n
    · go_wp2_with (go_at_call 49; refine (step_any _ _).mono ?_; rintro e w' ⟨rfl, rfl⟩)
      go_round
      case rel => exact ⟨k + 1, by omega, by go_num, rfl⟩
      case measure => simp [intOf]; omega
    · have : k = n := by omega
      subst this
      go_wp2
      go_ret
      exact ⟨rfl, rfl⟩

def T4 (j : Nat) : Int := N (stepsB 4 (BitVec.ofNat 32 j))
abbrev V4 (j : Nat) : Value := .int .u32 (T4 j)
theorem tbl0 : #[.int .u32 0, .int .u32 0, .int .u32 0, .int .u32 0, .int .u32 0, .int .u32 0, .int .u32 0, .int .u32 0, .int .u32 0, .int .u32 0, .int .u32 0, .int .u32 0, .int .u32 0, .int .u32 0, .int .u32 0, .int .u32 0] = fillK 16 0 (.int .u32 0) V4 := by kernel_rfl

theorem four_any (j : Nat) (hj : j < 16) (w : World) :
    Calls Try.prog 47 #[.int .i64 j] w fun e w' => e = .returned (V4 j) ∧ w = w' := by
  go_enter Try.func47, Try.ntmps47
  go_wp2_with fail
  have hn : (j : Int) = N (BitVec.ofNat 32 j) := (N_lit _ (by omega)).symm
  rw [hn]
  clear hn
  refine (steps_any (BitVec.ofNat 32 j) 4 (by omega) w).mono ?_
  rintro e w' ⟨rfl, rfl⟩
  go_wp2
  go_ret
  exact ⟨rfl, rfl⟩

set_option maxHeartbeats 400000 in
theorem table_any (w : World) :
    Calls Try.prog 46 #[] w fun e w' => e = .returned (.agg (fillK 16 16 (.int .u32 0) V4)) ∧ Below w.heap.size w w' := by
  go_enter Try.func46, Try.ntmps46
  go_wp2
  rw [tbl0]
  go_loopw [4] (fun i wr => ∃ k : Nat, k ≤ 16 ∧ i = .int .i64 k ∧ wr.heap[w.heap.size + 1]? = some (.cells (fillK 16 k (.int .u32 0) V4) 70 (0,0)) ∧ wr.heap[w.heap.size]? = some (.cells (fillK 16 0 (.int .u32 0) V4) 70 (0,0)) ∧ Below w.heap.size w wr) (fun i _ => 16 - (intOf i).toNat)
  case atStart => 
    refine ⟨0, Nat.zero_le _, rfl, heap_alloc2_new _ _ _, heap_alloc2_old _ _ _, ((Below.refl _ _).alloc (Nat.le_refl _) _).alloc (by simp) _⟩
  case round =>
    obtain ⟨k, hk, rfl, h1, h0, hb⟩ := hrel
    by_cases hlt : k < 16
    · have hc : wr.cell? ⟨w.heap.size + 1, k, none⟩ = some (.int .u32 0) := by
        rw [cell_of_row _ _ _ _ _ _ h1, fillK_get? _ _ _ _ _ hlt, if_neg (by omega)]
      have hf := frozen_of_row _ _ k _ _ h1
      have hs := heap_setCell_same wr (w.heap.size + 1) k _ _ (V4 k) h1
      rw [fillK_set] at hs
      have hs0 := heap_setCell_other wr ⟨w.heap.size + 1, k, none⟩ w.heap.size (V4 k) (by simp)
      rw [h0] at hs0
      have HS := Lib.hid hs; have HS0 := Lib.hid hs0; have H1 := Lib.hid h1; have H0 := Lib.hid h0
      clear hs hs0 h1 h0
      go_wp2_with (go_at_call 47; refine (four_any _ hlt _).mono ?_; rintro e w' ⟨rfl, rfl⟩)
      go_roundw
      case rel => exact ⟨k + 1, by omega, by go_num, HS.out, HS0.out, hb.setCell (by simp) _⟩
      case measure => simp [intOf]; omega
    · have : k = 16 := by omega
      subst this
      have hall : (fillK 16 16 (.int .u32 0) V4).all (·.oneCell') = true := by kernel_rfl
      go_wp2_with (first
        | (refine wpList_load_row rfl 70 (.tmp 1) rfl (w.heap.size + 1) rfl 70 (fillK 16 16 (.int .u32 0) V4) (0, 0) _ h1 Try.underlying70 rfl (by rw [fillK_size]; kernel_rfl) ?_)
        | (refine wpList_store_row rfl 70 (.tmp 0) (.tmp 13) rfl w.heap.size (fillK 16 16 (.int .u32 0) V4) rfl rfl 70 _ h0 (by rw [fillK_size]; kernel_rfl) (by rw [fillK_size, fillK_size]) hall ?_))
      exact bodyPost_ret (v := .agg (fillK 16 16 (.int .u32 0) V4))
        (results_cell_row rfl _ _ w.heap.size 70 _ (0, 0) _ rfl (setRow_heap _ _ _ _ _ _ h0) Try.underlying70 rfl (by rw [fillK_size]; kernel_rfl)) rfl ⟨rfl, below_setRow hb (Nat.le_refl _) _⟩

def nib (s : BitVec 32) : BitVec 32 := (s >>> 4) ^^^ stepsB 4 (s &&& 15#32)
def byteB (s : BitVec 32) (x : UInt8) : BitVec 32 := nib (nib (s ^^^ BitVec.ofNat 32 x.toNat))
def addB (s : BitVec 32) (bs : List UInt8) : BitVec 32 := bs.foldl byteB s
theorem addB_take (s : BitVec 32) (bs : List UInt8) (k : Nat) (h : k < bs.length) : addB s (bs.take (k + 1)) = byteB (addB s (bs.take k)) bs[k] := by
  unfold addB
  rw [List.take_succ_eq_append_getElem h, List.foldl_append]; rfl
theorem lt15 (x : BitVec 32) : N (x &&& 15#32) < 16 := by
  have : (x &&& 15#32).toNat < 16 := by rw [BitVec.toNat_and]; exact Nat.lt_of_le_of_lt Nat.and_le_right (by decide)
  unfold N; omega
theorem b_byte (x : UInt8) : (x.toNat : Int) = N (BitVec.ofNat 32 x.toNat) := by
  have := x.toNat_lt
  exact (N_lit _ (by omega)).symm
attribute [local go_sem] b_xor b_and15 b_shr4

set_option maxHeartbeats 400000 in
theorem add_any (s : BitVec 32) (A : Option Addr) (c : Nat) (bs : List UInt8) (w : World) (hB : Byt w A bs) (hc : bs.length ≤ c) (hn : bs.length ≤ 140737488355328) :
    Calls Try.prog 42 #[U s, .slice A bs.length c] w fun e w' => e = .returned (U (addB s bs)) ∧ Below w.heap.size w w' := by
  go_enter Try.func42, Try.ntmps42
  have hall : (fillK 16 16 (.int .u32 0) V4).all (·.oneCell') = true := by kernel_rfl
  go_wp2_with (first
    | (go_at_call 46; refine (table_any _).mono ?_; rintro e w1 ⟨rfl, hb1⟩)
    | (refine wpList_store_fresh rfl 70 (.tmp 5) (.tmp 8) rfl _ (fillK 16 16 (.int .u32 0) V4) 70 rfl rfl (by rw [fillK_size]; kernel_rfl) (by rw [fillK_size]; rfl) hall ?_))
  have hmem : ∀ x : BitVec 32, (w1.alloc (.cells (fillK 16 16 (.int .u32 0) V4) 70)).cell? ⟨w1.heap.size, (N (x &&& 15#32)).toNat, none⟩ = some (.int .u32 (N (stepsB 4 (x &&& 15#32)))) := by
    intro x
    have h := lt15 x
    have h0 := N_lo (x &&& 15#32)
    rw [cell_of_row _ _ _ _ _ (0, 0) (heap_alloc_new w1 _), fillK_get? _ _ _ _ _ (by omega), if_pos (by omega)]
    show some (Value.int .u32 (N (stepsB 4 (BitVec.ofNat 32 (N (x &&& 15#32)).toNat)))) = _
    rw [show (N (x &&& 15#32)).toNat = (x &&& 15#32).toNat from Int.toNat_natCast _, BitVec.ofNat_toNat, BitVec.setWidth_eq]
  have hlt := lt15
  have hlo := N_lo
  have hwr := N_wrap
  generalize hW : w1.alloc (.cells (fillK 16 16 (.int .u32 0) V4) 70) = W at *
  have hbW : Below w.heap.size w W := by rw [← hW]; exact hb1.alloc hb1.size _
  clear hW hb1 hall
  go_loop [0, 11] (fun a i => ∃ k : Nat, k ≤ bs.length ∧ i = .int .i64 k ∧ a = U (addB s (bs.take k))) (fun _ i => bs.length - (intOf i).toNat)
  case atStart => exact ⟨0, Nat.zero_le _, rfl, rfl⟩
  case round =>
    obtain ⟨k, hk, rfl, rfl⟩ := hrel
    by_cases hlt : k < bs.length
    · obtain ⟨b, off, rfl, hcell⟩ := hB.at (by omega)
      have hb0 : b < w.heap.size := hB.lt (by omega)
      have hx : W.cell? ⟨b, off + k, none⟩ = some (B8 bs[k]) := (hbW.cell (p := ⟨b, off + k, none⟩) hb0).trans (hcell k hlt)
      have hst := addB_take s bs k hlt
      unfold byteB at hst
      have hby := b_byte bs[k]
      generalize BitVec.ofNat 32 bs[k].toNat = y at hst hby
      rw [B8, hby] at hx
      have HST := Lib.hid hst
      clear hst hby
      generalize addB s (bs.take k) = z at *
      go_wp2
      go_round
      case rel => exact ⟨k + 1, by omega, by go_num, by rw [HST.out]; rfl⟩
      case measure => simp [intOf]; omega
    · have : k = bs.length := by omega
      subst this
      rw [List.take_length]
      go_wp2
      go_ret
      exact ⟨rfl, hbW⟩

theorem begin_any (w : World) : Calls Try.prog 43 #[] w fun e w' => e = .returned (U 4294967295#32) ∧ w = w' := by
  go_enter Try.func43, Try.ntmps43
  go_wp2
  go_ret
  exact ⟨rfl, rfl⟩
theorem end_any (x : BitVec 32) (w : World) : Calls Try.prog 41 #[U x] w fun e w' => e = .returned (U (~~~x)) ∧ w = w' := by
  go_enter Try.func41, Try.ntmps41
  go_wp2
  have e : bits .xor .u32 IntKind.u32.max (N x) = N (~~~x) := by
    have h := b_xor 4294967295#32 x
    rw [N_lit _ (by decide)] at h
    refine Eq.trans (congrArg (fun z => bits .xor .u32 z (N x)) (by decide : IntKind.u32.max = 4294967295)) (h.trans (congrArg N ?_))
    exact BitVec.allOnes_xor
  rw [e]
  go_ret
  exact ⟨rfl, rfl⟩
/-- The CRC of bytes, as the program computes it. -/
def crcB (bs : List UInt8) : BitVec 32 := ~~~(addB 4294967295#32 bs)
theorem of_any (A : Option Addr) (c : Nat) (bs : List UInt8) (w : World) (hB : Byt w A bs) (hc : bs.length ≤ c) (hn : bs.length ≤ 140737488355328) :
    Calls Try.prog 37 #[.slice A bs.length c] w fun e w' => e = .returned (U (crcB bs)) ∧ Below w.heap.size w w' := by
  go_enter Try.func37, Try.ntmps37
  go_wp2_with (first
    | (go_at_call 43; refine (begin_any _).mono ?_; rintro e w1 ⟨rfl, rfl⟩)
    | (go_at_call 42; refine (add_any _ A c bs _ hB hc hn).mono ?_; rintro e w1 ⟨rfl, hb⟩)
    | (go_at_call 41; refine (end_any _ _).mono ?_; rintro e w2 ⟨rfl, rfl⟩))
  go_ret
  exact ⟨rfl, hb⟩

/-- As 'of_any', the length said apart. -/
theorem of_at (A : Option Addr) (n c : Nat) (bs : List UInt8) (w : World) (hn : bs.length = n) (hB : Byt w A bs) (hc : n ≤ c) (hm : n ≤ 140737488355328) :
    Calls Try.prog 37 #[.slice A n c] w fun e w' => e = .returned (U (crcB bs)) ∧ Below w.heap.size w w' := by
  subst hn
  exact of_any A c bs w hB hc hm

theorem add_at (s : BitVec 32) (A : Option Addr) (n c : Nat) (bs : List UInt8) (w : World) (hn : bs.length = n) (hB : Byt w A bs) (hc : n ≤ c) (hm : n ≤ 140737488355328) :
    Calls Try.prog 42 #[U s, .slice A n c] w fun e w' => e = .returned (U (addB s bs)) ∧ Below w.heap.size w w' := by
  subst hn
  exact add_any s A c bs w hB hc hm
def ofB (m : Nat → BitVec 32) (x : BitVec 32) : Nat → BitVec 32
  | 0 => 0#32
  | k + 1 => if (x >>> k) &&& 1#32 = 1#32 then ofB m x k ^^^ m k else ofB m x k
end Go.Proofs.Ytjpglpdfopeegaa.Mine
