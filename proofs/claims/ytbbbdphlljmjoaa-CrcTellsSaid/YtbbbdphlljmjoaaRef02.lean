/- What the reference's own functions of the CRC compute (lightshipref02: powers, bits, Of), each by a walk over its code. Conditions: those of each theorem. -/
import Derived.Test.YtbbbdphlljmjoaaRowV
namespace Go.Proofs.Ytbbbdphlljmjoaa.Mine
open Go.RowKit
set_option linter.unusedVariables false

def powL : List Nat := [26, 23, 22, 16, 12, 11, 10, 8, 7, 5, 4, 2, 1, 0]
abbrev I64 (n : Nat) : Value := .int .i64 (n : Int)
theorem powers_any (w : World) : Calls Try.prog 18 #[] w fun e w' => e = .returned (.slice (some ⟨w.heap.size, 0, none⟩) 14 14) ∧ w.alloc (.cells (powL.map I64).toArray 3) = w' := by
  go_enter Try.func18, Try.ntmps18
  go_wp2
  go_ret
  exact ⟨rfl, rfl⟩

def bit8 (x : UInt8) (k : Nat) : Bool := (x.toNat / 2 ^ k) % 2 == 1
def byteBits (x : UInt8) (k : Nat) : List Bool := (List.range k).map (bit8 x)
def bitsL (bs : List UInt8) : List Bool := bs.flatMap fun x => byteBits x 8
def notK (l : List Bool) (k : Nat) : List Bool := l.mapIdx fun i b => if i < k then !b else b
theorem bitsL_length (bs : List UInt8) : (bitsL bs).length = 8 * bs.length := by
  unfold bitsL byteBits
  induction bs with
  | nil => rfl
  | cons x l ih => rw [List.flatMap_cons, List.length_append, ih]; simp; omega
theorem bitsL_take (bs : List UInt8) (i : Nat) (h : i < bs.length) : bitsL (bs.take (i + 1)) = bitsL (bs.take i) ++ byteBits bs[i] 8 := by
  unfold bitsL
  rw [List.take_succ_eq_append_getElem h, List.flatMap_append]; simp
theorem byteBits_succ (x : UInt8) (k : Nat) : byteBits x (k + 1) = byteBits x k ++ [bit8 x k] := by
  unfold byteBits; rw [List.range_succ, List.map_append]; rfl
theorem notK_length (l : List Bool) (k : Nat) : (notK l k).length = l.length := by simp [notK]
theorem notK_zero (l : List Bool) : notK l 0 = l := by
  apply List.ext_getElem
  · simp [notK]
  · intro i h1 h2; simp [notK]
theorem notK_get (l : List Bool) (k i : Nat) (h : i < (notK l k).length) : (notK l k)[i] = if i < k then !(l[i]'(by rwa [notK_length] at h)) else l[i]'(by rwa [notK_length] at h) := by simp [notK]
theorem notK_set (l : List Bool) (k : Nat) (h : k < l.length) : (notK l k).set k (!((notK l k)[k]'(by rw [notK_length]; exact h))) = notK l (k + 1) := by
  apply List.ext_getElem
  · simp [notK]
  · intro i h1 h2
    simp only [List.getElem_set, notK_get]
    by_cases e : k = i
    · subst e; simp
    · rw [if_neg e]
      by_cases h3 : i < k
      · simp [h3, show i < k + 1 by omega]
      · simp [h3, show ¬ i < k + 1 by omega]

theorem Try.infob : (Try.prog.info? 4).map (fun i => (i.zero, i.size, i.bytes)) = some (some (.bool false), 1, 1) := by kernel_rfl
abbrev RowB (w : World) (B : Nat) (v : Value) (l : List Bool) : Prop := RowV 4 w B v (l.map Value.bool)
theorem oneB1 (l : List Bool) : ∀ u ∈ l.map Value.bool, u.oneCell' = true := by
  intro u hu
  obtain ⟨x, _, rfl⟩ := List.mem_map.1 hu
  rfl

set_option maxHeartbeats 4000000 in
theorem bits_any (A : Option Addr) (c : Nat) (bs : List UInt8) (w : World) (hB : Byt w A bs) (hc : bs.length ≤ c) (hn : bs.length ≤ 1000000) :
    Calls Try.prog 17 #[.slice A bs.length c, .int .i64 32] w fun e w' => ∃ v, e = .returned v ∧ RowB w' w.heap.size v (notK (bitsL bs ++ List.replicate 32 false) 32) ∧ Below w.heap.size w w' := by
  go_enter Try.func17, Try.ntmps17
  go_wp2_with fail
  go_loopw [5, 6] (fun v i wr => ∃ k : Nat, k ≤ bs.length ∧ i = .int .i64 k ∧ RowB wr w.heap.size v (bitsL (bs.take k)) ∧ Below w.heap.size w wr) (fun _ i _ => bs.length - (intOf i).toNat)
  case atStart => exact ⟨0, Nat.zero_le _, rfl, RowV.nil _ _ _, Below.refl _ _⟩
  case round =>
    obtain ⟨i, hi, rfl, hr, hb⟩ := hrel
    by_cases hlt : i < bs.length
    · obtain ⟨b, off, rfl, hcell⟩ := hB.at (by omega)
      have hx : wr.cell? ⟨b, off + i, none⟩ = some (B8 bs[i]) := (hb.cell (p := ⟨b, off + i, none⟩) (hB.lt (by omega))).trans (hcell i hlt)
      have htk := bitsL_take bs i hlt
      generalize bs[i] = x at hx htk
      have HT := Lib.hid htk
      clear htk
      have hrl : (bitsL (bs.take i)).length = 8 * i := by rw [bitsL_length]; simp; omega
      have HRL := Lib.hid hrl
      clear hrl
      obtain ⟨wo, rfl⟩ : ∃ wo : World, wo = wr := ⟨_, rfl⟩
      have hi8 : 8 * i ≤ 8000000 := by omega
      go_wp2_with fail
      go_loopw [5, 7, 8] (fun v y j wr => ∃ k : Nat, k ≤ 8 ∧ j = .int .i64 k ∧ y = .int .u8 ((x.toNat / 2 ^ k : Nat) : Int) ∧ RowB wr w.heap.size v (bitsL (bs.take i) ++ byteBits x k) ∧ Below w.heap.size w wr) (fun _ _ j _ => 8 - (intOf j).toNat)
      case atStart => exact ⟨0, Nat.zero_le _, rfl, by simp, by simpa [byteBits] using hr, hb⟩
      case round =>
        clear hr hb
        obtain ⟨k, hk, rfl, rfl, hr, hb⟩ := hrel
        by_cases hlt8 : k < 8
        · have hsucc := byteBits_succ x k
          have hy2 : x.toNat / 2 ^ (k + 1) = x.toNat / 2 ^ k / 2 := by rw [Nat.pow_succ, Nat.div_div_eq_div_mul]
          have hy1 : x.toNat / 2 ^ k < 256 := Nat.lt_of_le_of_lt (Nat.div_le_self _ _) x.toNat_lt
          unfold bit8 at hsucc
          have hlen : (bitsL (bs.take i) ++ byteBits x k).length ≤ 8000008 := by rw [List.length_append, HRL.out]; simp [byteBits]; omega
          generalize x.toNat / 2 ^ k = y at hsucc hy1 hy2
          obtain ⟨bt, hbt⟩ : ∃ bt, bt = (y % 2 == 1) := ⟨_, rfl⟩
          rw [← hbt] at hsucc
          have hbi : ((y : Int) % 2 == 1) = bt := by
            rw [hbt, Bool.eq_iff_iff, beq_iff_eq, beq_iff_eq]; omega
          have HSU := Lib.hid hsucc
          have HY2 := Lib.hid hy2
          clear hsucc hy2 hbt
          go_wp2_with (at_builtin; refine wpList_append_row rfl (.tmp 25) (.tmp 29) 38 4 rfl (.bool false) 1 Try.underlying38 Try.infob rfl w.heap.size _ _ rfl (hr.alloc _) _ 1 1 [.bool bt] rfl rfl (CellsAt.new _ _ _ _ _ rfl) (oneB1 [bt]) (by simp at hlen ⊢; omega) (by simp at hlen ⊢; omega) (by have := hb.size; simp; omega) ?_; intro v1 w1 hr1 hg1 ho1)
          have hb1 := grown_below (hb.alloc hb.size _) (hr.alloc _) (Nat.le_refl _) hg1
          go_roundw
          case rel => exact ⟨k + 1, by omega, by go_num, by rw [HY2.out]; go_num, by rw [HSU.out, ← List.append_assoc]; unfold RowB; rw [List.map_append]; exact hr1, hb1⟩
          case measure => simp [intOf]; omega
        · have h8 : k = 8 := by omega
          rw [h8] at hr
          clear h8
          go_wp2_with fail
          go_roundw
          case rel => exact ⟨i + 1, by omega, by go_num, by rw [HT.out]; exact hr, hb⟩
          case measure => simp [intOf]; omega
    · have hkl : i = bs.length := by omega
      rw [hkl, List.take_length] at hr
      clear hkl
      have hl := bitsL_length bs
      have HL := Lib.hid hl
      clear hl
      obtain ⟨wo, rfl⟩ : ∃ wo : World, wo = wr := ⟨_, rfl⟩
      go_wp2_with fail
      go_loopw [5, 9] (fun v j wr => ∃ k : Nat, k ≤ 32 ∧ j = .int .i64 k ∧ RowB wr w.heap.size v (bitsL bs ++ List.replicate k false) ∧ Below w.heap.size w wr) (fun _ j _ => 32 - (intOf j).toNat)
      case atStart => exact ⟨0, Nat.zero_le _, rfl, by simpa using hr, hb⟩
      case round =>
        clear hr hb
        obtain ⟨k, hk, rfl, hr, hb⟩ := hrel
        by_cases hlt32 : k < 32
        · have hlen : (bitsL bs ++ List.replicate k false).length ≤ 8000032 := by rw [List.length_append, HL.out]; simp; omega
          go_wp2_with (at_builtin; refine wpList_append_row rfl (.tmp 38) (.tmp 39) 38 4 rfl (.bool false) 1 Try.underlying38 Try.infob rfl w.heap.size _ _ rfl (hr.alloc _) _ 1 1 [.bool false] rfl rfl (CellsAt.new _ _ _ _ _ rfl) (oneB1 [false]) (by simp at hlen ⊢; omega) (by simp at hlen ⊢; omega) (by have := hb.size; simp; omega) ?_; intro v1 w1 hr1 hg1 ho1)
          have hb1 := grown_below (hb.alloc hb.size _) (hr.alloc _) (Nat.le_refl _) hg1
          go_roundw
          case rel => exact ⟨k + 1, by omega, by go_num, by rw [List.replicate_succ', ← List.append_assoc]; unfold RowB; rw [List.map_append]; exact hr1, hb1⟩
          case measure => simp [intOf]; omega
        · have h8 : k = 32 := by omega
          rw [h8] at hr
          clear h8
          obtain ⟨A', c', rfl, hv, hc'⟩ := hr.form
          have hlen : ((bitsL bs ++ List.replicate 32 false).map Value.bool).length = 8 * bs.length + 32 := by simp [HL.out]
          obtain ⟨g, rfl, _, _⟩ := hr.head (by omega)
          have hgB : w.heap.size ≤ g := (hr.base rfl).1
          clear hv
          obtain ⟨m, hm⟩ : ∃ m, m = ((bitsL bs ++ List.replicate 32 false).map Value.bool).length := ⟨_, rfl⟩
          rw [← hm] at hr hc'
          have hm32 : 32 ≤ m := by omega
          have hmn : m ≤ 8000032 := by omega
          have hm2 : (bitsL bs ++ List.replicate 32 false).length = m := by rw [hm, List.length_map]
          rw [show (Value.slice (some ⟨g, 0, none⟩) ((bitsL bs ++ List.replicate 32 false).map Value.bool).length c') = Value.slice (some ⟨g, 0, none⟩) m c' from by rw [hm]]
          clear hm hlen
          generalize hLe : bitsL bs ++ List.replicate 32 false = L at *
          have HM := Lib.hid hm2
          have HLe := Lib.hid hLe
          clear hm2 HL hLe
          obtain ⟨wo, rfl⟩ : ∃ wo : World, wo = wr := ⟨_, rfl⟩
          go_wp2_with fail
          go_loopw [10] (fun j wr => ∃ k : Nat, k ≤ 32 ∧ j = .int .i64 k ∧ RowB wr w.heap.size (.slice (some ⟨g, 0, none⟩) m c') (notK L k) ∧ Below w.heap.size w wr) (fun j _ => 32 - (intOf j).toNat)
          case atStart => exact ⟨0, Nat.zero_le _, rfl, by rw [notK_zero]; exact hr, hb⟩
          case round =>
            clear hr hb
            obtain ⟨k, hk, rfl, hr, hb⟩ := hrel
            by_cases hlt32 : k < 32
            · have hkm : k < (notK L k).length := by rw [notK_length, HM.out]; omega
              have hkm2 : k < ((notK L k).map Value.bool).length := by rw [List.length_map]; exact hkm
              have hcell := hr.cell k hkm2
              rw [List.getElem_map] at hcell
              have hf := hr.free k
              have hst := hr.set k (.bool (!((notK L k)[k])))
              rw [← List.map_set, notK_set L k (by rw [HM.out]; omega)] at hst
              have HST := Lib.hid hst
              clear hst
              generalize (notK L k)[k] = y at hcell HST
              clear hkm2
              have i1 : (k : Int) < (m : Int) := by omega
              clear hkm
              go_wp2_with fail
              go_roundw
              case rel => exact ⟨k + 1, by omega, by go_num, HST.out, hb.setCell hgB _⟩
              case measure => simp [intOf]; omega
            · have h8 : k = 32 := by omega
              rw [h8] at hr
              clear h8
              go_wp2
              go_ret
              exact ⟨_, rfl, by rw [HLe.out]; exact hr, hb⟩

/-! the long division -/
def pw (k : Nat) : Nat := powL.getD k 0
def flips (l : List Bool) (i : Nat) : Nat → List Bool
  | 0 => l
  | k + 1 => (flips l i k).set (i + 32 - pw k) (!((flips l i k).getD (i + 32 - pw k) false))
def divS (l : List Bool) (i : Nat) : List Bool := if l.getD i false then flips (l.set i false) i 14 else l
def divL (l : List Bool) : Nat → List Bool
  | 0 => l
  | i + 1 => divS (divL l i) i
theorem flips_length (l : List Bool) (i k : Nat) : (flips l i k).length = l.length := by
  induction k with
  | zero => rfl
  | succ k ih => rw [flips, List.length_set, ih]
theorem divL_length (l : List Bool) (i : Nat) : (divL l i).length = l.length := by
  induction i with
  | zero => rfl
  | succ i ih => rw [divL, divS]; split <;> simp [flips_length, ih]
theorem pw_le : ∀ k, k < 14 → pw k ≤ 26 := by decide
/-- the number that the last 32 bits, turned, make: t of them are done, the highest ones first -/
def accB (r : List Bool) : Nat → BitVec 32
  | 0 => 0#32
  | t + 1 => if r.getD (31 - t) false then accB r t <<< 1 else (accB r t <<< 1) + 1#32
def refB (bs : List UInt8) : BitVec 32 := accB ((divL (notK (bitsL bs ++ List.replicate 32 false) 32) (8 * bs.length)).drop (8 * bs.length)) 32

theorem dbl (z : BitVec 32) : N z * 2 % 4294967296 = N (z <<< 1) := by
  unfold N
  rw [BitVec.toNat_shiftLeft, Nat.shiftLeft_eq]; omega
theorem dbl_inc (z : BitVec 32) : N z * 2 % 4294967296 + 1 = N (z <<< 1 + 1#32) := by
  rw [dbl]
  unfold N
  rw [BitVec.toNat_add, BitVec.toNat_shiftLeft, Nat.shiftLeft_eq]
  have : (1#32).toNat = 1 := rfl
  omega
set_option maxHeartbeats 4000000 in
theorem refOf_any (A : Option Addr) (c : Nat) (bs : List UInt8) (w : World) (hB : Byt w A bs) (hc : bs.length ≤ c) (hn : bs.length ≤ 1000000) :
    Calls Try.prog 9 #[.slice A bs.length c] w fun e w' => e = .returned (U (refB bs)) ∧ Below w.heap.size w w' := by
  go_enter Try.func9, Try.ntmps9
  go_wp2_with fail
  refine (bits_any A c bs _ hB hc hn).mono ?_
  rintro e w1 ⟨v, rfl, hr, hb⟩
  obtain ⟨L, hL⟩ : ∃ L, L = notK (bitsL bs ++ List.replicate 32 false) 32 := ⟨_, rfl⟩
  have hLl : L.length = 8 * bs.length + 32 := by rw [hL, notK_length, List.length_append, bitsL_length]; simp
  rw [← hL] at hr
  have HLe := Lib.hid hL
  clear hL
  obtain ⟨m, hm⟩ : ∃ m, m = L.length := ⟨_, rfl⟩
  have hm1 : m = 8 * bs.length + 32 := by omega
  obtain ⟨A', c', rfl, _, hc'⟩ := hr.form
  obtain ⟨g, rfl, _, _⟩ := hr.head (by simp; omega)
  have hgB : w.heap.size ≤ g := (hr.base rfl).1
  rw [List.length_map, ← hm] at hr hc' ⊢
  have hm32 : 32 ≤ m := by omega
  have hmn : m ≤ 8000032 := by omega
  have hmb : 8 * bs.length = m - 32 := by omega
  have HM := Lib.hid hm
  have HMB := Lib.hid hmb
  clear hm hm1 hLl hmb
  go_wp2_with (go_at_call 18; refine (powers_any _).mono ?_; rintro e w2 ⟨rfl, rfl⟩)
  have hpw : ∀ k, k < 14 → (w1.alloc (.cells (powL.map I64).toArray 3)).heap[w1.heap.size]? = some (.cells (powL.map I64).toArray 3 (0, 0)) := fun _ _ => heap_alloc_new _ _
  have hp0 : (w1.alloc (.cells (powL.map I64).toArray 3)).heap[w1.heap.size]? = some (.cells (powL.map I64).toArray 3 (0, 0)) := heap_alloc_new _ _
  clear hpw
  have hr := hr.alloc (.cells (powL.map I64).toArray 3)
  have hgp : g ≠ w1.heap.size := by
    have := (hr.base rfl).2
    intro e
    obtain ⟨A2, c2, e2, h2, _⟩ := hr.form
    cases e2
    have h3 := (RowV.base (w := w1) (by assumption) (k := g) rfl).2
    omega
  have hbp : w.heap.size ≤ w1.heap.size := hb.size
  have hb := hb.alloc hb.size (.cells (powL.map I64).toArray 3)
  generalize w1.alloc (.cells (powL.map I64).toArray 3) = W at *
  obtain ⟨p, hp⟩ : ∃ p, p = w1.heap.size := ⟨_, rfl⟩
  rw [← hp] at hp0 hgp hbp ⊢
  clear hp
  go_loopw [5] (fun j wr => ∃ i : Nat, i + 32 ≤ m ∧ j = .int .i64 i ∧ RowB wr w.heap.size (.slice (some ⟨g, 0, none⟩) m c') (divL L i) ∧ Hid (wr.heap[p]? = some (.cells (powL.map I64).toArray 3 (0, 0))) ∧ Below w.heap.size w wr) (fun j _ => m - (intOf j).toNat)
  case atStart => exact ⟨0, by omega, rfl, hr, hp0, hb⟩
  case round =>
    clear hr hb hp0
    obtain ⟨i, hi, rfl, hr, HP, hb⟩ := hrel
    have hdl : (divL L i).length = m := by rw [divL_length, HM.out]
    by_cases hlt : i + 32 < m
    · have hcell := hr.cell i (by rw [List.length_map]; omega)
      rw [List.getElem_map] at hcell
      have hf := hr.free i
      have hdv : divL L (i + 1) = divS (divL L i) i := rfl
      unfold divS at hdv
      rw [List.getD_eq_getElem?_getD, List.getElem?_eq_getElem (by omega), Option.getD_some] at hdv
      have hst := hr.set i (.bool false)
      rw [← List.map_set] at hst
      obtain ⟨y, hy⟩ : ∃ y, y = (divL L i)[i]'(by omega) := ⟨_, rfl⟩
      rw [← hy] at hcell hdv
      clear hy
      have HD := Lib.hid hdl
      clear hdl
      have i1 : (i : Int) < (m : Int) := by omega
      cases y with
      | false =>
        clear hst
        have HDV := Lib.hid hdv
        clear hdv
        go_wp2
        go_roundw
        case rel => exact ⟨i + 1, by omega, by go_num, by rw [HDV.out]; exact hr, HP, hb⟩
        case measure => simp [intOf]; omega
      | true =>
        rw [if_pos rfl] at hdv
        have HDV := Lib.hid hdv
        have hFl : ((divL L i).set i false).length = m := by rw [List.length_set, HD.out]
        generalize (divL L i).set i false = F at *
        have HF := Lib.hid hFl
        clear hdv hFl
        have HP2 : Hid ((wr.setCell ⟨g, i, none⟩ (.bool false)).heap[p]? = some (.cells (powL.map I64).toArray 3 (0, 0))) := by
          have := HP.out
          unfold Hid
          rw [heap_setCell_other _ _ _ _ (by simpa using hgp.symm)]
          exact this
        have hb2 := hb.setCell (p := ⟨g, i, none⟩) hgB (.bool false)
        obtain ⟨wo, rfl⟩ : ∃ wo : World, wo = wr := ⟨_, rfl⟩
        go_wp2_with fail
        go_loopw [6] (fun j wr => ∃ k : Nat, k ≤ 14 ∧ j = .int .i64 k ∧ RowB wr w.heap.size (.slice (some ⟨g, 0, none⟩) m c') (flips F i k) ∧ Hid (wr.heap[p]? = some (.cells (powL.map I64).toArray 3 (0, 0))) ∧ Below w.heap.size w wr) (fun j _ => 14 - (intOf j).toNat)
        case atStart => exact ⟨0, by omega, rfl, hst, HP2, hb2⟩
        case round =>
          clear hst hb2 hcell hf
          obtain ⟨k, hk, rfl, hr, HPr, hbr⟩ := hrel
          by_cases hlt14 : k < 14
          · have hpk : wr.cell? ⟨p, k, none⟩ = some (.int .i64 (pw k : Int)) := by
              rw [cell_of_row _ _ _ _ _ _ HPr.out]
              have : ∀ k, k < 14 → ((powL.map I64).toArray)[k]? = some (.int .i64 (pw k : Int)) := by
                intro k hk
                have h2 : k < powL.length := hk
                simp only [List.getElem?_toArray, List.getElem?_map, List.getElem?_eq_getElem h2, Option.map_some, pw, List.getD_eq_getElem?_getD, Option.getD_some]
              exact this k hlt14
            have hp26 := pw_le k hlt14
            have hfs : flips F i (k + 1) = (flips F i k).set (i + 32 - pw k) (!((flips F i k).getD (i + 32 - pw k) false)) := rfl
            obtain ⟨pk, hpkk⟩ : ∃ pk, pk = pw k := ⟨_, rfl⟩
            rw [← hpkk] at hpk hp26 hfs
            clear hpkk
            obtain ⟨q, hq⟩ : ∃ q, q = i + 32 - pk := ⟨_, rfl⟩
            rw [← hq] at hfs
            have hq2 : (i : Int) + 32 - (pk : Int) = (q : Int) := by omega
            have hqm : q < m := by omega
            clear hq
            have hFl : (flips F i k).length = m := by rw [flips_length, HF.out]
            have hc2 := hr.cell q (by rw [List.length_map]; omega)
            rw [List.getElem_map] at hc2
            have hf2 := hr.free q
            rw [List.getD_eq_getElem?_getD, List.getElem?_eq_getElem (by omega), Option.getD_some] at hfs
            have hst := hr.set q (.bool (!((flips F i k)[q]'(by omega))))
            rw [← List.map_set, ← hfs] at hst
            obtain ⟨y, hy⟩ : ∃ y, y = (flips F i k)[q]'(by omega) := ⟨_, rfl⟩
            rw [← hy] at hc2 hst
            clear hy hfs hFl
            have HST := Lib.hid hst
            have HP3 : Hid ((wr.setCell ⟨g, q, none⟩ (.bool (!y))).heap[p]? = some (.cells (powL.map I64).toArray 3 (0, 0))) := by
              have := HPr.out
              unfold Hid
              rw [heap_setCell_other _ _ _ _ (by simpa using hgp.symm)]
              exact this
            clear hst
            have i2 : (k : Int) < 14 := by omega
            have i3 : (q : Int) < (m : Int) := by omega
            have i4 : 0 ≤ (q : Int) := by omega
            go_wp2_with fail
            go_region
            go_wp2
            go_roundw
            case rel => exact ⟨k + 1, by omega, by go_num, HST.out, HP3.out, (hbr.setCell hgB _).drew⟩
            case measure => simp [intOf]; omega
          · have h14 : k = 14 := by omega
            rw [h14, ← HDV.out] at hr
            clear h14
            go_wp2_with fail
            go_roundw
            case rel => exact ⟨i + 1, by omega, by go_num, hr, HPr, hbr⟩
            case measure => simp [intOf]; omega
    · obtain ⟨n8, hn8⟩ : ∃ n8, n8 = m - 32 := ⟨_, rfl⟩
      have hin : i = n8 := by omega
      rw [hin] at hr
      have hn32 : (m : Int) - 32 = (n8 : Int) := by omega
      obtain ⟨R, hR⟩ : ∃ R, R = (divL L n8).drop n8 := ⟨_, rfl⟩
      have hRl : R.length = 32 := by rw [hR, List.length_drop, divL_length, HM.out.symm]; omega
      have hcellR : ∀ j (h : j < 32), wr.cell? ⟨g, n8 + j, none⟩ = some (.bool (R.getD j false)) := by
        intro j hj
        have h2 : n8 + j < (divL L n8).length := by rw [divL_length, HM.out.symm]; omega
        have := hr.cell (n8 + j) (by rw [List.length_map]; exact h2)
        rw [this, List.getElem_map, List.getD_eq_getElem?_getD, List.getElem?_eq_getElem (by omega), Option.getD_some]
        simp only [hR, List.getElem_drop]
      have hfin : accB R 32 = refB bs := by
        unfold refB
        rw [← HLe.out, HMB.out, ← hn8, ← hR]
      have hmn8 : m - n8 = 32 := by omega
      have hcn : ¬ c' = n8 := by omega
      have hnm : n8 ≤ m := by omega
      have HFIN := Lib.hid hfin
      have HRL := Lib.hid hRl
      have HC := Lib.hid hcellR
      have HM8 := Lib.hid hmn8
      clear hR hRl hcellR hfin hn8 hdl hr hin hmn8
      have hA2 : (if c' = n8 then some (⟨g, 0, none⟩ : Addr) else some ((⟨g, 0, none⟩ : Addr).add n8)) = some ⟨g, n8, none⟩ := by
        rw [if_neg hcn, Addr.add_mid, Nat.zero_add]
      have hw0 : IntKind.u32.wrap 0 = 0 := by decide
      go_wp2_with fail
      go_loop [8, 9] (fun v j => ∃ t : Nat, t ≤ 32 ∧ j = .int .i64 (31 - (t : Int)) ∧ v = U (accB R t)) (fun _ j => (intOf j + 1).toNat)
      case atStart => exact ⟨0, by omega, rfl, rfl⟩
      case round =>
        obtain ⟨t, ht, rfl, rfl⟩ := hrel
        by_cases hlt32 : t < 32
        · have hc2 := HC.out (31 - t) (by omega)
          have hac : accB R (t + 1) = if R.getD (31 - t) false then accB R t <<< 1 else (accB R t <<< 1) + 1#32 := rfl
          obtain ⟨y, hy⟩ : ∃ y, y = R.getD (31 - t) false := ⟨_, rfl⟩
          rw [← hy] at hc2 hac
          obtain ⟨q, hq⟩ : ∃ q, q = 31 - t := ⟨_, rfl⟩
          rw [← hq] at hc2
          have hq2 : 31 - (t : Int) = (q : Int) := by omega
          clear hy hq
          generalize accB R t = z at *
          have HAC := Lib.hid hac
          have HQ := Lib.hid hq2
          clear hac hq2
          have i5 : (q : Int) < ((m - n8 : Nat) : Int) := by have := HM8.out; have := HQ.out; omega
          have i6 : (q : Int) ≤ 31 := by have := HQ.out; omega
          cases y
          · rw [HQ.out]
            go_wp2
            go_round
            case rel => exact ⟨t + 1, by omega, by rw [← HQ.out]; go_num, by rw [HAC.out, if_neg (by simp)]; exact congrArg (Value.int .u32) (dbl_inc z)⟩
            case measure => simp [intOf]
          · rw [HQ.out]
            go_wp2
            go_round
            case rel => exact ⟨t + 1, by omega, by rw [← HQ.out]; go_num, by rw [HAC.out, if_pos rfl]; exact congrArg (Value.int .u32) (dbl z)⟩
            case measure => simp [intOf]
        · have h32 : t = 32 := by omega
          subst h32
          rw [HFIN.out]
          go_wp2
          go_ret
          exact ⟨rfl, hb⟩
end Go.Proofs.Ytbbbdphlljmjoaa.Mine
