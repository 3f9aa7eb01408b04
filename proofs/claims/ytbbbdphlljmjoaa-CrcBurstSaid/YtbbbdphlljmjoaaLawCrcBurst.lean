/- CrcBurst: bytes of which some bits are changed, all within 32 in a row, have another CRC: the plain law, and a walk over the law's code. Conditions: those of the theorem (the slice can be read). -/
import Derived.Test.YtbbbdphlljmjoaaLawCrcParts
namespace Go.Proofs.Ytbbbdphlljmjoaa.Mine
open Go.RowKit
set_option linter.unusedVariables false

/-! the plain law -/
def bitV (r : Nat) : UInt8 := UInt8.ofNat (2 ^ r)
def flipL (l : List UInt8) (p : Nat) : List UInt8 := l.set (p / 8) (l.getD (p / 8) 0 ^^^ bitV (p % 8))
def burL (b : List UInt8) (bit : Nat) (x : BitVec 32) : Nat → List UInt8
  | 0 => b
  | k + 1 => if (x >>> k) &&& 1#32 = 1#32 then flipL (burL b bit x k) (bit + k) else burL b bit x k
theorem flipL_length (l : List UInt8) (p : Nat) : (flipL l p).length = l.length := by simp [flipL]
theorem burL_length (b : List UInt8) (bit : Nat) (x : BitVec 32) (k : Nat) : (burL b bit x k).length = b.length := by
  induction k with
  | zero => rfl
  | succ k ih => rw [burL]; split <;> simp [flipL_length, ih]
theorem byteV_bit : ∀ r, r < 8 → byteV (bitV r) = 1#32 <<< r := by decide
theorem stepsB_shl (r : Nat) (h : r < 32) : stepsB r (1#32 <<< r) = 1#32 := by
  rw [stepsB_low]
  · apply BitVec.eq_of_getLsbD_eq
    intro i hi
    rw [BitVec.getLsbD_ushiftRight, BitVec.getLsbD_one]
    by_cases e : r + i < 32
    · rw [one_shl_bit _ _ e]
      by_cases h0 : i = 0
      · subst h0; simp
      · simp [h0]
    · rw [BitVec.getLsbD_of_ge _ _ (by omega)]
      have : ¬ i = 0 := by omega
      simp [this]
  · intro i hi
    rw [one_shl_bit _ _ (by omega)]
    simp; omega
theorem addB_flip (s : BitVec 32) (l : List UInt8) (p : Nat) (hp : p < 8 * l.length) : addB s (flipL l p) = addB s l ^^^ stepsB (8 * l.length - p) 1#32 := by
  have hq : p / 8 < l.length := by omega
  have hr : p % 8 < 8 := Nat.mod_lt _ (by omega)
  have hd := Nat.div_add_mod p 8
  generalize p / 8 = q at *
  have hl : l = l.take q ++ l[q] :: l.drop (q + 1) := by
    rw [← List.drop_eq_getElem_cons hq, List.take_append_drop]
  have hf : flipL l p = l.take q ++ (l[q] ^^^ bitV (p % 8)) :: l.drop (q + 1) := by
    unfold flipL
    rw [show p / 8 = q by omega, List.set_eq_take_append_cons_drop, if_pos hq, List.getD_eq_getElem?_getD, List.getElem?_eq_getElem hq]; rfl
  rw [hf]
  conv => rhs; rw [hl]
  rw [addB_append, addB_append, addB_cons, addB_cons, byteB_eq, byteB_eq, byteV_xor, ← BitVec.xor_assoc, stepsB_xor, addB_xor, byteV_bit _ hr]
  congr 1
  rw [List.length_append, List.length_cons, List.length_take, List.length_drop, ← stepsB_add]
  have e1 : 8 * (l.length - (q + 1)) + 8 = (8 * (min q l.length + (l.length - (q + 1) + 1)) - p) + p % 8 := by omega
  rw [e1, stepsB_add, stepsB_shl _ (by omega)]
theorem addB_bur (s : BitVec 32) (b : List UInt8) (bit : Nat) (x : BitVec 32) (hb : bit + 32 ≤ 8 * b.length) (k : Nat) (hk : k ≤ 32) :
    addB s (burL b bit x k) = addB s b ^^^ ofB (fun i => stepsB (8 * b.length - bit) (1#32 <<< i)) x k := by
  induction k with
  | zero => simp [burL, ofB]
  | succ k ih =>
    rw [burL, ofB]
    by_cases h : (x >>> k) &&& 1#32 = 1#32
    · rw [if_pos h, if_pos h, addB_flip _ _ _ (by rw [burL_length]; omega), ih (by omega), burL_length, BitVec.xor_assoc]
      congr 2
      have : 8 * b.length - bit = (8 * b.length - (bit + k)) + k := by omega
      rw [this, stepsB_add, stepsB_shl _ (by omega)]
    · rw [if_neg h, if_neg h, ih (by omega)]
theorem stepB_inj (x : BitVec 32) (h : stepB x = 0#32) : x = 0#32 := by
  rw [stepB_eq] at h
  cases h0 : x.getLsbD 0
  · rw [h0] at h
    apply BitVec.eq_of_getLsbD_eq
    intro i hi
    rw [BitVec.getLsbD_zero]
    by_cases e : i = 0
    · subst e; exact h0
    · have := congrArg (fun z => z.getLsbD (i - 1)) h
      simp only [Bool.false_eq_true, if_false, BitVec.getLsbD_ushiftRight, BitVec.getLsbD_zero] at this
      rwa [show 1 + (i - 1) = i by omega] at this
  · rw [h0] at h
    have := congrArg (fun z => z.getLsbD 31) h
    simp only [if_true, BitVec.getLsbD_xor, BitVec.getLsbD_ushiftRight, BitVec.getLsbD_zero] at this
    rw [BitVec.getLsbD_of_ge _ _ (by omega)] at this
    exact absurd this (by decide)
theorem stepsB_inj (n : Nat) (x : BitVec 32) (h : stepsB n x = 0#32) : x = 0#32 := by
  induction n with
  | zero => exact h
  | succ n ih => exact ih (stepB_inj _ h)
/-- THE LAW: a burst is seen. -/
theorem burst_seen (b : List UInt8) (bit : Nat) (x : BitVec 32) (hb : bit + 32 ≤ 8 * b.length) (hx : x ≠ 0#32) : crcB (burL b bit x 32) ≠ crcB b := by
  unfold crcB
  rw [addB_bur _ _ _ _ hb 32 (Nat.le_refl _), ofB_eq (8 * b.length - bit) _ (fun _ _ => rfl)]
  intro h
  apply hx
  apply stepsB_inj (8 * b.length - bit)
  rw [not_eq_xor, not_eq_xor] at h
  have h2 := congrArg (fun z => addB 4294967295#32 b ^^^ (4294967295#32 ^^^ z)) h
  simp only [← BitVec.xor_assoc, BitVec.xor_self, BitVec.zero_xor] at h2
  exact h2

/-! the walk -/
theorem shl_bit (r : Nat) (h : r < 8) : (2 : Int) ^ r % 256 = ((bitV r).toNat : Int) := by
  unfold bitV
  rw [UInt8.toNat_ofNat']
  simp
set_option maxHeartbeats 2000000 in
theorem burst_any (A : Option Addr) (ca at_ : Nat) (x : BitVec 32) (b : List UInt8) (w : World) (ha : Byt w A b) (hla : b.length ≤ ca) (hca : ca ≤ maxLen) (hat : at_ < 65536) :
    Calls Try.prog 5 #[.slice A b.length ca, .int .u16 (at_ : Int), U x] w fun e w' => e = .returned (.bool true) ∧ Below w.heap.size w w' := by
  unfold maxLen at hca
  have hz : (N x == 0) = (x == 0#32) := N_eq x 0#32
  by_cases hx : x = 0#32
  · clear hz
    have hz : (N 0#32 == 0) = true := by decide
    subst hx
    by_cases h5 : b.length < 5
    · go_enter Try.func5, Try.ntmps5
      go_wp2_with (go_at_call 7; refine (awake_any _).mono ?_; rintro e w1 ⟨rfl, hb1⟩)
      go_ret
      exact ⟨rfl, hb1⟩
    · by_cases h4 : 400 < b.length
      all_goals
        go_enter Try.func5, Try.ntmps5
        go_wp2_with (go_at_call 7; refine (awake_any _).mono ?_; rintro e w1 ⟨rfl, hb1⟩)
        go_ret
        exact ⟨rfl, hb1⟩
  · rw [show (x == 0#32) = false from by simpa using hx] at hz
    by_cases h5 : b.length < 5
    · go_enter Try.func5, Try.ntmps5
      go_wp2_with (go_at_call 7; refine (awake_any _).mono ?_; rintro e w1 ⟨rfl, hb1⟩)
      go_ret
      exact ⟨rfl, hb1⟩
    · by_cases h4 : 400 < b.length
      · go_enter Try.func5, Try.ntmps5
        go_wp2_with (go_at_call 7; refine (awake_any _).mono ?_; rintro e w1 ⟨rfl, hb1⟩)
        go_ret
        exact ⟨rfl, hb1⟩
      · obtain ⟨n, hn⟩ : ∃ n, n = 8 * b.length - 31 := ⟨_, rfl⟩
        obtain ⟨bit, hbit⟩ : ∃ i, i = at_ % n := ⟨_, rfl⟩
        have hn1 : 8 * ((b.length : Nat) : Int) - 31 = ((n : Nat) : Int) := by omega
        have hbl : bit < n := by rw [hbit]; exact Nat.mod_lt _ (by omega)
        have hb32 : bit + 32 ≤ 8 * b.length := by omega
        have c1 := fun w => (hbit ▸ among_nat at_ n (by omega) (by omega) w : Calls Try.prog 15 #[.int .i64 (at_ : Int), .int .i64 (n : Int)] w fun e w' => e = .returned (.int .i64 ((bit : Nat) : Int)) ∧ w = w')
        have C1 := Lib.hid c1
        have HN := Lib.hid hn1
        have HX := Lib.hid hx
        clear hn hbit hn1 c1 hx
        go_enter Try.func5, Try.ntmps5
        go_wp2_with fail
        rw [HN.out]
        refine (C1.out _).mono ?_
        rintro e w1 ⟨rfl, rfl⟩
        go_wp2_with fail
        refine (fresh_any A ca b _ ha (by omega)).mono ?_
        rintro e w1 ⟨v, rfl, hr, B1⟩
        go_wp2_with fail
        obtain ⟨A', c', rfl, hv, hc'⟩ := hr.form
        obtain ⟨g, rfl⟩ : ∃ g, A' = some ⟨g, 0, none⟩ := hr.head (by omega)
        have hgB : w.heap.size ≤ g := (hr.base rfl).1
        go_loopw [32] (fun i wr => ∃ k : Nat, k ≤ 32 ∧ i = .int .i64 k ∧ Row wr w.heap.size (.slice (some ⟨g, 0, none⟩) b.length c') (burL b bit x k) ∧ Below w.heap.size w wr) (fun i _ => 32 - (intOf i).toNat)
        case atStart => exact ⟨0, Nat.zero_le _, rfl, hr, B1⟩
        case round =>
          clear hv hr B1
          obtain ⟨k, hk, rfl, hr, hbr⟩ := hrel
          by_cases hlt : k < 32
          · have hsh := b_shr x k hlt
            have hb1 := bit1 (x >>> k)
            by_cases hb : (x >>> k) &&& 1#32 = 1#32
            · rw [decide_eq_true hb] at hb1
              obtain ⟨q, hq⟩ : ∃ q, q = (bit + k) / 8 := ⟨_, rfl⟩
              obtain ⟨r, hrr⟩ : ∃ r, r = (bit + k) % 8 := ⟨_, rfl⟩
              have hql : q < b.length := by omega
              have hr8 : r < 8 := by omega
              have hc := hr.cell q (by rw [burL_length]; exact hql)
              have hf := hr.free q
              have hset := hr.set q ((burL b bit x k)[q]'(by rw [burL_length]; exact hql) ^^^ bitV r)
              have hfl : (burL b bit x k).set q ((burL b bit x k)[q]'(by rw [burL_length]; exact hql) ^^^ bitV r) = burL b bit x (k + 1) := by
                rw [burL, if_pos hb]
                unfold flipL
                rw [← hq, ← hrr, List.getD_eq_getElem?_getD, List.getElem?_eq_getElem (by rw [burL_length]; exact hql)]; rfl
              rw [hfl, B8, ← b8_xor] at hset
              generalize (burL b bit x k)[q]'(by rw [burL_length]; exact hql) = xo at hc hset
              rw [← shl_bit r hr8] at hset
              have HS := Lib.hid hset
              have e1 : ((bit : Int) + (k : Int)) / 8 = (q : Int) := by omega
              have e2 : ((bit : Int) + (k : Int)) % 8 = (r : Int) := by omega
              have i1 : (q : Int) < (b.length : Int) := by omega
              have i0 : 0 ≤ (q : Int) := by omega
              clear hset hfl hb hq hrr hr
              go_wp2_with fail
              go_region
              go_wp2
              go_roundw
              case rel => exact ⟨k + 1, by omega, by go_num, HS.out, (hbr.setCell hgB _).drew⟩
              case measure => simp [intOf]; omega
            · rw [decide_eq_false hb] at hb1
              have HB := Lib.hid hb
              clear hb
              go_wp2
              go_roundw
              case rel => exact ⟨k + 1, by omega, by go_num, by rw [burL, if_neg HB.out]; exact hr, hbr⟩
              case measure => simp [intOf]; omega
          · have hk32 : k = 32 := by omega
            rw [hk32] at hr
            clear hk32
            have hne : (N (crcB (burL b bit x 32)) != N (crcB b)) = true := by
              rw [bne_iff_ne]
              exact fun h => burst_seen b bit x hb32 HX.out (N_inj h)
            have hbl2 : Hid ((burL b bit x 32).length = b.length) := burL_length b bit x 32
            have hs : b.length ≤ 140737488355328 := by omega
            obtain ⟨A2, c2, e2, hv2, _⟩ := hr.form
            have e3 : A2 = some ⟨g, 0, none⟩ := by injection e2 with e2 _ _; exact e2.symm
            subst e3
            have HE := Lib.hid e2
            clear e2
            generalize burL b bit x 32 = bad at *
            go_wp2_with fail
            refine (of_at (some ⟨g, 0, none⟩) b.length c' bad _ hbl2.out hv2 hc' hs).mono ?_
            rintro e W1 ⟨rfl, q1⟩
            have B1 := bcall hbr q1
            go_wp2_with fail
            refine (of_at A b.length ca b _ rfl (ha.kept B1) hla hs).mono ?_
            rintro e W2 ⟨rfl, q2⟩
            have B2 := bcall B1 q2
            go_wp2_with fail
            refine (awake_any _).mono ?_
            rintro e W3 ⟨rfl, q3⟩
            have B3 := bcall B2 q3
            go_wp2_with fail
            go_ret
            exact ⟨rfl, B3⟩
end Go.Proofs.Ytbbbdphlljmjoaa.Mine
