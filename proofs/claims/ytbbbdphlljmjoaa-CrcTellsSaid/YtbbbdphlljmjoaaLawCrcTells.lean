/- CrcTells: the CRC of bytes, at once, and byte by byte, is what the reference tells: a walk over the law's code. Conditions: those of the theorem (the slice can be read). -/
import Derived.Test.YtbbbdphlljmjoaaLawCrc
import Derived.Test.YtbbbdphlljmjoaaRef02Pure
namespace Go.Proofs.Ytbbbdphlljmjoaa.Mine
open Go.RowKit
set_option linter.unusedVariables false

set_option maxHeartbeats 2000000 in
theorem tells_any (A : Option Addr) (ca : Nat) (b : List UInt8) (w : World) (ha : Byt w A b) (hla : b.length ≤ ca) (hca : ca ≤ maxLen) :
    Calls Try.prog 3 #[.slice A b.length ca] w fun e w' => e = .returned (.bool true) ∧ Below w.heap.size w w' := by
  unfold maxLen at hca
  by_cases hl : 300 < b.length
  · go_enter Try.func3, Try.ntmps3
    go_wp2_with (go_at_call 7; refine (awake_any _).mono ?_; rintro e w1 ⟨rfl, hb1⟩)
    go_ret
    exact ⟨rfl, hb1⟩
  · have hs : b.length ≤ 140737488355328 := by omega
    go_enter Try.func3, Try.ntmps3
    go_wp2_with fail
    refine (fresh_any A ca b _ ha hs).mono ?_
    rintro e w1 ⟨v, rfl, hr, B1⟩
    obtain ⟨A', c', rfl, hv, hc'⟩ := hr.form
    go_wp2_with fail
    refine (refOf_any A ca b _ (ha.kept B1) hla (by omega)).mono ?_
    rintro e W2 ⟨rfl, q2⟩
    have hr := hr.below q2
    have B2 := bcall B1 q2
    have hE := refB_eq b
    generalize refB b = want at *
    have HE := Lib.hid hE
    clear hE hv B1
    go_wp2_with fail
    refine (begin_any _).mono ?_
    rintro e w3 ⟨rfl, rfl⟩
    go_wp2_with fail
    go_loopw [5, 18] (fun s i wr => ∃ k : Nat, k ≤ b.length ∧ i = .int .i64 k ∧ s = U (addB 4294967295#32 (b.take k)) ∧ Row wr w.heap.size (.slice A' b.length c') b ∧ Below w.heap.size w wr) (fun _ i _ => b.length - (intOf i).toNat)
    case atStart => exact ⟨0, Nat.zero_le _, rfl, rfl, hr, B2⟩
    case round =>
      clear hr B2 q2
      obtain ⟨k, hk, rfl, rfl, hr, hb⟩ := hrel
      by_cases hlt : k < b.length
      · obtain ⟨g, rfl⟩ := hr.head (by omega)
        have hk1 : (k : Int) + 1 ≤ (c' : Int) := by omega
        have hne : ¬ c' = k := by omega
        have hk2 : ((k : Int) + 1).toNat - k = 1 := by omega
        have hA2 : (⟨g, 0, none⟩ : Addr).add k = ⟨g, k, none⟩ := by rw [Addr.add_mid, Nat.zero_add]
        have hb1 : Byt wr (some ⟨g, k, none⟩) [b[k]] := Byt.of fun j hj => by
          have : j = 0 := by simpa using hj
          subst this
          simpa using hr.cell k hlt
        have hst : addB (addB 4294967295#32 (b.take k)) [b[k]] = addB 4294967295#32 (b.take (k + 1)) := by
          rw [addB_take _ _ _ hlt]; rfl
        generalize b[k] = x at *
        have HST := Lib.hid hst
        clear hst
        go_wp2_with fail
        refine (add_at _ (some ⟨g, k, none⟩) 1 (c' - k) [x] _ rfl hb1 (by omega) (by omega)).mono ?_
        rintro e W3 ⟨rfl, q3⟩
        go_wp2
        go_roundw
        case rel => exact ⟨k + 1, by omega, by go_num, by rw [← HST.out], hr.below q3, bcall hb q3⟩
        case measure => simp [intOf]; omega
      · have hkl : k = b.length := by omega
        rw [hkl, List.take_length]
        clear hkl hk hlt
        have e1 : (N (crcB b) == N want) = true := by rw [HE.out]; simp
        have e2 : (N (~~~(addB 4294967295#32 b)) == N want) = true := by rw [HE.out]; simp [crcB]
        obtain ⟨A2, c2, ev, hv, _⟩ := hr.form
        have e3 : A2 = A' := by injection ev with e _ _; exact e.symm
        subst e3
        have e4 : (b == b) = true := by simp
        clear ev
        go_wp2_with fail
        refine (of_at A2 b.length c' b _ rfl hv hc' hs).mono ?_
        rintro e W3 ⟨rfl, q3⟩
        have B3 := bcall hb q3
        go_wp2_with fail
        refine (end_any _ _).mono ?_
        rintro e w4 ⟨rfl, rfl⟩
        go_wp2_with fail
        refine (is_any A2 c' b A ca b _ (hv.kept q3) (ha.kept B3)).mono ?_
        rintro e w4 ⟨rfl, rfl⟩
        go_wp2_with fail
        refine (awake_any _).mono ?_
        rintro e W4 ⟨rfl, q4⟩
        have B4 := bcall B3 q4
        go_wp2
        go_ret
        exact ⟨rfl, B4⟩
end Go.Proofs.Ytbbbdphlljmjoaa.Mine
