/- The statement's own function PacketBurst tells true: by a walk over its code and the plain law. Conditions: those of the theorem. -/
import Derived.Test.YtjpglpdfopeegaaLawPktTotal
import Derived.Test.YtjpglpdfopeegaaPktBurstPure
namespace Go.Proofs.Ytjpglpdfopeegaa.Mine
open Go.RowKit
set_option linter.unusedVariables false
set_option linter.unusedSimpArgs false

theorem b_shr (x : BitVec 32) (k : Nat) (h : k < 32) : N x / (2 : Int) ^ k = N (x >>> k) := by
  unfold N; rw [BitVec.toNat_ushiftRight, Nat.shiftRight_eq_div_pow, Int.natCast_ediv]; simp
theorem bit1 (y : BitVec 32) : (bits .and .u32 (N y) 1 == 1) = decide (y &&& 1#32 = 1#32) := by
  rw [b_and1]
  have h := N_eq (y &&& 1#32) 1#32
  rw [N_lit 1 (by decide)] at h
  exact h
theorem among_nat (x n : Nat) (h : 0 < n) (hn : n < 4611686018427387904) (w : World) :
    Calls Try.prog 20 #[.int .i64 (x : Int), .int .i64 (n : Int)] w fun e w' => e = .returned (.int .i64 ((x % n : Nat) : Int)) ∧ w = w' := by
  refine (among_any x n (by omega) w).mono ?_
  rintro e w' ⟨rfl, rfl⟩
  rw [among_eq _ _ (by omega) (by omega)]
  exact ⟨rfl, rfl⟩
theorem Pk.right_len {p : Pk} (hr : p.right = true) : p.data.length ≤ 64 := by
  by_cases h1 : p.kind = 1
  · rw [(Pk.right_one hr h1).2]; decide
  · by_cases h2 : p.kind = 2
    · exact (Pk.right_two hr h2).2.2
    · rw [Pk.right_else hr h1 h2]; exact Nat.zero_le _
theorem encode_all (p : Pk) (hp : p.ok) (A : Option Addr) (c : Nat) (w : World) (hB : Byt w A p.data) (hl : p.data.length ≤ c) :
    Calls Try.prog 9 #[.agg (p.cells A c)] w fun e w' => ∃ v, e = .returned (.tuple #[v, .int .i64 p.enc.2]) ∧ Row w' w.heap.size v p.enc.1 ∧ Below w.heap.size w w' := by
  cases hr : p.right with
  | true => exact encode_any p hp A c w hB hl (Nat.le_trans (Pk.right_len hr) (by decide))
  | false => rw [Pk.enc_wrong hr]; exact enc_no p hp A c hr w
/-- what Encode tells: bytes with their sum behind and no error; or no bytes, and ErrPacket -/
theorem Pk.enc_two (p : Pk) (hp : p.ok) : (p.enc.2 = 0 ∧ ∃ b, p.enc.1 = sumL b ∧ b.length ≤ 100) ∨ (p.enc.2 = 220 ∧ p.enc.1 = []) := by
  cases hr : p.right with
  | false => rw [Pk.enc_wrong hr]; exact .inr ⟨rfl, rfl⟩
  | true =>
    rw [Pk.enc_right hr]
    refine .inl ⟨rfl, _, rfl, ?_⟩
    have h := Pk.right_len hr
    have hd := hp.1.2.2.2.2
    unfold Pk.body
    split
    · simp [bigL_length]; omega
    · split
      · simp [bigL_length]; omega
      · simp
theorem An.enc_two (a : An) : (a.enc.2 = 0 ∧ ∃ b, a.enc.1 = sumL b ∧ b.length ≤ 100) ∨ (a.enc.2 = 220 ∧ a.enc.1 = []) := by
  cases hr : a.right with
  | false => rw [An.enc_wrong hr]; exact .inr ⟨rfl, rfl⟩
  | true =>
    rw [An.enc_right hr]
    refine .inl ⟨rfl, _, rfl, ?_⟩
    unfold An.body
    simp [bigL_length]
set_option maxRecDepth 100000 in
set_option maxHeartbeats 8000000 in
theorem pburst_any (p : Pk) (hp : p.ok) (Ad : Option Addr) (cd : Nat) (a : An) (ha : a.ok) (at_ : Nat) (hat : at_ < 65536) (x : BitVec 32) (w : World) (hB : Byt w Ad p.data) (hl : p.data.length ≤ cd) :
    Calls Try.prog 6 #[.agg (p.cells Ad cd), .agg a.cells, .int .u16 (at_ : Int), U x] w fun e w' => e = .returned (.bool true) ∧ Below w.heap.size w w' := by
  have hz : (N x == 0) = (x == 0#32) := N_eq x 0#32
  obtain ⟨M, hM⟩ : ∃ M, M = p.cells Ad cd := ⟨_, rfl⟩
  have HMs := Lib.hid (Pk.size_eq hp Ad cd)
  have HM37 := Lib.hid (Pk.get37 hp Ad cd)
  have ec := fun W h => encode_all p hp Ad cd W h hl
  have ac := fun W => encodeAnswer_any a ha W
  have hA4 : Hid ((Try.prog.info? 40).map (·.size) = some a.cells.size) := Try.ansSize
  have h2 := Pk.enc_two p hp
  have h3 := An.enc_two a
  rw [← hM] at HMs HM37 ec ⊢
  clear hM
  generalize p.enc.2 = E at *
  generalize p.enc.1 = xs at *
  generalize a.enc.2 = F at *
  generalize a.enc.1 = ys at *
  generalize a.cells = Ma at *
  obtain ⟨W0, hW0⟩ : ∃ W0, W0 = (w.alloc (.cells M 29)).alloc (.cells Ma 40) := ⟨_, rfl⟩
  have hb0 : Below w.heap.size w W0 := by rw [hW0]; exact (balloc _ _).alloc (Nat.le_of_lt (size_lt_alloc _ _)) _
  have hp0 : W0.heap[w.heap.size]? = some (.cells M 29 (0, 0)) := by rw [hW0]; exact (Below.heap_alloc _ _ _ (size_lt_alloc _ _)).trans (heap_alloc_new w _)
  have ha0 : W0.heap[w.heap.size + 1]? = some (.cells Ma 40 (0, 0)) := by
    rw [hW0]
    have := heap_alloc_new (w.alloc (.cells M 29)) (.cells Ma 40)
    rwa [show (w.alloc (.cells M 29)).heap.size = w.heap.size + 1 by simp] at this
  have hp00 := hp0
  rw [hW0] at hp00
  have HP00 := Lib.hid hp00
  have HP0 := Lib.hid hp0
  have HA0 := Lib.hid ha0
  have HW0 := Lib.hid hW0
  have HB0 := Lib.hid (hB.kept hb0)
  have HEC := Lib.hid ec
  have HAC := Lib.hid ac
  clear hp0 hp00 ha0 hW0 ec ac hB
  by_cases hq : x = 0#32 ∨ 64 < p.data.length
  · have hz2 : (N x == 0) = true ∨ ((N x == 0) = false ∧ (64 : Int) < (p.data.length : Int)) := by
      by_cases h : x = 0#32
      · left; rw [hz, h]; rfl
      · right; exact ⟨by rw [hz]; simpa using h, by rcases hq with h' | h'; exact absurd h' h; omega⟩
    clear hz hq
    rcases hz2 with hz2 | ⟨hz2, hz3⟩
    all_goals
      go_enter Try.func6, Try.ntmps6
      go_wp2_with (first
        | (refine wpList_load_row rfl 29 (.tmp 4) rfl w.heap.size rfl 29 M (0, 0) _ HP00.out Try.underlying29 rfl HMs.out ?_)
        | (go_at_call 9
           rw [← HW0.out]
           (with_reducible refine (HEC.out _ HB0.out).mono ?_)
           rintro _ w1 ⟨v1, rfl, hr1, q1⟩
           have HA1 := Lib.hid ((q1.block _ (heap_lt HA0.out)).trans HA0.out)
           have HP1 := Lib.hid ((q1.block _ (heap_lt HP0.out)).trans HP0.out)
           have hb1 := bcall hb0 q1)
        | (refine wpList_load_row rfl 40 (.tmp 5) rfl (w.heap.size + 1) rfl 40 Ma (0, 0) _ HA1.out Try.underlying40 rfl hA4.out ?_)
        | (go_at_call 15
           (with_reducible refine (HAC.out _).mono ?_)
           rintro _ w2 ⟨v2, rfl, hr2, q2⟩
           have hb2 := bcall hb1 q2
           have hc37 : w2.cell? ⟨w.heap.size, 37, none⟩ = some (.slice Ad p.data.length cd) := (cell_of_row _ _ _ _ _ _ ((q2.block _ (heap_lt HP1.out)).trans HP1.out)).trans HM37.out)
        | (go_at_call 8
           (with_reducible refine (awake_any _).mono ?_)
           rintro _ w3 ⟨rfl, q3⟩
           have hb3 := bcall hb2 q3))
      go_ret
      exact ⟨rfl, hb3⟩
  · have hz2 : (N x == 0) = false := by rw [hz]; simpa using fun h => hq (.inl h)
    have hx : x ≠ 0#32 := fun h => hq (.inl h)
    have hz3 : ¬ (64 : Int) < (p.data.length : Int) := fun h => hq (.inr (by omega))
    have HX := Lib.hid hx
    clear hz hq hx
    have hxs : (5 ≤ xs.length → ∃ b0, xs = sumL b0) ∧ xs.length ≤ 104 := by
      rcases h2 with ⟨_, b, rfl, hb⟩ | ⟨_, rfl⟩
      · exact ⟨fun _ => ⟨b, rfl⟩, by rw [sumL_length]; omega⟩
      · exact ⟨fun h => absurd h (by decide), by decide⟩
    have hys : (5 ≤ ys.length → ∃ b0, ys = sumL b0) ∧ ys.length ≤ 104 := by
      rcases h3 with ⟨_, b, rfl, hb⟩ | ⟨_, rfl⟩
      · exact ⟨fun _ => ⟨b, rfl⟩, by rw [sumL_length]; omega⟩
      · exact ⟨fun h => absurd h (by decide), by decide⟩
    have HXS := Lib.hid hxs
    have HYS := Lib.hid hys
    have HE2 := Lib.hid (show E = 0 ∨ E = 220 by rcases h2 with h | h; exact .inl h.1; exact .inr h.1)
    have HF2 := Lib.hid (show F = 0 ∨ F = 220 by rcases h3 with h | h; exact .inl h.1; exact .inr h.1)
    clear hxs hys h2 h3
    obtain ⟨Z, hZ⟩ : ∃ Z, Z = Pk.zero.cells none 0 := ⟨_, rfl⟩
    have HZ := Lib.hid hZ
    have HZb : Hid (Try.prog.built 29 [] = some Z) := by unfold Hid; rw [hZ]; exact built_pk0
    have HZs : Hid (Z.size = 38) := by unfold Hid; rw [hZ]; exact Pk.cells_size Pk.zero_ok _ _
    have HSm : Hid (∀ (Ad : Option Addr) (cd : Nat) (W : World), Calls Try.prog 19 #[.agg (Pk.zero.cells Ad cd), .agg Z] W fun e w' => e = .returned (.bool true) ∧ Below W.heap.size W w') := by
      unfold Hid; intro Ad cd W; rw [hZ]
      have h := same_any Pk.zero Pk.zero Pk.zero_ok Pk.zero_ok Ad cd none 0 W (Byt.nil _ _) (Byt.nil _ _)
      rw [show decide (Pk.zero = Pk.zero) = true by simp] at h; exact h
    clear hZ
    obtain ⟨Mz, hMz⟩ : ∃ Mz : Array Value, Mz = #[.int .u8 0, .int .i64 0, .int .u8 0, .int .u16 0] := ⟨_, rfl⟩
    have HMz := Lib.hid hMz
    have HZ4 : Hid ((Try.prog.info? 40).map (·.size) = some Mz.size) := by unfold Hid; rw [hMz]; exact Try.ansSize
    have HZz : Hid ((#[Value.int .u8 0, .int .i64 0, .int .u8 0, .int .u16 0]).size = Mz.size) := by unfold Hid; rw [hMz]
    have HZ1 : Hid (Mz.all (·.oneCell') = true) := by unfold Hid; rw [hMz]; exact An.one4 _ _ _ _
    have HMzz : Hid (An.zero.cells = Mz) := by unfold Hid; rw [hMz]; rfl
    clear hMz
    go_enter Try.func6, Try.ntmps6
    go_wp2_with (first
      | (refine wpList_load_row rfl 29 (.tmp 4) rfl w.heap.size rfl 29 M (0, 0) _ HP00.out Try.underlying29 rfl HMs.out ?_)
      | (go_at_call 9
         rw [← HW0.out]
         (with_reducible refine (HEC.out _ HB0.out).mono ?_)
         rintro _ w1 ⟨v1, rfl, hr1, q1⟩
         have HA1 := Lib.hid ((q1.block _ (heap_lt HA0.out)).trans HA0.out)
         have HP1 := Lib.hid ((q1.block _ (heap_lt HP0.out)).trans HP0.out)
         have hb1 := bcall hb0 q1
         obtain ⟨A1, c1, rfl, hB1, hc1⟩ := hr1.form
         have hm1 := hr1.cap.1)
      | (refine wpList_load_row rfl 40 (.tmp 5) rfl (w.heap.size + 1) rfl 40 Ma (0, 0) _ HA1.out Try.underlying40 rfl hA4.out ?_)
      | (go_at_call 15
         (with_reducible refine (HAC.out _).mono ?_)
         rintro _ w2 ⟨v2, rfl, hr2, q2⟩
         obtain ⟨A2, c2, rfl, hB2, hc2⟩ := hr2.form
         have hm2 := hr2.cap.1
         have hb2 := bcall hb1 q2
         have hc37 : w2.cell? ⟨w.heap.size, 37, none⟩ = some (.slice Ad p.data.length cd) := (cell_of_row _ _ _ _ _ _ ((q2.block _ (heap_lt HP1.out)).trans HP1.out)).trans HM37.out))
    have hb3 := bcall hb2 (balloc w2 (.cells #[.slice A1 xs.length c1, .slice A2 ys.length c2] 27))
    have hel : ∀ k, k < 2 → ∃ Ab cb bs, (w2.alloc (.cells #[.slice A1 xs.length c1, .slice A2 ys.length c2] 27)).cell? ⟨w2.heap.size, k, none⟩ = some (.slice Ab bs.length cb) ∧ Byt (w2.alloc (.cells #[.slice A1 xs.length c1, .slice A2 ys.length c2] 27)) Ab bs ∧ bs.length ≤ cb ∧ cb ≤ maxLen ∧ (5 ≤ bs.length → ∃ b0, bs = sumL b0) ∧ bs.length ≤ 104 := by
      intro k hk
      have hcw := fun j => cell_of_row (w2.alloc (.cells #[.slice A1 xs.length c1, .slice A2 ys.length c2] 27)) w2.heap.size j _ _ _ (heap_alloc_new w2 _)
      rcases (show k = 0 ∨ k = 1 by omega) with rfl | rfl
      · exact ⟨A1, c1, xs, by rw [hcw]; rfl, (hB1.kept q2).kept (balloc _ _), hc1, hm1, HXS.out.1, HXS.out.2⟩
      · exact ⟨A2, c2, ys, by rw [hcw]; rfl, hB2.kept (balloc _ _), hc2, hm2, HYS.out.1, HYS.out.2⟩
    have HEL := Lib.hid hel
    clear hel hc37 hB1 hB2 q1 q2 hr1 hr2 hb0 hb1 hb2
    generalize w2.alloc (.cells #[.slice A1 xs.length c1, .slice A2 ys.length c2] 27) = W3 at *
    go_loopw [45] (fun i wr => ∃ k : Nat, k ≤ 2 ∧ i = .int .i64 k ∧ Below W3.heap.size W3 wr) (fun i _ => 2 - (intOf i).toNat)
    case atStart => exact ⟨0, Nat.zero_le _, rfl, Below.refl _ _⟩
    case round =>
      obtain ⟨k, hk, rfl, hbr⟩ := hrel
      by_cases hlt : k < 2
      · obtain ⟨Ab, cb, bs, hcell0, hby0, hlb, hmb, hsum, h104⟩ := HEL.out k hlt
        have hcell := (hbr.cell (p := ⟨w2.heap.size, k, none⟩) (block_lt_of_cell hcell0)).trans hcell0
        have hby := hby0.kept hbr
        clear hcell0 hby0
        by_cases h5 : bs.length < 5
        · clear hsum
          go_wp2_with fail
          go_roundw
          case rel => exact ⟨k + 1, by omega, by go_num, hbr⟩
          case measure => simp [intOf]; omega
        · obtain ⟨b0, hbs⟩ := hsum (by omega)
          have HBS := Lib.hid hbs
          clear hbs
          obtain ⟨n, hn⟩ : ∃ n, n = 8 * bs.length - 31 := ⟨_, rfl⟩
          obtain ⟨bit, hbit⟩ : ∃ i, i = at_ % n := ⟨_, rfl⟩
          have hn1 : 8 * ((bs.length : Nat) : Int) - 31 = ((n : Nat) : Int) := by omega
          have hbl : bit < n := by rw [hbit]; exact Nat.mod_lt _ (by omega)
          have hb32 : bit + 32 ≤ 8 * bs.length := by omega
          have hn2 : n < 4611686018427387904 := by omega
          have ac : ∀ W : World, Calls Try.prog 20 #[.int .i64 (at_ : Int), .int .i64 (8 * ((bs.length : Nat) : Int) - 31)] W fun e w' => e = .returned (.int .i64 ((bit : Nat) : Int)) ∧ W = w' := fun W => by
            rw [hn1, hbit]; exact among_nat at_ n (by omega) hn2 W
          have HAM := Lib.hid ac
          clear hn hbit hn1 ac hn2 hbl hsum
          go_wp2_with (first
            | (go_at_call 20
               (with_reducible refine (HAM.out _).mono ?_)
               rintro _ _ ⟨rfl, rfl⟩)
            | (go_at_call 10
               (with_reducible refine (fresh_any Ab cb bs _ hby (by omega)).mono ?_)
               rintro _ w4 ⟨v4, rfl, hr4, q4⟩
               obtain ⟨A', c', rfl, hv4, hc'⟩ := hr4.form
               have hcm' := hr4.cap.1
               obtain ⟨g, rfl⟩ := hr4.head (by omega)))
          have hr5 := hr4.lower (B' := W3.heap.size) hbr.size
          have hgB : W3.heap.size ≤ g := (hr5.base rfl).1
          have B1 := bcall hbr q4
          clear hr4 hv4
          go_loopw [61] (fun i wr => ∃ j : Nat, j ≤ 32 ∧ i = .int .i64 j ∧ Row wr W3.heap.size (.slice (some ⟨g, 0, none⟩) bs.length c') (burL bs bit x j) ∧ Below W3.heap.size W3 wr) (fun i _ => 32 - (intOf i).toNat)
          case atStart => exact ⟨0, Nat.zero_le _, rfl, hr5, B1⟩
          case round =>
            clear hr5 B1
            obtain ⟨j, hj, rfl, hr, hb4⟩ := hrel
            by_cases hlt2 : j < 32
            · have hsh := b_shr x j hlt2
              have hb1 := bit1 (x >>> j)
              by_cases hb : (x >>> j) &&& 1#32 = 1#32
              · rw [decide_eq_true hb] at hb1
                obtain ⟨q, hq⟩ : ∃ q, q = (bit + j) / 8 := ⟨_, rfl⟩
                obtain ⟨r, hrr⟩ : ∃ r, r = (bit + j) % 8 := ⟨_, rfl⟩
                have hql : q < bs.length := by omega
                have hr8 : r < 8 := by omega
                have hc := hr.cell q (by rw [burL_length]; exact hql)
                have hf := hr.free q
                have hset := hr.set q ((burL bs bit x j)[q]'(by rw [burL_length]; exact hql) ^^^ bitV r)
                have hfl : (burL bs bit x j).set q ((burL bs bit x j)[q]'(by rw [burL_length]; exact hql) ^^^ bitV r) = burL bs bit x (j + 1) := by
                  rw [burL, if_pos hb]
                  unfold flipL
                  rw [← hq, ← hrr, List.getD_eq_getElem?_getD, List.getElem?_eq_getElem (by rw [burL_length]; exact hql)]; rfl
                rw [hfl, B8, ← b8_xor] at hset
                generalize (burL bs bit x j)[q]'(by rw [burL_length]; exact hql) = xo at hc hset
                rw [← shl_bit r hr8] at hset
                have HS := Lib.hid hset
                have e1 : ((bit : Int) + (j : Int)) / 8 = (q : Int) := by omega
                have e2 : ((bit : Int) + (j : Int)) % 8 = (r : Int) := by omega
                have i1 : (q : Int) < (bs.length : Int) := by omega
                have i0 : 0 ≤ (q : Int) := by omega
                clear hset hfl hb hq hrr hr
                go_wp2_with fail
                go_region
                go_wp2
                go_roundw
                case rel => exact ⟨j + 1, by omega, by go_num, HS.out, (hb4.setCell hgB _).drew⟩
                case measure => simp [intOf]; omega
              · rw [decide_eq_false hb] at hb1
                have HB := Lib.hid hb
                clear hb
                go_wp2
                go_roundw
                case rel => exact ⟨j + 1, by omega, by go_num, by rw [burL, if_neg HB.out]; exact hr, hb4⟩
                case measure => simp [intOf]; omega
            · have hk32 : j = 32 := by omega
              subst hk32
              obtain ⟨A5, c5, hee, hby5, _⟩ := hr.form
              have hA5 : A5 = some ⟨g, 0, none⟩ := by injection hee with e2 _ _; exact e2.symm
              subst hA5
              have hbd : Pk.dec (burL bs bit x 32) = (Pk.zero, 220) ∧ An.dec (burL bs bit x 32) = (An.zero, 220) := by
                rw [HBS.out]
                rw [HBS.out] at hb32
                exact ⟨Pk.dec_burst _ _ _ hb32 HX.out, An.dec_burst _ _ _ hb32 HX.out⟩
              have dc : ∀ (W : World), Byt W (some ⟨g, 0, none⟩) (burL bs bit x 32) → Calls Try.prog 11 #[.slice (some ⟨g, 0, none⟩) bs.length c'] W (DecPost (Pk.zero, 220) W) := fun W h => by
                have := decode_any (some ⟨g, 0, none⟩) c' (burL bs bit x 32) W h (by rw [burL_length]; exact hc') hcm'
                rwa [burL_length, hbd.1] at this
              have da : ∀ (W : World), Byt W (some ⟨g, 0, none⟩) (burL bs bit x 32) → Calls Try.prog 17 #[.slice (some ⟨g, 0, none⟩) bs.length c'] W fun e w' => e = .returned (.tuple #[.agg Mz, .int .i64 220]) ∧ Below W.heap.size W w' := fun W h => by
                have := decodeAnswer_any (some ⟨g, 0, none⟩) c' (burL bs bit x 32) W h (by rw [burL_length]; exact hc') hcm'
                rw [burL_length, hbd.2] at this
                rw [← HMzz.out]
                exact this
              have HDC := Lib.hid dc
              have HDA := Lib.hid da
              clear dc da hbd hee hr
              generalize burL bs bit x 32 = bad at *
              have hq1 : (((bs.length : Int) == (xs.length : Int)) = true) ∨ (((bs.length : Int) == (xs.length : Int)) = false) := by cases ((bs.length : Int) == (xs.length : Int)) <;> simp
              have hq2 : (((bs.length : Int) == (ys.length : Int)) = true) ∨ (((bs.length : Int) == (ys.length : Int)) = false) := by cases ((bs.length : Int) == (ys.length : Int)) <;> simp
              have hEE : (E = 220 ∨ (E = 0 ∧ ((bs.length : Int) == (xs.length : Int)) = true)) ∨ (E = 0 ∧ ((bs.length : Int) == (xs.length : Int)) = false) := by
                rcases HE2.out with h | h <;> rcases hq1 with g | g <;> simp [h, g]
              have hFF : (F = 220 ∨ (F = 0 ∧ ((bs.length : Int) == (ys.length : Int)) = true)) ∨ (F = 0 ∧ ((bs.length : Int) == (ys.length : Int)) = false) := by
                rcases HF2.out with h | h <;> rcases hq2 with g | g <;> simp [h, g]
              clear hq1 hq2
              rcases hEE with (rfl | ⟨rfl, hq1⟩) | ⟨rfl, hq1⟩ <;> rcases hFF with (rfl | ⟨rfl, hq2⟩) | ⟨rfl, hq2⟩
              all_goals
                go_wp2_with (first
                  | (go_at_call 11
                     (with_reducible refine (HDC.out _ hby5).mono ?_)
                     rintro _ w5 ⟨Ad5, cd5, rfl, hr6, q5⟩
                     obtain ⟨L, hL⟩ : ∃ L, L = Pk.zero.cells Ad5 cd5 := ⟨_, rfl⟩
                     have HSL : Hid (∀ W : World, Calls Try.prog 19 #[.agg L, .agg Z] W fun e w' => e = .returned (.bool true) ∧ Below W.heap.size W w') := by
                       have h := HSm.out Ad5 cd5
                       rw [← hL] at h
                       exact h
                     have HLs : Hid ((Try.prog.info? 29).map (·.size) = some L.size) := by unfold Hid; rw [hL]; exact Pk.size_eq Pk.zero_ok _ _
                     have HZL : Hid (Z.size = L.size) := by unfold Hid; rw [HZs.out, hL, Pk.cells_size Pk.zero_ok]
                     have HL1 : Hid (L.all (·.oneCell') = true) := by unfold Hid; rw [hL]; exact Pk.one _ _ _
                     dsimp only
                     rw [← hL]
                     clear hL hr6
                     have hq5 := bcall q5 (balloc w5 (.cells L 29))
                     have HG2 := Lib.hid (heap_alloc_new w5 (.cells L 29)))
                  | (refine wpList_alloc_pk rfl Z HZ.out rfl ?_)
                  | (refine wpList_store_pk w5 rfl 29 (.tmp 18) (.tmp 87) rfl Z L 29 rfl rfl rfl HLs.out HZL.out HL1.out ?_)
                  | (go_at_call 17
                     (with_reducible refine (HDA.out _ (hby5.kept hq5)).mono ?_)
                     rintro _ w6 ⟨rfl, q6⟩
                     have q7 := q6.trans ((balloc w6 (.cells Mz 40)).mono q6.size)
                     have hq7 := bcall hb4 (bcall hq5 q7)
                     have HG3 := Lib.hid ((q7.block _ (size_lt_alloc _ _)).trans HG2.out)
                     have HA3 := Lib.hid (heap_alloc_new w6 (.cells Mz 40)))
                  | (refine wpList_store_pk w6 rfl 40 (.tmp 20) (.tmp 92) rfl #[.int .u8 0, .int .i64 0, .int .u8 0, .int .u16 0] Mz 40 rfl rfl rfl HZ4.out HZz.out HZ1.out ?_)
                  | ((with_reducible show wpList _ _ _ (⟨_, .load 29 _, _, _, _, _⟩ :: _) _ _); refine wpList_load_row_g rfl 29 (.tmp 18) rfl w5.heap.size rfl 29 L (0, 0) _ HG3.out Try.underlying29 rfl HLs.out ?_)
                  | ((with_reducible show wpList _ _ _ (⟨_, .build 29 _, _, _, _, _⟩ :: _) _ _); refine wpList_build_g rfl 29 _ rfl Z HZb.out rfl ?_)
                  | (go_at_call 19
                     (with_reducible refine (HSL.out _).mono ?_)
                     rintro _ w7 ⟨rfl, q8⟩
                     have hq8 := bcall hq7 q8
                     have HA4 := Lib.hid ((q8.block _ (size_lt_alloc _ _)).trans HA3.out))
                  | ((with_reducible show wpList _ _ _ (⟨_, .load 40 _, _, _, _, _⟩ :: _) _ _); refine wpList_load_row_g rfl 40 (.tmp 20) rfl w6.heap.size rfl 40 Mz (0, 0) _ (by first | exact HA4.out | exact HA3.out) Try.underlying40 rfl HZ4.out ?_; rw [HMz.out]))
                all_goals
                  go_roundw
                  case rel => exact ⟨k + 1, by omega, by go_num, by first | exact hq8 | exact hq7 | (rw [← HMz.out]; exact hq7)⟩
                  case measure => simp [intOf]; omega
      · have hk2 : k = 2 := by omega
        subst hk2
        go_wp2_with (go_at_call 8; (with_reducible refine (awake_any _).mono ?_); rintro _ w9 ⟨rfl, q9⟩)
        go_ret
        exact ⟨rfl, bcall (bcall hb3 hbr) q9⟩
end Go.Proofs.Ytjpglpdfopeegaa.Mine
