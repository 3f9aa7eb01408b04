/- What packet.Decode computes where the first byte says neither a begin nor a chunk, by a walk over its code. Conditions: those of the theorem. -/
import Derived.Test.YtjpglpdfopeegaaPktDec
namespace Go.Proofs.Ytjpglpdfopeegaa.Mine
open Go.RowKit
set_option linter.unusedVariables false
set_option linter.unusedSimpArgs false

set_option maxHeartbeats 4000000 in
theorem dec_other (A : Option Addr) (c : Nat) (bs : List UInt8) (w : World) (hB : Byt w A bs) (hc : bs.length ≤ c) (hcm : c ≤ maxLen) (P : Pk) (hP : P.ok) (hPraw : Pk.raw bs = P) (hPl : P.data.length ≤ 1000)
    (kk : UInt8) (hkk : numB ((bs.take (bs.length - 4)).take 1) = kk.toNat) (b1 : ((kk.toNat : Int) == 1) = false) (b2 : ((kk.toNat : Int) == 2) = false) (hPk : P = Pk.of kk) :
    Calls Try.prog 11 #[.slice A bs.length c] w (DecPost (Pk.dec bs) w) := by
  obtain ⟨n, hn⟩ : ∃ n, n = bs.length := ⟨_, rfl⟩
  obtain ⟨m, hm⟩ : ∃ m, m = n - 4 := ⟨_, rfl⟩
  have hmx := fun W => run_max4 (P := Try.prog) W #[3, 3] 3 n m hm
  have hmn : m ≤ c := by omega
  obtain ⟨Z, hZ⟩ : ∃ Z, Z = Pk.zero.cells none 0 := ⟨_, rfl⟩
  obtain ⟨M0, hM0⟩ : ∃ M0, M0 = (Pk.of kk).cells none 0 := ⟨_, rfl⟩
  have HZ := Lib.hid hZ
  have HM0 := Lib.hid hM0
  have HZ1 := Lib.hid (show Z.all (·.oneCell') = true by rw [hZ]; exact Pk.one _ _ _)
  have HZs := Lib.hid (show (Try.prog.info? 29).map (·.size) = some Z.size by rw [hZ]; exact Pk.size_eq Pk.zero_ok _ _)
  have HM1 := Lib.hid (show M0.all (·.oneCell') = true by rw [hM0]; exact Pk.one _ _ _)
  have HMs := Lib.hid (show (Try.prog.info? 29).map (·.size) = some M0.size by rw [hM0]; exact Pk.size_eq (Pk.of_ok _) _ _)
  have HZM := Lib.hid (show Z.size = M0.size by rw [hZ, hM0]; exact Pk.same_size _)
  have HM00 := Lib.hid (show M0[0]? = some (.int .u8 kk.toNat) by rw [hM0]; exact Pk.of_get0 _)
  clear hZ hM0
  obtain ⟨W0, hW0⟩ : ∃ W0, W0 = (w.alloc (.cells Z 29)).alloc (.cells #[.slice A m c] 55) := ⟨_, rfl⟩
  have hR0 := Rd.start Z hB hc hcm hm hn
  have hF0 := frame0 Z w (.cells #[.slice A m c] 55)
  rw [← hW0] at hR0 hF0
  have HW0 := Lib.hid hW0
  have HF0 := Lib.hid hF0
  clear hW0 hF0
  rw [← hn]
  have HN := Lib.hid hn
  have HM := Lib.hid hm
  have hnc : n ≤ c := by omega
  have hcm2 : c ≤ 9223372036854775807 := by unfold maxLen at hcm; omega
  have hdec : Pk.dec bs = if P.enc.2 = 0 ∧ P.enc.1 = bs then (P, 0) else (Pk.zero, 220) := by unfold Pk.dec; rw [hPraw]
  generalize Pk.dec bs = D at *
  have h2e : P.enc.2 = 0 ∨ P.enc.2 = 220 := by
    unfold Pk.enc; split
    · exact .inl rfl
    · exact .inr rfl
  have he : ∀ (L : Array Value) (Ad : Option Addr) (cd : Nat), Hid (L = P.cells Ad cd) → ∀ (W : World), Byt W Ad P.data → P.data.length ≤ cd → Calls Try.prog 9 #[.agg L] W fun e w' => ∃ v, e = .returned (.tuple #[v, .int .i64 P.enc.2]) ∧ Row w' W.heap.size v P.enc.1 ∧ Below W.heap.size W w' :=
    fun L Ad cd hL W h1 h2 => by rw [hL.out]; exact encode_any P hP Ad cd W h1 h2 hPl
  generalize P.enc.1 = xs at *
  generalize P.enc.2 = E at *
  have HD := Lib.hid hdec
  clear hdec
  clear hn hm hPraw
  have hlen : bs.length = n := HN.out.symm
  have eqc : ∀ (A' : Option Addr) (c' : Nat) (W : World), Byt W A' xs → Byt W A bs → Calls Try.prog 28 #[.slice A' xs.length c', .slice A n c] W fun e w' => e = .returned (.bool (xs == bs)) ∧ Below W.heap.size W w' := by
    intro A' c' W h1 h2
    have := equal_any A' c' xs A c bs W h1 h2 hc hcm
    rw [hlen] at this
    exact this
  clear hlen
  have HQ : Hid ((xs == bs) = true ↔ xs = bs) := by unfold Hid; simp
  generalize (xs == bs) = q at *
  have HKK := Lib.hid hkk
  clear hkk
  have HL : Hid (M0 = P.cells none 0) := by unfold Hid; rw [HM0.out, hPk]
  have hdat : P.data = [] := by rw [hPk]; rfl
  have HDAT := Lib.hid hdat
  clear hPk hdat
  rcases (show (E = 220 ∧ D = (Pk.zero, 220)) ∨ (E = 0 ∧ q = true ∧ D = (P, 0)) ∨ (E = 0 ∧ q = false ∧ D = (Pk.zero, 220)) by
    rcases h2e with h | h
    · cases hq : q with
      | true => exact .inr (.inl ⟨h, rfl, by rw [HD.out, if_pos ⟨h, HQ.out.1 hq⟩]⟩)
      | false => exact .inr (.inr ⟨h, rfl, by rw [HD.out, if_neg (fun e => by rw [HQ.out.2 e.2] at hq; cases hq)]⟩)
    · exact .inl ⟨h, by rw [HD.out, if_neg (fun e => by rw [h] at e; exact absurd e.1 (by decide))]⟩) with ⟨hcase, hD⟩ | ⟨hcase, hq, hD⟩ | ⟨hcase, hq, hD⟩
  all_goals
    have HDD := Lib.hid hD
    clear hD
    rw [hcase] at he
    (try rw [hq] at eqc)
    clear h2e
    go_enter Try.func11, Try.ntmps11
    go_wp2_with (first
      | ((with_reducible show wpList _ _ _ (⟨_, .alloc _, _, _, _, _⟩ :: _) _ _); refine wpList_alloc_pk rfl Z HZ.out rfl ?_)
      | ((with_reducible show wpList _ _ _ (⟨_, .build _ _, _, _, _, _⟩ :: _) _ _); refine wpList_build_pk0 rfl Z HZ.out rfl ?_)
      | ((with_reducible show wpList _ _ _ (⟨_, .build _ _, _, _, _, _⟩ :: _) _ _); refine wpList_build_pk rfl (.tmp 18) rfl kk M0 HM0.out rfl ?_)
      | (go_at_call 25; rw [← HW0.out]; (with_reducible refine (number_rd 1 1 k1 hR0 l1).mono ?_); rintro _ W1 ⟨n1, rfl, hn1, hl1, V1, A1, c1, hW1, hR1⟩; obtain rfl : n1 = kk.toNat := hn1.out.trans (by rw [HM.out, HN.out]; exact HKK.out); have hkl : kk.toNat < 256 := kk.toNat_lt; have hS1 := St.start HF0.out hW1.out hR1 M0; have hc0 := (hS1.cell 0).1; rw [HM00.out] at hc0)
      | ((with_reducible show wpList _ _ _ (⟨_, .store 29 _ _, _, _, _, _⟩ :: _) _ _); refine wpList_store_pk W1 rfl 29 (.tmp 5) (.tmp 19) rfl Z M0 29 rfl rfl rfl HMs.out HZM.out HM1.out ?_)
      | ((with_reducible show wpList _ _ _ (⟨_, .load 29 _, _, _, _, _⟩ :: _) _ _); refine wpList_load_row rfl 29 (.tmp 5) rfl W1.heap.size rfl 29 M0 (0, 0) _ hS1.2.1 Try.underlying29 rfl HMs.out ?_)
      | (go_at_call 9; (with_reducible refine (he _ _ _ HL _ (by rw [HDAT.out]; exact Byt.nil _ _) (by rw [HDAT.out]; simp)).mono ?_); rintro _ W5 ⟨v5, rfl, hr5, hq5⟩; obtain ⟨A5, ca5, rfl, hb5, hc5⟩ := hr5.form; have hS5 := St.below hS1 hq5; have hB5 := hB.kept hS5.2.2.2.1; have hrow5 := (fun (_ : Below _ _ _) => (show Row W5 (w.heap.size + 1) (.slice none P.data.length 0) P.data by rw [HDAT.out]; exact Row.nil _ _)) hq5)
      | (go_at_call 28; (with_reducible refine (eqc _ _ _ hb5 hB5).mono ?_); rintro _ W6 ⟨rfl, hq6⟩; have hS6 := St.below hS5 hq6; have hrow6 := hrow5.below hq6)
      | ((with_reducible show wpList _ _ _ (⟨_, .load 29 _, _, _, _, _⟩ :: _) _ _); refine wpList_load_row rfl 29 (.tmp 5) rfl W1.heap.size rfl 29 M0 (0, 0) _ hS6.2.1 Try.underlying29 rfl HMs.out ?_)
      | ((with_reducible show wpList _ _ _ (⟨_, .store 29 _ _, _, _, _, _⟩ :: _) _ _); refine wpList_store_row rfl 29 (.tmp 2) (.tmp 66) rfl w.heap.size Z rfl rfl 29 Z hS6.1 HZs.out rfl HZ1.out ?_)
      | ((with_reducible show wpList _ _ _ (⟨_, .store 29 _ _, _, _, _, _⟩ :: _) _ _); refine wpList_store_row rfl 29 (.tmp 2) (.tmp 66) rfl w.heap.size Z rfl rfl 29 Z hS5.1 HZs.out rfl HZ1.out ?_)
      | ((with_reducible show wpList _ _ _ (⟨_, .store 29 _ _, _, _, _, _⟩ :: _) _ _); refine wpList_store_row rfl 29 (.tmp 2) (.tmp 67) rfl w.heap.size M0 rfl rfl 29 Z hS6.1 HMs.out HZM.out HM1.out ?_))
    all_goals
      (try simp only [Exit.inBlock, Exit.then])
      refine bodyPost_ret (results_cell_tmp_row rfl _ _ w.heap.size 29 _ (0, 0) _ rfl (setRow_heap _ _ _ _ _ _ (by first | exact hS6.1 | exact hS5.1)) Try.underlying29 rfl ?_) rfl ?_
      · first | exact HZs.out | exact HMs.out
      unfold DecPost
      rw [HDD.out]
      first
        | exact ⟨none, 0, by rw [← HZ.out]; rfl, Row.nil _ _, below_setRow (by first | exact hS6.2.2.2.1 | exact hS5.2.2.2.1) (Nat.le_refl _) _⟩
        | exact ⟨_, _, by rw [← HL.out]; rfl, row_setRow hrow6 _, below_setRow hS6.2.2.2.1 (Nat.le_refl _) _⟩
end Go.Proofs.Ytjpglpdfopeegaa.Mine
