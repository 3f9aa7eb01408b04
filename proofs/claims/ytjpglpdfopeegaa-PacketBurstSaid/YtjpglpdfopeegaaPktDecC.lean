/- What packet.Decode computes where the first byte says a chunk, by a walk over its code. Conditions: those of the theorem. -/
import Derived.Test.YtjpglpdfopeegaaPktDec
namespace Go.Proofs.Ytjpglpdfopeegaa.Mine
open Go.RowKit
set_option linter.unusedVariables false
set_option linter.unusedSimpArgs false

set_option maxHeartbeats 4000000 in
theorem dec_chunk (A : Option Addr) (c : Nat) (bs : List UInt8) (w : World) (hB : Byt w A bs) (hc : bs.length ≤ c) (hcm : c ≤ maxLen) (P : Pk) (hP : P.ok) (hPraw : Pk.raw bs = P) (hPl : P.data.length ≤ 1000)
    (kk : UInt8) (hkk : numB ((bs.take (bs.length - 4)).take 1) = kk.toNat) (b1 : ((kk.toNat : Int) == 1) = false) (b2 : ((kk.toNat : Int) == 2) = true) (hPk : P = ⟨kk, Man.zero, numB (((bs.take (bs.length - 4)).drop 1).take 2), (((bs.take (bs.length - 4)).drop 1).drop 2).take 64⟩) :
    Calls Try.prog 11 #[.slice A bs.length c] w (DecPost (Pk.dec bs) w) := by
  obtain ⟨n, hn⟩ : ∃ n, n = bs.length := ⟨_, rfl⟩
  obtain ⟨m, hm⟩ : ∃ m, m = n - 4 := ⟨_, rfl⟩
  have hmx := fun W => run_max4 (P := Try.prog) W #[3, 3] 3 n m hm
  have hmn : m ≤ c := by omega
  obtain ⟨Z, hZ⟩ : ∃ Z, Z = Pk.zero.cells none 0 := ⟨_, rfl⟩
  obtain ⟨M0, hM0⟩ : ∃ M0, M0 = (Pk.of kk).cells none 0 := ⟨_, rfl⟩
  have HZ := Lib.hid hZ
  have HM0 := Lib.hid hM0
  have HZ1 := Lib.hid (show Z.all (·.oneCell') = true by rw [hZ]; exact Pk.one _ _ _)
  have HZs := Lib.hid (show (Try.prog.info? 29).map (·.size) = some Z.size by rw [hZ]; exact Pk.size_eq Pk.zero_ok _ _)
  have HM1 := Lib.hid (show M0.all (·.oneCell') = true by rw [hM0]; exact Pk.one _ _ _)
  have HMs := Lib.hid (show (Try.prog.info? 29).map (·.size) = some M0.size by rw [hM0]; exact Pk.size_eq (Pk.of_ok _) _ _)
  have HZM := Lib.hid (show Z.size = M0.size by rw [hZ, hM0]; exact Pk.same_size _)
  have HM00 := Lib.hid (show M0[0]? = some (.int .u8 kk.toNat) by rw [hM0]; exact Pk.of_get0 _)
  clear hZ hM0
  obtain ⟨W0, hW0⟩ : ∃ W0, W0 = (w.alloc (.cells Z 29)).alloc (.cells #[.slice A m c] 55) := ⟨_, rfl⟩
  have hR0 := Rd.start Z hB hc hcm hm hn
  have hF0 := frame0 Z w (.cells #[.slice A m c] 55)
  rw [← hW0] at hR0 hF0
  have HW0 := Lib.hid hW0
  have HF0 := Lib.hid hF0
  clear hW0 hF0
  rw [← hn]
  have HN := Lib.hid hn
  have HM := Lib.hid hm
  have hnc : n ≤ c := by omega
  have hcm2 : c ≤ 9223372036854775807 := by unfold maxLen at hcm; omega
  have hdec : Pk.dec bs = if P.enc.2 = 0 ∧ P.enc.1 = bs then (P, 0) else (Pk.zero, 220) := by unfold Pk.dec; rw [hPraw]
  generalize Pk.dec bs = D at *
  have h2e : P.enc.2 = 0 ∨ P.enc.2 = 220 := by
    unfold Pk.enc; split
    · exact .inl rfl
    · exact .inr rfl
  have he : ∀ (L : Array Value) (Ad : Option Addr) (cd : Nat), Hid (L = P.cells Ad cd) → ∀ (W : World), Byt W Ad P.data → P.data.length ≤ cd → Calls Try.prog 9 #[.agg L] W fun e w' => ∃ v, e = .returned (.tuple #[v, .int .i64 P.enc.2]) ∧ Row w' W.heap.size v P.enc.1 ∧ Below W.heap.size W w' :=
    fun L Ad cd hL W h1 h2 => by rw [hL.out]; exact encode_any P hP Ad cd W h1 h2 hPl
  generalize P.enc.1 = xs at *
  generalize P.enc.2 = E at *
  have HD := Lib.hid hdec
  clear hdec
  clear hn hm hPraw
  have hlen : bs.length = n := HN.out.symm
  have eqc : ∀ (A' : Option Addr) (c' : Nat) (W : World), Byt W A' xs → Byt W A bs → Calls Try.prog 28 #[.slice A' xs.length c', .slice A n c] W fun e w' => e = .returned (.bool (xs == bs)) ∧ Below W.heap.size W w' := by
    intro A' c' W h1 h2
    have := equal_any A' c' xs A c bs W h1 h2 hc hcm
    rw [hlen] at this
    exact this
  clear hlen
  have HQ : Hid ((xs == bs) = true ↔ xs = bs) := by unfold Hid; simp
  generalize (xs == bs) = q at *
  have HKK := Lib.hid hkk
  clear hkk
  rw [← HN.out, ← HM.out] at hPk
  have HPK := Lib.hid hPk
  clear hPk
  have HG36 := Lib.hid (show M0[36]? = some (.int .u16 0) by rw [HM0.out]; exact Pk.get36 (Pk.of_ok _) _ _)
  rcases (show (E = 220 ∧ D = (Pk.zero, 220)) ∨ (E = 0 ∧ q = true ∧ D = (P, 0)) ∨ (E = 0 ∧ q = false ∧ D = (Pk.zero, 220)) by
    rcases h2e with h | h
    · cases hq : q with
      | true => exact .inr (.inl ⟨h, rfl, by rw [HD.out, if_pos ⟨h, HQ.out.1 hq⟩]⟩)
      | false => exact .inr (.inr ⟨h, rfl, by rw [HD.out, if_neg (fun e => by rw [HQ.out.2 e.2] at hq; cases hq)]⟩)
    · exact .inl ⟨h, by rw [HD.out, if_neg (fun e => by rw [h] at e; exact absurd e.1 (by decide))]⟩) with ⟨hcase, hD⟩ | ⟨hcase, hq, hD⟩ | ⟨hcase, hq, hD⟩
  all_goals
    have HDD := Lib.hid hD
    clear hD
    rw [hcase] at he
    (try rw [hq] at eqc)
    clear h2e
    go_enter Try.func11, Try.ntmps11
    go_wp2_with (first
      | ((with_reducible show wpList _ _ _ (⟨_, .alloc _, _, _, _, _⟩ :: _) _ _); refine wpList_alloc_pk rfl Z HZ.out rfl ?_)
      | ((with_reducible show wpList _ _ _ (⟨_, .build _ _, _, _, _, _⟩ :: _) _ _); refine wpList_build_pk0 rfl Z HZ.out rfl ?_)
      | ((with_reducible show wpList _ _ _ (⟨_, .build _ _, _, _, _, _⟩ :: _) _ _); refine wpList_build_pk rfl (.tmp 18) rfl kk M0 HM0.out rfl ?_)
      | (go_at_call 25; rw [← HW0.out]; (with_reducible refine (number_rd 1 1 k1 hR0 l1).mono ?_); rintro _ W1 ⟨n1, rfl, hn1, hl1, V1, A1, c1, hW1, hR1⟩; obtain rfl : n1 = kk.toNat := hn1.out.trans (by rw [HM.out, HN.out]; exact HKK.out); have hkl : kk.toNat < 256 := kk.toNat_lt; have hS1 := St.start HF0.out hW1.out hR1 M0; have hc0 := (hS1.cell 0).1; rw [HM00.out] at hc0)
      | ((with_reducible show wpList _ _ _ (⟨_, .store 29 _ _, _, _, _, _⟩ :: _) _ _); refine wpList_store_pk W1 rfl 29 (.tmp 5) (.tmp 19) rfl Z M0 29 rfl rfl rfl HMs.out HZM.out HM1.out ?_)
      | (go_at_call 25; have hRd1 := hS1.2.2.2.2; (with_reducible refine (number_rd 2 2 k2 hRd1 l2).mono ?_); rintro _ W2 ⟨n2, rfl, hn2, hl2, V2, A2, c2, hW2, hR2⟩; simp only [Nat.reducePow] at hl2; have hS2 := hS1.read hW2.out hR2; have hc36 := (hS2.cell 36).1; rw [HG36.out] at hc36; have hf36 := (hS2.cell 36).2; have hp2 : Pk.ok { Pk.of kk with index := n2 } := ⟨Man.zero_ok, Int.natCast_nonneg _, (by omega : (n2 : Int) < 65536)⟩; obtain ⟨M1, HM1'⟩ : ∃ M1, Hid (M1 = Pk.cells { Pk.of kk with index := n2 } none 0) := ⟨_, rfl⟩; have hS3 := hS2.store 36 (.int .u16 n2) (show _ = M1 by rw [HM0.out, HM1'.out]; exact Pk.set_index _ (Pk.of_ok _) _ _ _); have HG37 := Lib.hid (show M1[37]? = some (.slice none 0 0) by rw [HM1'.out]; exact Pk.get37 hp2 _ _))
      | (go_at_call 26; have hRd3 := hS3.2.2.2.2; (with_reducible refine (take_rd 64 64 k64 hRd3 l64).mono ?_); rintro _ W4 ⟨d, hd, rfl, hdl, hdc, hbd, V4, A4, c4, hW4, hR4⟩; have hS4 := hS3.read hW4.out hR4)
      | (go_at_call 27
         (with_reducible refine (clone_any _ _ d _ hbd (Nat.le_trans hdl (by decide))).mono ?_)
         rintro _ W5 ⟨v5, rfl, hr5, hq5⟩
         have hS4' := hS4.below hq5
         have hc37 := (hS4'.cell 37).1
         rw [HG37.out] at hc37
         have hf37 := (hS4'.cell 37).2
         obtain ⟨Ad, cd, rfl, hbad, hcad⟩ := hr5.form
         obtain ⟨L, HL⟩ : ∃ L, Hid (L = P.cells Ad cd) := ⟨_, rfl⟩
         have HPd : Hid (P = { ({ Pk.of kk with index := n2 } : Pk) with data := d }) := by
           unfold Hid; rw [HPK.out, hd.out, ← hn2.out]; rfl
         have hdat : P.data = d := by rw [HPd.out]
         have hS6 := hS4'.store 37 (.slice Ad d.length cd) (show _ = L by rw [HM1'.out, HL.out, HPd.out]; exact Pk.set_data _ hp2 _ _ _ _ _)
         have HLs := Lib.hid (show (Try.prog.info? 29).map (·.size) = some L.size by rw [HL.out]; exact Pk.size_eq hP _ _)
         have HL1 := Lib.hid (show L.all (·.oneCell') = true by rw [HL.out]; exact Pk.one _ _ _)
         have HZL := Lib.hid (show Z.size = L.size by rw [HZ.out, HL.out, Pk.cells_size hP, Pk.cells_size Pk.zero_ok])
         have hrow := row_setCell (g := W1.heap.size) (i := 37) (u := .slice Ad d.length cd) hr5 (heap_lt hS4.2.1)
         have hrow2 := hrow.lower (B' := w.heap.size + 1) (by have := heap_lt hS4.2.1; have := hS4.2.2.1; omega)
         obtain ⟨Ad', cd', hee, hbd6, hle6⟩ := hrow.form
         cases hee
         have hbdP : Byt (W5.setCell ⟨W1.heap.size, 37, none⟩ (.slice Ad d.length cd)) Ad P.data := by rw [hdat]; exact hbd6
         have hleP : P.data.length ≤ cd := by rw [hdat]; exact hle6
         have hrowP : Row (W5.setCell ⟨W1.heap.size, 37, none⟩ (.slice Ad d.length cd)) (w.heap.size + 1) (.slice Ad P.data.length cd) P.data := by rw [hdat]; exact hrow2
         clear hrow)
      | ((with_reducible show wpList _ _ _ (⟨_, .load 29 _, _, _, _, _⟩ :: _) _ _); refine wpList_load_row rfl 29 (.tmp 5) rfl W1.heap.size rfl 29 L (0, 0) _ hS6.2.1 Try.underlying29 rfl HLs.out ?_)
      | (go_at_call 9; (with_reducible refine (he _ _ _ HL _ hbdP hleP).mono ?_); rintro _ W5 ⟨v5, rfl, hr5, hq5⟩; obtain ⟨A5, ca5, rfl, hb5, hc5⟩ := hr5.form; have hS5 := St.below hS6 hq5; have hB5 := hB.kept hS5.2.2.2.1; have hrow5 := hrowP.below hq5)
      | (go_at_call 28; (with_reducible refine (eqc _ _ _ hb5 hB5).mono ?_); rintro _ W6 ⟨rfl, hq6⟩; have hS7 := St.below hS5 hq6; have hrow6 := hrow5.below hq6)
      | ((with_reducible show wpList _ _ _ (⟨_, .load 29 _, _, _, _, _⟩ :: _) _ _); refine wpList_load_row rfl 29 (.tmp 5) rfl W1.heap.size rfl 29 L (0, 0) _ hS7.2.1 Try.underlying29 rfl HLs.out ?_)
      | ((with_reducible show wpList _ _ _ (⟨_, .store 29 _ _, _, _, _, _⟩ :: _) _ _); refine wpList_store_row rfl 29 (.tmp 2) (.tmp 66) rfl w.heap.size Z rfl rfl 29 Z hS7.1 HZs.out rfl HZ1.out ?_)
      | ((with_reducible show wpList _ _ _ (⟨_, .store 29 _ _, _, _, _, _⟩ :: _) _ _); refine wpList_store_row rfl 29 (.tmp 2) (.tmp 66) rfl w.heap.size Z rfl rfl 29 Z hS5.1 HZs.out rfl HZ1.out ?_)
      | ((with_reducible show wpList _ _ _ (⟨_, .store 29 _ _, _, _, _, _⟩ :: _) _ _); refine wpList_store_row rfl 29 (.tmp 2) (.tmp 67) rfl w.heap.size L rfl rfl 29 Z hS7.1 HLs.out HZL.out HL1.out ?_))
    all_goals
      (try simp only [Exit.inBlock, Exit.then])
      refine bodyPost_ret (results_cell_tmp_row rfl _ _ w.heap.size 29 _ (0, 0) _ rfl (setRow_heap _ _ _ _ _ _ (by first | exact hS7.1 | exact hS5.1)) Try.underlying29 rfl ?_) rfl ?_
      · first | exact HZs.out | exact HLs.out
      unfold DecPost
      rw [HDD.out]
      first
        | exact ⟨none, 0, by rw [← HZ.out]; rfl, Row.nil _ _, below_setRow (by first | exact hS7.2.2.2.1 | exact hS5.2.2.2.1) (Nat.le_refl _) _⟩
        | exact ⟨_, _, by rw [← HL.out]; rfl, row_setRow hrow6 _, below_setRow hS7.2.2.2.1 (Nat.le_refl _) _⟩
end Go.Proofs.Ytjpglpdfopeegaa.Mine
