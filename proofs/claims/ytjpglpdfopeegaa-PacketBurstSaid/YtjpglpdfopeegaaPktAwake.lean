/- What the statements' own function awake computes (the chapter's examples), by a walk over its code. No condition. -/
import Derived.Test.YtjpglpdfopeegaaPktAwk0
namespace Go.Proofs.Ytjpglpdfopeegaa.Mine
open Go.RowKit
set_option linter.unusedVariables false
set_option linter.unusedSimpArgs false

set_option maxHeartbeats 4000000 in
theorem awake_any (w : World) : Calls Try.prog 8 #[] w fun e w' => e = .returned (.bool true) ∧ Below w.heap.size w w' := by
  obtain ⟨X5, hX5⟩ : ∃ X, X = sumL (Pk.of 5).body := ⟨_, rfl⟩
  obtain ⟨X2, hX2⟩ : ∃ X, X = sumL (pkC 1 [9, 8, 7, 6]).body := ⟨_, rfl⟩
  obtain ⟨X1, hX1⟩ : ∃ X, X = sumL pkB.body := ⟨_, rfl⟩
  obtain ⟨X4, hX4⟩ : ∃ X, X = sumL (⟨2, 0, 1, 3⟩ : An).body := ⟨_, rfl⟩
  have e5 := fun (W : World) => encR (Pk.of 5) (Pk.of_ok 5) (by decide) 5 (by rw [sumL_length]; rfl) none 0 W (Byt.nil _ _) (Nat.le_refl _) (Nat.zero_le _)
  have e2 := fun (A : Option Addr) (W : World) (h : Byt W A [9, 8, 7, 6]) => encR (pkC 1 [9, 8, 7, 6]) (pkC_ok _ _ (by decide)) (by decide) 11 (by rw [sumL_length]; rfl) A 4 W h (Nat.le_refl _) (by decide)
  have e1 := fun (W : World) => encR pkB pkB_ok (by decide) 46 (by rw [sumL_length]; rfl) none 0 W (Byt.nil _ _) (Nat.le_refl _) (Nat.zero_le _)
  have ea : ∀ W : World, Calls Try.prog 15 #[.agg #[.int .u8 2, .int .i64 0, .int .u8 1, .int .u16 3]] W (EncPost 10 (sumL (⟨2, 0, 1, 3⟩ : An).body) W) := fun (W : World) => encAR ⟨2, 0, 1, 3⟩ ⟨by decide, by decide, by decide⟩ (by decide) 10 (by rw [sumL_length]; rfl) W
  have r1 := fun (A : Option Addr) (W : World) => refused_any (pkC 0 [1, 2, 3]) (pkC_ok _ _ (by decide)) A 3 (by decide) W
  have r2 := fun (A : Option Addr) (W : World) => refused_any (pkC 64 [1, 2, 3, 4]) (pkC_ok _ _ (by decide)) A 4 (by decide) W
  have r3 := fun (W : World) => refused_any (Pk.of 7) (Pk.of_ok 7) none 0 (by decide) W
  have r4 := fun (W : World) => refused_any pkE pkE_ok none 0 (by decide) W
  have d2 := fun (A : Option Addr) (c : Nat) (W : World) (hB : Byt W A X2) (hc : 11 ≤ c) (hcm : c ≤ maxLen) => decC A c X2 hX2 W hB hc hcm
  rw [← hX5] at e5
  rw [← hX2] at e2
  rw [← hX1] at e1
  rw [← hX4] at ea
  have h50 : ∃ t, X5 = 5 :: t := ⟨_, hX5⟩
  have h27 : X2.take 7 = [2, 0, 1, 9, 8, 7, 6] := by rw [hX2]; exact take7
  have h46 : X4.take 6 = [2, 0, 0, 1, 0, 3] := by rw [hX4]; exact take6
  have l2 : X2.length = 11 := by rw [hX2, sumL_length]; decide
  have l4 : X4.length = 10 := by rw [hX4, sumL_length]; decide
  clear hX5 hX2 hX1 hX4
  obtain ⟨t5, rfl⟩ := h50
  have b5 := built_5
  have b7 := built_7
  have bE := built_E
  obtain ⟨bM, bB⟩ := built_B
  have bC := built_C
  have bC2 := built_C2
  have bC3 := built_C3
  have cC : ∀ Ad cd, ((pkC 1 [9, 8, 7, 6]).cells Ad cd).size = 38 ∧ ((pkC 1 [9, 8, 7, 6]).cells Ad cd).all (·.oneCell') = true ∧ ((pkC 1 [9, 8, 7, 6]).cells Ad cd)[36]? = some (.int .u16 1) ∧ ((pkC 1 [9, 8, 7, 6]).cells Ad cd)[37]? = some (.slice Ad 4 cd) :=
    fun Ad cd => ⟨Pk.cells_size (pkC_ok _ _ (by decide)) _ _, Pk.one _ _ _, Pk.get36 (pkC_ok _ _ (by decide)) _ _, Pk.get37 (pkC_ok _ _ (by decide)) _ _⟩
  obtain ⟨Z, hZ⟩ : ∃ Z, Z = Pk.zero.cells none 0 := ⟨_, rfl⟩
  have hZs : Z.size = 38 := by rw [hZ]; exact Pk.cells_size Pk.zero_ok _ _
  generalize (Pk.of 5).cells none 0 = M5 at *
  generalize (Pk.of 7).cells none 0 = M7 at *
  generalize pkE.cells none 0 = ME at *
  generalize pkB.cells none 0 = MB at *
  generalize pkB.man.cells = MM at *
  generalize (pkC 1 [9, 8, 7, 6]).cells = FC at *
  generalize (pkC 0 [1, 2, 3]).cells = FC2 at *
  generalize (pkC 64 [1, 2, 3, 4]).cells = FC3 at *
  have H5 := Lib.hid (And.intro b5 e5)
  have H2 := Lib.hid (And.intro bC e2)
  have H1 := Lib.hid (And.intro bM (And.intro bB e1))
  have HA := Lib.hid ea
  have HR1 := Lib.hid (And.intro bC2 r1)
  have HR2 := Lib.hid (And.intro bC3 r2)
  have HR3 := Lib.hid (And.intro b7 r3)
  have HR4 := Lib.hid (And.intro bE r4)
  have HD := Lib.hid (And.intro d2 cC)
  have HZ := Lib.hid (And.intro hZ hZs)
  have HT := Lib.hid (And.intro h27 (And.intro h46 (And.intro l2 l4)))
  clear b5 e5 bC e2 bM bB e1 ea bC2 r1 bC3 r2 b7 r3 bE r4 d2 cC hZ hZs h27 h46 l2 l4
  go_enter Try.func8, Try.ntmps8
  go_wp2_with (first
    | (refine wpList_build_g rfl 29 _ rfl M5 H5.out.1 rfl ?_)
    | (refine wpList_build_g rfl 29 _ rfl (FC (some ⟨w1.heap.size, 0, none⟩) 4) (H2.out.1 _) rfl ?_)
    | (refine wpList_build_g rfl 25 _ rfl MM H1.out.1 rfl ?_)
    | (refine wpList_build_g rfl 29 _ rfl MB H1.out.2.1 rfl ?_)
    | (refine wpList_build_g rfl 29 _ rfl (FC2 _ 3) (HR1.out.1 _) rfl ?_)
    | (refine wpList_build_g rfl 29 _ rfl (FC3 _ 4) (HR2.out.1 _) rfl ?_)
    | (refine wpList_build_g rfl 29 _ rfl M7 HR3.out.1 rfl ?_)
    | (refine wpList_build_g rfl 29 _ rfl ME HR4.out.1 rfl ?_)
    | (go_at_call 9
       (with_reducible refine (H5.out.2 _).mono ?_)
       rintro _ w1 ⟨A1, c1, rfl, hr1, hB1, hc1, hm1, q1⟩)
    | (go_at_call 9
       (with_reducible refine (H2.out.2 _ _ ?_).mono ?_)
       · first | exact Byt.new _ _ _ _ _ rfl | exact Byt.new' _ _ (by simp) _ _ _ _ rfl
       rintro _ w2 ⟨A2, c2, rfl, hr2, hB2, hc2, hm2, q2⟩
       have hq2 := bcall ((Below.refl w.heap.size w).trans q1) (bcall (balloc _ _) q2))
    | (go_at_call 9
       (with_reducible refine (H1.out.2.2 _).mono ?_)
       rintro _ w3 ⟨A3, c3, rfl, hr3, hB3, hc3, hm3, q3⟩)
    | (go_at_call 15
       (with_reducible refine (HA.out _).mono ?_)
       rintro _ w4 ⟨A4, c4, rfl, hr4, hB4, hc4, hm4, q4⟩
       obtain ⟨g1, rfl⟩ := hr1.head (by simp)
       obtain ⟨g2, rfl⟩ := hr2.head (by have := HT.out.2.2.1; omega)
       obtain ⟨g4, rfl⟩ := hr4.head (by have := HT.out.2.2.2; omega)
       have hB2' : Byt w4 (some ⟨g2, 0, none⟩) X2 := (hB2.kept q3).kept q4
       have hB27 := hB2'.take 7
       have hB46 := hB4.take 6
       rw [HT.out.1] at hB27
       rw [HT.out.2.1] at hB46
       have hcell : w4.cell? ⟨g1, 0, none⟩ = some (.int .u8 5) := (((hr1.below ((balloc _ _).trans (q2.mono (Nat.le_of_lt (size_lt_alloc _ _))))).below q3).below q4).cell 0 (by simp)
       have hq4 := bcall (bcall hq2 q3) q4)
    | (go_at_call 12
       (with_reducible refine (is_at (n := 7) (m := 7) _ _ [2, 0, 1, 9, 8, 7, 6] _ _ [2, 0, 1, 9, 8, 7, 6] _ rfl rfl ?_ ?_).mono ?_)
       · exact hB27.kept (balloc _ _)
       · first | exact Byt.new _ _ _ _ _ rfl | exact Byt.new' _ _ (by simp) _ _ _ _ rfl
       rintro _ _ ⟨rfl, rfl⟩)
    | (go_at_call 12
       (with_reducible refine (is_at (n := 6) (m := 6) _ _ [2, 0, 0, 1, 0, 3] _ _ [2, 0, 0, 1, 0, 3] _ rfl rfl ?_ ?_).mono ?_)
       · exact (hB46.kept (balloc _ _)).kept (balloc _ _)
       · first | exact Byt.new _ _ _ _ _ rfl | exact Byt.new' _ _ (by simp) _ _ _ _ rfl
       rintro _ _ ⟨rfl, rfl⟩)
    | (go_at_call 11
       (with_reducible refine (HD.out.1 _ _ _ ((hB2'.kept (balloc _ _)).kept (balloc _ _)) hc2 hm2).mono ?_)
       rintro _ w5 ⟨Ad, cd, rfl, hr5, q5⟩
       obtain ⟨L, hL⟩ : ∃ L, L = FC Ad cd := ⟨_, rfl⟩
       obtain ⟨hL38, hL1, hL36, hL37⟩ := HD.out.2 Ad cd
       rw [← hL] at hL38 hL1 hL36 hL37 ⊢
       have HL1 := Lib.hid hL1
       have HLs : Hid ((Try.prog.info? 29).map (·.size) = some L.size) := by unfold Hid; rw [hL38]; exact Try.pktSize
       have HZL : Hid (Z.size = L.size) := by unfold Hid; rw [hL38]; exact HZ.out.2
       clear hL hL1 hL38
       obtain ⟨Ad', cd', hee, hbd, hcd⟩ := hr5.form
       cases hee
       have hq5 := bcall hq4 (bcall ((balloc _ _).alloc (Nat.le_of_lt (size_lt_alloc _ _)) _) q5)
       have hq6 := bcall hq5 (balloc w5 (.cells L 29)))
    | (refine wpList_alloc_pk rfl Z HZ.out.1 rfl ?_)
    | (refine wpList_store_pk w5 rfl 29 (.tmp 9) (.tmp 88) rfl Z L 29 rfl rfl rfl HLs.out HZL.out HL1.out ?_)
    | (go_at_call 12
       (with_reducible refine (is_at (n := 4) (m := 4) _ _ [9, 8, 7, 6] _ _ [9, 8, 7, 6] _ rfl rfl ?_ ?_).mono ?_)
       · exact (hbd.kept (balloc _ _)).kept (balloc _ _)
       · first | exact Byt.new _ _ _ _ _ rfl | exact Byt.new' _ _ (by simp) _ _ _ _ rfl
       rintro _ _ ⟨rfl, rfl⟩)
    | (go_at_call 21
       (with_reducible refine (HR1.out.2 _ _).mono ?_)
       rintro _ w6 ⟨rfl, q6⟩
       have hq7 := bcall (bcall (bcall hq6 (balloc _ _)) (balloc _ _)) q6)
    | (go_at_call 21
       (with_reducible refine (HR2.out.2 _ _).mono ?_)
       rintro _ w7 ⟨rfl, q7⟩
       have hq8 := bcall (bcall hq7 (balloc _ _)) q7)
    | (go_at_call 21
       (with_reducible refine (HR3.out.2 _).mono ?_)
       rintro _ w8 ⟨rfl, q8⟩
       have hq9 := bcall hq8 q8)
    | (go_at_call 21
       (with_reducible refine (HR4.out.2 _).mono ?_)
       rintro _ w9 ⟨rfl, q9⟩
       have hq10 := bcall hq9 q9))
  all_goals
    go_ret
    exact ⟨rfl, hq10⟩
end Go.Proofs.Ytjpglpdfopeegaa.Mine
