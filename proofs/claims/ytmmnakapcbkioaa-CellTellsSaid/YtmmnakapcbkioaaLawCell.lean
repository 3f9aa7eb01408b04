/- The chapter's examples of the cells are met (the statements' own 'awake'), by a walk over its code. No condition. -/
import Derived.Test.YtmmnakapcbkioaaCell
namespace Go.Proofs.Ytmmnakapcbkioaa.Mine
open Go.RowKit
set_option linter.unusedVariables false

set_option maxRecDepth 100000 in
set_option maxHeartbeats 2000000 in
theorem awake_any (w : World) : Calls Try.prog 10 #[] w fun e w' => e = .returned (.bool true) ∧ Below w.heap.size w w' := by
  have d1 := fun w : World => divide_any 7 0 2 (by decide) (by decide) (by decide) (by decide) (by decide) (by decide) w
  have d2 := fun w : World => divide_any 0 2 2 (by decide) (by decide) (by decide) (by decide) (by decide) (by decide) w
  have d3 := fun w : World => divide_any 5 0 0 (by decide) (by decide) (by decide) (by decide) (by decide) (by decide) w
  have s1 := fun w : World => symmetric_any 4294967289 (-1) 2 (by decide) (by decide) (by decide) (by decide) (by decide) (by decide) w
  have s2 := fun w : World => floored_any 4294967289 (-1) 2 (by decide) (by decide) (by decide) (by decide) (by decide) (by decide) w
  have s3 := fun w : World => symmetric_any 2147483648 (-1) (-1) (by decide) (by decide) (by decide) (by decide) (by decide) (by decide) w
  rw [show divT 7 0 2 = (1, 3, 0) by decide] at d1
  rw [show divT 0 2 2 = (0, 0, -11) by decide] at d2
  rw [show divT 5 0 0 = (0, 0, -10) by decide] at d3
  rw [show symT (dbl 4294967289 (-1)) 2 = (-1, -3, 0) by decide] at s1
  rw [show floT (dbl 4294967289 (-1)) 2 = (1, -4, 0) by decide] at s2
  rw [show symT (dbl 2147483648 (-1)) (-1) = (0, 0, -11) by decide] at s3
  have h1 := fun w : World => shl_any 1 31 (by decide) (by decide) (by decide) (by decide) w
  have h2 := fun w : World => shl_any 1 32 (by decide) (by decide) (by decide) (by decide) w
  rw [show shlI 1 31 = 2147483648 by decide] at h1
  rw [show shlI 1 32 = 0 by decide] at h2
  have p1 := fun w : World => product_any 4294967295 4294967295 (by decide) (by decide) (by decide) (by decide) w
  have p2 := fun w : World => signed_any (-3) 5 (by decide) (by decide) (by decide) (by decide) w
  rw [show (4294967295 * 4294967295 : Int) % 4294967296 = 1 by decide, show (4294967295 * 4294967295 : Int) / 4294967296 = 4294967294 by decide] at p1
  rw [show (-3 * 5 : Int) % 4294967296 = 4294967281 by decide, show (-3 * 5 : Int) / 4294967296 = -1 by decide] at p2
  have D1 := Lib.hid d1; have D2 := Lib.hid d2; have D3 := Lib.hid d3; have S1 := Lib.hid s1; have S2 := Lib.hid s2; have S3 := Lib.hid s3; have H1 := Lib.hid h1; have H2 := Lib.hid h2; have P1 := Lib.hid p1; have P2 := Lib.hid p2
  clear d1 d2 d3 s1 s2 s3 h1 h2 p1 p2
  go_enter Try.func10, Try.ntmps10
  go_wp2_with fail
  refine (P1.out _).mono ?_
  rintro e w1 ⟨rfl, rfl⟩
  go_wp2_with fail
  refine (P2.out _).mono ?_
  rintro e w1 ⟨rfl, rfl⟩
  go_wp2_with fail
  refine (D1.out _).mono ?_
  rintro e w1 ⟨rfl, B1⟩
  go_wp2_with fail
  refine (D2.out _).mono ?_
  rintro e w2 ⟨rfl, q2⟩
  have B2 := bcall B1 q2
  go_wp2_with fail
  refine (D3.out _).mono ?_
  rintro e w3 ⟨rfl, q3⟩
  have B3 := bcall B2 q3
  go_wp2_with fail
  refine (S1.out _).mono ?_
  rintro e w4 ⟨rfl, q4⟩
  have B4 := bcall B3 q4
  go_wp2_with fail
  refine (S2.out _).mono ?_
  rintro e w5 ⟨rfl, q5⟩
  have B5 := bcall B4 q5
  go_wp2_with fail
  refine (S3.out _).mono ?_
  rintro e w6 ⟨rfl, q6⟩
  have B6 := bcall B5 q6
  go_wp2_with fail
  refine (H1.out _).mono ?_
  rintro e w7 ⟨rfl, rfl⟩
  go_wp2_with fail
  refine (H2.out _).mono ?_
  rintro e w7 ⟨rfl, rfl⟩
  go_wp2_with fail
  refine (flag_true _).mono ?_
  rintro e w7 ⟨rfl, rfl⟩
  go_wp2_with fail
  refine (flag_false _).mono ?_
  rintro e w7 ⟨rfl, rfl⟩
  go_wp2_with fail
  go_ret
  exact ⟨rfl, B6⟩
end Go.Proofs.Ytmmnakapcbkioaa.Mine
