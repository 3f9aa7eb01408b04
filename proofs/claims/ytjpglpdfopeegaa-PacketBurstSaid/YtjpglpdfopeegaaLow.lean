/- What the statements' own small functions compute (package lightshiplow), each by a walk over its code. Conditions: those of each theorem. -/
import Derived.Test.YtjpglpdfopeegaaBase
namespace Go.Proofs.Ytjpglpdfopeegaa.Mine
open Go.RowKit
set_option linter.unusedVariables false

/-- 'Among': a number from 0 on, below n. -/
def amongI (x n : Int) : Int := if n ≤ 0 then 0 else if Int.tmod x n < 0 then Int.tmod x n + n else Int.tmod x n
theorem among_eq (x n : Int) (h : 0 < n) (hx : 0 ≤ x) : amongI x n = x % n := by
  unfold amongI
  rw [if_neg (by omega), Int.tmod_eq_emod_of_nonneg hx, if_neg (by have := Int.emod_nonneg x (show n ≠ 0 by omega); omega)]
theorem among_any (x n : Int) (hn : n < 4611686018427387904) (w : World) :
    Calls Try.prog 20 #[.int .i64 x, .int .i64 n] w fun e w' => e = .returned (.int .i64 (amongI x n)) ∧ w = w' := by
  unfold amongI
  by_cases h : n ≤ 0
  · go_enter Try.func20, Try.ntmps20
    go_wp2
    go_ret
    exact ⟨rfl, rfl⟩
  · have h1 : -n < Int.tmod x n := by
      have := Int.lt_tmod_of_pos x (show 0 < n by omega); omega
    have h2 : Int.tmod x n < n := Int.tmod_lt_of_pos x (by omega)
    rw [if_neg h]
    have h0 : (n == 0) = false := by rw [beq_eq_false_iff_ne]; omega
    have h00 : ¬ n = 0 := by omega
    generalize hm : Int.tmod x n = m at *
    by_cases h3 : m < 0
    · go_enter Try.func20, Try.ntmps20
      go_wp2
      go_ret
      exact ⟨rfl, rfl⟩
    · go_enter Try.func20, Try.ntmps20
      go_wp2
      go_ret
      exact ⟨rfl, rfl⟩

theorem str_eq (xs ys : List UInt8) : ((⟨xs.toArray⟩ : ByteArray).toList == (⟨ys.toArray⟩ : ByteArray).toList) = (xs == ys) := by
  simp [ByteArray.toList_eq]
theorem is_any (A : Option Addr) (c : Nat) (xs : List UInt8) (A' : Option Addr) (c' : Nat) (ys : List UInt8) (w : World) (hx : Byt w A xs) (hy : Byt w A' ys) :
    Calls Try.prog 12 #[.slice A xs.length c, .slice A' ys.length c'] w fun e w' => e = .returned (.bool (xs == ys)) ∧ w = w' := by
  have h1 := run_string_bytes w A c xs hx
  have h2 := run_string_bytes w A' c' ys hy
  unfold Str at h1 h2
  rw [← str_eq]
  generalize (⟨xs.toArray⟩ : ByteArray) = p at *
  generalize (⟨ys.toArray⟩ : ByteArray) = q at *
  go_enter Try.func12, Try.ntmps12
  go_wp2
  go_ret
  exact ⟨rfl, rfl⟩

theorem fresh_any (A : Option Addr) (c : Nat) (xs : List UInt8) (w : World) (hx : Byt w A xs) (hn : xs.length ≤ 140737488355328) :
    Calls Try.prog 10 #[.slice A xs.length c] w fun e w' => ∃ v, e = .returned v ∧ Row w' w.heap.size v xs ∧ Below w.heap.size w w' := by
  go_enter Try.func10, Try.ntmps10
  go_wp2_with (first
    | (refine wpList_make_bytes rfl _ _ rfl w.heap.size xs.length rfl rfl hn (Nat.le_refl _) ?_; intro w1 hr1 hg1)
    | (at_builtin; refine wpList_append_bytes rfl (.tmp 7) (.tmp 8) rfl w.heap.size _ [] rfl hr1 A c xs rfl (hx.kept ((Below.refl _ _).grown hg1 (Nat.le_refl _) (fun k h => by cases h))) (by simpa using hn) hg1.size ?_; intro v2 w2 hr2 hg2 ho2))
  go_ret
  refine ⟨_, rfl, hr2, ?_⟩
  exact ((Below.refl _ _).grown hg1 (Nat.le_refl _) (fun k h => by cases h)).grown hg2 hg1.size (fun k h => (hr1.base h).1)
end Go.Proofs.Ytjpglpdfopeegaa.Mine
