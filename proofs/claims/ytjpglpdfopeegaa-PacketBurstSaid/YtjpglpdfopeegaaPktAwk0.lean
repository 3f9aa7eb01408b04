/- What the statements' own function awake computes (the chapter's examples), by a walk over its code. No condition. -/
import Derived.Test.YtjpglpdfopeegaaPktSame
namespace Go.Proofs.Ytjpglpdfopeegaa.Mine
open Go.RowKit
set_option linter.unusedVariables false
set_option linter.unusedSimpArgs false

theorem wpList_build_g {P : Program} {ops : Array Oper} {rest : List Oper} {o : Oper} {a : Act} {w : World} {Q : Exit → Act → World → Prop} (hw : Region.wanted o (yielded ops a.tmps) = true) (t : TypeId) (parts : Array (Nat × Operand)) (ho : o.op = .build t parts)
    (cells : Array Value) {L : List (Nat × Value)} (hf : P.built t L = some cells) (hL : parts.toList.map (fun (i, x) => (i, a.eval x)) = L) (h : wpList P ops Q rest (a.put o.dst (.agg cells)) w) : wpList P ops Q (o :: rest) a w :=
  have hf2 : P.built t (parts.map fun (i, x) => (i, a.eval x)).toList = some cells := by rw [Array.toList_map, hL, hf]
  BigFrame.wpList_want hw fun _ hK => wp_build t parts ho (by rw [hf2]; rfl) (by rw [hf2]; exact hK _ _ h)
theorem Row.cap {w : World} {B n c : Nat} {A : Option Addr} {bs : List UInt8} (h : Row w B (.slice A n c) bs) : c ≤ maxLen ∧ n = bs.length := by
  rcases h.2 with ⟨h1, h2⟩ | ⟨g, cap, cur, hv, h1, h2, h3, h4, _⟩
  · cases h1; exact ⟨Nat.zero_le _, h2.symm⟩
  · cases hv; exact ⟨h4, rfl⟩
/-- what Encode tells of what is right -/
def EncPost (n : Nat) (X : List UInt8) (W : World) (e : Ending) (w' : World) : Prop :=
  ∃ A c, e = .returned (.tuple #[.slice A n c, .int .i64 0]) ∧ Row w' W.heap.size (.slice A n c) X ∧ Byt w' A X ∧ n ≤ c ∧ c ≤ maxLen ∧ Below W.heap.size W w'
theorem encPost_of {W : World} {X : List UInt8} {e : Ending} {w' : World} {E : Int} (n : Nat) (hn : X.length = n) (hE : E = 0) (h : ∃ v, e = .returned (.tuple #[v, .int .i64 E]) ∧ Row w' W.heap.size v X ∧ Below W.heap.size W w') : EncPost n X W e w' := by
  obtain ⟨v, rfl, hr, hb⟩ := h
  obtain ⟨A, c, rfl, hbt, hc⟩ := hr.form
  subst hn hE
  exact ⟨A, c, rfl, hr, hbt, hc, hr.cap.1, hb⟩
theorem encR (p : Pk) (hp : p.ok) (hr : p.right = true) (n : Nat) (hn : (sumL p.body).length = n) (Ad : Option Addr) (cd : Nat) (W : World) (hB : Byt W Ad p.data) (hl : p.data.length ≤ cd) (h1 : p.data.length ≤ 1000) :
    Calls Try.prog 9 #[.agg (p.cells Ad cd)] W (EncPost n (sumL p.body) W) := by
  have h := encode_any p hp Ad cd W hB hl h1
  rw [Pk.enc_right hr] at h
  exact h.mono fun e w' h => encPost_of n hn rfl h
theorem encAR (a : An) (ha : a.ok) (hr : a.right = true) (n : Nat) (hn : (sumL a.body).length = n) (W : World) :
    Calls Try.prog 15 #[.agg a.cells] W (EncPost n (sumL a.body) W) := by
  have h := encodeAnswer_any a ha W
  rw [An.enc_right hr] at h
  exact h.mono fun e w' h => encPost_of n hn rfl h
theorem is_at {n m : Nat} (A : Option Addr) (c : Nat) (xs : List UInt8) (A' : Option Addr) (c' : Nat) (ys : List UInt8) (w : World) (hn : xs.length = n) (hm : ys.length = m) (hx : Byt w A xs) (hy : Byt w A' ys) :
    Calls Try.prog 12 #[.slice A n c, .slice A' m c'] w fun e w' => e = .returned (.bool (xs == ys)) ∧ w = w' := by
  subst hn hm; exact is_any A c xs A' c' ys w hx hy

def pkB : Pk := ⟨1, ⟨0, 4, List.replicate 32 0, 1⟩, 0, []⟩
def pkC (i : Int) (d : List UInt8) : Pk := ⟨2, Man.zero, i, d⟩
def pkE : Pk := ⟨5, Man.zero, 1, []⟩
theorem pkB_ok : pkB.ok := by unfold Pk.ok Man.ok pkB; simp
theorem pkC_ok (i : Int) (d : List UInt8) (h : 0 ≤ i ∧ i < 65536) : (pkC i d).ok := ⟨Man.zero_ok, h⟩
theorem pkE_ok : pkE.ok := ⟨Man.zero_ok, by decide, by decide⟩
theorem built_B : Try.prog.built 25 [(1, .int .u32 4), (3, .int .u8 1)] = some pkB.man.cells ∧ Try.prog.built 29 [(0, .int .u8 1), (1, .agg pkB.man.cells)] = some (pkB.cells none 0) := ⟨by kernel_rfl, by kernel_rfl⟩
theorem built_C (A : Option Addr) : Try.prog.built 29 [(0, .int .u8 2), (2, .int .u16 1), (3, .slice A 4 4)] = some ((pkC 1 [9, 8, 7, 6]).cells A 4) := by kernel_rfl
theorem built_C2 (A : Option Addr) : Try.prog.built 29 [(0, .int .u8 2), (3, .slice A 3 3)] = some ((pkC 0 [1, 2, 3]).cells A 3) := by kernel_rfl
theorem built_C3 (A : Option Addr) : Try.prog.built 29 [(0, .int .u8 2), (2, .int .u16 64), (3, .slice A 4 4)] = some ((pkC 64 [1, 2, 3, 4]).cells A 4) := by kernel_rfl
theorem built_E : Try.prog.built 29 [(0, .int .u8 5), (2, .int .u16 1)] = some (pkE.cells none 0) := by kernel_rfl
theorem built_5 : Try.prog.built 29 [(0, .int .u8 5)] = some ((Pk.of 5).cells none 0) := built_pk 5
theorem built_7 : Try.prog.built 29 [(0, .int .u8 7)] = some ((Pk.of 7).cells none 0) := built_pk 7
theorem take7 : (sumL (pkC 1 [9, 8, 7, 6]).body).take 7 = [2, 0, 1, 9, 8, 7, 6] := by
  have : (pkC 1 [9, 8, 7, 6]).body = [2, 0, 1, 9, 8, 7, 6] := by decide
  rw [this]; rfl
theorem take6 : (sumL (⟨2, 0, 1, 3⟩ : An).body).take 6 = [2, 0, 0, 1, 0, 3] := by
  have : (⟨2, 0, 1, 3⟩ : An).body = [2, 0, 0, 1, 0, 3] := by decide
  rw [this]; rfl
theorem decC (A : Option Addr) (c : Nat) (X : List UInt8) (hX : X = sumL (pkC 1 [9, 8, 7, 6]).body) (w : World) (hB : Byt w A X) (hc : 11 ≤ c) (hcm : c ≤ maxLen) :
    Calls Try.prog 11 #[.slice A 11 c] w fun e w' => ∃ Ad cd, e = .returned (.tuple #[.agg ((pkC 1 [9, 8, 7, 6]).cells Ad cd), .int .i64 0]) ∧ Row w' w.heap.size (.slice Ad 4 cd) [9, 8, 7, 6] ∧ Below w.heap.size w w' := by
  have hl : X.length = 11 := by rw [hX, sumL_length]; decide
  have h := decode_any A c X w hB (by rw [hl]; exact hc) hcm
  rw [hl, hX, Pk.dec_enc _ (pkC_ok _ _ (by decide)) (by decide)] at h
  exact h
end Go.Proofs.Ytjpglpdfopeegaa.Mine
