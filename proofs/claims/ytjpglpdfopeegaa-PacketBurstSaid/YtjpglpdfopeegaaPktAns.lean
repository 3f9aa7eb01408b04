/- What packet.EncodeAnswer computes, by a walk over its code. Conditions: that the numbers fit their kinds. -/
import Derived.Test.YtjpglpdfopeegaaPktEnc
namespace Go.Proofs.Ytjpglpdfopeegaa.Mine
open Go.RowKit
set_option linter.unusedVariables false
set_option linter.unusedSimpArgs false

/-- an answer -/
structure An where
  kind : UInt8
  err : Int
  state : UInt8
  count : Nat
deriving DecidableEq
def An.ok (a : An) : Prop := -9223372036854775808 ≤ a.err ∧ a.err < 9223372036854775808 ∧ a.count < 65536
def An.cells (a : An) : Array Value := #[B8 a.kind, .int .i64 a.err, B8 a.state, .int .u16 a.count]
def An.right (a : An) : Bool := decide (a.kind.toNat ≤ 6 ∧ 0 ≤ a.err ∧ a.err ≤ 65535)
def An.body (a : An) : List UInt8 := [a.kind] ++ (bigL a.err.toNat 2 ++ ([a.state] ++ bigL a.count 2))
def An.enc (a : An) : List UInt8 × Int := if a.right then (sumL a.body, 0) else ([], 220)
theorem summed4' {W : World} {g : Nat} {T : TypeId} {a1 a2 a3 a4 : Option Addr} {n1 n2 n3 n4 c1 c2 c3 c4 : Nat} (x1 x2 x3 x4 : List UInt8) (hg : g = W.heap.size)
    (h1 : Byt W a1 x1) (h2 : Byt W a2 x2) (h3 : Byt W a3 x3) (h4 : Byt W a4 x4) (e1 : x1.length = n1) (e2 : x2.length = n2) (e3 : x3.length = n3) (e4 : x4.length = n4)
    (l1 : n1 ≤ c1) (l2 : n2 ≤ c2) (l3 : n3 ≤ c3) (l4 : n4 ≤ c4) (hlen : n1 + n2 + n3 + n4 ≤ 1000000) :
    Calls Try.prog 23 #[.slice (some ⟨g, 0, none⟩) 4 4] (W.alloc (.cells #[.slice a1 n1 c1, .slice a2 n2 c2, .slice a3 n3 c3, .slice a4 n4 c4] T)) fun e w' => ∃ v, e = .returned v ∧ Row w' W.heap.size v (sumL (x1 ++ (x2 ++ (x3 ++ x4)))) ∧ Below W.heap.size W w' := by
  subst e1 e2 e3 e4
  refine (summed_new [(a1, c1, x1), (a2, c2, x2), (a3, c3, x3), (a4, c4, x4)] W g 4 hg rfl _ T rfl (by simp) ?_ (by simp [lenL]; omega)).mono ?_
  · intro p hp
    simp only [List.mem_cons, List.not_mem_nil, or_false] at hp
    rcases hp with rfl | rfl | rfl | rfl
    · exact ⟨h1, l1⟩
    · exact ⟨h2, l2⟩
    · exact ⟨h3, l3⟩
    · exact ⟨h4, l4⟩
  · rintro e w' ⟨v, rfl, hr, hb⟩
    exact ⟨v, rfl, by simpa [catL] using hr, hb⟩
theorem ans_no (k s : UInt8) (e : Int) (n : Nat) (hr : (6 : Int) < k.toNat ∨ e < 0 ∨ 65535 < e) (h0 : -9223372036854775808 ≤ e) (h1 : e < 9223372036854775808) (hn : n < 65536) (w : World) :
    Calls Try.prog 15 #[.agg #[.int .u8 k.toNat, .int .i64 e, .int .u8 s.toNat, .int .u16 n]] w fun e w' => ∃ v, e = .returned (.tuple #[v, .int .i64 220]) ∧ Row w' w.heap.size v [] ∧ Below w.heap.size w w' := by
  have hk := k.toNat_lt
  have hs := s.toNat_lt
  generalize k.toNat = kk at *
  generalize s.toNat = ss at *
  rcases (show (6 : Int) < kk ∨ (¬ (6 : Int) < kk ∧ e < 0) ∨ (¬ (6 : Int) < kk ∧ ¬ e < 0 ∧ 65535 < e) by omega) with hc | ⟨hc, hc2⟩ | ⟨hc, hc2, hc3⟩
  all_goals
    clear hr
    go_enter Try.func15, Try.ntmps15
    go_wp2_with fail
    go_ret2
    exact ⟨_, rfl, Row.nil _ _, (Below.refl _ _).alloc (Nat.le_refl _) _⟩
theorem Byt.new' (w : World) (g : Nat) (hg : g = w.heap.size) (bs : List UInt8) (cs : Array Value) (T : TypeId) (fr : Nat × Nat) (h : cs = (bs.map B8).toArray) : Byt (w.alloc (.cells cs T fr)) (some ⟨g, 0, none⟩) bs := by
  subst hg; exact Byt.new w bs cs T fr h
theorem ans4_step {W0 W W1 : World} {b : Nat} {va vb vc vd : Option Value} (h : W.cell? ⟨b, 0, none⟩ = va ∧ W.cell? ⟨b, 1, none⟩ = vb ∧ W.cell? ⟨b, 2, none⟩ = vc ∧ W.cell? ⟨b, 3, none⟩ = vd ∧ Below W0.heap.size W0 W) (hb : b < W0.heap.size) (hq : Below W.heap.size W W1) :
    W1.cell? ⟨b, 0, none⟩ = va ∧ W1.cell? ⟨b, 1, none⟩ = vb ∧ W1.cell? ⟨b, 2, none⟩ = vc ∧ W1.cell? ⟨b, 3, none⟩ = vd ∧ Below W0.heap.size W0 W1 :=
  have hl := Nat.lt_of_lt_of_le hb h.2.2.2.2.size
  ⟨(hq.cell (p := ⟨b, 0, none⟩) hl).trans h.1, (hq.cell (p := ⟨b, 1, none⟩) hl).trans h.2.1, (hq.cell (p := ⟨b, 2, none⟩) hl).trans h.2.2.1, (hq.cell (p := ⟨b, 3, none⟩) hl).trans h.2.2.2.1, bcall h.2.2.2.2 hq⟩
set_option maxHeartbeats 4000000 in
theorem ans_yes (k s : UInt8) (e n : Nat) (hk : k.toNat ≤ 6) (he : e ≤ 65535) (hn : n < 65536) (w : World) :
    Calls Try.prog 15 #[.agg #[.int .u8 k.toNat, .int .i64 e, .int .u8 s.toNat, .int .u16 n]] w fun e' w' => ∃ v, e' = .returned (.tuple #[v, .int .i64 0]) ∧ Row w' w.heap.size v (sumL ([k] ++ (bigL e 2 ++ ([s] ++ bigL n 2)))) ∧ Below w.heap.size w w' := by
  have hb1 := balloc w (.cells #[.int .u8 k.toNat, .int .i64 e, .int .u8 s.toNat, .int .u16 n] 40)
  have hl1 := size_lt_alloc w (.cells #[.int .u8 k.toNat, .int .i64 e, .int .u8 s.toNat, .int .u16 n] 40)
  have hman := heap_alloc_new w (.cells #[.int .u8 k.toNat, .int .i64 e, .int .u8 s.toNat, .int .u16 n] 40)
  have e1 : ¬ (65535 : Int) < (e : Int) := by omega
  have e2 : ¬ (e : Int) < 0 := by omega
  have e3 : ¬ (6 : Int) < (k.toNat : Int) := by omega
  have bgE : ∀ W : World, Calls Try.prog 24 #[.int .u32 (IntKind.u32.wrap e), .int .i64 2] W fun e' w' => ∃ v, e' = .returned v ∧ Row w' W.heap.size v (bigL e 2) ∧ Below W.heap.size W w' := fun W => by
    rw [show IntKind.u32.wrap (e : Int) = e from wrap_u32_id e (by omega)]
    exact big_any e 2 (by omega) (by decide) W
  have bgN : ∀ W : World, Calls Try.prog 24 #[.int .u32 (IntKind.u32.wrap n), .int .i64 2] W fun e' w' => ∃ v, e' = .returned v ∧ Row w' W.heap.size v (bigL n 2) ∧ Below W.heap.size W w' := fun W => by
    rw [show IntKind.u32.wrap (n : Int) = n from wrap_u32_id n (by omega)]
    exact big_any n 2 (by omega) (by decide) W
  have g0 : (w.alloc (.cells #[.int .u8 k.toNat, .int .i64 e, .int .u8 s.toNat, .int .u16 n] 40)).cell? ⟨w.heap.size, 0, none⟩ = some (.int .u8 k.toNat) := by rw [cell_of_row _ _ _ _ _ _ hman]; rfl
  have g1 : (w.alloc (.cells #[.int .u8 k.toNat, .int .i64 e, .int .u8 s.toNat, .int .u16 n] 40)).cell? ⟨w.heap.size, 1, none⟩ = some (.int .i64 e) := by rw [cell_of_row _ _ _ _ _ _ hman]; rfl
  have g2 : (w.alloc (.cells #[.int .u8 k.toNat, .int .i64 e, .int .u8 s.toNat, .int .u16 n] 40)).cell? ⟨w.heap.size, 2, none⟩ = some (.int .u8 s.toNat) := by rw [cell_of_row _ _ _ _ _ _ hman]; rfl
  have g3 : (w.alloc (.cells #[.int .u8 k.toNat, .int .i64 e, .int .u8 s.toNat, .int .u16 n] 40)).cell? ⟨w.heap.size, 3, none⟩ = some (.int .u16 n) := by rw [cell_of_row _ _ _ _ _ _ hman]; rfl
  clear hman
  go_enter Try.func15, Try.ntmps15
  go_wp2_with fail
  generalize w.alloc (.cells #[.int .u8 k.toNat, .int .i64 e, .int .u8 s.toNat, .int .u16 n] 40) = W0 at *
  go_region_held3 (fun W' => W'.cell? ⟨w.heap.size, 0, none⟩ = some (.int .u8 k.toNat) ∧ W'.cell? ⟨w.heap.size, 1, none⟩ = some (.int .i64 e) ∧ W'.cell? ⟨w.heap.size, 2, none⟩ = some (.int .u8 s.toNat) ∧ W'.cell? ⟨w.heap.size, 3, none⟩ = some (.int .u16 n) ∧ Below W0.heap.size W0 W')
    (first | exact ⟨g0, g1, g2, g3, (Below.refl _ _).drew⟩ | assumption | exact ans4_step (by assumption) hl1 (balloc _ _))
    ((first
      | (go_at_call 24; (with_reducible refine (bgE _).mono ?_); rintro e' WE ⟨vE, rfl, hrE, hqE⟩; obtain ⟨A1, ca1, rfl, hbE, hcE⟩ := hrE.form; have hS1 := ans4_step (by assumption) hl1 hqE)
      | (go_at_call 24; (with_reducible refine (bgN _).mono ?_); rintro e' WN ⟨vN, rfl, hrN, hqN⟩; obtain ⟨A2, ca2, rfl, hbN, hcN⟩ := hrN.form; have hS2 := ans4_step (by assumption) hl1 hqN)
      | (go_at_call 23
         with_reducible refine (summed4' [k] (bigL e 2) [s] (bigL n 2) ?_ ?_ ?_ ?_ ?_ ?_ ?_ ?_ ?_ ?_ ?_ ?_ ?_ ?_).mono ?_
         · first | rfl | simp
         · repeat (first | assumption | exact Byt.new _ _ _ _ _ rfl | exact Byt.new' _ _ (by simp) _ _ _ _ rfl | refine Byt.kept ?_ hqE | refine Byt.kept ?_ hqN | refine Byt.kept ?_ (balloc _ _) | refine Byt.kept ?_ (Below.refl _ _).drew)
         · repeat (first | assumption | exact Byt.new _ _ _ _ _ rfl | exact Byt.new' _ _ (by simp) _ _ _ _ rfl | refine Byt.kept ?_ hqE | refine Byt.kept ?_ hqN | refine Byt.kept ?_ (balloc _ _) | refine Byt.kept ?_ (Below.refl _ _).drew)
         · repeat (first | assumption | exact Byt.new _ _ _ _ _ rfl | exact Byt.new' _ _ (by simp) _ _ _ _ rfl | refine Byt.kept ?_ hqE | refine Byt.kept ?_ hqN | refine Byt.kept ?_ (balloc _ _) | refine Byt.kept ?_ (Below.refl _ _).drew)
         · repeat (first | assumption | exact Byt.new _ _ _ _ _ rfl | exact Byt.new' _ _ (by simp) _ _ _ _ rfl | refine Byt.kept ?_ hqE | refine Byt.kept ?_ hqN | refine Byt.kept ?_ (balloc _ _) | refine Byt.kept ?_ (Below.refl _ _).drew)
         · rfl
         · first | rfl | exact bigL_length _ _
         · rfl
         · first | rfl | exact bigL_length _ _
         · exact Nat.le_refl _
         · exact hcE
         · exact Nat.le_refl _
         · exact hcN
         · have := bigL_length e 2; have := bigL_length n 2; omega
         rintro e' W2 ⟨v2, rfl, hr2, hq2⟩
         have hr3 := hr2.lower (B' := w.heap.size) (Nat.le_trans (Nat.le_of_lt hl1) (Below.size (w := W0) (B := W0.heap.size) (by
           repeat (first | assumption | exact Below.refl _ _ | exact (Below.refl _ _).drew | refine bcall ?_ hqE | refine bcall ?_ hqN | refine bcall ?_ (balloc _ _) | refine bcall ?_ (Below.refl _ _).drew))))
         have hS3 : W2.cell? ⟨w.heap.size, 0, none⟩ = some (.int .u8 k.toNat) ∧ W2.cell? ⟨w.heap.size, 1, none⟩ = some (.int .i64 e) ∧ W2.cell? ⟨w.heap.size, 2, none⟩ = some (.int .u8 s.toNat) ∧ W2.cell? ⟨w.heap.size, 3, none⟩ = some (.int .u16 n) ∧ Below W0.heap.size W0 W2 := by
           refine ans4_step ?_ hl1 hq2
           repeat (first | assumption | refine ans4_step ?_ hl1 hqE | refine ans4_step ?_ hl1 hqN | refine ans4_step ?_ hl1 (balloc _ _) | refine ans4_step ?_ hl1 (Below.refl _ _).drew | exact ⟨g0, g1, g2, g3, (Below.refl _ _).drew⟩ | exact ⟨g0, g1, g2, g3, Below.refl _ _⟩))))
  all_goals
    go_wp2_with fail
    go_ret2
    exact ⟨_, rfl, hr3, bcall hb1 hS3.2.2.2.2⟩
theorem encodeAnswer_any (a : An) (ha : a.ok) (w : World) :
    Calls Try.prog 15 #[.agg a.cells] w fun e w' => ∃ v, e = .returned (.tuple #[v, .int .i64 a.enc.2]) ∧ Row w' w.heap.size v a.enc.1 ∧ Below w.heap.size w w' := by
  obtain ⟨k, e, s, n⟩ := a
  obtain ⟨h0, h1, h2⟩ := ha
  unfold An.enc An.right An.cells
  dsimp only at *
  by_cases hr : k.toNat ≤ 6 ∧ 0 ≤ e ∧ e ≤ 65535
  · rw [decide_eq_true hr, if_pos rfl]
    obtain ⟨m, rfl⟩ : ∃ m : Nat, e = m := ⟨e.toNat, by omega⟩
    exact ans_yes k s m n hr.1 (by omega) h2 w
  · rw [decide_eq_false hr, if_neg (by decide)]
    exact ans_no k s e n (by omega) h0 h1 h2 w
end Go.Proofs.Ytjpglpdfopeegaa.Mine
