/- What packet.DecodeAnswer computes, by a walk over its code. Conditions: those of each theorem. -/
import Derived.Test.YtjpglpdfopeegaaPktRead
namespace Go.Proofs.Ytjpglpdfopeegaa.Mine
open Go.RowKit
set_option linter.unusedVariables false
set_option linter.unusedSimpArgs false

theorem results_cell_tmp_row {P : Program} {fn : Func} {p u : Tmp} {ty : TypeId} (h : fn.results = #[.cell p ty, .tmp u]) (tmps : Array Value) (w : World) (g : Nat) (t : TypeId) (cs : Array Value) (fr : Nat × Nat) (d : TypeDesc)
    (hp : tmps.getD p undef = .pointer (some ⟨g, 0, none⟩)) (hg : w.heap[g]? = some (.cells cs t fr))
    (hu : P.underlying ty = some d) (hd : (match d with | .struct _ | .array _ _ => true | _ => false) = true) (hi : (P.info? ty).map (·.size) = some cs.size) :
    (results fn tmps).run P w = .ok (.tuple #[.agg cs, tmps.getD u undef]) w := by
  have hp' : tmps[p]?.getD undef = .pointer (some ⟨g, 0, none⟩) := by simpa using hp
  simp [results, h, hp', asAddr, run_loadVar_row w g t ty cs fr d hg hu hd hi, Sem.run_bind]
/-- a reader at block r, of these bytes -/
def Rd (w : World) (r : Nat) (A : Option Addr) (c : Nat) (bs : List UInt8) : Prop :=
  w.cell? ⟨r, 0, none⟩ = some (.slice A bs.length c) ∧ w.frozen? ⟨r, 0, none⟩ = false ∧ bs.length ≤ c ∧ c ≤ maxLen ∧ Byt w A bs ∧ (bs ≠ [] → ∀ a, A = some a → a.block < r)
theorem Rd.kept {w w' : World} {r : Nat} {A : Option Addr} {c : Nat} {bs : List UInt8} (h : Rd w r A c bs) (hb : Below w.heap.size w w') : Rd w' r A c bs :=
  ⟨(hb.cell (p := ⟨r, 0, none⟩) (block_lt_of_cell h.1)).trans h.1, (hb.frozen (p := ⟨r, 0, none⟩) (block_lt_of_cell h.1)).trans h.2.1, h.2.2.1, h.2.2.2.1, h.2.2.2.2.1.kept hb, h.2.2.2.2.2⟩
theorem Rd.took {w : World} {r : Nat} {A : Option Addr} {c m : Nat} {bs : List UInt8} (h : Rd w r A c bs) (hm : m ≤ bs.length) :
    ∃ A' c', Rd (w.setCell ⟨r, 0, none⟩ (restV A bs.length c m)) r A' c' (bs.drop m) := by
  obtain ⟨h1, h2, h3, h4, h5, h6⟩ := h
  refine ⟨if c = m then A else A.map fun x => x.add m, c - m, ?_, ?_, ?_, ?_, ?_, ?_⟩
  · rw [List.length_drop]
    exact World.cell?_setCell_same w _ _ h1
  · rw [← h2]; exact World.frozen?_setCell _ _ _ _
  · simp; omega
  · omega
  · have := h5.cut c m bs.length (Nat.le_refl _) h3
    rw [List.take_length] at this
    refine Byt.set_far this r _ ?_
    intro hne a ha
    have h6 := h6 (fun e => by rw [e] at hne; simp at hne)
    split at ha
    · exact Nat.ne_of_lt (h6 _ ha)
    · cases A with
      | none => cases ha
      | some x => cases ha; rw [show (x.add m).block = x.block by unfold Addr.add; split <;> rfl]; exact Nat.ne_of_lt (h6 x rfl)
  · intro hne a ha
    have h6 := h6 (fun e => by rw [e] at hne; simp at hne)
    split at ha
    · exact h6 _ ha
    · cases A with
      | none => cases ha
      | some x => cases ha; rw [show (x.add m).block = x.block by unfold Addr.add; split <;> rfl]; exact h6 x rfl
theorem k1 : (1 : Int) = ((1 : Nat) : Int) := rfl
theorem k2 : (2 : Int) = ((2 : Nat) : Int) := rfl
theorem k4 : (4 : Int) = ((4 : Nat) : Int) := rfl
theorem k32 : (32 : Int) = ((32 : Nat) : Int) := rfl
theorem k64 : (64 : Int) = ((64 : Nat) : Int) := rfl
theorem l32 : 32 ≤ 1000 := by decide
theorem l64 : 64 ≤ 1000 := by decide
theorem l1 : 1 ≤ 4 := by decide
theorem l2 : 2 ≤ 4 := by decide
theorem l4 : 4 ≤ 4 := by decide
theorem number_rd {r : Nat} {A : Option Addr} {c : Nat} {bs : List UInt8} {w : World} (k : Nat) (i : Int) (hi : i = (k : Int)) (h : Rd w r A c bs) (hk : k ≤ 4) :
    Calls Try.prog 25 #[.pointer (some ⟨r, 0, none⟩), .int .i64 i] w fun e w' =>
      ∃ n : Nat, e = .returned (.int .u32 n) ∧ Hid (n = numB (bs.take k)) ∧ n < 256 ^ k ∧ ∃ V A' c', Hid (w' = w.setCell ⟨r, 0, none⟩ V) ∧ Rd w' r A' c' (bs.drop k) := by
  subst hi
  have e1 : bs.take (min k bs.length) = bs.take k := by
    rcases Nat.le_total k bs.length with h | h
    · rw [Nat.min_eq_left h]
    · rw [Nat.min_eq_right h, List.take_length, List.take_of_length_le h]
  have e2 : bs.drop (min k bs.length) = bs.drop k := by
    rcases Nat.le_total k bs.length with h | h
    · rw [Nat.min_eq_left h]
    · rw [Nat.min_eq_right h, List.drop_length, List.drop_of_length_le h]
  obtain ⟨A', c', hr⟩ := h.took (m := min k bs.length) (Nat.min_le_right _ _)
  obtain ⟨h1, h2, h3, h4, h5, h6⟩ := h
  refine (number_any r A c k _ bs rfl w h1 h2 h3 h4 hk h5 (fun hne a ha => Nat.ne_of_lt (h6 hne a ha))).mono ?_
  rintro e w' ⟨rfl, rfl⟩
  rw [e1]
  rw [e2] at hr
  refine ⟨_, rfl, rfl, Nat.lt_of_lt_of_le (numB_lt _) (Nat.pow_le_pow_right (by decide) (by simp; omega)), _, A', c', rfl, hr⟩
theorem take_rd {r : Nat} {A : Option Addr} {c : Nat} {bs : List UInt8} {w : World} (k : Nat) (i : Int) (hi : i = (k : Int)) (h : Rd w r A c bs) (hk : k ≤ 1000) :
    Calls Try.prog 26 #[.pointer (some ⟨r, 0, none⟩), .int .i64 i] w fun e w' =>
      ∃ d : List UInt8, Hid (d = bs.take k) ∧ e = .returned (.slice A d.length c) ∧ d.length ≤ k ∧ d.length ≤ c ∧ Byt w' A d ∧ ∃ V A' c', Hid (w' = w.setCell ⟨r, 0, none⟩ V) ∧ Rd w' r A' c' (bs.drop k) := by
  subst hi
  have e2 : bs.drop (min k bs.length) = bs.drop k := by
    rcases Nat.le_total k bs.length with h | h
    · rw [Nat.min_eq_left h]
    · rw [Nat.min_eq_right h, List.drop_length, List.drop_of_length_le h]
  obtain ⟨A', c', hr⟩ := h.took (m := min k bs.length) (Nat.min_le_right _ _)
  obtain ⟨h1, h2, h3, h4, h5, h6⟩ := h
  refine (take_any r A bs.length c k _ rfl w h1 h2 h3 h4 hk).mono ?_
  rintro e w' ⟨rfl, rfl⟩
  rw [e2] at hr
  have hl : (bs.take k).length = min k bs.length := by simp
  exact ⟨_, rfl, by rw [hl], by omega, by omega, (h5.set_far r _ (fun hne a ha => Nat.ne_of_lt (h6 hne a ha))).take k, _, A', c', rfl, hr⟩
theorem run_max4 {P : Program} (w : World) (ats : Array TypeId) (ty : TypeId) (n m : Nat) (h : m = n - 4) : (Builtin.max_ ats ty #[.int .i64 ((n : Int) - 4), .int .i64 0]).run P w = .ok (.int .i64 m) w := by
  subst h
  simp only [Builtin.max_, List.foldlM_cons, List.foldlM_nil, Builtin.max2, Sem.run_bind, Sem.run_pure, Result.andThen_ok]
  congr 2
  split <;> omega
/-- what DecodeAnswer reads, whatever the bytes are -/
def An.raw (bs : List UInt8) : An :=
  let b := bs.take (bs.length - 4)
  ⟨UInt8.ofNat (numB (b.take 1)), numB ((b.drop 1).take 2), UInt8.ofNat (numB (((b.drop 1).drop 2).take 1)), numB ((((b.drop 1).drop 2).drop 1).take 2)⟩
def An.zero : An := ⟨0, 0, 0, 0⟩
def An.dec (bs : List UInt8) : An × Int := if (An.raw bs).enc.2 = 0 ∧ (An.raw bs).enc.1 = bs then (An.raw bs, 0) else (An.zero, 220)
theorem An.one4 (a b c d : Int) : (#[Value.int .u8 a, .int .i64 b, .int .u8 c, .int .u16 d]).all (·.oneCell') = true := by
  refine all_oneCell_toArray fun v hv => ?_
  simp only [List.mem_cons, List.not_mem_nil, or_false] at hv
  rcases hv with rfl | rfl | rfl | rfl <;> rfl
theorem An.raw_ok (bs : List UInt8) : (An.raw bs).ok := by
  unfold An.ok An.raw
  have h1 := numB_lt (((bs.take (bs.length - 4)).drop 1).take 2)
  have h2 := numB_lt (((((bs.take (bs.length - 4)).drop 1).drop 2).drop 1).take 2)
  have h3 : ∀ l : List UInt8, 256 ^ (l.take 2).length ≤ 65536 := fun l => Nat.le_trans (Nat.pow_le_pow_right (by decide) (show _ ≤ 2 by simp; omega)) (by decide)
  have h4 := h3 ((bs.take (bs.length - 4)).drop 1)
  have h5 := h3 ((((bs.take (bs.length - 4)).drop 1).drop 2).drop 1)
  dsimp only
  omega
theorem Try.ansSize : (Try.prog.info? 40).map (·.size) = some 4 := by kernel_rfl
set_option maxHeartbeats 2000000 in
theorem decodeAnswer_any (A : Option Addr) (c : Nat) (bs : List UInt8) (w : World) (hB : Byt w A bs) (hc : bs.length ≤ c) (hcm : c ≤ maxLen) :
    Calls Try.prog 17 #[.slice A bs.length c] w fun e w' => e = .returned (.tuple #[.agg (An.dec bs).1.cells, .int .i64 (An.dec bs).2]) ∧ Below w.heap.size w w' := by
  obtain ⟨n, hn⟩ : ∃ n, n = bs.length := ⟨_, rfl⟩
  obtain ⟨m, hm⟩ : ∃ m, m = n - 4 := ⟨_, rfl⟩
  have hmx := fun W => run_max4 (P := Try.prog) W #[3, 3] 3 n m hm
  have hmn : m ≤ c := by omega
  have hR : ∀ W : World, W = (w.alloc (.cells #[.int .u8 0, .int .i64 0, .int .u8 0, .int .u16 0] 40)).alloc (.cells #[.slice A m c] 55) → Rd W (w.heap.size + 1) A c (bs.take m) := by
    rintro W rfl
    have hb : Below w.heap.size w ((w.alloc (.cells #[.int .u8 0, .int .i64 0, .int .u8 0, .int .u16 0] 40)).alloc (.cells #[.slice A m c] 55)) := (balloc _ _).alloc (Nat.le_of_lt (size_lt_alloc _ _)) _
    have hnew := heap_alloc_new (w.alloc (.cells #[.int .u8 0, .int .i64 0, .int .u8 0, .int .u16 0] 40)) (.cells #[.slice A m c] 55)
    rw [show (w.alloc (.cells #[.int .u8 0, .int .i64 0, .int .u8 0, .int .u16 0] 40)).heap.size = w.heap.size + 1 by simp] at hnew
    refine ⟨?_, ?_, ?_, hcm, (hB.kept hb).take m, fun hne a ha => ?_⟩
    · rw [cell_of_row _ _ _ _ _ _ hnew]; simp; omega
    · exact frozen_of_row _ _ _ _ _ hnew
    · simp; omega
    · have := hB.block (fun e => by rw [e] at hne; simp at hne) a ha; omega
  rw [← hn]
  have hE := An.raw_ok bs
  have he := fun W => encodeAnswer_any (An.raw bs) hE W
  have HN := Lib.hid hn
  have HM := Lib.hid hm
  have hnc : n ≤ c := by omega
  have hcm2 : c ≤ 9223372036854775807 := by unfold maxLen at hcm; omega
  clear hn hm hE
  have hR0 := hR _ rfl
  clear hR
  have hcell : ∀ n1 n2 n3 n4 : Nat, n1 = numB ((bs.take m).take 1) → n2 = numB (((bs.take m).drop 1).take 2) → n3 = numB ((((bs.take m).drop 1).drop 2).take 1) → n4 = numB (((((bs.take m).drop 1).drop 2).drop 1).take 2) → n1 < 256 → n3 < 256 →
      (An.raw bs).cells = #[.int .u8 n1, .int .i64 n2, .int .u8 n3, .int .u16 n4] := by
    intro n1 n2 n3 n4 h1 h2 h3 h4 l1 l3
    unfold An.cells An.raw
    dsimp only
    rw [← HN.out, ← HM.out, ← h1, ← h2, ← h3, ← h4]
    simp
    omega
  have HC := Lib.hid hcell
  clear hcell
  have hdec : An.dec bs = if (An.raw bs).enc.2 = 0 ∧ (An.raw bs).enc.1 = bs then (An.raw bs, 0) else (An.zero, 220) := rfl
  generalize An.dec bs = D at *
  have h2e : (An.raw bs).enc.2 = 0 ∨ (An.raw bs).enc.2 = 220 := by
    unfold An.enc; split
    · exact .inl rfl
    · exact .inr rfl
  generalize hMM : (An.raw bs).cells = M at *
  have HMM := Lib.hid hMM
  clear hMM
  generalize (An.raw bs).enc.1 = xs at *
  generalize hE0 : (An.raw bs).enc.2 = E at *
  have HD := Lib.hid hdec
  clear hdec hE0
  have hB0 := HN
  have hlen : bs.length = n := HN.out.symm
  have eqc : ∀ (A' : Option Addr) (c' : Nat) (W : World), Byt W A' xs → Byt W A bs → Calls Try.prog 28 #[.slice A' xs.length c', .slice A n c] W fun e w' => e = .returned (.bool (xs == bs)) ∧ Below W.heap.size W w' := by
    intro A' c' W h1 h2
    have := equal_any A' c' xs A c bs W h1 h2 hc hcm
    rw [hlen] at this
    exact this
  clear hlen
  have HQ : Hid ((xs == bs) = true ↔ xs = bs) := by unfold Hid; simp
  generalize (xs == bs) = q at *
  have hnew := heap_alloc_new w (.cells #[.int .u8 0, .int .i64 0, .int .u8 0, .int .u16 0] 40)
  have hnew1 := (Below.heap_alloc (w.alloc (.cells #[.int .u8 0, .int .i64 0, .int .u8 0, .int .u16 0] 40)) (.cells #[.slice A m c] 55) w.heap.size (by simp)).trans hnew
  have hb1 : Below w.heap.size w ((w.alloc (.cells #[.int .u8 0, .int .i64 0, .int .u8 0, .int .u16 0] 40)).alloc (.cells #[.slice A m c] 55)) := (balloc _ _).alloc (Nat.le_of_lt (size_lt_alloc _ _)) _
  have HF := Lib.hid (show (w.heap.size < ((w.alloc (.cells #[.int .u8 0, .int .i64 0, .int .u8 0, .int .u16 0] 40)).alloc (.cells #[.slice A m c] 55)).heap.size) ∧ _ ∧ _ from ⟨by simp; omega, hnew1, hb1⟩)
  clear hnew hnew1 hb1
  generalize hW0 : (w.alloc (.cells #[.int .u8 0, .int .i64 0, .int .u8 0, .int .u16 0] 40)).alloc (.cells #[.slice A m c] 55) = W0 at hR0 HF
  have HW0 := Lib.hid hW0
  clear hW0
  have step : ∀ (W W' : World) (V : Value), W' = W.setCell ⟨w.heap.size + 1, 0, none⟩ V → w.heap.size < W.heap.size ∧ W.heap[w.heap.size]? = some (.cells #[.int .u8 0, .int .i64 0, .int .u8 0, .int .u16 0] 40 (0, 0)) ∧ Below w.heap.size w W →
      w.heap.size < W'.heap.size ∧ W'.heap[w.heap.size]? = some (.cells #[.int .u8 0, .int .i64 0, .int .u8 0, .int .u16 0] 40 (0, 0)) ∧ Below w.heap.size w W' := by
    rintro W W' V rfl ⟨h1, h2, h3⟩
    exact ⟨by simpa using h1, (Below.heap_setCell _ _ _ _ (by simp)).trans h2, h3.setCell (by simp) _⟩
  have HST := Lib.hid step
  clear step
  have HH2 := Lib.hid h2e
  rcases (show (E = 220 ∧ D = (An.zero, 220)) ∨ (E = 0 ∧ q = true ∧ D = (An.raw bs, 0)) ∨ (E = 0 ∧ q = false ∧ D = (An.zero, 220)) by
    rcases h2e with h | h
    · cases hq : q with
      | true => exact .inr (.inl ⟨h, rfl, by rw [HD.out, if_pos ⟨h, HQ.out.1 hq⟩]⟩)
      | false => exact .inr (.inr ⟨h, rfl, by rw [HD.out, if_neg (fun e => by rw [HQ.out.2 e.2] at hq; cases hq)]⟩)
    · exact .inl ⟨h, by rw [HD.out, if_neg (fun e => by rw [h] at e; exact absurd e.1 (by decide))]⟩) with ⟨hcase, hD⟩ | ⟨hcase, hq, hD⟩ | ⟨hcase, hq, hD⟩
  all_goals
    have HDD := Lib.hid hD
    clear hD
    rw [hcase] at he
    (try rw [hq] at eqc)
    clear h2e
    go_enter Try.func17, Try.ntmps17
    go_wp2_with (first
      | (go_at_call 25; rw [HW0.out]; (with_reducible refine (number_rd 1 1 k1 hR0 l1).mono ?_); rintro _ W1 ⟨n1, rfl, hn1, hl1, V1, A1, c1, hW1, hR1⟩; simp only [Nat.reducePow] at hl1)
      | (go_at_call 25; (with_reducible refine (number_rd 2 2 k2 hR1 l2).mono ?_); rintro _ W2 ⟨n2, rfl, hn2, hl2, V2, A2, c2, hW2, hR2⟩; simp only [Nat.reducePow] at hl2)
      | (go_at_call 25; (with_reducible refine (number_rd 1 1 k1 hR2 l1).mono ?_); rintro _ W3 ⟨n3, rfl, hn3, hl3, V3, A3, c3, hW3, hR3⟩; simp only [Nat.reducePow] at hl3)
      | (go_at_call 25; (with_reducible refine (number_rd 2 2 k2 hR3 l2).mono ?_); rintro _ W4 ⟨n4, rfl, hn4, hl4, V4, A4, c4, hW4, hR4⟩; simp only [Nat.reducePow] at hl4; have hF4 := Lib.hid (HST.out _ _ _ hW4.out (HST.out _ _ _ hW3.out (HST.out _ _ _ hW2.out (HST.out _ _ _ hW1.out HF.out)))); have hM := HC.out n1 n2 n3 n4 hn1.out hn2.out hn3.out hn4.out hl1 hl3; rw [hM] at he)
      | (go_at_call 15; (with_reducible refine (he _).mono ?_); rintro _ W5 ⟨v5, rfl, hr5, hq5⟩; obtain ⟨A5, ca5, rfl, hb5, hc5⟩ := hr5.form; have hF5 := hF4.out; have hq6 := (balloc W4 (.cells #[.int .u8 n1, .int .i64 n2, .int .u8 n3, .int .u16 n4] 40)).trans (hq5.mono (Nat.le_of_lt (size_lt_alloc _ _))); have HG1 := Lib.hid ((hq6.block _ hF5.1).trans hF5.2.1); have HG2 := Lib.hid ((hq5.block W4.heap.size (size_lt_alloc _ _)).trans (heap_alloc_new W4 _)); have HG3 := Lib.hid (bcall hF5.2.2 hq6); have HG4 := Lib.hid (Nat.lt_of_lt_of_le hF5.1 hq6.size); have HG5 := Lib.hid (Nat.lt_of_lt_of_le (size_lt_alloc W4 (.cells #[.int .u8 n1, .int .i64 n2, .int .u8 n3, .int .u16 n4] 40)) hq5.size); clear hF5 hq6; have hB5 := hB.kept HG3.out)
      | (go_at_call 28; (with_reducible refine (eqc _ _ _ hb5 hB5).mono ?_); rintro _ W6 ⟨rfl, hq6⟩; have HK1 := Lib.hid ((hq6.block _ HG4.out).trans HG1.out); have HK2 := Lib.hid ((hq6.block _ HG5.out).trans HG2.out); have HK3 := Lib.hid (bcall HG3.out hq6))
      | (refine wpList_load_row rfl 40 (.tmp 5) rfl W4.heap.size rfl 40 #[.int .u8 n1, .int .i64 n2, .int .u8 n3, .int .u16 n4] (0, 0) _ HK2.out Try.underlying40 rfl Try.ansSize ?_)
      | (refine wpList_store_row rfl 40 (.tmp 2) (.tmp 42) rfl w.heap.size #[.int .u8 0, .int .i64 0, .int .u8 0, .int .u16 0] rfl rfl 40 #[.int .u8 0, .int .i64 0, .int .u8 0, .int .u16 0] HK1.out Try.ansSize rfl (An.one4 _ _ _ _) ?_)
      | (refine wpList_store_row rfl 40 (.tmp 2) (.tmp 42) rfl w.heap.size #[.int .u8 0, .int .i64 0, .int .u8 0, .int .u16 0] rfl rfl 40 #[.int .u8 0, .int .i64 0, .int .u8 0, .int .u16 0] HG1.out Try.ansSize rfl (An.one4 _ _ _ _) ?_)
      | (refine wpList_store_row rfl 40 (.tmp 2) (.tmp 43) rfl w.heap.size #[.int .u8 n1, .int .i64 n2, .int .u8 n3, .int .u16 n4] rfl rfl 40 #[.int .u8 0, .int .i64 0, .int .u8 0, .int .u16 0] HK1.out Try.ansSize rfl (An.one4 _ _ _ _) ?_))
    all_goals
      (try simp only [Exit.inBlock, Exit.then])
      refine bodyPost_ret (results_cell_tmp_row rfl _ _ w.heap.size 40 _ (0, 0) _ rfl (setRow_heap _ _ _ _ _ _ (by first | exact HK1.out | exact HG1.out)) Try.underlying40 rfl ?_) rfl ?_
      · exact Try.ansSize
      refine ⟨?_, below_setRow (by first | exact HK3.out | exact HG3.out) (Nat.le_refl _) _⟩
      have hmm := HMM.out
      have hm4 := HC.out n1 n2 n3 n4 hn1.out hn2.out hn3.out hn4.out hl1 hl3
      have hzz : An.zero.cells = #[.int .u8 0, .int .i64 0, .int .u8 0, .int .u16 0] := rfl
      rw [HDD.out]
      (try dsimp only)
      first | (rw [hzz]; rfl) | (rw [hmm, hm4]; rfl)
end Go.Proofs.Ytjpglpdfopeegaa.Mine
