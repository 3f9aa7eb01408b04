/- What packet.Encode computes, by a walk over its code. Conditions: that the numbers fit their kinds, and that the data are not too many. -/
import Derived.Test.YtjpglpdfopeegaaPktSum
namespace Go.Proofs.Ytjpglpdfopeegaa.Mine
open Go.RowKit
set_option linter.unusedVariables false
set_option linter.unusedSimpArgs false

theorem rangeAt_kept {w w' : World} {b o : Nat} {l : List Value} (h : w.rangeAt b o l) (hb : Below w.heap.size w w') (hlt : b < w.heap.size) : w'.rangeAt b o l :=
  fun j v hv => (hb.cell (p := ⟨b, o + j, none⟩) hlt).trans (h j v hv)
theorem size_lt_alloc (w : World) (o : Obj) : w.heap.size < (w.alloc o).heap.size := show w.heap.size < (w.heap.push _).size by simp
theorem wpList_store_fresh' {P : Program} {ops : Array Oper} {rest : List Oper} {o : Oper} {a : Act} {w : World} {Q : Exit → Act → World → Prop} (hgd : o.guard = none) (ty : TypeId) (x y : Operand) (ho : o.op = .store ty x y)
    (g : Nat) (old cells : Array Value) (t : TypeId) (hx : a.eval x = .pointer (some ⟨g, 0, none⟩)) (hg : g = w.heap.size) (hy : a.eval y = .agg cells)
    (hi : (P.info? ty).map (·.size) = some cells.size) (hold : old.size = cells.size) (h1 : cells.all (·.oneCell') = true)
    (h : wpList P ops Q rest (a.put o.dst undef) (w.alloc (.cells cells t))) : wpList P ops Q (o :: rest) a (w.alloc (.cells old t)) :=
  wpList_store_fresh hgd ty x y ho old cells t (by rw [hx, hg]) hy hi hold h1 h
theorem summed_new (L : List Part) (W : World) (g n : Nat) (hg : g = W.heap.size) (hn : n = L.length) (cs : Array Value) (T : TypeId) (hcs : cs = (L.map partV).toArray) (hL : L.length ≤ 100) (hB : ∀ p ∈ L, Byt W p.1 p.2.2 ∧ p.2.2.length ≤ p.2.1) (hlen : lenL L ≤ 1000000) :
    Calls Try.prog 23 #[.slice (some ⟨g, 0, none⟩) n n] (W.alloc (.cells cs T)) fun e w' => ∃ v, e = .returned v ∧ Row w' W.heap.size v (sumL (catL L)) ∧ Below W.heap.size W w' := by
  subst hg hn hcs
  have hb0 := (Below.refl W.heap.size W).alloc (Nat.le_refl _) (.cells (L.map partV).toArray T)
  refine (summed_any L W.heap.size L.length _ (Nat.le_refl _) hL ?_ (fun p hp => ⟨(hB p hp).1.kept hb0, (hB p hp).2⟩) hlen).mono ?_
  · intro k hk
    rw [cell_of_row _ _ _ _ _ _ (heap_alloc_new W _)]
    simp [hk]
  · rintro e w' ⟨v, rfl, hr, hb⟩
    exact ⟨v, rfl, hr.lower (Nat.le_of_lt (size_lt_alloc _ _)), bcall hb0 hb⟩
theorem Man.one (m : Man) : m.cells.all (·.oneCell') = true := by
  refine all_oneCell_toArray fun v hv => ?_
  simp only [Man.list, List.mem_append, List.mem_cons, List.mem_map, List.not_mem_nil, or_false] at hv
  rcases hv with (rfl | rfl) | (⟨x, _, rfl⟩ | rfl) <;> rfl
/-- a packet's bytes, without their sum -/
def Pk.body (p : Pk) : List UInt8 :=
  if p.kind = 1 then [1] ++ (bigL p.man.number.toNat 4 ++ (bigL p.man.size.toNat 4 ++ (p.man.digest ++ [p.man.limit])))
  else if p.kind = 2 then [2] ++ (bigL p.index.toNat 2 ++ p.data)
  else [p.kind]
/-- what Encode tells: bytes, and an error -/
def Pk.enc (p : Pk) : List UInt8 × Int := if p.right then (sumL p.body, 0) else ([], 220)
theorem enc_no (p : Pk) (hp : p.ok) (A : Option Addr) (c : Nat) (hr : p.right = false) (w : World) :
    Calls Try.prog 9 #[.agg (p.cells A c)] w fun e w' => ∃ v, e = .returned (.tuple #[v, .int .i64 220]) ∧ Row w' w.heap.size v [] ∧ Below w.heap.size w w' := by
  have hM := Pk.cells_size hp A c
  have c1 := fun w : World => right_any p hp A c w
  rw [hr] at c1
  generalize p.cells A c = M at *
  have hsz := Try.pktSize
  rw [← hM] at hsz
  have HS := Lib.hid hsz
  have hnew := heap_alloc_new w (.cells M 29)
  have HN := Lib.hid hnew
  clear hsz hnew
  go_enter Try.func9, Try.ntmps9
  go_wp2_with (first
    | (refine wpList_load_row rfl 29 (.tmp 1) rfl w.heap.size rfl 29 M (0, 0) _ HN.out Try.underlying29 rfl HS.out ?_)
    | (go_at_call 22; refine (c1 _).mono ?_; rintro _ w1 ⟨rfl, q1⟩))
  go_ret2
  exact ⟨_, rfl, Row.nil _ _, bcall ((Below.refl _ _).alloc (Nat.le_refl _) _) q1⟩
theorem enc_plain (p : Pk) (hp : p.ok) (A : Option Addr) (c : Nat) (hr : p.right = true) (h1 : p.kind ≠ 1) (h2 : p.kind ≠ 2) (w : World) :
    Calls Try.prog 9 #[.agg (p.cells A c)] w fun e w' => ∃ v, e = .returned (.tuple #[v, .int .i64 0]) ∧ Row w' w.heap.size v (sumL [p.kind]) ∧ Below w.heap.size w w' := by
  have hM := Pk.cells_size hp A c
  have c1 := fun w : World => right_any p hp A c w
  rw [hr] at c1
  have hk := Pk.cells0 hp A c
  have b1 : ((p.kind.toNat : Int) == 1) = false := by rw [beq_eq_false_iff_ne]; intro h; exact h1 (UInt8.toNat_inj.1 (by simp; omega))
  have b2 : ((p.kind.toNat : Int) == 2) = false := by rw [beq_eq_false_iff_ne]; intro h; exact h2 (UInt8.toNat_inj.1 (by simp; omega))
  have hra := rangeAt_new w (p.cells A c) 29 (0, 0) 1 _ (Pk.man_at p hp A c)
  obtain ⟨M, hMM⟩ : ∃ M, M = p.cells A c := ⟨_, rfl⟩
  have hsz := Try.pktSize
  rw [← hM] at hsz
  have HS := Lib.hid hsz
  have hnew := heap_alloc_new w (.cells (p.cells A c) 29)
  have HN := Lib.hid hnew
  have HRA := Lib.hid hra
  have hck : Hid ((w.alloc (.cells (p.cells A c) 29)).cell? ⟨w.heap.size, 0, none⟩ = some (.int .u8 p.kind.toNat)) := by
    unfold Hid
    rw [cell_of_row _ _ _ _ _ _ HN.out, Array.getElem?_eq_getElem (by omega), hk]
  have hms := Try.manSize
  rw [← Man.cells_size hp.1] at hms
  have HMS := Lib.hid hms
  clear hsz hnew hra hMM hms
  go_enter Try.func9, Try.ntmps9
  go_wp2_with (first
    | (refine wpList_load_row rfl 29 (.tmp 1) rfl w.heap.size rfl 29 (p.cells A c) (0, 0) _ HN.out Try.underlying29 rfl HS.out ?_)
    | (go_at_call 22; refine (c1 _).mono ?_; rintro _ w1 ⟨rfl, q1⟩; have hcc := (q1.cell (p := ⟨w.heap.size, 0, none⟩) (size_lt_alloc _ _)).trans hck.out; have hlt1 : w.heap.size < w1.heap.size := Nat.lt_of_lt_of_le (size_lt_alloc _ _) q1.size; have hrm := rangeAt_kept (rangeAt_kept HRA.out q1 (size_lt_alloc _ _)) ((Below.refl _ _).alloc (Nat.le_refl _) (.cells #[B8 p.kind] 5)) (Nat.lt_of_lt_of_le (size_lt_alloc _ _) q1.size))
    | (refine wpList_load_man rfl (.tmp 12) rfl w.heap.size 1 rfl p.man hp.1 hrm ?_)
    | (refine wpList_store_fresh' rfl 25 (.tmp 5) (.tmp 13) rfl _ _ p.man.cells _ rfl (by simp) rfl HMS.out (by rw [Man.cells_size hp.1]; rfl) (Man.one _) ?_))
  have hb1 : Below w.heap.size w w1 := bcall ((Below.refl _ _).alloc (Nat.le_refl _) _) q1
  refine (summed_new [(some ⟨w1.heap.size, 0, none⟩, 1, [p.kind])] _ _ 1 (by simp) rfl _ _ rfl (by simp) ?_ (by simp [lenL])).mono ?_
  · intro q hq
    rw [List.mem_singleton] at hq
    subst hq
    exact ⟨(Byt.new w1 [p.kind] _ _ _ rfl).kept ((Below.refl _ _).alloc (Nat.le_refl _) _), Nat.le_refl _⟩
  · rintro _ w2 ⟨v, rfl, hr2, hb2⟩
    have hb3 := ((hb1.alloc hb1.size (.cells #[B8 p.kind] 5)).alloc (Nat.le_trans hb1.size (Nat.le_of_lt (size_lt_alloc _ _))) (.cells p.man.cells 25))
    go_wp2_with fail
    go_ret2
    refine ⟨_, rfl, ?_, bcall hb3 hb2⟩
    have := hr2.lower (B' := w.heap.size) hb3.size
    simpa [catL] using this
theorem encS_step {W0 W W1 : World} {a b : Addr} {va vb : Option Value} (h : W.cell? a = va ∧ W.cell? b = vb ∧ Below W0.heap.size W0 W) (ha : a.block < W0.heap.size) (hb : b.block < W0.heap.size) (hq : Below W.heap.size W W1) :
    W1.cell? a = va ∧ W1.cell? b = vb ∧ Below W0.heap.size W0 W1 :=
  ⟨(hq.cell (Nat.lt_of_lt_of_le ha h.2.2.size)).trans h.1, (hq.cell (Nat.lt_of_lt_of_le hb h.2.2.size)).trans h.2.1, bcall h.2.2 hq⟩
theorem parts3 {W : World} {x y z : Part} (hx : Byt W x.1 x.2.2) (hy : Byt W y.1 y.2.2) (hz : Byt W z.1 z.2.2) (lx : x.2.2.length ≤ x.2.1) (ly : y.2.2.length ≤ y.2.1) (lz : z.2.2.length ≤ z.2.1) : ∀ p ∈ [x, y, z], Byt W p.1 p.2.2 ∧ p.2.2.length ≤ p.2.1 := by
  intro p hp
  simp only [List.mem_cons, List.not_mem_nil, or_false] at hp
  rcases hp with rfl | rfl | rfl
  · exact ⟨hx, lx⟩
  · exact ⟨hy, ly⟩
  · exact ⟨hz, lz⟩
set_option maxHeartbeats 1000000 in
theorem enc_chunk (p : Pk) (hp : p.ok) (A : Option Addr) (c : Nat) (hr : p.right = true) (h2 : p.kind = 2) (w : World) (hB : Byt w A p.data) (hc : p.data.length ≤ c) (hn : p.data.length ≤ 1000) :
    Calls Try.prog 9 #[.agg (p.cells A c)] w fun e w' => ∃ v, e = .returned (.tuple #[v, .int .i64 0]) ∧ Row w' w.heap.size v (sumL ([2] ++ (bigL p.index.toNat 2 ++ p.data))) ∧ Below w.heap.size w w' := by
  have hM := Pk.cells_size hp A c
  have c1 := fun w : World => right_any p hp A c w
  rw [hr] at c1
  have hk := Pk.cells0 hp A c
  have hi := Pk.cells36 hp A c
  have hd := Pk.cells37 hp A c
  obtain ⟨n, hix⟩ : ∃ n : Nat, p.index = n := ⟨p.index.toNat, by have := hp.2.1; omega⟩
  have hn1 : n < 65536 := by have := hp.2.2; omega
  rw [hix] at hi
  rw [show p.index.toNat = n by omega]
  rw [h2, show ((2 : UInt8).toNat : Int) = 2 from rfl] at hk
  have hra := rangeAt_new w (p.cells A c) 29 (0, 0) 1 _ (Pk.man_at p hp A c)
  obtain ⟨M, hMM⟩ : ∃ M, M = p.cells A c := ⟨_, rfl⟩
  have hsz := Try.pktSize
  rw [← hM] at hsz
  have HS := Lib.hid hsz
  have hnew := heap_alloc_new w (.cells (p.cells A c) 29)
  have HN := Lib.hid hnew
  have HRA := Lib.hid hra
  have hck : Hid ((w.alloc (.cells (p.cells A c) 29)).cell? ⟨w.heap.size, 0, none⟩ = some (.int .u8 2)) := by
    unfold Hid
    rw [cell_of_row _ _ _ _ _ _ HN.out, Array.getElem?_eq_getElem (by omega), hk]
  have hcj : Hid ((w.alloc (.cells (p.cells A c) 29)).cell? ⟨w.heap.size, 36, none⟩ = some (.int .u16 n)) := by
    unfold Hid
    rw [cell_of_row _ _ _ _ _ _ HN.out, Array.getElem?_eq_getElem (by omega), hi]
  have hcd : Hid ((w.alloc (.cells (p.cells A c) 29)).cell? ⟨w.heap.size, 37, none⟩ = some (.slice A p.data.length c)) := by
    unfold Hid
    rw [cell_of_row _ _ _ _ _ _ HN.out, Array.getElem?_eq_getElem (by omega), hd]
  have hms := Try.manSize
  rw [← Man.cells_size hp.1] at hms
  have HMS := Lib.hid hms
  clear hsz hnew hra hMM hms
  go_enter Try.func9, Try.ntmps9
  go_wp2_with (first
    | (refine wpList_load_row rfl 29 (.tmp 1) rfl w.heap.size rfl 29 (p.cells A c) (0, 0) _ HN.out Try.underlying29 rfl HS.out ?_)
    | (go_at_call 22; refine (c1 _).mono ?_; rintro _ w1 ⟨rfl, q1⟩; have hcc := (q1.cell (p := ⟨w.heap.size, 0, none⟩) (size_lt_alloc _ _)).trans hck.out; have hc6 := (q1.cell (p := ⟨w.heap.size, 36, none⟩) (size_lt_alloc _ _)).trans hcj.out; have hc7 := (q1.cell (p := ⟨w.heap.size, 37, none⟩) (size_lt_alloc _ _)).trans hcd.out; have hlt1 : w.heap.size < w1.heap.size := Nat.lt_of_lt_of_le (size_lt_alloc _ _) q1.size; have hrm := rangeAt_kept (rangeAt_kept HRA.out q1 (size_lt_alloc _ _)) ((Below.refl _ _).alloc (Nat.le_refl _) (.cells #[.int .u8 2] 5)) (Nat.lt_of_lt_of_le (size_lt_alloc _ _) q1.size))
    | (refine wpList_load_man rfl (.tmp 12) rfl w.heap.size 1 rfl p.man hp.1 hrm ?_)
    | (refine wpList_store_fresh' rfl 25 (.tmp 5) (.tmp 13) rfl _ _ p.man.cells _ rfl (by simp) rfl HMS.out (by rw [Man.cells_size hp.1]; rfl) (Man.one _) ?_))
  have hb1 : Below w.heap.size w w1 := bcall ((Below.refl _ _).alloc (Nat.le_refl _) _) q1
  have hW := ((Below.refl w1.heap.size w1).alloc (Nat.le_refl _) (.cells #[.int .u8 2] 5)).alloc (Nat.le_of_lt (size_lt_alloc _ _)) (.cells p.man.cells 25)
  have hk4 : Byt ((w1.alloc (.cells #[.int .u8 2] 5)).alloc (.cells p.man.cells 25)) (some ⟨w1.heap.size, 0, none⟩) [2] := (Byt.new w1 [2] _ _ _ rfl).kept ((Below.refl _ _).alloc (Nat.le_refl _) _)
  have hc6' := (hW.cell (p := ⟨w.heap.size, 36, none⟩) hlt1).trans hc6
  have hc7' := (hW.cell (p := ⟨w.heap.size, 37, none⟩) hlt1).trans hc7
  have hB1 := (hB.kept hb1).kept hW
  have hbW := hb1.trans (hW.mono hb1.size)
  have hl1 : w.heap.size < ((w1.alloc (.cells #[.int .u8 2] 5)).alloc (.cells p.man.cells 25)).heap.size := Nat.lt_of_lt_of_le hlt1 hW.size
  generalize (w1.alloc (.cells #[.int .u8 2] 5)).alloc (.cells p.man.cells 25) = W0 at *
  clear hW hc6 hc7 hrm hcc q1 hcd hcj hck HRA HN hB
  have bg : ∀ W : World, Calls Try.prog 24 #[.int .u32 (IntKind.u32.wrap n), .int .i64 2] W fun e w' => ∃ v, e = .returned v ∧ Row w' W.heap.size v (bigL n 2) ∧ Below W.heap.size W w' := fun W => by
    rw [show IntKind.u32.wrap (n : Int) = n from wrap_u32_id n (by omega)]
    exact big_any n 2 (by omega) (by decide) W
  go_region_held3 (fun W' => W'.cell? ⟨w.heap.size, 36, none⟩ = some (.int .u16 n) ∧ W'.cell? ⟨w.heap.size, 37, none⟩ = some (.slice A p.data.length c) ∧ Below W0.heap.size W0 W')
    (first | exact ⟨hc6', hc7', (Below.refl _ _).drew⟩ | assumption | exact encS_step (by assumption) hl1 hl1 ((Below.refl _ _).alloc (Nat.le_refl _) _) | exact ⟨(by assumption : _ ∧ _ ∧ _).1, (by assumption : _ ∧ _ ∧ _).2.1, (by assumption : _ ∧ _ ∧ Below _ _ _).2.2.drew⟩)
    ((first
      | (go_at_call 24; ((with_reducible refine (bg _).mono ?_); rintro e W1 ⟨v, rfl, hr1, hq⟩; obtain ⟨A1, ca1, rfl, hbt1, hca1⟩ := hr1.form; have hS1 := encS_step (by assumption) hl1 hl1 hq))
      | (go_at_call 23; refine (summed_new [(some ⟨w1.heap.size, 0, none⟩, 1, [2]), (A1, ca1, bigL n 2), (A, c, p.data)] W1 _ 3 rfl rfl _ _ rfl (by simp) (parts3 (hk4.kept hS1.2.2) hbt1 (hB1.kept hS1.2.2) (Nat.le_refl _) hca1 hc) (by simp [lenL, bigL_length]; omega)).mono ?_; rintro e W2 ⟨v2, rfl, hr2, hq2⟩; have hS2 := encS_step hS1 hl1 hl1 hq2)))
  go_wp2_with fail
  go_ret2
  refine ⟨_, rfl, ?_, bcall hbW hS2.2.2⟩
  have := hr2.lower (B' := w.heap.size) (Nat.le_trans hbW.size hS1.2.2.size)
  simpa [catL] using this
theorem summed5 (W : World) (g n : Nat) (hg : g = W.heap.size) (hn : n = 5) (cs : Array Value) (T : TypeId) (a1 a2 a3 a4 a5 : Option Addr) (n1 n2 n3 n4 n5 c1 c2 c3 c4 c5 : Nat) (x1 x2 x3 x4 x5 : List UInt8)
    (hcs : cs = #[.slice a1 n1 c1, .slice a2 n2 c2, .slice a3 n3 c3, .slice a4 n4 c4, .slice a5 n5 c5])
    (h1 : Byt W a1 x1) (h2 : Byt W a2 x2) (h3 : Byt W a3 x3) (h4 : Byt W a4 x4) (h5 : Byt W a5 x5) (e1 : x1.length = n1) (e2 : x2.length = n2) (e3 : x3.length = n3) (e4 : x4.length = n4) (e5 : x5.length = n5)
    (l1 : n1 ≤ c1) (l2 : n2 ≤ c2) (l3 : n3 ≤ c3) (l4 : n4 ≤ c4) (l5 : n5 ≤ c5) (hlen : n1 + n2 + n3 + n4 + n5 ≤ 1000000) :
    Calls Try.prog 23 #[.slice (some ⟨g, 0, none⟩) n n] (W.alloc (.cells cs T)) fun e w' => ∃ v, e = .returned v ∧ Row w' W.heap.size v (sumL (x1 ++ (x2 ++ (x3 ++ (x4 ++ x5))))) ∧ Below W.heap.size W w' := by
  subst e1 e2 e3 e4 e5
  refine (summed_new [(a1, c1, x1), (a2, c2, x2), (a3, c3, x3), (a4, c4, x4), (a5, c5, x5)] W g n hg hn cs T hcs (by simp) ?_ (by simp [lenL]; omega)).mono ?_
  · intro p hp
    simp only [List.mem_cons, List.not_mem_nil, or_false] at hp
    rcases hp with rfl | rfl | rfl | rfl | rfl
    · exact ⟨h1, l1⟩
    · exact ⟨h2, l2⟩
    · exact ⟨h3, l3⟩
    · exact ⟨h4, l4⟩
    · exact ⟨h5, l5⟩
  · rintro e w' ⟨v, rfl, hr, hb⟩
    exact ⟨v, rfl, by simpa [catL] using hr, hb⟩
theorem summed5' {W : World} {g : Nat} {T : TypeId} {a1 a2 a3 a4 a5 : Option Addr} {n1 n2 n3 n4 n5 c1 c2 c3 c4 c5 : Nat} (x1 x2 x3 x4 x5 : List UInt8) (hg : g = W.heap.size)
    (h1 : Byt W a1 x1) (h2 : Byt W a2 x2) (h3 : Byt W a3 x3) (h4 : Byt W a4 x4) (h5 : Byt W a5 x5) (e1 : x1.length = n1) (e2 : x2.length = n2) (e3 : x3.length = n3) (e4 : x4.length = n4) (e5 : x5.length = n5)
    (l1 : n1 ≤ c1) (l2 : n2 ≤ c2) (l3 : n3 ≤ c3) (l4 : n4 ≤ c4) (l5 : n5 ≤ c5) (hlen : n1 + n2 + n3 + n4 + n5 ≤ 1000000) :
    Calls Try.prog 23 #[.slice (some ⟨g, 0, none⟩) 5 5] (W.alloc (.cells #[.slice a1 n1 c1, .slice a2 n2 c2, .slice a3 n3 c3, .slice a4 n4 c4, .slice a5 n5 c5] T)) fun e w' => ∃ v, e = .returned v ∧ Row w' W.heap.size v (sumL (x1 ++ (x2 ++ (x3 ++ (x4 ++ x5))))) ∧ Below W.heap.size W w' :=
  summed5 W g 5 hg rfl _ T a1 a2 a3 a4 a5 n1 n2 n3 n4 n5 c1 c2 c3 c4 c5 x1 x2 x3 x4 x5 rfl h1 h2 h3 h4 h5 e1 e2 e3 e4 e5 l1 l2 l3 l4 l5 hlen
theorem encS3_step {W0 W W1 : World} {b x y z : Nat} {va vb vc : Option Value} (h : W.cell? ⟨b, x, none⟩ = va ∧ W.cell? ⟨b, y, none⟩ = vb ∧ W.cell? ⟨b, z, none⟩ = vc ∧ Below W0.heap.size W0 W) (hb : b < W0.heap.size) (hq : Below W.heap.size W W1) :
    W1.cell? ⟨b, x, none⟩ = va ∧ W1.cell? ⟨b, y, none⟩ = vb ∧ W1.cell? ⟨b, z, none⟩ = vc ∧ Below W0.heap.size W0 W1 :=
  ⟨(hq.cell (p := ⟨b, x, none⟩) (Nat.lt_of_lt_of_le hb h.2.2.2.size)).trans h.1, (hq.cell (p := ⟨b, y, none⟩) (Nat.lt_of_lt_of_le hb h.2.2.2.size)).trans h.2.1, (hq.cell (p := ⟨b, z, none⟩) (Nat.lt_of_lt_of_le hb h.2.2.2.size)).trans h.2.2.1, bcall h.2.2.2 hq⟩
theorem balloc (W : World) (o : Obj) : Below W.heap.size W (W.alloc o) := (Below.refl _ _).alloc (Nat.le_refl _) o
set_option maxHeartbeats 4000000 in
theorem enc_begin (p : Pk) (hp : p.ok) (A : Option Addr) (c : Nat) (hr : p.right = true) (h2 : p.kind = 1) (w : World) :
    Calls Try.prog 9 #[.agg (p.cells A c)] w fun e w' => ∃ v, e = .returned (.tuple #[v, .int .i64 0]) ∧ Row w' w.heap.size v (sumL ([1] ++ (bigL p.man.number.toNat 4 ++ (bigL p.man.size.toNat 4 ++ (p.man.digest ++ [p.man.limit]))))) ∧ Below w.heap.size w w' := by
  have hM := Pk.cells_size hp A c
  have c1 := fun w : World => right_any p hp A c w
  rw [hr] at c1
  have hk := Pk.cells0 hp A c
  have hM0 := Man.cells0 hp.1
  have hM1 := Man.cells1 hp.1
  have hM34 := Man.cells34 hp.1
  have hMs := Man.cells_size hp.1
  have hdl := hp.1.2.2.2.2
  obtain ⟨n, hix⟩ : ∃ n : Nat, p.man.number = n := ⟨p.man.number.toNat, by have := hp.1.1; omega⟩
  obtain ⟨z, hiz⟩ : ∃ z : Nat, p.man.size = z := ⟨p.man.size.toNat, by have := hp.1.2.2.1; omega⟩
  have hn1 : n < 4294967296 := by have := hp.1.2.1; omega
  have hz1 : z < 4294967296 := by have := hp.1.2.2.2.1; omega
  rw [hix] at hM0
  rw [hiz] at hM1
  rw [show p.man.number.toNat = n by omega, show p.man.size.toNat = z by omega]
  rw [h2, show ((1 : UInt8).toNat : Int) = 1 from rfl] at hk
  have hra := rangeAt_new w (p.cells A c) 29 (0, 0) 1 _ (Pk.man_at p hp A c)
  obtain ⟨M, hMM⟩ : ∃ M, M = p.cells A c := ⟨_, rfl⟩
  have hsz := Try.pktSize
  rw [← hM] at hsz
  have HS := Lib.hid hsz
  have hnew := heap_alloc_new w (.cells (p.cells A c) 29)
  have HN := Lib.hid hnew
  have HRA := Lib.hid hra
  have hck : Hid ((w.alloc (.cells (p.cells A c) 29)).cell? ⟨w.heap.size, 0, none⟩ = some (.int .u8 1)) := by
    unfold Hid
    rw [cell_of_row _ _ _ _ _ _ HN.out, Array.getElem?_eq_getElem (by omega), hk]
  have hms := Try.manSize
  rw [← Man.cells_size hp.1] at hms
  have HMS := Lib.hid hms
  clear hsz hnew hra hMM hms
  go_enter Try.func9, Try.ntmps9
  go_wp2_with (first
    | (refine wpList_load_row rfl 29 (.tmp 1) rfl w.heap.size rfl 29 (p.cells A c) (0, 0) _ HN.out Try.underlying29 rfl HS.out ?_)
    | (go_at_call 22; refine (c1 _).mono ?_; rintro _ w1 ⟨rfl, q1⟩; have hcc := (q1.cell (p := ⟨w.heap.size, 0, none⟩) (size_lt_alloc _ _)).trans hck.out; have hlt1 : w.heap.size < w1.heap.size := Nat.lt_of_lt_of_le (size_lt_alloc _ _) q1.size; have hrm := rangeAt_kept (rangeAt_kept HRA.out q1 (size_lt_alloc _ _)) ((Below.refl _ _).alloc (Nat.le_refl _) (.cells #[.int .u8 1] 5)) (Nat.lt_of_lt_of_le (size_lt_alloc _ _) q1.size))
    | (refine wpList_load_man rfl (.tmp 12) rfl w.heap.size 1 rfl p.man hp.1 hrm ?_)
    | (refine wpList_store_fresh' rfl 25 (.tmp 5) (.tmp 13) rfl _ _ p.man.cells _ rfl (by simp) rfl HMS.out (by rw [Man.cells_size hp.1]; rfl) (Man.one _) ?_))
  have hb1 : Below w.heap.size w w1 := bcall ((Below.refl _ _).alloc (Nat.le_refl _) _) q1
  have hW := ((Below.refl w1.heap.size w1).alloc (Nat.le_refl _) (.cells #[.int .u8 1] 5)).alloc (Nat.le_of_lt (size_lt_alloc _ _)) (.cells p.man.cells 25)
  have hk4 : Byt ((w1.alloc (.cells #[.int .u8 1] 5)).alloc (.cells p.man.cells 25)) (some ⟨w1.heap.size, 0, none⟩) [1] := (Byt.new w1 [1] _ _ _ rfl).kept ((Below.refl _ _).alloc (Nat.le_refl _) _)
  have hsz1 : (w1.alloc (.cells #[.int .u8 1] 5)).heap.size = w1.heap.size + 1 := by simp
  have hman := heap_alloc_new (w1.alloc (.cells #[.int .u8 1] 5)) (.cells p.man.cells 25)
  rw [hsz1] at hman
  have hbW := hb1.trans (hW.mono hb1.size)
  have hl1 : w1.heap.size + 1 < ((w1.alloc (.cells #[.int .u8 1] 5)).alloc (.cells p.man.cells 25)).heap.size := by simp
  generalize (w1.alloc (.cells #[.int .u8 1] 5)).alloc (.cells p.man.cells 25) = W0 at *
  have g0 : W0.cell? ⟨w1.heap.size + 1, 0, none⟩ = some (.int .u32 n) := by rw [cell_of_row _ _ _ _ _ _ hman, Array.getElem?_eq_getElem (by omega), hM0]
  have g1 : W0.cell? ⟨w1.heap.size + 1, 1, none⟩ = some (.int .u32 z) := by rw [cell_of_row _ _ _ _ _ _ hman, Array.getElem?_eq_getElem (by omega), hM1]
  have g34 : W0.cell? ⟨w1.heap.size + 1, 34, none⟩ = some (.int .u8 p.man.limit.toNat) := by rw [cell_of_row _ _ _ _ _ _ hman, Array.getElem?_eq_getElem (by omega), hM34]
  have gd : Byt W0 (some ⟨w1.heap.size + 1, 2, none⟩) p.man.digest := by
    refine Byt.of fun j hj => ?_
    rw [cell_of_row _ _ _ _ _ _ hman]
    simp [Man.cells, Man.list, Nat.add_comm 2 j]
    rw [List.getElem?_append_left (by simpa using hj)]
    simp [hj]
  have bgN : ∀ W : World, Calls Try.prog 24 #[.int .u32 n, .int .i64 4] W fun e w' => ∃ v, e = .returned v ∧ Row w' W.heap.size v (bigL n 4) ∧ Below W.heap.size W w' := fun W => big_any n 4 hn1 (by decide) W
  have bgZ : ∀ W : World, Calls Try.prog 24 #[.int .u32 z, .int .i64 4] W fun e w' => ∃ v, e = .returned v ∧ Row w' W.heap.size v (bigL z 4) ∧ Below W.heap.size W w' := fun W => big_any z 4 hz1 (by decide) W
  clear hW hrm hcc q1 hck HRA HN hman hM34 hM0 hM1
  go_region_held3 (fun W' => W'.cell? ⟨w1.heap.size + 1, 0, none⟩ = some (.int .u32 n) ∧ W'.cell? ⟨w1.heap.size + 1, 1, none⟩ = some (.int .u32 z) ∧ W'.cell? ⟨w1.heap.size + 1, 34, none⟩ = some (.int .u8 p.man.limit.toNat) ∧ Below W0.heap.size W0 W')
    (first | exact ⟨g0, g1, g34, (Below.refl _ _).drew⟩ | assumption | exact encS3_step (by assumption) hl1 (balloc _ _))
    ((first
      | (go_at_call 24; (with_reducible refine (bgN _).mono ?_); rintro e WN ⟨vN, rfl, hrN, hqN⟩; obtain ⟨A1, ca1, rfl, hbN, hcN⟩ := hrN.form; have hS1 := encS3_step (by assumption) hl1 hqN)
      | (go_at_call 24; (with_reducible refine (bgZ _).mono ?_); rintro e WZ ⟨vZ, rfl, hrZ, hqZ⟩; obtain ⟨A2, ca2, rfl, hbZ, hcZ⟩ := hrZ.form; have hS2 := encS3_step (by assumption) hl1 hqZ)
      | (go_at_call 23
         with_reducible refine (summed5' [1] (bigL n 4) (bigL z 4) p.man.digest [p.man.limit] ?_ ?_ ?_ ?_ ?_ ?_ ?_ ?_ ?_ ?_ ?_ ?_ ?_ ?_ ?_ ?_ ?_).mono ?_
         · first | rfl | simp
         · first | exact hk4.kept hS2.2.2.2 | exact hk4.kept hS1.2.2.2 | exact hk4.kept (bcall hS2.2.2.2 (balloc _ _)) | exact hk4.kept (bcall hS1.2.2.2 (balloc _ _))
         · first | exact hbN | exact hbN.kept hqZ | exact hbN.kept (balloc _ _) | exact (hbN.kept (balloc _ _)).kept hqZ | exact (hbN.kept hqZ).kept (balloc _ _)
         · first | exact hbZ | exact hbZ.kept hqN | exact hbZ.kept (balloc _ _) | exact (hbZ.kept (balloc _ _)).kept hqN | exact (hbZ.kept hqN).kept (balloc _ _)
         · first | exact gd.kept hS2.2.2.2 | exact gd.kept hS1.2.2.2 | exact gd.kept (bcall hS2.2.2.2 (balloc _ _)) | exact gd.kept (bcall hS1.2.2.2 (balloc _ _))
         · first | exact Byt.new _ _ _ _ _ rfl | exact (Byt.new _ [p.man.limit] _ _ _ rfl).kept hqN | exact (Byt.new _ [p.man.limit] _ _ _ rfl).kept hqZ | exact ((Byt.new _ [p.man.limit] _ _ _ rfl).kept hqN).kept hqZ | exact ((Byt.new _ [p.man.limit] _ _ _ rfl).kept hqZ).kept hqN | exact ((Byt.new W0.drew [p.man.limit] #[.int .u8 p.man.limit.toNat] 5 (0, 0) rfl).kept hqN).kept hqZ | exact ((Byt.new W0.drew [p.man.limit] #[.int .u8 p.man.limit.toNat] 5 (0, 0) rfl).kept hqZ).kept hqN
         · rfl
         · first | rfl | exact bigL_length _ _
         · first | rfl | exact bigL_length _ _
         · exact hdl
         · rfl
         · exact Nat.le_refl _
         · exact hcN
         · exact hcZ
         · exact Nat.le_refl _
         · exact Nat.le_refl _
         · have := bigL_length n 4; have := bigL_length z 4; omega
         rintro e W2 ⟨v2, rfl, hr2, hq2⟩
         first | have hS3 := encS3_step hS2 hl1 hq2 | have hS3 := encS3_step hS1 hl1 hq2 | have hS3 := encS3_step (encS3_step hS2 hl1 (balloc _ _)) hl1 hq2 | have hS3 := encS3_step (encS3_step hS1 hl1 (balloc _ _)) hl1 hq2)))
  all_goals
    go_wp2_with fail
    go_ret2
    refine ⟨_, rfl, ?_, bcall hbW hS3.2.2.2⟩
    first
      | exact hr2.lower (Nat.le_trans hbW.size hS2.2.2.2.size)
      | exact hr2.lower (Nat.le_trans hbW.size hS1.2.2.2.size)
      | exact hr2.lower (Nat.le_trans hbW.size (bcall hS2.2.2.2 (balloc _ _)).size)
      | exact hr2.lower (Nat.le_trans hbW.size (bcall hS1.2.2.2 (balloc _ _)).size)
/-- what Encode tells of any packet -/
theorem encode_any (p : Pk) (hp : p.ok) (A : Option Addr) (c : Nat) (w : World) (hB : Byt w A p.data) (hc : p.data.length ≤ c) (hn : p.data.length ≤ 1000) :
    Calls Try.prog 9 #[.agg (p.cells A c)] w fun e w' => ∃ v, e = .returned (.tuple #[v, .int .i64 p.enc.2]) ∧ Row w' w.heap.size v p.enc.1 ∧ Below w.heap.size w w' := by
  unfold Pk.enc
  cases hr : p.right
  · exact enc_no p hp A c hr w
  · by_cases h1 : p.kind = 1
    · have := enc_begin p hp A c hr h1 w
      unfold Pk.body
      rw [if_pos rfl, if_pos h1]
      exact this
    · by_cases h2 : p.kind = 2
      · have := enc_chunk p hp A c hr h2 w hB hc hn
        unfold Pk.body
        rw [if_pos rfl, if_neg h1, if_pos h2]
        exact this
      · have := enc_plain p hp A c hr h1 h2 w
        unfold Pk.body
        rw [if_pos rfl, if_neg h1, if_neg h2]
        exact this
end Go.Proofs.Ytjpglpdfopeegaa.Mine
