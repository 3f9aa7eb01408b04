/- What the functions of package packet compute, each by a walk over its code. Conditions: those of each theorem. -/
import Derived.Test.YtjpglpdfopeegaaCrcOf
import Derived.Test.YtjpglpdfopeegaaRowV
import Derived.Test.YtjpglpdfopeegaaLow
import Derived.StillTailTactics
import Derived.Deep.RegionHeld3
import Derived.Deep.MidRow
import Derived.Stop.BytesEq
namespace Go.Proofs.Ytjpglpdfopeegaa.Mine
open Go.RowKit
set_option linter.unusedVariables false
set_option linter.unusedSimpArgs false

/-- a manifest, without memory -/
structure Man where
  number : Int
  size : Int
  digest : List UInt8
  limit : UInt8
deriving DecidableEq
def Man.ok (m : Man) : Prop := 0 ≤ m.number ∧ m.number < 4294967296 ∧ 0 ≤ m.size ∧ m.size < 4294967296 ∧ m.digest.length = 32
def Man.zero : Man := ⟨0, 0, List.replicate 32 0, 0⟩
def Man.list (m : Man) : List Value := [.int .u32 m.number, .int .u32 m.size] ++ (m.digest.map B8 ++ [B8 m.limit])
def Man.cells (m : Man) : Array Value := m.list.toArray
theorem Man.list_length {m : Man} (h : m.ok) : m.list.length = 35 := by simp [Man.list, h.2.2.2.2]
theorem Man.cells_size {m : Man} (h : m.ok) : m.cells.size = 35 := by simp [Man.cells, Man.list_length h]
theorem Man.cells0 {m : Man} (h : m.ok) : m.cells[0]'(by rw [Man.cells_size h]; decide) = .int .u32 m.number := by simp [Man.cells, Man.list]
theorem Man.cells1 {m : Man} (h : m.ok) : m.cells[1]'(by rw [Man.cells_size h]; decide) = .int .u32 m.size := by simp [Man.cells, Man.list]
theorem Man.cells34 {m : Man} (h : m.ok) : m.cells[34]'(by rw [Man.cells_size h]; decide) = .int .u8 m.limit.toNat := by
  have := h.2.2.2.2
  simp [Man.cells, Man.list]
  rw [List.getElem_append_right (by simp; omega)]
  simp [this]
def Man.right (m : Man) : Bool := decide (4 ≤ m.size ∧ m.size ≤ 4096 ∧ m.size % 4 = 0 ∧ 1 ≤ m.limit.toNat ∧ m.limit.toNat ≤ 32)
theorem bool_ret {a b : Bool} (h : a = b) : Ending.returned (.bool a) = .returned (.bool b) := by rw [h]
theorem slotRight_core (M : Array Value) (hM : M.size = 35) (s : Int) (l : Nat) (hs : M[1]'(by omega) = .int .u32 s) (hl : M[34]'(by omega) = .int .u8 l) (h0 : 0 ≤ s) (h1 : s < 4294967296) (h3 : l < 256) (R : Bool)
    (HR : Hid (R = decide (4 ≤ s ∧ s ≤ 4096 ∧ s % 4 = 0 ∧ 1 ≤ l ∧ l ≤ 32))) (w : World) :
    Calls Try.prog 34 #[.agg M] w fun e w' => e = .returned (.bool R) ∧ Below w.heap.size w w' := by
  go_enter Try.func34, Try.ntmps34
  go_wp2_with fail
  all_goals
    go_ret
    refine ⟨bool_ret ?_, (Below.refl _ _).alloc (Nat.le_refl _) _⟩
    rw [HR.out, Bool.eq_iff_iff]
    simp only [decide_eq_true_eq, Bool.false_eq_true, false_iff, true_iff]
    omega
theorem slotRight_any (m : Man) (hm : m.ok) (w : World) :
    Calls Try.prog 34 #[.agg m.cells] w fun e w' => e = .returned (.bool m.right) ∧ Below w.heap.size w w' :=
  slotRight_core m.cells (Man.cells_size hm) m.size m.limit.toNat (Man.cells1 hm) (Man.cells34 hm) hm.2.2.1 hm.2.2.2.1 m.limit.toNat_lt _ rfl w

/-- a packet, its data beside -/
structure Pk where
  kind : UInt8
  man : Man
  index : Int
  data : List UInt8
deriving DecidableEq
def Pk.ok (p : Pk) : Prop := p.man.ok ∧ 0 ≤ p.index ∧ p.index < 65536
def Pk.list (p : Pk) (A : Option Addr) (c : Nat) : List Value := B8 p.kind :: (p.man.list ++ [.int .u16 p.index, .slice A p.data.length c])
def Pk.cells (p : Pk) (A : Option Addr) (c : Nat) : Array Value := (p.list A c).toArray
theorem Pk.cells_size {p : Pk} (h : p.ok) (A : Option Addr) (c : Nat) : (p.cells A c).size = 38 := by simp [Pk.cells, Pk.list, Man.list_length h.1]
def Pk.bare (p : Pk) : Bool := decide (p.man = Man.zero) && (p.index == 0 && p.data.length == 0)
theorem rangeAt_new (w : World) (cs : Array Value) (t : TypeId) (fr : Nat × Nat) (k : Nat) (l : List Value) (h : ∀ j v, l[j]? = some v → cs[k + j]? = some v) : (w.alloc (.cells cs t fr)).rangeAt w.heap.size k l := by
  intro j v hv
  rw [cell_of_row _ _ _ _ _ fr (heap_alloc_new w _)]
  exact h j v hv
theorem Try.manSize : (Try.prog.info? 25).map (·.size) = some 35 := by kernel_rfl
theorem load_man (w : World) (b o : Nat) (m : Man) (hm : m.ok) (h : w.rangeAt b o m.list) : (Instr.loadAt 25 (.pointer (some ⟨b, o, none⟩))).run Try.prog w = .ok (.agg m.cells) w :=
  run_loadAt_mid w b o _ m.list _ h Try.underlying25 rfl (by rw [Man.list_length hm]; exact Try.manSize)
theorem Pk.man_at (p : Pk) (hp : p.ok) (A : Option Addr) (c : Nat) (j : Nat) (v : Value) (h : p.man.list[j]? = some v) : (p.cells A c)[1 + j]? = some v := by
  have hj : j < p.man.list.length := (List.getElem?_eq_some_iff.1 h).1
  simp only [Pk.cells, Pk.list, List.getElem?_toArray]
  rw [Nat.add_comm, List.getElem?_cons_succ, List.getElem?_append_left hj, h]
theorem part_digest (w : World) (m : Man) (hm : m.ok) : (part 23 m.cells 2).run Try.prog w = .ok (.agg (m.digest.map Extern.Stop.cell).toArray) w := by
  have hi : (Try.prog.info? 23).map (·.size) = some 32 := by kernel_rfl
  cases hq : Try.prog.info? 23 with
  | none => simp [hq] at hi
  | some i =>
    have hs : i.size = 32 := by simpa [hq] using hi
    have hx : m.cells.extract 2 34 = (m.digest.map Extern.Stop.cell).toArray := by
      have := hm.2.2.2.2
      apply Array.ext'
      simp [Man.cells, Man.list, List.drop_append, List.take_append, this]
      intro a _; rfl
    simp [part, isAgg, run_underlying Try.underlying23, sizeOf, typeInfo, hq, hs, hx]
theorem part_int (w : World) (t : TypeId) (k : IntKind) (ht : Try.prog.underlying t = some (.int k)) (M : Array Value) (o : Nat) (h : o < M.size) : (part t M o).run Try.prog w = .ok (M[o]) w := by
  simp [part, isAgg, run_underlying ht, h]
theorem size8 (w : World) : (sizeOf 5).run Try.prog w = .ok 1 w := by
  obtain ⟨i0, hi, hz0, hz1, hz2⟩ := info_parts Try.info8
  simp [sizeOf, typeInfo, hi, hz1]
theorem equal_man (w : World) (m m2 : Man) (hm : m.ok) (hm2 : m2.ok) : (Op.equalIn 10000 25 (.agg m.cells) (.agg m2.cells)).run Try.prog w = .ok (decide (m = m2)) w := by
  rw [run_equalIn_struct w 9999 25 _ _ (by simp only [Program.fieldsOf, Try.underlying25]) (by kernel_rfl)]
  simp only [Program.fieldsOf, Try.underlying25]
  have z := Man.cells_size hm
  have z2 := Man.cells_size hm2
  have s0 := part_int w 22 .u32 Try.underlying22 m.cells 0 (by omega)
  have s1 := part_int w 22 .u32 Try.underlying22 m.cells 1 (by omega)
  have s34 := part_int w 5 .u8 Try.underlying5 m.cells 34 (by omega)
  have t0 := part_int w 22 .u32 Try.underlying22 m2.cells 0 (by omega)
  have t1 := part_int w 22 .u32 Try.underlying22 m2.cells 1 (by omega)
  have t34 := part_int w 5 .u8 Try.underlying5 m2.cells 34 (by omega)
  rw [Man.cells0 hm] at s0
  rw [Man.cells1 hm] at s1
  rw [Man.cells34 hm] at s34
  rw [Man.cells0 hm2] at t0
  rw [Man.cells1 hm2] at t1
  rw [Man.cells34 hm2] at t34
  have E0 : (Op.equalIn 9999 22 (.int .u32 m.number) (.int .u32 m2.number)).run Try.prog w = .ok (m.number == m2.number) w := run_equalIn_int (P := Try.prog) w 9998 22 .u32 .u32 m.number m2.number Try.underlying22
  have E1 : (Op.equalIn 9999 22 (.int .u32 m.size) (.int .u32 m2.size)).run Try.prog w = .ok (m.size == m2.size) w := run_equalIn_int (P := Try.prog) w 9998 22 .u32 .u32 m.size m2.size Try.underlying22
  have E3 : (Op.equalIn 9999 5 (.int .u8 m.limit.toNat) (.int .u8 m2.limit.toNat)).run Try.prog w = .ok ((m.limit.toNat : Int) == (m2.limit.toNat : Int)) w := run_equalIn_int (P := Try.prog) w 9998 5 .u8 .u8 m.limit.toNat m2.limit.toNat Try.underlying5
  have E2 : (Op.equalIn 9999 23 (.agg (m.digest.map Extern.Stop.cell).toArray) (.agg (m2.digest.map Extern.Stop.cell).toArray)).run Try.prog w = .ok (m.digest == m2.digest) w := run_equalIn_bytes (P := Try.prog) w 9997 23 5 32 Try.underlying23 Try.underlying5 size8 m.digest m2.digest hm.2.2.2.2 hm2.2.2.2.2
  have hd : decide (m = m2) = ((m.number == m2.number) && ((m.size == m2.size) && ((m.digest == m2.digest) && ((m.limit.toNat : Int) == (m2.limit.toNat : Int))))) := by
    rw [Bool.eq_iff_iff]
    obtain ⟨a, b, c, d⟩ := m
    obtain ⟨a2, b2, c2, d2⟩ := m2
    simp [← UInt8.toNat_inj]
    omega
  rw [hd]
  generalize 9999 = dd at *
  have n1 : ("Number" ≠ "_") = True := by simp
  have n2 : ("Size" ≠ "_") = True := by simp
  have n3 : ("Digest" ≠ "_") = True := by simp
  have n4 : ("Limit" ≠ "_") = True := by simp
  simp only [Op.eqFields, n1, n2, n3, n4, if_true, Sem.run_bind, s0, s1, s34, t0, t1, t34, part_digest w m hm, part_digest w m2 hm2, Result.andThen_ok, E0, E1, E2, E3]
  have f0 : ∀ (X : Sem Bool) (w' : World), (if (!false) = true then pure false else X).run Try.prog w' = .ok false w' := fun _ _ => rfl
  have f1 : ∀ (X : Sem Bool) (w' : World), (if (!true) = true then pure false else X).run Try.prog w' = X.run Try.prog w' := fun _ _ => rfl
  cases (m.number == m2.number)
  · rw [f0, Bool.false_and]
  · rw [f1, Bool.true_and]
    simp only [Sem.run_bind, s1, t1, Result.andThen_ok, E1]
    cases (m.size == m2.size)
    · rw [f0, Bool.false_and]
    · rw [f1, Bool.true_and]
      rw [Sem.run_bind, part_digest w m hm, Result.andThen_ok, Sem.run_bind, part_digest w m2 hm2, Result.andThen_ok, Sem.run_bind, E2, Result.andThen_ok]
      cases (m.digest == m2.digest)
      · rw [f0, Bool.false_and]
      · rw [f1, Bool.true_and]
        simp only [Sem.run_bind, Result.andThen_ok, s34, t34, E3]
        cases ((m.limit.toNat : Int) == (m2.limit.toNat : Int))
        · rw [f0]
        · rw [f1, Sem.run_pure]
theorem wpList_load_man {ops : Array Oper} {rest : List Oper} {op : Oper} {a : Act} {w : World} {Q : Exit → Act → World → Prop} (hgd : op.guard = none) (x : Operand) (ho : op.op = .load 25 x)
    (b o : Nat) (hx : a.eval x = .pointer (some ⟨b, o, none⟩)) (m : Man) (hm : m.ok) (hc : w.rangeAt b o m.list) (h : wpList Try.prog ops Q rest (a.put op.dst (.agg m.cells)) w) : wpList Try.prog ops Q (op :: rest) a w :=
  wpList_load_mid hgd _ x ho b o hx m.list _ hc Try.underlying25 rfl (by rw [Man.list_length hm]; exact Try.manSize) h
theorem wpList_eq_man {ops : Array Oper} {rest : List Oper} {op : Oper} {a : Act} {w : World} {Q : Exit → Act → World → Prop} (hgd : op.guard = none) (x y : Operand) (ho : op.op = .binOp .eql 25 x y 25)
    (m m2 : Man) (hm : m.ok) (hm2 : m2.ok) (hx : a.eval x = .agg m.cells) (hy : a.eval y = .agg m2.cells) (h : wpList Try.prog ops Q rest (a.put op.dst (.bool (decide (m = m2)))) w) : wpList Try.prog ops Q (op :: rest) a w :=
  wpList_plain hgd fun _ hK => by
    unfold Oper.wp execOp
    have hg := run_eqGuard_agg (P := Try.prog) w .eql 25 x y m.cells m2.cells (by kernel_rfl)
    simp only [ho, hx, hy, Sem.run_bind, Sem.run_pure, Result.andThen_ok, run_eql_struct, equal_man w m m2 hm hm2, hg]
    exact hK _ _ h
theorem Man.zero_ok : Man.zero.ok := by unfold Man.ok Man.zero; simp
theorem Pk.cells36 {p : Pk} (h : p.ok) (A : Option Addr) (c : Nat) : (p.cells A c)[36]'(by rw [Pk.cells_size h]; decide) = .int .u16 p.index := by
  have := Man.list_length h.1
  simp only [Pk.cells, Pk.list, List.getElem_toArray, List.getElem_cons_succ]
  rw [List.getElem_append_right (by omega)]
  simp [this]
theorem Pk.cells37 {p : Pk} (h : p.ok) (A : Option Addr) (c : Nat) : (p.cells A c)[37]'(by rw [Pk.cells_size h]; decide) = .slice A p.data.length c := by
  have := Man.list_length h.1
  simp only [Pk.cells, Pk.list, List.getElem_toArray, List.getElem_cons_succ]
  rw [List.getElem_append_right (by omega)]
  simp [this]
theorem Pk.cells0 {p : Pk} (h : p.ok) (A : Option Addr) (c : Nat) : (p.cells A c)[0]'(by rw [Pk.cells_size h]; decide) = .int .u8 p.kind.toNat := by simp [Pk.cells, Pk.list]
theorem bare_core (M : Array Value) (hM : M.size = 38) (m : Man) (hm : m.ok) (i : Int) (A : Option Addr) (n c : Nat) (hi : M[36]'(by omega) = .int .u16 i) (hd : M[37]'(by omega) = .slice A n c)
    (h1 : ∀ j v, m.list[j]? = some v → M[1 + j]? = some v) (i0 : 0 ≤ i) (i1 : i < 65536) (R : Bool) (HR : Hid (R = (decide (m = Man.zero) && (i == 0 && n == 0)))) (w : World) :
    Calls Try.prog 35 #[.agg M] w fun e w' => e = .returned (.bool R) ∧ Below w.heap.size w w' := by
  have hra := rangeAt_new w M 29 (0, 0) 1 _ h1
  have HE := Lib.hid h1
  clear h1
  go_enter Try.func35, Try.ntmps35
  go_wp2_with (first
    | (refine wpList_load_man rfl (.tmp 3) rfl w.heap.size 1 rfl m hm hra ?_)
    | (refine wpList_eq_man rfl (.tmp 4) (.tmp 5) rfl m Man.zero hm Man.zero_ok rfl rfl ?_))
  all_goals
    go_ret
    refine ⟨bool_ret ?_, (Below.refl _ _).alloc (Nat.le_refl _) _⟩
    rw [HR.out, Bool.eq_iff_iff]
    simp [*]
  try omega
theorem bare_any (p : Pk) (hp : p.ok) (A : Option Addr) (c : Nat) (w : World) :
    Calls Try.prog 35 #[.agg (p.cells A c)] w fun e w' => e = .returned (.bool p.bare) ∧ Below w.heap.size w w' :=
  bare_core (p.cells A c) (Pk.cells_size hp A c) p.man hp.1 p.index A p.data.length c (Pk.cells36 hp A c) (Pk.cells37 hp A c) (Pk.man_at p hp A c) hp.2.1 hp.2.2 _ rfl w
/-- which packets are right -/
def Pk.right (p : Pk) : Bool :=
  if p.kind = 1 then p.man.right && (p.index == 0 && p.data.length == 0)
  else if p.kind = 2 then decide (p.man = Man.zero) && decide (p.index < 64 ∧ 4 ≤ p.data.length ∧ p.data.length ≤ 64 ∧ p.data.length % 4 = 0)
  else decide (p.kind = 3 ∨ p.kind = 4 ∨ p.kind = 5 ∨ p.kind = 6) && p.bare
theorem Try.pktSize : (Try.prog.info? 29).map (·.size) = some 38 := by kernel_rfl
set_option maxHeartbeats 2000000 in
theorem right_core (M : Array Value) (hM : M.size = 38) (k : Int) (m : Man) (hm : m.ok) (i : Int) (A : Option Addr) (n c : Nat) (hk : M[0]'(by omega) = .int .u8 k) (hi : M[36]'(by omega) = .int .u16 i) (hd : M[37]'(by omega) = .slice A n c)
    (h1 : ∀ j v, m.list[j]? = some v → M[1 + j]? = some v) (k0 : 0 ≤ k) (k1 : k < 256) (i0 : 0 ≤ i) (i1 : i < 65536) (Rb Rm R : Bool)
    (c1 : ∀ w : World, Calls Try.prog 34 #[.agg m.cells] w fun e w' => e = .returned (.bool Rm) ∧ Below w.heap.size w w')
    (c2 : ∀ w : World, Calls Try.prog 35 #[.agg M] w fun e w' => e = .returned (.bool Rb) ∧ Below w.heap.size w w')
    (HR : Hid (R = if k = 1 then Rm && (i == 0 && n == 0) else if k = 2 then decide (m = Man.zero) && decide (i < 64 ∧ 4 ≤ n ∧ n ≤ 64 ∧ n % 4 = 0) else decide (k = 3 ∨ k = 4 ∨ k = 5 ∨ k = 6) && Rb)) (w : World) :
    Calls Try.prog 22 #[.agg M] w fun e w' => e = .returned (.bool R) ∧ Below w.heap.size w w' := by
  have hra := rangeAt_new w M 29 (0, 0) 1 _ h1
  have hsz := Try.pktSize
  rw [← hM] at hsz
  have hnew := heap_alloc_new w (.cells M 29)
  have hb0 := (Below.refl w.heap.size w).alloc (Nat.le_refl _) (.cells M 29)
  have HN := Lib.hid hnew
  have HS := Lib.hid hsz
  have HRA := Lib.hid hra
  clear h1 hnew hsz hra
  rcases (show k = 1 ∨ k = 2 ∨ k = 3 ∨ k = 4 ∨ k = 5 ∨ k = 6 ∨ ((k == 1) = false ∧ (k == 2) = false ∧ (k == 3) = false ∧ (k == 4) = false ∧ (k == 5) = false ∧ (k == 6) = false) by
    simp only [beq_eq_false_iff_ne]; omega) with rfl | rfl | rfl | rfl | rfl | rfl | ⟨b1, b2, b3, b4, b5, b6⟩
  · have hc36 : Hid ((w.alloc (.cells M 29)).cell? ⟨w.heap.size, 36, none⟩ = some (.int .u16 i)) := by
      unfold Hid
      rw [cell_of_row _ _ _ _ _ _ HN.out, Array.getElem?_eq_getElem (by omega), hi]
    go_enter Try.func22, Try.ntmps22
    go_wp2_with (first
      | (refine wpList_load_man rfl (.tmp 19) rfl w.heap.size 1 rfl m hm HRA.out ?_)
      | (go_at_call 34; refine (c1 _).mono ?_; rintro _ w1 ⟨rfl, q1⟩; have hcc := (q1.cell (p := ⟨w.heap.size, 36, none⟩) (show w.heap.size < (w.heap.push _).size by simp)).trans hc36.out))
    all_goals
      go_ret
      refine ⟨bool_ret ?_, bcall hb0 q1⟩
      rw [HR.out, Bool.eq_iff_iff]
      simp [*]
    try omega
  · go_enter Try.func22, Try.ntmps22
    go_wp2_with (first
      | (refine wpList_load_man rfl (.tmp 31) rfl w.heap.size 1 rfl m hm HRA.out ?_)
      | (refine wpList_eq_man rfl (.tmp 32) (.tmp 33) rfl m Man.zero hm Man.zero_ok rfl rfl ?_))
    all_goals
      go_ret
      refine ⟨bool_ret ?_, hb0⟩
      rw [HR.out, Bool.eq_iff_iff]
      simp [*]
    all_goals try omega
  · go_enter Try.func22, Try.ntmps22
    go_wp2_with (first
      | (refine wpList_load_row rfl 29 (.tmp 1) rfl w.heap.size rfl 29 M (0, 0) _ HN.out Try.underlying29 rfl HS.out ?_)
      | (go_at_call 35; refine (c2 _).mono ?_; rintro _ w1 ⟨rfl, q1⟩))
    go_ret
    exact ⟨bool_ret (by rw [HR.out]; simp), bcall hb0 q1⟩
  · go_enter Try.func22, Try.ntmps22
    go_wp2_with (first
      | (refine wpList_load_row rfl 29 (.tmp 1) rfl w.heap.size rfl 29 M (0, 0) _ HN.out Try.underlying29 rfl HS.out ?_)
      | (go_at_call 35; refine (c2 _).mono ?_; rintro _ w1 ⟨rfl, q1⟩))
    go_ret
    exact ⟨bool_ret (by rw [HR.out]; simp), bcall hb0 q1⟩
  · go_enter Try.func22, Try.ntmps22
    go_wp2_with (first
      | (refine wpList_load_row rfl 29 (.tmp 1) rfl w.heap.size rfl 29 M (0, 0) _ HN.out Try.underlying29 rfl HS.out ?_)
      | (go_at_call 35; refine (c2 _).mono ?_; rintro _ w1 ⟨rfl, q1⟩))
    go_ret
    exact ⟨bool_ret (by rw [HR.out]; simp), bcall hb0 q1⟩
  · go_enter Try.func22, Try.ntmps22
    go_wp2_with (first
      | (refine wpList_load_row rfl 29 (.tmp 1) rfl w.heap.size rfl 29 M (0, 0) _ HN.out Try.underlying29 rfl HS.out ?_)
      | (go_at_call 35; refine (c2 _).mono ?_; rintro _ w1 ⟨rfl, q1⟩))
    go_ret
    exact ⟨bool_ret (by rw [HR.out]; simp), bcall hb0 q1⟩
  · go_enter Try.func22, Try.ntmps22
    go_wp2_with fail
    go_ret
    refine ⟨bool_ret ?_, hb0⟩
    simp only [beq_eq_false_iff_ne] at b1 b2 b3 b4 b5 b6
    rw [HR.out, if_neg b1, if_neg b2]
    simp [*]
theorem right_any (p : Pk) (hp : p.ok) (A : Option Addr) (c : Nat) (w : World) :
    Calls Try.prog 22 #[.agg (p.cells A c)] w fun e w' => e = .returned (.bool p.right) ∧ Below w.heap.size w w' := by
  refine right_core (p.cells A c) (Pk.cells_size hp A c) p.kind.toNat p.man hp.1 p.index A p.data.length c (Pk.cells0 hp A c) (Pk.cells36 hp A c) (Pk.cells37 hp A c) (Pk.man_at p hp A c)
    (by omega) (by have := p.kind.toNat_lt; omega) hp.2.1 hp.2.2 p.bare p.man.right _ (fun w => slotRight_any p.man hp.1 w) (fun w => bare_any p hp A c w) ?_ w
  unfold Hid Pk.right
  have e : ∀ k : UInt8, (p.kind = k) = ((p.kind.toNat : Int) = (k.toNat : Int)) := fun k => by rw [← UInt8.toNat_inj]; exact propext (by omega)
  simp only [e]
  rfl
end Go.Proofs.Ytjpglpdfopeegaa.Mine
