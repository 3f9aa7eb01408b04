/- What the statements' own functions same and refused compute, by walks over their code. Conditions: those of each theorem. -/
import Derived.Test.YtjpglpdfopeegaaPktPure
namespace Go.Proofs.Ytjpglpdfopeegaa.Mine
open Go.RowKit
set_option linter.unusedVariables false
set_option linter.unusedSimpArgs false

theorem Pk.get0 (p : Pk) (Ad : Option Addr) (cd : Nat) : (p.cells Ad cd)[0]? = some (.int .u8 p.kind.toNat) := by simp [Pk.cells, Pk.list]
theorem refused_any (p : Pk) (hp : p.ok) (A : Option Addr) (c : Nat) (hr : p.right = false) (w : World) :
    Calls Try.prog 21 #[.agg (p.cells A c)] w fun e w' => e = .returned (.bool true) ∧ Below w.heap.size w w' := by
  have hsz := Pk.size_eq hp A c
  have c1 := fun w : World => enc_no p hp A c hr w
  generalize p.cells A c = M at *
  have HS := Lib.hid hsz
  have hnew := heap_alloc_new w (.cells M 29)
  have HN := Lib.hid hnew
  clear hsz hnew
  go_enter Try.func21, Try.ntmps21
  go_wp2_with (first
    | (refine wpList_load_row rfl 29 (.tmp 1) rfl w.heap.size rfl 29 M (0, 0) _ HN.out Try.underlying29 rfl HS.out ?_)
    | (go_at_call 9; (with_reducible refine (c1 _).mono ?_); rintro _ w1 ⟨v, rfl, hr1, q1⟩; obtain ⟨A1, ca1, rfl, hb1, hca1⟩ := hr1.form; simp only [List.length_nil] at *))
  go_ret
  exact ⟨rfl, bcall (balloc _ _) q1⟩
theorem wpList_load_man_g {ops : Array Oper} {rest : List Oper} {op : Oper} {a : Act} {w : World} {Q : Exit → Act → World → Prop} (hw : Region.wanted op (yielded ops a.tmps) = true) (x : Operand) (ho : op.op = .load 25 x)
    (b o : Nat) (hx : a.eval x = .pointer (some ⟨b, o, none⟩)) (m : Man) (hm : m.ok) (hc : w.rangeAt b o m.list) (h : wpList Try.prog ops Q rest (a.put op.dst (.agg m.cells)) w) : wpList Try.prog ops Q (op :: rest) a w :=
  BigFrame.wpList_want hw fun _ hK => wp_load_mid _ x ho b o hx m.list _ hc Try.underlying25 rfl (by rw [Man.list_length hm]; exact Try.manSize) (hK _ _ h)
theorem wpList_eq_man_g {ops : Array Oper} {rest : List Oper} {op : Oper} {a : Act} {w : World} {Q : Exit → Act → World → Prop} (hw : Region.wanted op (yielded ops a.tmps) = true) (x y : Operand) (ho : op.op = .binOp .eql 25 x y 25)
    (m m2 : Man) (hm : m.ok) (hm2 : m2.ok) (hx : a.eval x = .agg m.cells) (hy : a.eval y = .agg m2.cells) (h : wpList Try.prog ops Q rest (a.put op.dst (.bool (decide (m = m2)))) w) : wpList Try.prog ops Q (op :: rest) a w :=
  BigFrame.wpList_want hw fun _ hK => by
    unfold Oper.wp execOp
    have hg := run_eqGuard_agg (P := Try.prog) w .eql 25 x y m.cells m2.cells (by kernel_rfl)
    simp only [ho, hx, hy, Sem.run_bind, Sem.run_pure, Result.andThen_ok, run_eql_struct, equal_man w m m2 hm hm2, hg]
    exact hK _ _ h
theorem pk_eq (p q : Pk) : decide (p = q) = (decide (p.kind.toNat = q.kind.toNat) && (decide (p.man = q.man) && (decide (p.index = q.index) && (p.data == q.data)))) := by
  obtain ⟨a, b, c, d⟩ := p
  obtain ⟨a2, b2, c2, d2⟩ := q
  rw [Bool.eq_iff_iff]
  simp [← UInt8.toNat_inj]
set_option maxHeartbeats 1000000 in
theorem same_any (p q : Pk) (hp : p.ok) (hq : q.ok) (A : Option Addr) (c : Nat) (A' : Option Addr) (c' : Nat) (w : World) (hB : Byt w A p.data) (hB' : Byt w A' q.data) :
    Calls Try.prog 19 #[.agg (p.cells A c), .agg (q.cells A' c')] w fun e w' => e = .returned (.bool (decide (p = q))) ∧ Below w.heap.size w w' := by
  have hb2 : Below w.heap.size w ((w.alloc (.cells (p.cells A c) 29)).alloc (.cells (q.cells A' c') 29)) := (balloc _ _).alloc (Nat.le_of_lt (size_lt_alloc _ _)) _
  have h0 := (Below.heap_alloc (w.alloc (.cells (p.cells A c) 29)) (.cells (q.cells A' c') 29) w.heap.size (size_lt_alloc _ _)).trans (heap_alloc_new w _)
  have h1 := heap_alloc_new (w.alloc (.cells (p.cells A c) 29)) (.cells (q.cells A' c') 29)
  rw [show (w.alloc (.cells (p.cells A c) 29)).heap.size = w.heap.size + 1 by simp] at h1
  have ic := fun W (h : Byt W A p.data) (h' : Byt W A' q.data) => is_any A c p.data A' c' q.data W h h'
  have hBB := Lib.hid (show Byt _ A p.data ∧ Byt _ A' q.data from ⟨hB.kept hb2, hB'.kept hb2⟩)
  have hm : w.rangeAt w.heap.size 1 [] → True := fun _ => trivial
  have HR0 : Hid (((w.alloc (.cells (p.cells A c) 29)).alloc (.cells (q.cells A' c') 29)).rangeAt w.heap.size 1 p.man.list) := by
    intro j v hv
    rw [cell_of_row _ _ _ _ _ _ h0]
    exact Pk.man_at p hp A c j v hv
  have HR1 : Hid (((w.alloc (.cells (p.cells A c) 29)).alloc (.cells (q.cells A' c') 29)).rangeAt (w.heap.size + 1) 1 q.man.list) := by
    intro j v hv
    rw [cell_of_row _ _ _ _ _ _ h1]
    exact Pk.man_at q hq A' c' j v hv
  have a0 := cell_of_row _ _ 0 _ _ _ h0
  have a36 := cell_of_row _ _ 36 _ _ _ h0
  have a37 := cell_of_row _ _ 37 _ _ _ h0
  have b0 := cell_of_row _ _ 0 _ _ _ h1
  have b36 := cell_of_row _ _ 36 _ _ _ h1
  have b37 := cell_of_row _ _ 37 _ _ _ h1
  rw [Pk.get0] at a0 b0
  rw [Pk.get36 hp] at a36
  rw [Pk.get36 hq] at b36
  rw [Pk.get37 hp] at a37
  rw [Pk.get37 hq] at b37
  have HE := Lib.hid (pk_eq p q)
  have hpm := hp.1
  have hqm := hq.1
  clear h0 h1 hm hB hB'
  generalize p.cells A c = M at *
  generalize q.cells A' c' = M' at *
  generalize decide (p = q) = R at *
  generalize (p.data == q.data) = D at *
  generalize p.data = pd at *
  generalize q.data = qd at *
  generalize p.man = pm at *
  generalize q.man = qm at *
  generalize p.index = pi at *
  generalize q.index = qi at *
  generalize p.kind.toNat = pk at *
  generalize q.kind.toNat = qk at *
  have HA := Lib.hid (show _ ∧ _ ∧ _ ∧ _ ∧ _ ∧ _ from ⟨a0, a36, a37, b0, b36, b37⟩)
  have HE2 := HE.out
  clear HE HA
  have R0 : pk ≠ qk → R = false := fun h => by rw [HE2]; simp [h]
  have R1 : pk = qk → pm ≠ qm → R = false := fun h h1 => by rw [HE2]; simp [h, h1]
  have R2 : pk = qk → pm = qm → pi ≠ qi → R = false := fun h h1 h2 => by rw [HE2]; simp [h, h1, h2]
  have R3 : pk = qk → pm = qm → pi = qi → R = D := fun h h1 h2 => by rw [HE2]; simp [h, h1, h2]
  clear HE2
  by_cases h0 : pk = qk
  · have f0 : ((pk : Int) == (qk : Int)) = true := by rw [beq_iff_eq]; omega
    by_cases h1 : pm = qm
    · have e1 : decide (pm = qm) = true := decide_eq_true h1
      by_cases h2 : pi = qi
      · have f2 : (pi == qi) = true := by rw [beq_iff_eq]; exact h2
        have HR := R3 h0 h1 h2
        clear R0 R1 R2 R3 h0 h1 h2
        go_enter Try.func19, Try.ntmps19
        go_wp2_with (first
          | (refine wpList_load_man_g rfl (.tmp 11) rfl w.heap.size 1 rfl pm hpm HR0.out ?_)
          | (refine wpList_load_man_g rfl (.tmp 13) rfl (w.heap.size + 1) 1 rfl qm hqm HR1.out ?_)
          | (refine wpList_eq_man_g rfl (.tmp 12) (.tmp 14) rfl pm qm hpm hqm rfl rfl ?_; rw [e1])
          | (go_at_call 12; (with_reducible refine (ic _ hBB.out.1 hBB.out.2).mono ?_); rintro _ _ ⟨rfl, rfl⟩))
        go_ret
        refine ⟨bool_ret ?_, hb2⟩
        rw [HR]
      · have f2 : (pi == qi) = false := by rw [beq_eq_false_iff_ne]; exact h2
        have HR := R2 h0 h1 h2
        clear R0 R1 R2 R3 h0 h1 h2
        go_enter Try.func19, Try.ntmps19
        go_wp2_with (first
          | (refine wpList_load_man_g rfl (.tmp 11) rfl w.heap.size 1 rfl pm hpm HR0.out ?_)
          | (refine wpList_load_man_g rfl (.tmp 13) rfl (w.heap.size + 1) 1 rfl qm hqm HR1.out ?_)
          | (refine wpList_eq_man_g rfl (.tmp 12) (.tmp 14) rfl pm qm hpm hqm rfl rfl ?_; rw [e1])
          | (go_at_call 12; (with_reducible refine (ic _ hBB.out.1 hBB.out.2).mono ?_); rintro _ _ ⟨rfl, rfl⟩))
        go_ret
        refine ⟨bool_ret ?_, hb2⟩
        rw [HR]
    · have e1 : decide (pm = qm) = false := decide_eq_false h1
      have HR := R1 h0 h1
      clear R0 R1 R2 R3 h0 h1
      go_enter Try.func19, Try.ntmps19
      go_wp2_with (first
        | (refine wpList_load_man_g rfl (.tmp 11) rfl w.heap.size 1 rfl pm hpm HR0.out ?_)
        | (refine wpList_load_man_g rfl (.tmp 13) rfl (w.heap.size + 1) 1 rfl qm hqm HR1.out ?_)
        | (refine wpList_eq_man_g rfl (.tmp 12) (.tmp 14) rfl pm qm hpm hqm rfl rfl ?_; rw [e1])
        | (go_at_call 12; (with_reducible refine (ic _ hBB.out.1 hBB.out.2).mono ?_); rintro _ _ ⟨rfl, rfl⟩))
      go_ret
      refine ⟨bool_ret ?_, hb2⟩
      rw [HR]
  · have f0 : ((pk : Int) == (qk : Int)) = false := by rw [beq_eq_false_iff_ne]; omega
    have HR := R0 h0
    clear R0 R1 R2 R3 h0
    have e1 : True := trivial
    go_enter Try.func19, Try.ntmps19
    go_wp2_with (first
      | (refine wpList_load_man_g rfl (.tmp 11) rfl w.heap.size 1 rfl pm hpm HR0.out ?_)
      | (refine wpList_load_man_g rfl (.tmp 13) rfl (w.heap.size + 1) 1 rfl qm hqm HR1.out ?_)
      | (refine wpList_eq_man_g rfl (.tmp 12) (.tmp 14) rfl pm qm hpm hqm rfl rfl ?_; rw [e1])
      | (go_at_call 12; (with_reducible refine (ic _ hBB.out.1 hBB.out.2).mono ?_); rintro _ _ ⟨rfl, rfl⟩))
    go_ret
    refine ⟨bool_ret ?_, hb2⟩
    rw [HR]
end Go.Proofs.Ytjpglpdfopeegaa.Mine
