/- Rows of cells of whatever type that a call has made itself: what is known of them, append, make, stores. No condition but those of each theorem. -/
import Derived.Test.YtjpglpdfopeegaaBase
namespace Go.Proofs.Ytjpglpdfopeegaa.Mine
open Go.RowKit
set_option linter.unusedVariables false

/-- From address A on lie these values. -/
def CellsAt (w : World) (A : Option Addr) (cs : List Value) : Prop :=
  ∀ j (h : j < cs.length), ∃ b off, A = some ⟨b, off, none⟩ ∧ w.cell? ⟨b, off + j, none⟩ = some cs[j]
theorem CellsAt.nil (w : World) (A : Option Addr) : CellsAt w A [] := fun j h => absurd h (Nat.not_lt_zero j)
theorem CellsAt.at {w : World} {A : Option Addr} {cs : List Value} (h : CellsAt w A cs) (hn : 0 < cs.length) :
    ∃ b off, A = some ⟨b, off, none⟩ ∧ b < w.heap.size ∧ ∀ j (h : j < cs.length), w.cell? ⟨b, off + j, none⟩ = some cs[j] := by
  obtain ⟨b, off, e, hc0⟩ := h 0 hn
  refine ⟨b, off, e, block_lt_of_cell (a := ⟨b, off + 0, none⟩) hc0, fun j hj => ?_⟩
  obtain ⟨b', off', e', hc⟩ := h j hj
  rw [e] at e'; cases e'; exact hc
theorem CellsAt.kept {w w' : World} {A : Option Addr} {cs : List Value} (h : CellsAt w A cs) (hb : Below w.heap.size w w') : CellsAt w' A cs := by
  intro j hj
  obtain ⟨b, off, e, hc⟩ := h j hj
  exact ⟨b, off, e, (hb.cell (p := ⟨b, off + j, none⟩) (block_lt_of_cell hc)).trans hc⟩
theorem CellsAt.new (w : World) (cs : List Value) (a : Array Value) (T : TypeId) (fr : Nat × Nat) (h : a = cs.toArray) : CellsAt (w.alloc (.cells a T fr)) (some ⟨w.heap.size, 0, none⟩) cs := by
  subst h
  intro j hj
  refine ⟨w.heap.size, 0, rfl, ?_⟩
  rw [Nat.zero_add, cell_of_row _ _ _ _ _ fr (heap_alloc_new w _)]
  simp [hj]
theorem Byt.cells {w : World} {A : Option Addr} {bs : List UInt8} (h : Byt w A bs) : CellsAt w A (bs.map B8) := by
  intro j hj
  obtain ⟨b, off, e, hc⟩ := h j (by simpa using hj)
  exact ⟨b, off, e, by rw [hc, List.getElem_map]⟩

/-- The slice value v is a row of the call's own, from block B on, and holds just cs. -/
def RowV (T : TypeId) (w : World) (B : Nat) (v : Value) (cs : List Value) : Prop := w.ownsRow B T 1 v cs.length cs
theorem Row.rowV {w : World} {B : Nat} {v : Value} {bs : List UInt8} (h : Row w B v bs) : RowV 5 w B v (bs.map B8) := by
  unfold RowV; rw [List.length_map]; exact h
theorem RowV.row {w : World} {B : Nat} {v : Value} {bs : List UInt8} (h : RowV 5 w B v (bs.map B8)) : Row w B v bs := by
  unfold RowV at h; rw [List.length_map] at h; exact h
section
variable {T : TypeId} {w w' : World} {B : Nat} {v : Value} {cs : List Value}
theorem RowV.nil (T : TypeId) (w : World) (B : Nat) : RowV T w B (.slice none 0 0) [] := World.ownsRow_nil w B T 1
theorem RowV.form (h : RowV T w B v cs) : ∃ A c, v = .slice A cs.length c ∧ CellsAt w A cs ∧ cs.length ≤ c := by
  obtain ⟨_, h2⟩ := h
  rcases h2 with ⟨rfl, h0⟩ | ⟨g, cap, cur, rfl, hB, hg, hn, hm, hs, ht⟩
  · have : cs = [] := List.eq_nil_of_length_eq_zero h0
    subst this
    exact ⟨none, 0, rfl, CellsAt.nil _ _, Nat.le_refl _⟩
  · refine ⟨_, cap, rfl, fun j hj => ⟨g, 0, rfl, ?_⟩, hn⟩
    rw [Nat.zero_add, cell_of_row w g j cur _ _ hg]
    have hl := congrArg (fun l => l[j]?) ht
    simp only [Nat.mul_one, List.getElem?_take, hj, if_true, List.getElem?_eq_getElem] at hl
    rw [← hl, Array.getElem?_toList]
theorem RowV.grown {row : Option Nat} (h : RowV T w B v cs) (hg : w.grownBy w' row) (hne : v.ownBlock = none ∨ v.ownBlock ≠ row) : RowV T w' B v cs := World.ownsRow.kept h hg hne
theorem RowV.below (h : RowV T w B v cs) (hb : Below w.heap.size w w') : RowV T w' B v cs := h.grown (grown_of_below hb) (by cases hv : v.ownBlock <;> simp)
theorem RowV.alloc (h : RowV T w B v cs) (o : Obj) : RowV T (w.alloc o) B v cs := h.below ((Below.refl _ _).alloc (Nat.le_refl _) o)
theorem RowV.lower {B' : Nat} (h : RowV T w B v cs) (hB : B' ≤ B) : RowV T w B' v cs := by
  obtain ⟨h1, h2⟩ := h
  refine ⟨h1, ?_⟩
  rcases h2 with h2 | ⟨g, cap, cur, hv, hg, r⟩
  · exact Or.inl h2
  · exact Or.inr ⟨g, cap, cur, hv, Nat.le_trans hB hg, r⟩
theorem RowV.base (h : RowV T w B v cs) {k : Nat} (hk : v.ownBlock = some k) : B ≤ k ∧ k < w.heap.size := World.ownsRow.lt h k hk
theorem RowV.head {n c : Nat} {A : Option Addr} (h : RowV T w B (.slice A n c) cs) (hn : 0 < cs.length) : ∃ g, A = some ⟨g, 0, none⟩ ∧ n = cs.length ∧ n ≤ c := by
  rcases h.2 with ⟨_, h0⟩ | ⟨g, cap, cur, hv, _, _, h3, _⟩
  · omega
  · cases hv; exact ⟨g, rfl, rfl, h3⟩
theorem RowV.cell {g n c : Nat} (h : RowV T w B (.slice (some ⟨g, 0, none⟩) n c) cs) (k : Nat) (hk : k < cs.length) : w.cell? ⟨g, k, none⟩ = some cs[k] := by
  obtain ⟨A, c', e, hb, _⟩ := h.form
  cases e
  obtain ⟨b, off, e, hc⟩ := hb k hk
  cases e
  rwa [Nat.zero_add] at hc
theorem RowV.free {g n c : Nat} (h : RowV T w B (.slice (some ⟨g, 0, none⟩) n c) cs) (k : Nat) : w.frozen? ⟨g, k, none⟩ = false := by
  obtain ⟨A, c', e, _, _⟩ := h.form
  cases e
  exact World.ownsRow.frozenAt h k
theorem RowV.set {g n c : Nat} (h : RowV T w B (.slice (some ⟨g, 0, none⟩) n c) cs) (k : Nat) (x : Value) : RowV T (w.setCell ⟨g, k, none⟩ x) B (.slice (some ⟨g, 0, none⟩) n c) (cs.set k x) := by
  obtain ⟨A, c', e, _, _⟩ := h.form
  cases e
  have := (World.ownsRow.stored h k x).1
  unfold RowV
  rw [List.length_set]
  exact this
end

/-- 'append(v, x...)' where v is a row of the call's own and x are values from anywhere. -/
theorem run_append_row {P : Program} (S T : TypeId) (z : Value) (bytes : Nat) (hS : P.underlying S = some (.slice T)) (hI : (P.info? T).map (fun i => (i.zero, i.size, i.bytes)) = some (some z, 1, bytes)) (hz1 : z.cells.size = 1)
    (w : World) (B : Nat) (v : Value) (xs : List Value) (A : Option Addr) (c : Nat) (ys : List Value) (ty : TypeId) (hown : RowV T w B v xs) (hs : CellsAt w A ys) (h1 : ∀ u ∈ ys, u.oneCell' = true)
    (hlen : (xs.length + ys.length) * bytes ≤ 140737488355328) (h63 : xs.length + ys.length ≤ 140737488355328) (hB : B ≤ w.heap.size) :
    ∃ v' w', (Builtin.append_ #[S, S] ty #[v, .slice A ys.length c]).run P w = .ok v' w' ∧ RowV T w' B v' (xs ++ ys) ∧ w.grownBy w' v.ownBlock ∧ (v'.ownBlock = v.ownBlock ∨ v'.ownBlock = some w.heap.size) := by
  obtain ⟨i0, hi, hz0, hzs, hzb⟩ := info_parts hI
  by_cases h0 : ys.length = 0 ∧ A = none
  · obtain ⟨h0, rfl⟩ := h0
    have : ys = [] := List.eq_nil_of_length_eq_zero h0
    subst this
    refine ⟨v, w, ?_, by simpa using hown, World.grownBy.refl w _, .inl rfl⟩
    rcases hown.2 with ⟨rfl, hn⟩ | ⟨g, cap, cur, rfl, _, _, hnc, _⟩
    · simp [Builtin.append_, run_underlying hS, sizeOf, typeInfo, hi, Builtin.lenOf, Builtin.firstCells]
    · simp [Builtin.append_, run_underlying hS, sizeOf, typeInfo, hi, Builtin.lenOf, Builtin.firstCells, hnc, storeCells]
  · obtain ⟨ad, rfl, hcells⟩ : ∃ ad, A = some ad ∧ ∀ j u, ys[j]? = some u → w.cell? (ad.add j) = some u := by
      rcases A with _ | ad
      · exfalso
        rcases Nat.eq_zero_or_pos ys.length with h | h
        · exact h0 ⟨h, rfl⟩
        · obtain ⟨_, _, e, _⟩ := hs 0 h
          cases e
      · refine ⟨ad, rfl, fun j u hu => ?_⟩
        obtain ⟨hj, rfl⟩ := List.getElem?_eq_some_iff.1 hu
        obtain ⟨b, off, e, hc⟩ := hs j hj
        cases e
        rw [Addr.add_mid, hc]
    obtain ⟨v', w', hr, h2, h3, _, h5⟩ := run_append_own_at (P := P) w B S ty T i0 z 1 bytes hS hi hz0 hzs hzb hz1 (by decide) v xs.length xs hown ad ys.length c ys
      (by simp) hcells h1 (by unfold maxLen; omega) hlen hB
    refine ⟨v', w', hr, ?_, h3, h5⟩
    unfold RowV
    rw [List.length_append]
    exact h2
theorem wpList_append_row {P : Program} {ops : Array Oper} {rest : List Oper} {o : Oper} {a : Act} {w : World} {Q : Exit → Act → World → Prop} (hgd : o.guard = none) (s x : Operand) (S T : TypeId)
    (ho : o.op = .call { callee := .builtin .append, args := #[s, x], argTypes := #[S, S] })
    (z : Value) (bytes : Nat) (hS : P.underlying S = some (.slice T)) (hI : (P.info? T).map (fun i => (i.zero, i.size, i.bytes)) = some (some z, 1, bytes)) (hz1 : z.cells.size = 1)
    (B : Nat) (v : Value) (xs : List Value) (hv : a.eval s = v) (hown : RowV T w B v xs) (A : Option Addr) (n c : Nat) (ys : List Value) (hn : ys.length = n) (hx : a.eval x = .slice A n c) (hs : CellsAt w A ys) (h1 : ∀ u ∈ ys, u.oneCell' = true)
    (hlen : (xs.length + ys.length) * bytes ≤ 140737488355328) (h63 : xs.length + ys.length ≤ 140737488355328) (hB : B ≤ w.heap.size)
    (h : ∀ v' w', RowV T w' B v' (xs ++ ys) → w.grownBy w' v.ownBlock → (v'.ownBlock = v.ownBlock ∨ v'.ownBlock = some w.heap.size) → wpList P ops Q rest (a.put o.dst v') w') : wpList P ops Q (o :: rest) a w :=
  wpList_plain hgd fun _ hK => by
    subst hn
    obtain ⟨v', w', hr, h2, h3, h4⟩ := run_append_row S T z bytes hS hI hz1 w B v xs A c ys o.type hown hs h1 hlen h63 hB
    unfold Oper.wp execOp
    simp only [ho, resolve, invoke, builtin, Sem.run_bind, Sem.run_pure, Result.andThen_ok, List.map_toArray, List.map_cons, List.map_nil, hv, hx, hr]
    exact hK _ _ (h v' w' h2 h3 h4)
/-- What an append to a row of the call's own does to all that is older. -/
theorem grown_below {w0 w w' : World} {B : Nat} {v : Value} {T : TypeId} {xs : List Value} (h : Below w0.heap.size w0 w) (hr : RowV T w B v xs) (hB : w0.heap.size ≤ B) (hg : w.grownBy w' v.ownBlock) : Below w0.heap.size w0 w' :=
  h.grown hg h.size fun k hk => Nat.le_trans hB (hr.base hk).1
end Go.Proofs.Ytjpglpdfopeegaa.Mine
