/- What packet.Decode computes, by a walk over its code. Conditions: those of each theorem. -/
import Derived.Test.YtjpglpdfopeegaaPktDecA
namespace Go.Proofs.Ytjpglpdfopeegaa.Mine
open Go.RowKit
set_option linter.unusedVariables false
set_option linter.unusedSimpArgs false

def Pk.zero : Pk := ⟨0, Man.zero, 0, []⟩
def Pk.of (k : UInt8) : Pk := ⟨k, Man.zero, 0, []⟩
theorem Pk.zero_ok : Pk.zero.ok := ⟨Man.zero_ok, by decide, by decide⟩
theorem Pk.of_ok (k : UInt8) : (Pk.of k).ok := ⟨Man.zero_ok, Int.le_refl 0, (by decide : (0 : Int) < 65536)⟩
/-- what Decode reads, whatever the bytes are -/
def Pk.raw (bs : List UInt8) : Pk :=
  let b := bs.take (bs.length - 4)
  let k := UInt8.ofNat (numB (b.take 1))
  if k = 1 then
    ⟨1, ⟨numB ((b.drop 1).take 4), numB (((b.drop 1).drop 4).take 4), (((b.drop 1).drop 4).drop 4).take 32 ++ List.replicate (32 - ((((b.drop 1).drop 4).drop 4).take 32).length) 0, UInt8.ofNat (numB (((((b.drop 1).drop 4).drop 4).drop 32).take 1))⟩, 0, []⟩
  else if k = 2 then ⟨2, Man.zero, numB ((b.drop 1).take 2), ((b.drop 1).drop 2).take 64⟩
  else Pk.of k
def Pk.dec (bs : List UInt8) : Pk × Int := if (Pk.raw bs).enc.2 = 0 ∧ (Pk.raw bs).enc.1 = bs then (Pk.raw bs, 0) else (Pk.zero, 220)
/-- what is known inside Decode: the packet that is filled lies at block g; the reader has bs -/
def St (w : World) (Z : Array Value) (g : Nat) (M : Array Value) (A : Option Addr) (c : Nat) (bs : List UInt8) (W : World) : Prop :=
  W.heap[w.heap.size]? = some (.cells Z 29 (0, 0)) ∧ W.heap[g]? = some (.cells M 29 (0, 0)) ∧ w.heap.size + 1 < g ∧ Below w.heap.size w W ∧ Rd W (w.heap.size + 1) A c bs
theorem heap_lt {W : World} {g : Nat} {o : Obj} (h : W.heap[g]? = some o) : g < W.heap.size := (Array.getElem?_eq_some_iff.1 h).1
section
variable {w W W' : World} {g : Nat} {Z M M' : Array Value} {A : Option Addr} {c : Nat} {bs : List UInt8}
theorem St.below (h : St w Z g M A c bs W) (hb : Below W.heap.size W W') : St w Z g M A c bs W' := by
  obtain ⟨h1, h2, h3, h4, h5⟩ := h
  exact ⟨(hb.block _ (heap_lt h1)).trans h1, (hb.block _ (heap_lt h2)).trans h2, h3, bcall h4 hb, h5.kept hb⟩
theorem St.read {V : Value} {A' : Option Addr} {c' : Nat} {bs' : List UInt8} (h : St w Z g M A c bs W) (hw : W' = W.setCell ⟨w.heap.size + 1, 0, none⟩ V) (hr : Rd W' (w.heap.size + 1) A' c' bs') : St w Z g M A' c' bs' W' := by
  subst hw
  obtain ⟨h1, h2, h3, h4, h5⟩ := h
  exact ⟨(Below.heap_setCell _ _ _ _ (by simp)).trans h1, (Below.heap_setCell _ _ _ _ (by simp; omega)).trans h2, h3, h4.setCell (by simp) _, hr⟩
theorem St.store (h : St w Z g M A c bs W) (i : Nat) (v : Value) (hp : M.setIfInBounds i v = M') : St w Z g M' A c bs (W.setCell ⟨g, i, none⟩ v) := by
  obtain ⟨h1, h2, h3, h4, h5⟩ := h
  refine ⟨(Below.heap_setCell _ _ _ _ (by simp; omega)).trans h1, ?_, h3, h4.setCell (by simp; omega) _, ?_⟩
  · rw [← hp]; exact heap_setCell_same W g i _ _ v h2
  · exact ⟨(cell_set_far h5.1 (by simp; omega)), (World.frozen?_setCell _ _ _ _).trans h5.2.1, h5.2.2.1, h5.2.2.2.1, fun j hj => by
      obtain ⟨b, off, e, hc⟩ := h5.2.2.2.2.1 j hj
      exact ⟨b, off, e, cell_set_far hc (by have := h5.2.2.2.2.2 (fun e => by rw [e] at hj; simp at hj) _ e; simp at this ⊢; omega)⟩, h5.2.2.2.2.2⟩
theorem St.cell (h : St w Z g M A c bs W) (i : Nat) : W.cell? ⟨g, i, none⟩ = M[i]? ∧ W.frozen? ⟨g, i, none⟩ = false :=
  ⟨cell_of_row _ _ _ _ _ _ h.2.1, frozen_of_row _ _ _ _ _ h.2.1⟩
end
theorem Pk.set_index (p : Pk) (hp : p.ok) (Ad : Option Addr) (cd : Nat) (n : Int) : (p.cells Ad cd).setIfInBounds 36 (.int .u16 n) = Pk.cells { p with index := n } Ad cd := by
  have := Man.list_length hp.1
  apply Array.ext'
  simp [Pk.cells, Pk.list, List.set_append, this]
theorem Pk.set_data (p : Pk) (hp : p.ok) (Ad : Option Addr) (cd : Nat) (d : List UInt8) (Ad' : Option Addr) (cd' : Nat) : (p.cells Ad cd).setIfInBounds 37 (.slice Ad' d.length cd') = Pk.cells { p with data := d } Ad' cd' := by
  have := Man.list_length hp.1
  apply Array.ext'
  simp [Pk.cells, Pk.list, List.set_append, this]
theorem Pk.set_number (p : Pk) (Ad : Option Addr) (cd : Nat) (n : Int) : (p.cells Ad cd).setIfInBounds 1 (.int .u32 n) = Pk.cells { p with man := { p.man with number := n } } Ad cd := by
  apply Array.ext'
  simp [Pk.cells, Pk.list, Man.list]
theorem Pk.set_size (p : Pk) (Ad : Option Addr) (cd : Nat) (n : Int) : (p.cells Ad cd).setIfInBounds 2 (.int .u32 n) = Pk.cells { p with man := { p.man with size := n } } Ad cd := by
  apply Array.ext'
  simp [Pk.cells, Pk.list, Man.list]
theorem Pk.set_limit (p : Pk) (hp : p.ok) (Ad : Option Addr) (cd : Nat) (n : Nat) (hn : n < 256) : (p.cells Ad cd).setIfInBounds 35 (.int .u8 n) = Pk.cells { p with man := { p.man with limit := UInt8.ofNat n } } Ad cd := by
  have := hp.1.2.2.2.2
  have e : ((UInt8.ofNat n).toNat : Int) = (n : Int) := by simp; omega
  apply Array.ext'
  simp [Pk.cells, Pk.list, Man.list, List.set_append, this, e]
  omega
theorem Pk.size_eq {p : Pk} (h : p.ok) (Ad : Option Addr) (cd : Nat) : (Try.prog.info? 29).map (·.size) = some (p.cells Ad cd).size := by rw [Pk.cells_size h]; exact Try.pktSize
theorem Pk.one (p : Pk) (Ad : Option Addr) (cd : Nat) : (p.cells Ad cd).all (·.oneCell') = true := by
  refine all_oneCell_toArray fun v hv => ?_
  simp only [Pk.list, Man.list, List.mem_append, List.mem_cons, List.mem_map, List.not_mem_nil, or_false] at hv
  rcases hv with rfl | ((rfl | rfl) | (⟨x, _, rfl⟩ | rfl)) | rfl | rfl <;> rfl
/-- what Decode tells of the bytes -/
def DecPost (D : Pk × Int) (w : World) (e : Ending) (w' : World) : Prop :=
  ∃ Ad cd, e = .returned (.tuple #[.agg (D.1.cells Ad cd), .int .i64 D.2]) ∧ Row w' w.heap.size (.slice Ad D.1.data.length cd) D.1.data ∧ Below w.heap.size w w'
theorem frame0 (Z : Array Value) (w : World) (o : Obj) : w.heap.size + 1 < ((w.alloc (.cells Z 29)).alloc o).heap.size ∧ ((w.alloc (.cells Z 29)).alloc o).heap[w.heap.size]? = some (.cells Z 29 (0, 0)) ∧ Below w.heap.size w ((w.alloc (.cells Z 29)).alloc o) :=
  ⟨by simp, (Below.heap_alloc _ _ _ (size_lt_alloc _ _)).trans (heap_alloc_new w _), (balloc _ _).alloc (Nat.le_of_lt (size_lt_alloc _ _)) _⟩
theorem Rd.start (Z : Array Value) {w : World} {A : Option Addr} {c n m : Nat} {bs : List UInt8} (hB : Byt w A bs) (hc : bs.length ≤ c) (hcm : c ≤ maxLen) (hm : m = n - 4) (hn : n = bs.length) :
    Rd ((w.alloc (.cells Z 29)).alloc (.cells #[.slice A m c] 55)) (w.heap.size + 1) A c (bs.take m) := by
  have hnew := heap_alloc_new (w.alloc (.cells Z 29)) (.cells #[.slice A m c] 55)
  rw [show (w.alloc (.cells Z 29)).heap.size = w.heap.size + 1 by simp] at hnew
  refine ⟨?_, ?_, ?_, hcm, (hB.kept (frame0 Z w _).2.2).take m, fun hne a ha => ?_⟩
  · rw [cell_of_row _ _ _ _ _ _ hnew]; simp; omega
  · exact frozen_of_row _ _ _ _ _ hnew
  · simp; omega
  · have := hB.block (fun e => by rw [e] at hne; simp at hne) a ha; omega
theorem St.start {Z : Array Value} {w W0 W1 : World} {V : Value} {A1 : Option Addr} {c1 : Nat} {bs1 : List UInt8} (h : w.heap.size + 1 < W0.heap.size ∧ W0.heap[w.heap.size]? = some (.cells Z 29 (0, 0)) ∧ Below w.heap.size w W0)
    (hw : W1 = W0.setCell ⟨w.heap.size + 1, 0, none⟩ V) (hr : Rd W1 (w.heap.size + 1) A1 c1 bs1) (M : Array Value) : St w Z W1.heap.size M A1 c1 bs1 (W1.alloc (.cells M 29)) := by
  subst hw
  obtain ⟨h1, h2, h3⟩ := h
  have hb := balloc (W0.setCell ⟨w.heap.size + 1, 0, none⟩ V) (.cells M 29)
  have hz : (W0.setCell ⟨w.heap.size + 1, 0, none⟩ V).heap.size = W0.heap.size := by simp
  refine ⟨(hb.block _ (by omega)).trans ((Below.heap_setCell _ _ _ _ (by simp)).trans h2), heap_alloc_new _ _, by omega, bcall (h3.setCell (by simp) _) hb, hr.kept hb⟩
theorem row_setRow {W : World} {v : Value} {xs : List UInt8} {g : Nat} (h : Row W (g + 1) v xs) (cs : Array Value) : Row (W.setRow g cs) g v xs :=
  (h.grown (row := some g) (w' := W.setRow g cs) ⟨rfl, rfl, rfl, by simp, fun k hk hne => setRow_other _ _ _ _ (fun e => hne (by rw [e]))⟩ (by
    cases hv : v.ownBlock with
    | none => exact .inl rfl
    | some k => exact .inr (fun e => by cases e; exact absurd (h.base hv).1 (by omega)))).lower (Nat.le_succ _)
theorem Pk.of_get0 (k : UInt8) : ((Pk.of k).cells none 0)[0]? = some (.int .u8 k.toNat) := by simp [Pk.cells, Pk.list, Pk.of]
theorem Pk.same_size (k : UInt8) : (Pk.zero.cells none 0).size = ((Pk.of k).cells none 0).size := by rw [Pk.cells_size Pk.zero_ok, Pk.cells_size (Pk.of_ok _)]
theorem run_alloc_pk (w : World) : (Instr.alloc 29 true (.tuple #[])).run Try.prog w = .ok (.pointer (some ⟨w.heap.size, 0, none⟩)) (w.alloc (.cells (Pk.zero.cells none 0) 29)) := by kernel_rfl
theorem built_pk0 : Try.prog.built 29 [] = some (Pk.zero.cells none 0) := by kernel_rfl
theorem built_pk (k : UInt8) : Try.prog.built 29 [(0, .int .u8 k.toNat)] = some ((Pk.of k).cells none 0) := by kernel_rfl
theorem wpList_alloc_pk {ops : Array Oper} {rest : List Oper} {o : Oper} {a : Act} {w : World} {Q : Exit → Act → World → Prop} (hgd : o.guard = none) (Z : Array Value) (hZ : Z = Pk.zero.cells none 0) (ho : o.op = .alloc 29)
    (h : wpList Try.prog ops Q rest (a.put o.dst (.pointer (some ⟨w.heap.size, 0, none⟩))) (w.alloc (.cells Z 29))) : wpList Try.prog ops Q (o :: rest) a w :=
  wpList_plain hgd fun _ hK => by
    unfold Oper.wp execOp
    subst hZ
    simp only [ho, Sem.run_bind, run_alloc_pk, Result.andThen_ok]
    exact hK _ _ h
theorem wpList_build_pk0 {ops : Array Oper} {rest : List Oper} {o : Oper} {a : Act} {w : World} {Q : Exit → Act → World → Prop} (hgd : o.guard = none) (Z : Array Value) (hZ : Z = Pk.zero.cells none 0) (ho : o.op = .build 29 #[])
    (h : wpList Try.prog ops Q rest (a.put o.dst (.agg Z)) w) : wpList Try.prog ops Q (o :: rest) a w := by
  subst hZ
  refine wpList_build hgd _ _ ho ?_ ?_
  · simp [built_pk0]
  · simpa [built_pk0] using h
theorem wpList_build_pk {ops : Array Oper} {rest : List Oper} {o : Oper} {a : Act} {w : World} {Q : Exit → Act → World → Prop} (hgd : o.guard = none) (x : Operand) (ho : o.op = .build 29 #[(0, x)])
    (k : UInt8) (M : Array Value) (hM : M = (Pk.of k).cells none 0) (hx : a.eval x = .int .u8 k.toNat) (h : wpList Try.prog ops Q rest (a.put o.dst (.agg M)) w) : wpList Try.prog ops Q (o :: rest) a w := by
  subst hM
  refine wpList_build hgd _ _ ho ?_ ?_
  · simp [hx, built_pk]
  · simpa [hx, built_pk] using h
/-- a struct over a new block, the world before the block said outright (else the unifier looks for it too long) -/
theorem wpList_store_pk {P : Program} {ops : Array Oper} {rest : List Oper} {o : Oper} {a : Act} {w : World} {Q : Exit → Act → World → Prop} (w0 : World) (hgd : o.guard = none) (ty : TypeId) (x y : Operand) (ho : o.op = .store ty x y)
    (old cells : Array Value) (t : TypeId) (hw : w = w0.alloc (.cells old t)) (hx : a.eval x = .pointer (some ⟨w0.heap.size, 0, none⟩)) (hy : a.eval y = .agg cells)
    (hi : (P.info? ty).map (·.size) = some cells.size) (hold : old.size = cells.size) (h1 : cells.all (·.oneCell') = true)
    (h : wpList P ops Q rest (a.put o.dst undef) (w0.alloc (.cells cells t))) : wpList P ops Q (o :: rest) a w := by
  subst hw
  exact wpList_store_fresh' hgd ty x y ho w0.heap.size old cells t hx rfl hy hi hold h1 h
theorem Pk.get37 {p : Pk} (h : p.ok) (Ad : Option Addr) (cd : Nat) : (p.cells Ad cd)[37]? = some (.slice Ad p.data.length cd) := by
  rw [Array.getElem?_eq_getElem (by rw [Pk.cells_size h]; decide), Pk.cells37 h]
theorem Pk.get36 {p : Pk} (h : p.ok) (Ad : Option Addr) (cd : Nat) : (p.cells Ad cd)[36]? = some (.int .u16 p.index) := by
  rw [Array.getElem?_eq_getElem (by rw [Pk.cells_size h]; decide), Pk.cells36 h]
theorem Pk.get1 (p : Pk) (Ad : Option Addr) (cd : Nat) : (p.cells Ad cd)[1]? = some (.int .u32 p.man.number) := by simp [Pk.cells, Pk.list, Man.list]
theorem Pk.get2 (p : Pk) (Ad : Option Addr) (cd : Nat) : (p.cells Ad cd)[2]? = some (.int .u32 p.man.size) := by simp [Pk.cells, Pk.list, Man.list]
theorem Pk.get35 {p : Pk} (h : p.ok) (Ad : Option Addr) (cd : Nat) : (p.cells Ad cd)[35]? = some (.int .u8 p.man.limit.toNat) := by
  have := h.1.2.2.2.2
  simp only [Pk.cells, Pk.list, Man.list, List.getElem?_toArray]
  rw [show (35 : Nat) = (34 + 1) from rfl, List.getElem?_cons_succ, List.getElem?_append_left (by simp; omega), List.getElem?_append_right (by simp), List.getElem?_append_right (by simp; omega)]
  simp [this]
theorem row_setCell {W : World} {B : Nat} {v u : Value} {xs : List UInt8} {g i : Nat} (h : Row W B v xs) (hg : g < B) : Row (W.setCell ⟨g, i, none⟩ u) B v xs :=
  h.grown (row := some g) ⟨rfl, rfl, rfl, by simp, fun k hk hne => Below.heap_setCell _ _ _ _ (fun e => hne (by rw [e]))⟩ (by
    cases hv : v.ownBlock with
    | none => exact .inl rfl
    | some k => exact .inr (fun e => by cases e; exact absurd (h.base hv).1 (by omega)))
theorem Pk.set_digest (p : Pk) (Ad : Option Addr) (cd : Nat) (d : List UInt8) (hd : d.length ≤ 32) (hp : p.man.digest = List.replicate 32 0) :
    ((p.cells Ad cd).toList.take 3 ++ d.map B8 ++ (p.cells Ad cd).toList.drop (3 + d.length)).toArray = Pk.cells { p with man := { p.man with digest := d ++ List.replicate (32 - d.length) 0 } } Ad cd := by
  apply Array.ext'
  have e : (3 + d.length) = d.length + 3 := Nat.add_comm _ _
  simp only [Pk.cells, Pk.list, Man.list, hp, e, List.cons_append, List.nil_append, List.take_succ_cons, List.take_zero, List.drop_succ_cons, List.append_assoc]
  rw [List.drop_append, List.map_replicate, List.drop_replicate, List.length_replicate, show d.length - 32 = 0 by omega]
  simp
theorem St.copied {w W : World} {Z M M' : Array Value} {g c : Nat} {A : Option Addr} {bs : List UInt8} (h : St w Z g M A c bs W) (A' : Option Addr) (c' : Nat) (d : List UInt8) (hB : Byt W A' d) (hd : d.length ≤ 32) (hM : M.size = 38)
    (hM' : (M.toList.take 3 ++ d.map B8 ++ M.toList.drop (3 + d.length)).toArray = M') :
    ∃ W', (∀ ty, (Builtin.copy_ #[27, 27] ty #[.slice (some ⟨g, 3, none⟩) 32 32, .slice A' d.length c']).run Try.prog W = .ok (.int .i64 d.length) W') ∧ St w Z g M' A c bs W' := by
  obtain ⟨i0, hi, hz0, hz1, hz2⟩ := info_parts Try.info8
  have hs : (Try.prog.info? 5).map (·.size) = some 1 := by rw [hi]; simp [hz1]
  by_cases h0 : d.length = 0
  · have : d = [] := List.eq_nil_of_length_eq_zero h0
    subst this
    refine ⟨W, fun ty => run_copy_none W _ _ ty 5 _ _ _ _ _ _ Try.underlying27 hs (by simp), ?_⟩
    rw [← hM']
    simpa using h
  · obtain ⟨b, off, rfl, hc⟩ := hB.at (by omega)
    have hg := h.2.1
    refine ⟨W.setRow g M', fun ty => ?_, ?_⟩
    · have hn : min d.length 32 = d.length := by omega
      have := run_copy_row (P := Try.prog) W 27 27 ty 5 g 3 32 32 ⟨b, off, none⟩ d.length c' M 29 (d.map B8) Try.underlying27 hs hg (by rw [List.length_map]; exact hn.symm) (fun j v hv => by
        obtain ⟨hj, rfl⟩ := List.getElem?_eq_some_iff.1 hv
        rw [Addr.add_mid, hc j (by simpa using hj), List.getElem_map]) (by simp; omega) (one8 d)
      rw [List.length_map, hM'] at this
      exact this
    · obtain ⟨h1, h2, h3, h4, h5⟩ := h
      refine ⟨(setRow_other _ _ _ _ (by omega)).trans h1, setRow_heap _ _ _ _ _ _ h2, h3, below_setRow h4 (by omega) _, ?_⟩
      refine ⟨(cell_setRow_other _ _ _ _ (by simp; omega)).trans h5.1, ?_, h5.2.2.1, h5.2.2.2.1, ?_, h5.2.2.2.2.2⟩
      · rw [World.frozen?_of_block (w := W) (setRow_other _ _ _ _ (by simp; omega))]; exact h5.2.1
      · intro j hj
        obtain ⟨b', off', e, hcc⟩ := h5.2.2.2.2.1 j hj
        exact ⟨b', off', e, (cell_setRow_other _ _ _ _ (by have := h5.2.2.2.2.2 (fun e => by rw [e] at hj; simp at hj) _ e; simp at this ⊢; omega)).trans hcc⟩
end Go.Proofs.Ytjpglpdfopeegaa.Mine
