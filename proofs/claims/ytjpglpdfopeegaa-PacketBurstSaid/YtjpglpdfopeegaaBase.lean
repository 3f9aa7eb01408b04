/- Small words and lemmas that all texts of this seat use: 32-bit numbers as bit vectors, rows of cells in memory. No condition. -/
import Derived.Test.YtjpglpdfopeegaaProg
import Derived.WalkKit
import Derived.KernelRfl
import Derived.Lib.Hide
import Derived.Deep.LoopGhost
import Derived.Deep.QuietTactic
import Derived.BigQuiet
import Derived.WalkSpells
import Derived.Laws.Tables
import Derived.Deep.MidRow
import Derived.Maps.AppendAt
import Derived.Laws.BytesArg
import Derived.Lib.ConvBytes
import Derived.Lib.SlBytesConst
namespace Go.Proofs.Ytjpglpdfopeegaa.Mine
open Go.RowKit

/-! 32-bit numbers: 'N x' is a bit vector's number; the walk does not look behind it -/
def N (x : BitVec 32) : Int := (x.toNat : Int)
abbrev U (x : BitVec 32) : Value := .int .u32 (N x)
theorem N_lo (x : BitVec 32) : 0 ≤ N x := Int.natCast_nonneg _
theorem N_hi (x : BitVec 32) : N x < 4294967296 := by have := x.isLt; unfold N; omega
theorem N_inj {x y : BitVec 32} (h : N x = N y) : x = y := BitVec.eq_of_toNat_eq (by unfold N at h; omega)
theorem N_eq (x y : BitVec 32) : (N x == N y) = (x == y) := by
  rw [Bool.eq_iff_iff]; simp only [beq_iff_eq]; exact ⟨N_inj, fun h => by rw [h]⟩
theorem N_lit (n : Nat) (h : n < 4294967296) : N (BitVec.ofNat 32 n) = n := by
  unfold N; rw [BitVec.toNat_ofNat, Nat.mod_eq_of_lt h]
theorem wrap_u32_id (n : Nat) (h : n < 4294967296) : IntKind.u32.wrap (n : Int) = n := by rw [IntKind.wrap_u32]; omega
theorem N_wrap (x : BitVec 32) : IntKind.u32.wrap (N x) = N x := wrap_u32_id _ x.isLt
theorem ofInt_N (x : BitVec 32) : BitVec.ofInt 32 (N x) = x := by
  unfold N; apply BitVec.eq_of_toNat_eq; simp
theorem b_xor (x y : BitVec 32) : bits .xor .u32 (N x) (N y) = N (x ^^^ y) := by
  unfold bits
  show IntKind.u32.wrap ((BitVec.ofInt 32 (N x) ^^^ BitVec.ofInt 32 (N y)).toNat : Int) = _
  rw [ofInt_N, ofInt_N]; exact wrap_u32_id _ (x ^^^ y).isLt
theorem b_and (x y : BitVec 32) : bits .and .u32 (N x) (N y) = N (x &&& y) := by
  unfold bits
  show IntKind.u32.wrap ((BitVec.ofInt 32 (N x) &&& BitVec.ofInt 32 (N y)).toNat : Int) = _
  rw [ofInt_N, ofInt_N]; exact wrap_u32_id _ (x &&& y).isLt
theorem b_or (x y : BitVec 32) : bits .or .u32 (N x) (N y) = N (x ||| y) := by
  unfold bits
  show IntKind.u32.wrap ((BitVec.ofInt 32 (N x) ||| BitVec.ofInt 32 (N y)).toNat : Int) = _
  rw [ofInt_N, ofInt_N]; exact wrap_u32_id _ (x ||| y).isLt
theorem b_and1 (x : BitVec 32) : bits .and .u32 (N x) 1 = N (x &&& 1#32) := b_and x 1#32
theorem b_and15 (x : BitVec 32) : bits .and .u32 (N x) 15 = N (x &&& 15#32) := b_and x 15#32
theorem b_half (x : BitVec 32) : N x / (2 : Int) = N (x >>> 1) := by
  unfold N; rw [BitVec.toNat_ushiftRight, Nat.shiftRight_eq_div_pow]; omega
theorem b_shr4 (x : BitVec 32) : N x / (16 : Int) = N (x >>> 4) := by
  unfold N; rw [BitVec.toNat_ushiftRight, Nat.shiftRight_eq_div_pow]; omega
theorem b_neg (x : BitVec 32) : -(N x) % 4294967296 = N (-x) := by
  have := x.isLt
  unfold N
  simp only [BitVec.toNat_neg]; omega

/-! what a whole number that came in is -/
theorem wf16 {a : Int} (h : (Lit.int .u16 a).wf = true) : ∃ n : Nat, a = (n : Int) ∧ n < 65536 := by
  simp [Lit.wf, IntKind.min, IntKind.max, IntKind.bits, IntKind.signed] at h
  exact ⟨a.toNat, by omega, by omega⟩
theorem wf8 {a : Int} (h : (Lit.int .u8 a).wf = true) : ∃ n : UInt8, a = (n.toNat : Int) := by
  simp [Lit.wf, IntKind.min, IntKind.max, IntKind.bits, IntKind.signed] at h
  refine ⟨UInt8.ofNat a.toNat, ?_⟩
  rw [UInt8.toNat_ofNat']
  omega
theorem wf32 {a : Int} (h : (Lit.int .u32 a).wf = true) : ∃ x : BitVec 32, a = N x := by
  simp [Lit.wf, IntKind.min, IntKind.max, IntKind.bits, IntKind.signed] at h
  exact ⟨BitVec.ofNat 32 a.toNat, by rw [N_lit _ (by omega)]; omega⟩
theorem wfi64 {a : Int} (h : (Lit.int .i64 a).wf = true) : -9223372036854775808 ≤ a ∧ a ≤ 9223372036854775807 := by
  simp [Lit.wf, IntKind.min, IntKind.max, IntKind.bits, IntKind.signed] at h
  omega
theorem wfi32 {a : Int} (h : (Lit.int .i32 a).wf = true) : -2147483648 ≤ a ∧ a ≤ 2147483647 := by
  simp [Lit.wf, IntKind.min, IntKind.max, IntKind.bits, IntKind.signed] at h
  omega

/-! min, max -/
section
variable {P : Program}
theorem run_min2n (w : World) (ats : Array TypeId) (ty : TypeId) (a b n : Nat) (h : n = min a b) : (Builtin.min_ ats ty #[.int .i64 a, .int .i64 b]).run P w = .ok (.int .i64 n) w := by
  subst h
  simp only [Builtin.min_, List.foldlM_cons, List.foldlM_nil, Builtin.min2, Sem.run_bind, Sem.run_pure, Result.andThen_ok]
  congr 2
  split <;> omega
theorem run_max2n (w : World) (ats : Array TypeId) (ty : TypeId) (a b n : Nat) (h : n = max a b) : (Builtin.max_ ats ty #[.int .i64 a, .int .i64 b]).run P w = .ok (.int .i64 n) w := by
  subst h
  simp only [Builtin.max_, List.foldlM_cons, List.foldlM_nil, Builtin.max2, Sem.run_bind, Sem.run_pure, Result.andThen_ok]
  congr 2
  split <;> omega
theorem run_min3n (w : World) (ats : Array TypeId) (ty : TypeId) (a b c n : Nat) (h : n = min a (min b c)) : (Builtin.min_ ats ty #[.int .i64 a, .int .i64 b, .int .i64 c]).run P w = .ok (.int .i64 n) w := by
  subst h
  simp only [Builtin.min_, List.foldlM_cons, List.foldlM_nil, Builtin.min2, Sem.run_bind, Sem.run_pure, Result.andThen_ok]
  congr 2
  split <;> split <;> omega
end

/-! a row of cells that is filled from its begin -/
def fillK (n k : Nat) (z : Value) (f : Nat → Value) : Array Value := Array.ofFn fun j : Fin n => if j.val < k then f j.val else z
theorem fillK_size (n k : Nat) (z : Value) (f : Nat → Value) : (fillK n k z f).size = n := by simp [fillK]
theorem fillK_get (n k : Nat) (z : Value) (f : Nat → Value) (i : Nat) (h : i < (fillK n k z f).size) : (fillK n k z f)[i] = if i < k then f i else z := by
  simp [fillK]
theorem fillK_get? (n k : Nat) (z : Value) (f : Nat → Value) (i : Nat) (h : i < n) : (fillK n k z f)[i]? = some (if i < k then f i else z) := by
  rw [Array.getElem?_eq_getElem (by rw [fillK_size]; exact h), fillK_get]
theorem fillK_set (n k : Nat) (z : Value) (f : Nat → Value) : (fillK n k z f).setIfInBounds k (f k) = fillK n (k + 1) z f := by
  apply Array.ext
  · rw [Array.size_setIfInBounds, fillK_size, fillK_size]
  · intro i h1 h2
    rw [fillK_get, Array.getElem_setIfInBounds, fillK_get]
    by_cases e : k = i
    · subst e; rw [if_pos rfl, if_pos (by omega)]
    · rw [if_neg e]
      by_cases h3 : i < k
      · rw [if_pos h3, if_pos (by omega)]
      · rw [if_neg h3, if_neg (by omega)]
    · rw [Array.size_setIfInBounds] at h1; exact h1
theorem below_setRow {B : Nat} {a w : World} (h : Below B a w) {g : Nat} (hg : B ≤ g) (cs : Array Value) : Below B a (w.setRow g cs) :=
  h.trans ⟨rfl, rfl, rfl, by simp, fun k hk => setRow_other w g k _ (by omega)⟩
theorem below_drewN {B : Nat} {a w : World} (h : Below B a w) (n : Nat) : Below B a (w.drewN n) := ⟨h.os, h.tape, h.output, h.size, h.block⟩
/-- One call more that turns nothing old. -/
theorem bcall {a w w' : World} (h : Below a.heap.size a w) (hb : Below w.heap.size w w') : Below a.heap.size a w' := h.trans (hb.mono h.size)
theorem setRow_alloc_new (w : World) (c c' : Array Value) (t : TypeId) : (w.alloc (.cells c t)).setRow w.heap.size c' = w.alloc (.cells c' t) := by
  have h : ((w.alloc (.cells c t)).setRow w.heap.size c').heap = (w.alloc (.cells c' t)).heap := by
    apply Array.ext_getElem?
    intro i
    by_cases e : i = w.heap.size
    · subst e
      rw [setRow_heap _ _ _ _ _ (0, 0) (heap_alloc_new w _), heap_alloc_new]
    · rw [setRow_other _ _ _ _ e]
      show (w.heap.push _)[i]? = (w.heap.push _)[i]?
      rw [Array.getElem?_push, Array.getElem?_push, if_neg e, if_neg e]
  have e : ∀ (x y : World), x.heap = y.heap → x.tape = y.tape → x.drawn = y.drawn → x.os = y.os → x.output = y.output → x = y := by
    rintro ⟨⟩ ⟨⟩ rfl rfl rfl rfl rfl; rfl
  exact e _ _ h rfl rfl rfl rfl
/-- A whole array or struct goes into the variable that was made last. -/
theorem wpList_store_fresh {P : Program} {ops : Array Oper} {rest : List Oper} {o : Oper} {a : Act} {w : World} {Q : Exit → Act → World → Prop} (hgd : o.guard = none) (ty : TypeId) (x y : Operand) (ho : o.op = .store ty x y)
    (old cells : Array Value) (t : TypeId) (hx : a.eval x = .pointer (some ⟨w.heap.size, 0, none⟩)) (hy : a.eval y = .agg cells)
    (hi : (P.info? ty).map (·.size) = some cells.size) (hold : old.size = cells.size) (h1 : cells.all (·.oneCell') = true)
    (h : wpList P ops Q rest (a.put o.dst undef) (w.alloc (.cells cells t))) : wpList P ops Q (o :: rest) a (w.alloc (.cells old t)) :=
  wpList_store_row hgd ty x y ho w.heap.size cells hx hy t old (heap_alloc_new w _) hi hold h1 (by rw [setRow_alloc_new]; exact h)
theorem bcell {W w1 : World} (hb : Below W.heap.size W w1) : (∀ b o, b < W.heap.size → w1.cell? ⟨b, o, none⟩ = W.cell? ⟨b, o, none⟩) ∧ (∀ b o, b < W.heap.size → w1.frozen? ⟨b, o, none⟩ = W.frozen? ⟨b, o, none⟩) :=
  ⟨fun b o h => hb.cell (p := ⟨b, o, none⟩) h, fun b o h => hb.frozen (p := ⟨b, o, none⟩) h⟩

theorem cell_set_far {w : World} {p q : Addr} {u v : Value} (h : w.cell? q = some v) (hne : q.block ≠ p.block) : (w.setCell p u).cell? q = some v :=
  (World.cell?_setCell_other w p q u (fun e => hne (by rw [e]))).trans h
theorem cell_set_far' {w : World} {p q : Addr} {u v : Value} (h : w.cell? q = some v) (hne : q.block ≠ p.block) : (w.setCell p u).drew.cell? q = some v := cell_set_far h hne
theorem b8_xor (x y : UInt8) : bits .xor .u8 (x.toNat : Int) (y.toNat : Int) = ((x ^^^ y).toNat : Int) := by
  unfold bits
  show IntKind.u8.wrap ((BitVec.ofInt 8 (x.toNat : Int) ^^^ BitVec.ofInt 8 (y.toNat : Int)).toNat : Int) = _
  have e : ∀ z : UInt8, BitVec.ofInt 8 (z.toNat : Int) = z.toBitVec := fun z => by
    apply BitVec.eq_of_toNat_eq; simp
  rw [e, e, IntKind.wrap_u8]
  have h : (x ^^^ y).toNat = (x.toBitVec ^^^ y.toBitVec).toNat := rfl
  have := (x ^^^ y).toNat_lt
  rw [h] at this ⊢
  omega

/-! bytes in memory -/
abbrev B8 (x : UInt8) : Value := .int .u8 (x.toNat : Int)
/-- From address A on lie these bytes. -/
def Byt (w : World) (A : Option Addr) (bs : List UInt8) : Prop :=
  ∀ j (h : j < bs.length), ∃ b off, A = some ⟨b, off, none⟩ ∧ w.cell? ⟨b, off + j, none⟩ = some (B8 bs[j])
theorem Byt.nil (w : World) (A : Option Addr) : Byt w A [] := fun j h => absurd h (Nat.not_lt_zero j)
theorem Byt.at {w : World} {A : Option Addr} {bs : List UInt8} (h : Byt w A bs) (hn : 0 < bs.length) :
    ∃ b off, A = some ⟨b, off, none⟩ ∧ ∀ j (h : j < bs.length), w.cell? ⟨b, off + j, none⟩ = some (B8 bs[j]) := by
  obtain ⟨b, off, e, _⟩ := h 0 hn
  refine ⟨b, off, e, fun j hj => ?_⟩
  obtain ⟨b', off', e', hc⟩ := h j hj
  rw [e] at e'; cases e'; exact hc
theorem Byt.of {w : World} {b off : Nat} {bs : List UInt8} (h : ∀ j (h : j < bs.length), w.cell? ⟨b, off + j, none⟩ = some (B8 bs[j])) : Byt w (some ⟨b, off, none⟩) bs :=
  fun j hj => ⟨b, off, rfl, h j hj⟩
theorem Byt.lt {w : World} {b off : Nat} {bs : List UInt8} (h : Byt w (some ⟨b, off, none⟩) bs) (hn : 0 < bs.length) : b < w.heap.size := by
  obtain ⟨b', off', e, hc⟩ := h 0 hn
  cases e; exact block_lt_of_cell (a := ⟨b, off + 0, none⟩) hc
/-- What was there is as it was: the bytes, too. -/
theorem Byt.kept {w w' : World} {A : Option Addr} {bs : List UInt8} (h : Byt w A bs) (hb : Below w.heap.size w w') : Byt w' A bs := by
  intro j hj
  obtain ⟨b, off, e, hc⟩ := h j hj
  exact ⟨b, off, e, (hb.cell (p := ⟨b, off + j, none⟩) (block_lt_of_cell hc)).trans hc⟩
theorem Byt.drop {w : World} {b off : Nat} {bs : List UInt8} (h : Byt w (some ⟨b, off, none⟩) bs) (i : Nat) : Byt w (some ⟨b, off + i, none⟩) (bs.drop i) := by
  intro j hj
  have hj' : i + j < bs.length := by simp at hj; omega
  obtain ⟨b', off', e, hc⟩ := h (i + j) hj'
  cases e
  refine ⟨b, off + i, rfl, ?_⟩
  rw [Nat.add_assoc, hc, List.getElem_drop]
theorem Byt.take {w : World} {A : Option Addr} {bs : List UInt8} (h : Byt w A bs) (i : Nat) : Byt w A (bs.take i) := by
  intro j hj
  have hj' : j < bs.length := by simp at hj; omega
  obtain ⟨b', off', e, hc⟩ := h j hj'
  exact ⟨b', off', e, by rw [hc, List.getElem_take]⟩

theorem Byt.new (w : World) (bs : List UInt8) (cs : Array Value) (T : TypeId) (fr : Nat × Nat) (h : cs = (bs.map B8).toArray) : Byt (w.alloc (.cells cs T fr)) (some ⟨w.heap.size, 0, none⟩) bs := by
  subst h
  refine Byt.of fun j hj => ?_
  rw [Nat.zero_add, cell_of_row _ _ _ _ _ fr (heap_alloc_new w _)]
  simp [hj]

/-- The address of a cut 's[i:..]': it stays where nothing is behind. -/
theorem Byt.cut {w : World} {A : Option Addr} {bs : List UInt8} (h : Byt w A bs) (cap i k : Nat) (hk : k ≤ bs.length) (hc : bs.length ≤ cap) :
    Byt w (if cap = i then A else A.map fun x => x.add i) ((bs.take k).drop i) := by
  intro j hj
  have hj' : i + j < k := by simp at hj; omega
  rw [if_neg (by omega)]
  obtain ⟨b, off, rfl, hcell⟩ := h (i + j) (by omega)
  refine ⟨b, off + i, ?_, ?_⟩
  · rw [Option.map_some, Addr.add_mid]
  · rw [Nat.add_assoc, hcell, List.getElem_drop, List.getElem_take]

/-- A slice of bytes that came in, as a list of bytes. -/
theorem rowBytes {w : World} {a : Option Addr} {len cap : Nat} {zs : List Int}
    (h : (a = none ∧ len = 0 ∧ cap = 0 ∧ zs = []) ∨ ∃ x, a = some x ∧ len ≤ cap ∧ cap ≤ maxLen ∧ zs.length = cap ∧ (∀ i, i < zs.length → w.cell? (x.add i) = some (.int .u8 (zs.getD i 0))) ∧ ∀ n ∈ zs, (Lit.int .u8 n).wf = true) :
    ∃ bs : List UInt8, len = bs.length ∧ Byt w a bs ∧ len ≤ cap ∧ cap ≤ maxLen := by
  rcases h with ⟨rfl, rfl, rfl, rfl⟩ | ⟨x, rfl, hlc, hcm, hz, hcell, hwf⟩
  · exact ⟨[], rfl, Byt.nil _ _, Nat.le_refl _, Nat.zero_le _⟩
  · refine ⟨(zs.take len).map fun z => UInt8.ofNat z.toNat, by simp; omega, ?_, hlc, hcm⟩
    intro j hj
    have hj1 : j < len := by simp at hj; omega
    have hj2 : j < zs.length := by omega
    have hc := hcell j hj2
    have hw := hwf (zs.getD j 0) (by rw [List.getD_eq_getElem?_getD, List.getElem?_eq_getElem hj2]; exact List.getElem_mem hj2)
    have hg : zs.getD j 0 = zs[j] := by rw [List.getD_eq_getElem?_getD, List.getElem?_eq_getElem hj2]; rfl
    rw [hg] at hc hw
    have hb : 0 ≤ zs[j] ∧ zs[j] < 256 := by
      generalize zs[j] = y at hw
      simp [Lit.wf, IntKind.min, IntKind.max, IntKind.bits, IntKind.signed] at hw
      omega
    obtain ⟨b, off, sp⟩ := x
    have hsp : sp = none := by
      cases sp with
      | none => rfl
      | some s =>
        exfalso
        have hc0 := hcell 0 (by omega)
        have hn : w.cell? ((⟨b, off, some s⟩ : Addr).add 0) = none := by
          have hs : ((⟨b, off, some s⟩ : Addr).add 0).spot.isSome = true := rfl
          unfold World.cell?
          rw [hs]
          split <;> simp
        rw [hn] at hc0
        cases hc0
    subst hsp
    rw [Addr.add_mid] at hc
    refine ⟨b, off, rfl, ?_⟩
    rw [hc, List.getElem_map, List.getElem_take]
    show some (Value.int .u8 zs[j]) = some (Value.int .u8 ((UInt8.ofNat zs[j].toNat).toNat : Int))
    rw [UInt8.toNat_ofNat']
    congr 2
    omega

/-! a row of bytes of the call's own -/
theorem Try.info8 : (Try.prog.info? 5).map (fun i => (i.zero, i.size, i.bytes)) = some (some (.int .u8 0), 1, 1) := by kernel_rfl
/-- The slice value v is a row of bytes that lies from block B on, and holds just bs. -/
def Row (w : World) (B : Nat) (v : Value) (bs : List UInt8) : Prop := w.ownsRow B 5 1 v bs.length (bs.map B8)
theorem Row.nil (w : World) (B : Nat) : Row w B (.slice none 0 0) [] := World.ownsRow_nil w B _ 1
theorem Row.form {w : World} {B : Nat} {v : Value} {bs : List UInt8} (h : Row w B v bs) : ∃ A c, v = .slice A bs.length c ∧ Byt w A bs ∧ bs.length ≤ c := by
  obtain ⟨_, h2⟩ := h
  rcases h2 with ⟨rfl, h0⟩ | ⟨g, cap, cur, rfl, hB, hg, hn, hm, hs, ht⟩
  · have : bs = [] := List.eq_nil_of_length_eq_zero h0
    subst this
    exact ⟨none, 0, rfl, Byt.nil _ _, Nat.le_refl _⟩
  · refine ⟨_, cap, rfl, Byt.of fun j hj => ?_, hn⟩
    rw [Nat.zero_add, cell_of_row w g j cur _ _ hg]
    have hl := congrArg (fun l => l[j]?) ht
    simp only [Nat.mul_one, List.getElem?_take, List.getElem?_map, hj, if_true, List.getElem?_eq_getElem, Option.map_some] at hl
    rw [← hl, Array.getElem?_toList]
theorem Row.grown {w w' : World} {B : Nat} {v : Value} {bs : List UInt8} {row : Option Nat} (h : Row w B v bs) (hg : w.grownBy w' row) (hne : v.ownBlock = none ∨ v.ownBlock ≠ row) : Row w' B v bs :=
  World.ownsRow.kept h hg hne
theorem grown_of_below {w w' : World} (h : Below w.heap.size w w') : w.grownBy w' none := ⟨h.os, h.tape, h.output, h.size, fun k hk _ => h.block k hk⟩
theorem Row.below {w w' : World} {B : Nat} {v : Value} {bs : List UInt8} (h : Row w B v bs) (hb : Below w.heap.size w w') : Row w' B v bs :=
  h.grown (grown_of_below hb) (by cases hv : v.ownBlock <;> simp)
theorem Row.lower {w : World} {B B' : Nat} {v : Value} {bs : List UInt8} (h : Row w B v bs) (hB : B' ≤ B) : Row w B' v bs := by
  obtain ⟨h1, h2⟩ := h
  refine ⟨h1, ?_⟩
  rcases h2 with h2 | ⟨g, cap, cur, hv, hg, r⟩
  · exact Or.inl h2
  · exact Or.inr ⟨g, cap, cur, hv, Nat.le_trans hB hg, r⟩
theorem Row.base {w : World} {B : Nat} {v : Value} {bs : List UInt8} (h : Row w B v bs) {k : Nat} (hk : v.ownBlock = some k) : B ≤ k ∧ k < w.heap.size := World.ownsRow.lt h k hk
theorem one8 (bs : List UInt8) : ∀ u ∈ bs.map B8, u.oneCell' = true := by
  intro u hu
  obtain ⟨x, _, rfl⟩ := List.mem_map.1 hu
  rfl

/-- 'append(v, x...)' where v is a row of the call's own and x are bytes from anywhere. -/
theorem run_append_bytes (w : World) (B : Nat) (v : Value) (xs : List UInt8) (A : Option Addr) (c : Nat) (ys : List UInt8) (ty : TypeId) (hown : Row w B v xs) (hs : Byt w A ys)
    (hlen : xs.length + ys.length ≤ 140737488355328) (hB : B ≤ w.heap.size) :
    ∃ v' w', (Builtin.append_ #[27, 27] ty #[v, .slice A ys.length c]).run Try.prog w = .ok v' w' ∧ Row w' B v' (xs ++ ys) ∧ w.grownBy w' v.ownBlock ∧ (v'.ownBlock = v.ownBlock ∨ v'.ownBlock = some w.heap.size) := by
  obtain ⟨i0, hi, hz0, hz1, hz2⟩ := info_parts Try.info8
  by_cases h0 : ys.length = 0 ∧ A = none
  · obtain ⟨h0, rfl⟩ := h0
    have : ys = [] := List.eq_nil_of_length_eq_zero h0
    subst this
    refine ⟨v, w, ?_, by simpa using hown, World.grownBy.refl w _, .inl rfl⟩
    rcases hown.2 with ⟨rfl, hn⟩ | ⟨g, cap, cur, rfl, _, _, hnc, _⟩
    · simp [Builtin.append_, run_underlying Try.underlying27, sizeOf, typeInfo, hi, Builtin.lenOf, Builtin.firstCells]
    · simp [Builtin.append_, run_underlying Try.underlying27, sizeOf, typeInfo, hi, Builtin.lenOf, Builtin.firstCells, hnc, storeCells]
  · obtain ⟨ad, rfl, hcells⟩ : ∃ ad, A = some ad ∧ ∀ j u, (ys.map B8)[j]? = some u → w.cell? (ad.add j) = some u := by
      rcases A with _ | ad
      · exfalso
        rcases Nat.eq_zero_or_pos ys.length with h | h
        · exact h0 ⟨h, rfl⟩
        · obtain ⟨_, _, e, _⟩ := hs 0 h
          cases e
      · refine ⟨ad, rfl, fun j u hu => ?_⟩
        obtain ⟨hj, rfl⟩ := List.getElem?_eq_some_iff.1 hu
        obtain ⟨b, off, e, hc⟩ := hs j (by simpa using hj)
        cases e
        rw [Addr.add_mid, hc, List.getElem_map]
    obtain ⟨v', w', hr, h2, h3, _, h5⟩ := run_append_own_at (P := Try.prog) w B 27 ty 5 i0 (.int .u8 0) 1 1 Try.underlying27 hi hz0 hz1 hz2 rfl (by decide) v xs.length (xs.map B8) hown ad ys.length c (ys.map B8)
      (by simp) hcells (one8 ys) (by unfold maxLen; omega) (by omega) hB
    refine ⟨v', w', hr, ?_, h3, h5⟩
    unfold Row
    rw [List.map_append, List.length_append]
    exact h2
theorem wpList_append_bytes {ops : Array Oper} {rest : List Oper} {o : Oper} {a : Act} {w : World} {Q : Exit → Act → World → Prop} (hgd : o.guard = none) (s x : Operand)
    (ho : o.op = .call { callee := .builtin .append, args := #[s, x], argTypes := #[27, 27] })
    (B : Nat) (v : Value) (xs : List UInt8) (hv : a.eval s = v) (hown : Row w B v xs) (A : Option Addr) (c : Nat) (ys : List UInt8) (hx : a.eval x = .slice A ys.length c) (hs : Byt w A ys)
    (hlen : xs.length + ys.length ≤ 140737488355328) (hB : B ≤ w.heap.size)
    (h : ∀ v' w', Row w' B v' (xs ++ ys) → w.grownBy w' v.ownBlock → (v'.ownBlock = v.ownBlock ∨ v'.ownBlock = some w.heap.size) → wpList Try.prog ops Q rest (a.put o.dst v') w') : wpList Try.prog ops Q (o :: rest) a w :=
  wpList_plain hgd fun _ hK => by
    obtain ⟨v', w', hr, h2, h3, h4⟩ := run_append_bytes w B v xs A c ys o.type hown hs hlen hB
    unfold Oper.wp execOp
    simp only [ho, resolve, invoke, builtin, Sem.run_bind, Sem.run_pure, Result.andThen_ok, List.map_toArray, List.map_cons, List.map_nil, hv, hx, hr]
    exact hK _ _ (h v' w' h2 h3 h4)
/-- 'make([]byte, 0, c)'. -/
theorem wpList_make_bytes {ops : Array Oper} {rest : List Oper} {o : Oper} {a : Act} {w : World} {Q : Exit → Act → World → Prop} (hgd : o.guard = none) (x y : Operand)
    (ho : o.op = .makeSlice 27 x y) (B c : Nat) (hx : a.eval x = .int .i64 0) (hy : a.eval y = .int .i64 c) (hc : c ≤ 140737488355328) (hB : B ≤ w.heap.size)
    (h : ∀ w', Row w' B (.slice (some ⟨w.heap.size, 0, none⟩) 0 c) [] → w.grownBy w' none → wpList Try.prog ops Q rest (a.put o.dst (.slice (some ⟨w.heap.size, 0, none⟩) 0 c)) w') : wpList Try.prog ops Q (o :: rest) a w :=
  wpList_plain hgd fun _ hK => by
    obtain ⟨i0, hi, hz0, hz1, hz2⟩ := info_parts Try.info8
    obtain ⟨w', hr, h2, h3⟩ := run_make_own (P := Try.prog) w B 27 5 i0 (.int .u8 0) 1 Try.underlying27 hi hz0 hz1 .i64 .i64 c (by rw [hz2]; omega) (by unfold maxLen; omega) hB
    unfold Oper.wp execOp
    simp only [ho, hx, hy, Sem.run_bind, Sem.run_pure, Result.andThen_ok, hr]
    exact hK _ _ (h w' h2 h3)
/-- 'make([]byte, n)'. -/
theorem wpList_make_zeros {ops : Array Oper} {rest : List Oper} {o : Oper} {a : Act} {w : World} {Q : Exit → Act → World → Prop} (hgd : o.guard = none) (x y : Operand)
    (ho : o.op = .makeSlice 27 x y) (B n : Nat) (hx : a.eval x = .int .i64 n) (hy : a.eval y = .int .i64 n) (hn : n ≤ 140737488355328) (hB : B ≤ w.heap.size)
    (h : ∀ w', Row w' B (.slice (some ⟨w.heap.size, 0, none⟩) n n) (List.replicate n 0) → w.grownBy w' none → wpList Try.prog ops Q rest (a.put o.dst (.slice (some ⟨w.heap.size, 0, none⟩) n n)) w') : wpList Try.prog ops Q (o :: rest) a w :=
  wpList_plain hgd fun _ hK => by
    obtain ⟨i0, hi, hz0, hz1, hz2⟩ := info_parts Try.info8
    obtain ⟨w', hr, h2, h3⟩ := run_make_full (P := Try.prog) w B 27 5 i0 (.int .u8 0) 1 Try.underlying27 hi hz0 hz1 .i64 .i64 n (by rw [hz2]; omega) (by unfold maxLen; omega) hB
    unfold Oper.wp execOp
    simp only [ho, hx, hy, Sem.run_bind, Sem.run_pure, Result.andThen_ok, hr]
    refine hK _ _ (h w' ?_ h3)
    unfold Row
    rw [show Value.cells (.int .u8 0) = #[.int .u8 0] from rfl, Nat.mul_one, toList_madeCells_one] at h2
    rw [List.length_replicate, List.map_replicate]
    exact h2
theorem Row.cell {w : World} {B g n c : Nat} {bs : List UInt8} (h : Row w B (.slice (some ⟨g, 0, none⟩) n c) bs) (k : Nat) (hk : k < bs.length) : w.cell? ⟨g, k, none⟩ = some (B8 bs[k]) := by
  obtain ⟨A, c', e, hb, _⟩ := h.form
  cases e
  obtain ⟨b, off, e, hc⟩ := hb k hk
  cases e
  rwa [Nat.zero_add] at hc
theorem Row.free {w : World} {B g n c : Nat} {bs : List UInt8} (h : Row w B (.slice (some ⟨g, 0, none⟩) n c) bs) (k : Nat) : w.frozen? ⟨g, k, none⟩ = false := by
  obtain ⟨A, c', e, _, _⟩ := h.form
  cases e
  exact World.ownsRow.frozenAt h k
theorem Row.set {w : World} {B g n c : Nat} {bs : List UInt8} (h : Row w B (.slice (some ⟨g, 0, none⟩) n c) bs) (k : Nat) (x : UInt8) : Row (w.setCell ⟨g, k, none⟩ (B8 x)) B (.slice (some ⟨g, 0, none⟩) n c) (bs.set k x) := by
  obtain ⟨A, c', e, _, _⟩ := h.form
  cases e
  have := (World.ownsRow.stored h k (B8 x)).1
  unfold Row
  rw [List.length_set, List.map_set]
  exact this
theorem Row.head {w : World} {B n c : Nat} {A : Option Addr} {bs : List UInt8} (h : Row w B (.slice A n c) bs) (hn : 0 < bs.length) : ∃ g, A = some ⟨g, 0, none⟩ := by
  rcases h.2 with ⟨_, h0⟩ | ⟨g, cap, cur, hv, _⟩
  · omega
  · cases hv; exact ⟨g, rfl⟩
theorem Row.at0 {w : World} {B g n c : Nat} {bs : List UInt8} (h : Row w B (.slice (some ⟨g, 0, none⟩) n c) bs) : n = bs.length ∧ B ≤ g ∧ g < w.heap.size := by
  obtain ⟨A, c', e, _, _⟩ := h.form
  cases e
  exact ⟨rfl, h.base rfl⟩
/-- 'string(x)' of bytes. -/
def Str (bs : List UInt8) : Value := .string ⟨bs.toArray⟩
theorem run_string_bytes (w : World) (A : Option Addr) (c : Nat) (bs : List UInt8) (hs : Byt w A bs) : (convert 27 9 (.slice A bs.length c)).run Try.prog w = .ok (Str bs) w := by
  by_cases h0 : bs.length = 0
  · have : bs = [] := List.eq_nil_of_length_eq_zero h0
    subst this
    rw [run_convert_bytes_string w _ _ _ _ _ _ Try.underlying27 Try.underlying5 Try.underlying9]
    cases A <;> simp [Conv.bytesToString, Str, loadCells, loadCellsFrom, Sem.run_pure] <;> rfl
  · obtain ⟨b, off, rfl, hc⟩ := hs.at (by omega)
    rw [run_convert_bytes_string w _ _ _ _ _ _ Try.underlying27 Try.underlying5 Try.underlying9]
    have hl : (loadCells ⟨b, off, none⟩ bs.length).run Try.prog w = .ok ((bs.map fun x => (x.toNat : Int)).map (Value.int .u8)).toArray w := by
      have := run_loadCells_list (P := Try.prog) w ⟨b, off, none⟩ (bs.map B8) (fun j v hv => by
        obtain ⟨hj, rfl⟩ := List.getElem?_eq_some_iff.1 hv
        rw [Addr.add_mid, hc j (by simpa using hj), List.getElem_map])
      rw [List.length_map] at this
      rw [this, List.map_map]; rfl
    rw [run_bytesToString w _ _ _ _ hl, foldl_push_bytes]
    congr 1
    unfold Str
    congr 1
    simp [List.map_map, Function.comp_def]
end Go.Proofs.Ytjpglpdfopeegaa.Mine
