/- What an argument that came in as a packet, or an answer, holds. No condition but those of each theorem. -/
import Derived.Test.YtjpglpdfopeegaaPktPure
import Derived.ProofKit
import Derived.OpenShut
import Derived.ChangeOld
namespace Go.Proofs.Ytjpglpdfopeegaa.Mine
open Go.ChangeShapes Go.WideShapes Go.ChangeAt Go.RowKit
set_option linter.unusedVariables false
set_option linter.unusedSimpArgs false

section
variable {H : Type} {enc : TypeId × Value → H} {w : World} {base : Nat} {sp : Nat → Bool} {hd : Bool}
theorem cells5 : Try.prog.cellsOf 5 = 1 := by kernel_rfl
theorem cells32 : Try.prog.cellsOf 22 = 1 := by kernel_rfl
theorem cells16 : Try.prog.cellsOf 26 = 1 := by kernel_rfl
theorem cellsS : Try.prog.cellsOf 27 = 1 := by kernel_rfl
theorem cellsD : Try.prog.cellsOf 23 = 32 := by kernel_rfl
theorem cellsM : Try.prog.cellsOf 25 = 35 := by kernel_rfl
theorem cellsP : Try.prog.cellsOf 29 = 38 := by kernel_rfl
theorem cellsA : Try.prog.cellsOf 40 = 4 := by kernel_rfl
theorem cellsE : Try.prog.cellsOf 31 = 1 := by kernel_rfl
theorem open_digest {fuel : Nat} {cs : List Value} {x : DataW H × List MemPlace} (h : DataW.trod enc Try.prog w base sp hd fuel 23 cs = some x) : ∃ d : List UInt8, d.length = 32 ∧ cs = d.map B8 := by
  obtain ⟨xs, m, rfl, rfl, hl, hxl, hall⟩ := DataW.trod_array Try.underlying23 h
  rw [cellsD] at hl
  rw [cells5] at hall
  have each : ∀ i (hi : i < cs.length), ∃ b : UInt8, cs[i] = B8 b := by
    intro i hi
    have hi2 : i < 32 := by omega
    have h1 := hall i hi2
    rw [List.getElem?_eq_getElem (by omega), Nat.mul_one] at h1
    obtain ⟨n, hn, _, hw⟩ := DataW.trod_int Try.underlying5 h1
    obtain ⟨b, rfl⟩ := wf8 hw
    refine ⟨b, ?_⟩
    have : (cs.drop i).take 1 = [cs[i]] := by rw [List.drop_eq_getElem_cons hi]; rfl
    rw [this] at hn
    exact (List.cons.inj hn).1
  refine ⟨cs.map fun v => match v with | .int _ n => UInt8.ofNat n.toNat | _ => 0, by simp [hl], ?_⟩
  apply List.ext_getElem
  · simp
  · intro i h1 h2
    obtain ⟨b, hb⟩ := each i h1
    simp [hb]
theorem one_of {cs : List Value} {o : Nat} {v : Value} (h : (cs.drop o).take 1 = [v]) : cs.drop o = v :: cs.drop (o + 1) := by
  cases hq : cs.drop o with
  | nil => rw [hq] at h; cases h
  | cons a l =>
    rw [hq] at h
    simp at h
    rw [h, ← List.drop_drop, hq]
    rfl
theorem open_man {fuel : Nat} {cs : List Value} {x : DataW H × List MemPlace} (h : DataW.trod enc Try.prog w base sp hd fuel 25 cs = some x) : ∃ m : Man, m.ok ∧ cs = m.list := by
  obtain ⟨xs, n, rfl, rfl, hl, hxl, hall⟩ := DataW.trod_struct Try.underlying25 h
  have hxl4 : xs.length = 4 := hxl
  have h0 : DataW.trod enc Try.prog w base sp hd n 22 ((cs.drop 0).take (Try.prog.cellsOf 22)) = xs[0]? := hall 0 _ rfl
  have h1 : DataW.trod enc Try.prog w base sp hd n 22 ((cs.drop 1).take (Try.prog.cellsOf 22)) = xs[1]? := hall 1 _ rfl
  have h2 : DataW.trod enc Try.prog w base sp hd n 23 ((cs.drop 2).take (Try.prog.cellsOf 23)) = xs[2]? := hall 2 _ rfl
  have h3 : DataW.trod enc Try.prog w base sp hd n 5 ((cs.drop 34).take (Try.prog.cellsOf 5)) = xs[3]? := hall 3 _ rfl
  rw [List.getElem?_eq_getElem (by omega)] at h0 h1 h2 h3
  rw [cellsM] at hl
  simp only [cells32, cells5, cellsD] at h0 h1 h2 h3
  obtain ⟨a, ha, _, hwa⟩ := DataW.trod_int Try.underlying22 h0
  obtain ⟨b, hb, _, hwb⟩ := DataW.trod_int Try.underlying22 h1
  obtain ⟨d, hd32, hd⟩ := open_digest h2
  obtain ⟨e, he, _, hwe⟩ := DataW.trod_int Try.underlying5 h3
  obtain ⟨xa, rfl⟩ := wf32 hwa
  obtain ⟨xb, rfl⟩ := wf32 hwb
  obtain ⟨xe, rfl⟩ := wf8 hwe
  refine ⟨⟨N xa, N xb, d, xe⟩, ⟨N_lo _, N_hi _, N_lo _, N_hi _, hd32⟩, ?_⟩
  have e0 := one_of ha
  have e1 := one_of hb
  have e3 := one_of he
  have e2 : cs.drop 2 = d.map B8 ++ cs.drop 34 := by
    rw [← hd, show cs.drop 34 = (cs.drop 2).drop 32 by rw [List.drop_drop], List.take_append_drop]
  have e4 : cs.drop 35 = [] := List.drop_eq_nil_of_le (by omega)
  simp only [Nat.reduceAdd, List.drop_zero] at e0 e1 e3
  rw [e0, e1, e2, e3, e4]
  rfl
theorem open_pk {fuel : Nat} {cs : List Value} {x : DataW H × List MemPlace} (h : DataW.trod enc Try.prog w base (fun _ => true) hd fuel 29 cs = some x) :
    ∃ (p : Pk) (A : Option Addr) (c : Nat), cs = p.list A c ∧ p.ok ∧ Byt w A p.data ∧ p.data.length ≤ c ∧ c ≤ maxLen := by
  obtain ⟨xs, n, rfl, rfl, hl, hxl, hall⟩ := DataW.trod_struct Try.underlying29 h
  have hxl4 : xs.length = 4 := hxl
  have h0 : DataW.trod enc Try.prog w base (fun _ => true) hd n 5 ((cs.drop 0).take (Try.prog.cellsOf 5)) = xs[0]? := hall 0 _ rfl
  have h1 : DataW.trod enc Try.prog w base (fun _ => true) hd n 25 ((cs.drop 1).take (Try.prog.cellsOf 25)) = xs[1]? := hall 1 _ rfl
  have h2 : DataW.trod enc Try.prog w base (fun _ => true) hd n 26 ((cs.drop 36).take (Try.prog.cellsOf 26)) = xs[2]? := hall 2 _ rfl
  have h3 : DataW.trod enc Try.prog w base (fun _ => true) hd n 27 ((cs.drop 37).take (Try.prog.cellsOf 27)) = xs[3]? := hall 3 _ rfl
  rw [List.getElem?_eq_getElem (by omega)] at h0 h1 h2 h3
  rw [cellsP] at hl
  simp only [cells16, cells5, cellsM, cellsS] at h0 h1 h2 h3
  obtain ⟨a, ha, _, hwa⟩ := DataW.trod_int Try.underlying5 h0
  obtain ⟨m, hm, hms⟩ := open_man h1
  obtain ⟨b, hb, _, hwb⟩ := DataW.trod_int Try.underlying26 h2
  obtain ⟨xa, rfl⟩ := wf8 hwa
  obtain ⟨xb, rfl, hxb⟩ := wf16 hwb
  have hsl : ∃ (A : Option Addr) (len cap : Nat) (zs : List Int), (cs.drop 37).take 1 = [.slice A len cap] ∧ ((A = none ∧ len = 0 ∧ cap = 0 ∧ zs = []) ∨ ∃ x, A = some x ∧ len ≤ cap ∧ cap ≤ maxLen ∧ zs.length = cap ∧ (∀ i, i < zs.length → w.cell? (x.add i) = some (.int .u8 (zs.getD i 0))) ∧ ∀ n ∈ zs, (Lit.int .u8 n).wf = true) := by
    rcases open_ints Try.underlying27 Try.underlying5 cells5 h3 with ⟨hcs, _⟩ | ⟨x, l, c, zs, hcs, _, hl, hm, hz, _, hcell, hwz⟩
    · exact ⟨none, 0, 0, [], hcs, .inl ⟨rfl, rfl, rfl, rfl⟩⟩
    · exact ⟨some x, l, c, zs, hcs, .inr ⟨x, rfl, hl, hm, by simpa using hz, hcell, hwz⟩⟩
  obtain ⟨A, len, cap, zs, hs, hrow⟩ := hsl
  obtain ⟨bs, rfl, hbt, hbl, hbm⟩ := rowBytes hrow
  refine ⟨⟨xa, m, xb, bs⟩, A, cap, ?_, ⟨hm, Int.natCast_nonneg _, by dsimp only; omega⟩, hbt, hbl, hbm⟩
  have e0 := one_of ha
  have e2 := one_of hb
  have e3 := one_of hs
  have e1 : cs.drop 1 = m.list ++ cs.drop 36 := by
    rw [← hms, show cs.drop 36 = (cs.drop 1).drop 35 by rw [List.drop_drop], List.take_append_drop]
  have e4 : cs.drop 38 = [] := List.drop_eq_nil_of_le (by omega)
  simp only [Nat.reduceAdd, List.drop_zero] at e0 e2 e3
  rw [e0, e1, e2, e3, e4]
  rfl
theorem open_an {fuel : Nat} {cs : List Value} {x : DataW H × List MemPlace} (h : DataW.trod enc Try.prog w base sp hd fuel 40 cs = some x) : ∃ a : An, a.ok ∧ cs = a.cells.toList := by
  obtain ⟨xs, n, rfl, rfl, hl, hxl, hall⟩ := DataW.trod_struct Try.underlying40 h
  have hxl4 : xs.length = 4 := hxl
  have h0 : DataW.trod enc Try.prog w base sp hd n 5 ((cs.drop 0).take (Try.prog.cellsOf 5)) = xs[0]? := hall 0 _ rfl
  have h1 : DataW.trod enc Try.prog w base sp hd n 31 ((cs.drop 1).take (Try.prog.cellsOf 31)) = xs[1]? := hall 1 _ rfl
  have h2 : DataW.trod enc Try.prog w base sp hd n 5 ((cs.drop 2).take (Try.prog.cellsOf 5)) = xs[2]? := hall 2 _ rfl
  have h3 : DataW.trod enc Try.prog w base sp hd n 26 ((cs.drop 3).take (Try.prog.cellsOf 26)) = xs[3]? := hall 3 _ rfl
  rw [List.getElem?_eq_getElem (by omega)] at h0 h1 h2 h3
  rw [cellsA] at hl
  simp only [cells16, cells5, cellsE] at h0 h1 h2 h3
  obtain ⟨a, ha, _, hwa⟩ := DataW.trod_int Try.underlying5 h0
  obtain ⟨b, hb, _, hwb⟩ := DataW.trod_int Try.underlying31 h1
  obtain ⟨c, hc, _, hwc⟩ := DataW.trod_int Try.underlying5 h2
  obtain ⟨d, hd, _, hwd⟩ := DataW.trod_int Try.underlying26 h3
  obtain ⟨xa, rfl⟩ := wf8 hwa
  obtain ⟨xc, rfl⟩ := wf8 hwc
  obtain ⟨xd, rfl, hxd⟩ := wf16 hwd
  have hwb := wfi64 hwb
  refine ⟨⟨xa, b, xc, xd⟩, ⟨hwb.1, by dsimp only; omega, hxd⟩, ?_⟩
  have e0 := one_of ha
  have e1 := one_of hb
  have e2 := one_of hc
  have e3 := one_of hd
  have e4 : cs.drop 4 = [] := List.drop_eq_nil_of_le (by omega)
  simp only [Nat.reduceAdd, List.drop_zero] at e0 e1 e2 e3
  rw [e0, e1, e2, e3, e4]
  rfl
end
end Go.Proofs.Ytjpglpdfopeegaa.Mine
