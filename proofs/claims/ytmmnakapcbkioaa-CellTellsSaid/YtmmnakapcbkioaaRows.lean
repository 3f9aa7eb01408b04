/-
  No cell of these rows narrows 'for every input' (looked for: loops, veiled, ifaces, maps, wideKeys, modest, calm, conditions, laid).
  DERIVED. THE GIVEN ROWS OF THIS SEAT. 5 by the template 'for every input the law returns true; each argument reads behind the call as it read before'; 0 by the template 'total and deterministic' (their statements: YtmmnakapcbkioaaTotals.lean).
  GIVEN WITH THE SEED: the statements are not yours to turn. If you find one false, say at which input.
  Laid BY PROGRAM, IN A SANDBOX (cutbox-rows.mjs): the forced cells as the released guide's own fill.sh prints them over the translation f7fd5f690dd4dad0… (all of the seat's roots in one cut). By AI agents, Wed Nov 11 2026. No macro, syntax, notation, axiom, sorry.
-/
import Derived.Test.YtmmnakapcbkioaaChecked
import GoSem.Claim
import GoSem.ClaimJoined
import GoSem.ClaimMapViews
import Derived.JoinedTies
import Derived.KernelRfl
namespace Go.Proofs.Ytmmnakapcbkioaa
/- THE CELL 'sum', in the pinned program and in every row, IS THE sha256 OF THE DUMP (.gsa) THAT YtmmnakapcbkioaaProg.lean LOADS. Nothing in Lean hashes anything: it is a label: what it is worth is what the hold of that sum in a sandbox is worth. -/
noncomputable def Try.pinned : Pinned := { name := "ytmmnakapcbkioaa", sum := "f7fd5f690dd4dad08e28ab9e4d92454ac1e56693e4a4654c896b3806c12f23b1", checked := Try.checked }
namespace Rows
def none {H : Type} : Left H := { results := [], args := [] }

/-- 'lightshiplaw07.CellBoth': WHATEVER THE INPUT: true; the input reads as it did. -/
def cellBothSpec : ChangeSpec := { name := "cellBoth", fn := fun _ => fun
  | [d1, d2, d3] => { results := [.lit (.bool true)], args := [d1, d2, d3] }
  | _ => none }
def cellBothRow : OpenClaim := { program := "ytmmnakapcbkioaa", sum := "f7fd5f690dd4dad08e28ab9e4d92454ac1e56693e4a4654c896b3806c12f23b1", func := "lightship/lightshiplaw07.CellBoth", spec := "cellBoth", unfollowed := true, recurses := true, named := ["math/bits.overflowError"], apart := false }
def CellBothSaid : Prop := cellBothRow.holds Try.pinned (OpenSpec.ofChange cellBothSpec)

/-- ITS FALSE NEIGHBOUR: 'it returns false'. Refute it at one input. -/
def cellBothWrong : ChangeSpec := { name := "cellBoth", fn := fun _ => fun
  | [d1, d2, d3] => { results := [.lit (.bool false)], args := [d1, d2, d3] }
  | _ => none }
def CellBothWrongFalsely : Prop := cellBothRow.holds Try.pinned (OpenSpec.ofChange cellBothWrong)

/-- 'lightshiplaw07.CellShifts': WHATEVER THE INPUT: true; the input reads as it did. -/
def cellShiftsSpec : ChangeSpec := { name := "cellShifts", fn := fun _ => fun
  | [d1, d2] => { results := [.lit (.bool true)], args := [d1, d2] }
  | _ => none }
def cellShiftsRow : OpenClaim := { program := "ytmmnakapcbkioaa", sum := "f7fd5f690dd4dad08e28ab9e4d92454ac1e56693e4a4654c896b3806c12f23b1", func := "lightship/lightshiplaw07.CellShifts", spec := "cellShifts", unfollowed := true, recurses := true, named := ["math/bits.overflowError"], apart := false }
def CellShiftsSaid : Prop := cellShiftsRow.holds Try.pinned (OpenSpec.ofChange cellShiftsSpec)

/-- ITS FALSE NEIGHBOUR: 'it returns false'. Refute it at one input. -/
def cellShiftsWrong : ChangeSpec := { name := "cellShifts", fn := fun _ => fun
  | [d1, d2] => { results := [.lit (.bool false)], args := [d1, d2] }
  | _ => none }
def CellShiftsWrongFalsely : Prop := cellShiftsRow.holds Try.pinned (OpenSpec.ofChange cellShiftsWrong)

/-- 'lightshiplaw07.CellDivides': WHATEVER THE INPUT: true; the input reads as it did. -/
def cellDividesSpec : ChangeSpec := { name := "cellDivides", fn := fun _ => fun
  | [d1, d2, d3] => { results := [.lit (.bool true)], args := [d1, d2, d3] }
  | _ => none }
def cellDividesRow : OpenClaim := { program := "ytmmnakapcbkioaa", sum := "f7fd5f690dd4dad08e28ab9e4d92454ac1e56693e4a4654c896b3806c12f23b1", func := "lightship/lightshiplaw07.CellDivides", spec := "cellDivides", unfollowed := true, recurses := true, named := ["math/bits.overflowError"], apart := false }
def CellDividesSaid : Prop := cellDividesRow.holds Try.pinned (OpenSpec.ofChange cellDividesSpec)

/-- ITS FALSE NEIGHBOUR: 'it returns false'. Refute it at one input. -/
def cellDividesWrong : ChangeSpec := { name := "cellDivides", fn := fun _ => fun
  | [d1, d2, d3] => { results := [.lit (.bool false)], args := [d1, d2, d3] }
  | _ => none }
def CellDividesWrongFalsely : Prop := cellDividesRow.holds Try.pinned (OpenSpec.ofChange cellDividesWrong)

/-- 'lightshiplaw07.CellTells': WHATEVER THE INPUT: true; the input reads as it did. -/
def cellTellsSpec : ChangeSpec := { name := "cellTells", fn := fun _ => fun
  | [d1, d2, d3, d4] => { results := [.lit (.bool true)], args := [d1, d2, d3, d4] }
  | _ => none }
def cellTellsRow : OpenClaim := { program := "ytmmnakapcbkioaa", sum := "f7fd5f690dd4dad08e28ab9e4d92454ac1e56693e4a4654c896b3806c12f23b1", func := "lightship/lightshiplaw07.CellTells", spec := "cellTells", unfollowed := true, recurses := true, named := ["math/bits.overflowError"], apart := false }
def CellTellsSaid : Prop := cellTellsRow.holds Try.pinned (OpenSpec.ofChange cellTellsSpec)

/-- ITS FALSE NEIGHBOUR: 'it returns false'. Refute it at one input. -/
def cellTellsWrong : ChangeSpec := { name := "cellTells", fn := fun _ => fun
  | [d1, d2, d3, d4] => { results := [.lit (.bool false)], args := [d1, d2, d3, d4] }
  | _ => none }
def CellTellsWrongFalsely : Prop := cellTellsRow.holds Try.pinned (OpenSpec.ofChange cellTellsWrong)

/-- 'lightshiplaw07.CellSums': WHATEVER THE INPUT: true; the input reads as it did. -/
def cellSumsSpec : ChangeSpec := { name := "cellSums", fn := fun _ => fun
  | [d1, d2, d3, d4, d5, d6] => { results := [.lit (.bool true)], args := [d1, d2, d3, d4, d5, d6] }
  | _ => none }
def cellSumsRow : OpenClaim := { program := "ytmmnakapcbkioaa", sum := "f7fd5f690dd4dad08e28ab9e4d92454ac1e56693e4a4654c896b3806c12f23b1", func := "lightship/lightshiplaw07.CellSums", spec := "cellSums", unfollowed := true, recurses := true, named := ["math/bits.overflowError"], apart := false }
def CellSumsSaid : Prop := cellSumsRow.holds Try.pinned (OpenSpec.ofChange cellSumsSpec)

/-- ITS FALSE NEIGHBOUR: 'it returns false'. Refute it at one input. -/
def cellSumsWrong : ChangeSpec := { name := "cellSums", fn := fun _ => fun
  | [d1, d2, d3, d4, d5, d6] => { results := [.lit (.bool false)], args := [d1, d2, d3, d4, d5, d6] }
  | _ => none }
def CellSumsWrongFalsely : Prop := cellSumsRow.holds Try.pinned (OpenSpec.ofChange cellSumsWrong)

/- THE SECOND FORM. 'bulk': how many values and letters a reading holds, each counted each time it is reached (what is shared counts as often as it is met; a slice's spare places count too). A statement '..UptoSaid' is the law's where the arguments, and the package variables that the reading takes, are together of bulk at most 1048576: NARROWER than '..Said'. Prove '..Said' where nothing that the law and all that it calls make is longer than what came in: it says more and counts as full. Else prove '..UptoSaid'. A law counts once. -/
mutual
def uptoBulk {H : Type} : DataW H → Nat
  | .lit (.string bytes) => bytes.length + 1
  | .lit _ => 1
  | .nil => 1
  | .ptr d => uptoBulk d + 1
  | .slice elems spare => uptoBulkAll elems + uptoBulkAll spare + 1
  | .agg parts => uptoBulkAll parts + 1
  | .iface _ d => uptoBulk d + 1
  | .map entries => uptoBulkEntries entries + 1
  | .held _ => 1
def uptoBulkAll {H : Type} : List (DataW H) → Nat
  | [] => 0
  | d :: r => uptoBulk d + uptoBulkAll r
def uptoBulkEntries {H : Type} : List (Lit × DataW H) → Nat
  | [] => 0
  | x :: r => uptoBulkEntry x + uptoBulkEntries r
def uptoBulkEntry {H : Type} : Lit × DataW H → Nat
  | (.string bytes, d) => bytes.length + uptoBulk d + 1
  | (_, d) => uptoBulk d + 1
 end
def uptoSmall : (H : Type) → List (DataW H) → Bool := fun _ ds => decide (uptoBulkAll ds ≤ 1048576)
def OpenSpec.upto (s : _root_.Go.ChangeSpec) : _root_.Go.OpenSpec := { _root_.Go.OpenSpec.ofChange s with cond := some uptoSmall }

/-- 'lightshiplaw07.CellBoth', WHERE WHAT IT READS IS OF BULK AT MOST 1048576: true; the input reads as it did. -/
def cellBothUptoRow : OpenClaim := { program := "ytmmnakapcbkioaa", sum := "f7fd5f690dd4dad08e28ab9e4d92454ac1e56693e4a4654c896b3806c12f23b1", func := "lightship/lightshiplaw07.CellBoth", spec := "cellBoth", unfollowed := true, recurses := true, named := ["math/bits.overflowError"], apart := false, narrowed := true }
def CellBothUptoSaid : Prop := cellBothUptoRow.holds Try.pinned (OpenSpec.upto cellBothSpec)

/-- 'lightshiplaw07.CellShifts', WHERE WHAT IT READS IS OF BULK AT MOST 1048576: true; the input reads as it did. -/
def cellShiftsUptoRow : OpenClaim := { program := "ytmmnakapcbkioaa", sum := "f7fd5f690dd4dad08e28ab9e4d92454ac1e56693e4a4654c896b3806c12f23b1", func := "lightship/lightshiplaw07.CellShifts", spec := "cellShifts", unfollowed := true, recurses := true, named := ["math/bits.overflowError"], apart := false, narrowed := true }
def CellShiftsUptoSaid : Prop := cellShiftsUptoRow.holds Try.pinned (OpenSpec.upto cellShiftsSpec)

/-- 'lightshiplaw07.CellDivides', WHERE WHAT IT READS IS OF BULK AT MOST 1048576: true; the input reads as it did. -/
def cellDividesUptoRow : OpenClaim := { program := "ytmmnakapcbkioaa", sum := "f7fd5f690dd4dad08e28ab9e4d92454ac1e56693e4a4654c896b3806c12f23b1", func := "lightship/lightshiplaw07.CellDivides", spec := "cellDivides", unfollowed := true, recurses := true, named := ["math/bits.overflowError"], apart := false, narrowed := true }
def CellDividesUptoSaid : Prop := cellDividesUptoRow.holds Try.pinned (OpenSpec.upto cellDividesSpec)

/-- 'lightshiplaw07.CellTells', WHERE WHAT IT READS IS OF BULK AT MOST 1048576: true; the input reads as it did. -/
def cellTellsUptoRow : OpenClaim := { program := "ytmmnakapcbkioaa", sum := "f7fd5f690dd4dad08e28ab9e4d92454ac1e56693e4a4654c896b3806c12f23b1", func := "lightship/lightshiplaw07.CellTells", spec := "cellTells", unfollowed := true, recurses := true, named := ["math/bits.overflowError"], apart := false, narrowed := true }
def CellTellsUptoSaid : Prop := cellTellsUptoRow.holds Try.pinned (OpenSpec.upto cellTellsSpec)

/-- 'lightshiplaw07.CellSums', WHERE WHAT IT READS IS OF BULK AT MOST 1048576: true; the input reads as it did. -/
def cellSumsUptoRow : OpenClaim := { program := "ytmmnakapcbkioaa", sum := "f7fd5f690dd4dad08e28ab9e4d92454ac1e56693e4a4654c896b3806c12f23b1", func := "lightship/lightshiplaw07.CellSums", spec := "cellSums", unfollowed := true, recurses := true, named := ["math/bits.overflowError"], apart := false, narrowed := true }
def CellSumsUptoSaid : Prop := cellSumsUptoRow.holds Try.pinned (OpenSpec.upto cellSumsSpec)

end Rows
end Go.Proofs.Ytmmnakapcbkioaa
