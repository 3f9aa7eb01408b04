/-
  No cell of these rows narrows 'for every input' (looked for: loops, veiled, ifaces, maps, wideKeys, modest, calm, conditions, laid).
  DERIVED. THE GIVEN ROWS OF THIS SEAT. 5 by the template 'for every input the law returns true; each argument reads behind the call as it read before'; 0 by the template 'total and deterministic' (their statements: YtjpglpdfopeegaaTotals.lean).
  GIVEN WITH THE SEED: the statements are not yours to turn. If you find one false, say at which input.
  Laid BY PROGRAM, IN A SANDBOX (cutbox-rows.mjs): the forced cells as the released guide's own fill.sh prints them over the translation 5bf3f998f49ab853… (all of the seat's roots in one cut). By AI agents, Wed Nov 11 2026. No macro, syntax, notation, axiom, sorry.
-/
import Derived.Test.YtjpglpdfopeegaaChecked
import GoSem.Claim
import GoSem.ClaimJoined
import GoSem.ClaimMapViews
import Derived.JoinedTies
import Derived.KernelRfl
namespace Go.Proofs.Ytjpglpdfopeegaa
/- THE CELL 'sum', in the pinned program and in every row, IS THE sha256 OF THE DUMP (.gsa) THAT YtjpglpdfopeegaaProg.lean LOADS. Nothing in Lean hashes anything: it is a label: what it is worth is what the hold of that sum in a sandbox is worth. -/
noncomputable def Try.pinned : Pinned := { name := "ytjpglpdfopeegaa", sum := "5bf3f998f49ab8533c5f99e0685fb4b914089648098ba3da1293b5d9ec144bad", checked := Try.checked }
namespace Rows
def none {H : Type} : Left H := { results := [], args := [] }

/-- 'lightshiplaw22.PacketOwn': WHATEVER THE INPUT: true; the input reads as it did. -/
def packetOwnSpec : ChangeSpec := { name := "packetOwn", fn := fun _ => fun
  | [d] => { results := [.lit (.bool true)], args := [d] }
  | _ => none }
def packetOwnRow : OpenClaim := { program := "ytjpglpdfopeegaa", sum := "5bf3f998f49ab8533c5f99e0685fb4b914089648098ba3da1293b5d9ec144bad", func := "lightship/lightshiplaw22.PacketOwn", spec := "packetOwn", unfollowed := true, recurses := true, apart := false }
def PacketOwnSaid : Prop := packetOwnRow.holds Try.pinned (OpenSpec.ofChange packetOwnSpec)

/-- ITS FALSE NEIGHBOUR: 'it returns false'. Refute it at one input. -/
def packetOwnWrong : ChangeSpec := { name := "packetOwn", fn := fun _ => fun
  | [d] => { results := [.lit (.bool false)], args := [d] }
  | _ => none }
def PacketOwnWrongFalsely : Prop := packetOwnRow.holds Try.pinned (OpenSpec.ofChange packetOwnWrong)

/-- 'lightshiplaw22.PacketTells': WHATEVER THE INPUT: true; the input reads as it did. -/
def packetTellsSpec : ChangeSpec := { name := "packetTells", fn := fun _ => fun
  | [d1, d2, d3] => { results := [.lit (.bool true)], args := [d1, d2, d3] }
  | _ => none }
def packetTellsRow : OpenClaim := { program := "ytjpglpdfopeegaa", sum := "5bf3f998f49ab8533c5f99e0685fb4b914089648098ba3da1293b5d9ec144bad", func := "lightship/lightshiplaw22.PacketTells", spec := "packetTells", unfollowed := true, recurses := true, apart := false }
def PacketTellsSaid : Prop := packetTellsRow.holds Try.pinned (OpenSpec.ofChange packetTellsSpec)

/-- ITS FALSE NEIGHBOUR: 'it returns false'. Refute it at one input. -/
def packetTellsWrong : ChangeSpec := { name := "packetTells", fn := fun _ => fun
  | [d1, d2, d3] => { results := [.lit (.bool false)], args := [d1, d2, d3] }
  | _ => none }
def PacketTellsWrongFalsely : Prop := packetTellsRow.holds Try.pinned (OpenSpec.ofChange packetTellsWrong)

/-- 'lightshiplaw22.PacketBack': WHATEVER THE INPUT: true; the input reads as it did. -/
def packetBackSpec : ChangeSpec := { name := "packetBack", fn := fun _ => fun
  | [d1, d2, d3, d4] => { results := [.lit (.bool true)], args := [d1, d2, d3, d4] }
  | _ => none }
def packetBackRow : OpenClaim := { program := "ytjpglpdfopeegaa", sum := "5bf3f998f49ab8533c5f99e0685fb4b914089648098ba3da1293b5d9ec144bad", func := "lightship/lightshiplaw22.PacketBack", spec := "packetBack", unfollowed := true, recurses := true, apart := false }
def PacketBackSaid : Prop := packetBackRow.holds Try.pinned (OpenSpec.ofChange packetBackSpec)

/-- ITS FALSE NEIGHBOUR: 'it returns false'. Refute it at one input. -/
def packetBackWrong : ChangeSpec := { name := "packetBack", fn := fun _ => fun
  | [d1, d2, d3, d4] => { results := [.lit (.bool false)], args := [d1, d2, d3, d4] }
  | _ => none }
def PacketBackWrongFalsely : Prop := packetBackRow.holds Try.pinned (OpenSpec.ofChange packetBackWrong)

/-- 'lightshiplaw22.PacketBurst': WHATEVER THE INPUT: true; the input reads as it did. -/
def packetBurstSpec : ChangeSpec := { name := "packetBurst", fn := fun _ => fun
  | [d1, d2, d3, d4] => { results := [.lit (.bool true)], args := [d1, d2, d3, d4] }
  | _ => none }
def packetBurstRow : OpenClaim := { program := "ytjpglpdfopeegaa", sum := "5bf3f998f49ab8533c5f99e0685fb4b914089648098ba3da1293b5d9ec144bad", func := "lightship/lightshiplaw22.PacketBurst", spec := "packetBurst", unfollowed := true, recurses := true, apart := false }
def PacketBurstSaid : Prop := packetBurstRow.holds Try.pinned (OpenSpec.ofChange packetBurstSpec)

/-- ITS FALSE NEIGHBOUR: 'it returns false'. Refute it at one input. -/
def packetBurstWrong : ChangeSpec := { name := "packetBurst", fn := fun _ => fun
  | [d1, d2, d3, d4] => { results := [.lit (.bool false)], args := [d1, d2, d3, d4] }
  | _ => none }
def PacketBurstWrongFalsely : Prop := packetBurstRow.holds Try.pinned (OpenSpec.ofChange packetBurstWrong)

/-- 'lightshiplaw22.PacketTotal': WHATEVER THE INPUT: true; the input reads as it did. -/
def packetTotalSpec : ChangeSpec := { name := "packetTotal", fn := fun _ => fun
  | [d] => { results := [.lit (.bool true)], args := [d] }
  | _ => none }
def packetTotalRow : OpenClaim := { program := "ytjpglpdfopeegaa", sum := "5bf3f998f49ab8533c5f99e0685fb4b914089648098ba3da1293b5d9ec144bad", func := "lightship/lightshiplaw22.PacketTotal", spec := "packetTotal", unfollowed := true, recurses := true, apart := false }
def PacketTotalSaid : Prop := packetTotalRow.holds Try.pinned (OpenSpec.ofChange packetTotalSpec)

/-- ITS FALSE NEIGHBOUR: 'it returns false'. Refute it at one input. -/
def packetTotalWrong : ChangeSpec := { name := "packetTotal", fn := fun _ => fun
  | [d] => { results := [.lit (.bool false)], args := [d] }
  | _ => none }
def PacketTotalWrongFalsely : Prop := packetTotalRow.holds Try.pinned (OpenSpec.ofChange packetTotalWrong)

/- THE SECOND FORM. 'bulk': how many values and letters a reading holds, each counted each time it is reached (what is shared counts as often as it is met; a slice's spare places count too). A statement '..UptoSaid' is the law's where the arguments, and the package variables that the reading takes, are together of bulk at most 1048576: NARROWER than '..Said'. Prove '..Said' where nothing that the law and all that it calls make is longer than what came in: it says more and counts as full. Else prove '..UptoSaid'. A law counts once. -/
mutual
def uptoBulk {H : Type} : DataW H → Nat
  | .lit (.string bytes) => bytes.length + 1
  | .lit _ => 1
  | .nil => 1
  | .ptr d => uptoBulk d + 1
  | .slice elems spare => uptoBulkAll elems + uptoBulkAll spare + 1
  | .agg parts => uptoBulkAll parts + 1
  | .iface _ d => uptoBulk d + 1
  | .map entries => uptoBulkEntries entries + 1
  | .held _ => 1
def uptoBulkAll {H : Type} : List (DataW H) → Nat
  | [] => 0
  | d :: r => uptoBulk d + uptoBulkAll r
def uptoBulkEntries {H : Type} : List (Lit × DataW H) → Nat
  | [] => 0
  | x :: r => uptoBulkEntry x + uptoBulkEntries r
def uptoBulkEntry {H : Type} : Lit × DataW H → Nat
  | (.string bytes, d) => bytes.length + uptoBulk d + 1
  | (_, d) => uptoBulk d + 1
 end
def uptoSmall : (H : Type) → List (DataW H) → Bool := fun _ ds => decide (uptoBulkAll ds ≤ 1048576)
def OpenSpec.upto (s : _root_.Go.ChangeSpec) : _root_.Go.OpenSpec := { _root_.Go.OpenSpec.ofChange s with cond := some uptoSmall }

/-- 'lightshiplaw22.PacketOwn', WHERE WHAT IT READS IS OF BULK AT MOST 1048576: true; the input reads as it did. -/
def packetOwnUptoRow : OpenClaim := { program := "ytjpglpdfopeegaa", sum := "5bf3f998f49ab8533c5f99e0685fb4b914089648098ba3da1293b5d9ec144bad", func := "lightship/lightshiplaw22.PacketOwn", spec := "packetOwn", unfollowed := true, recurses := true, apart := false, narrowed := true }
def PacketOwnUptoSaid : Prop := packetOwnUptoRow.holds Try.pinned (OpenSpec.upto packetOwnSpec)

/-- 'lightshiplaw22.PacketTells', WHERE WHAT IT READS IS OF BULK AT MOST 1048576: true; the input reads as it did. -/
def packetTellsUptoRow : OpenClaim := { program := "ytjpglpdfopeegaa", sum := "5bf3f998f49ab8533c5f99e0685fb4b914089648098ba3da1293b5d9ec144bad", func := "lightship/lightshiplaw22.PacketTells", spec := "packetTells", unfollowed := true, recurses := true, apart := false, narrowed := true }
def PacketTellsUptoSaid : Prop := packetTellsUptoRow.holds Try.pinned (OpenSpec.upto packetTellsSpec)

/-- 'lightshiplaw22.PacketBack', WHERE WHAT IT READS IS OF BULK AT MOST 1048576: true; the input reads as it did. -/
def packetBackUptoRow : OpenClaim := { program := "ytjpglpdfopeegaa", sum := "5bf3f998f49ab8533c5f99e0685fb4b914089648098ba3da1293b5d9ec144bad", func := "lightship/lightshiplaw22.PacketBack", spec := "packetBack", unfollowed := true, recurses := true, apart := false, narrowed := true }
def PacketBackUptoSaid : Prop := packetBackUptoRow.holds Try.pinned (OpenSpec.upto packetBackSpec)

/-- 'lightshiplaw22.PacketBurst', WHERE WHAT IT READS IS OF BULK AT MOST 1048576: true; the input reads as it did. -/
def packetBurstUptoRow : OpenClaim := { program := "ytjpglpdfopeegaa", sum := "5bf3f998f49ab8533c5f99e0685fb4b914089648098ba3da1293b5d9ec144bad", func := "lightship/lightshiplaw22.PacketBurst", spec := "packetBurst", unfollowed := true, recurses := true, apart := false, narrowed := true }
def PacketBurstUptoSaid : Prop := packetBurstUptoRow.holds Try.pinned (OpenSpec.upto packetBurstSpec)

/-- 'lightshiplaw22.PacketTotal', WHERE WHAT IT READS IS OF BULK AT MOST 1048576: true; the input reads as it did. -/
def packetTotalUptoRow : OpenClaim := { program := "ytjpglpdfopeegaa", sum := "5bf3f998f49ab8533c5f99e0685fb4b914089648098ba3da1293b5d9ec144bad", func := "lightship/lightshiplaw22.PacketTotal", spec := "packetTotal", unfollowed := true, recurses := true, apart := false, narrowed := true }
def PacketTotalUptoSaid : Prop := packetTotalUptoRow.holds Try.pinned (OpenSpec.upto packetTotalSpec)

end Rows
end Go.Proofs.Ytjpglpdfopeegaa
