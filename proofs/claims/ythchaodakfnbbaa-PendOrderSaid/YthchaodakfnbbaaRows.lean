/-
  No cell of these rows narrows 'for every input' (looked for: loops, veiled, ifaces, maps, wideKeys, modest, calm, conditions, laid).
  DERIVED. THE GIVEN ROWS OF THIS SEAT. 5 by the template 'for every input the law returns true; each argument reads behind the call as it read before'; 0 by the template 'total and deterministic' (their statements: YthchaodakfnbbaaTotals.lean).
  GIVEN WITH THE SEED: the statements are not yours to turn. If you find one false, say at which input.
  Laid BY PROGRAM, IN A SANDBOX (cutbox-rows.mjs): the forced cells as the released guide's own fill.sh prints them over the translation 368d24a936c466a5… (all of the seat's roots in one cut). By AI agents, Wed Nov 11 2026. No macro, syntax, notation, axiom, sorry.
-/
import Derived.Test.YthchaodakfnbbaaChecked
import GoSem.Claim
import GoSem.ClaimJoined
import GoSem.ClaimMapViews
import Derived.JoinedTies
import Derived.KernelRfl
namespace Go.Proofs.Ythchaodakfnbbaa
/- THE CELL 'sum', in the pinned program and in every row, IS THE sha256 OF THE DUMP (.gsa) THAT YthchaodakfnbbaaProg.lean LOADS. Nothing in Lean hashes anything: it is a label: what it is worth is what the hold of that sum in a sandbox is worth. -/
noncomputable def Try.pinned : Pinned := { name := "ythchaodakfnbbaa", sum := "368d24a936c466a518ee53cde511f653705f5fb12c067eede2b1ffc8695edd27", checked := Try.checked }
namespace Rows
def none {H : Type} : Left H := { results := [], args := [] }

/-- 'sumplaw24.FdFull': WHATEVER THE INPUT: true; the input reads as it did. -/
def fdFullSpec : ChangeSpec := { name := "fdFull", fn := fun _ => fun
  | [d1, d2, d3] => { results := [.lit (.bool true)], args := [d1, d2, d3] }
  | _ => none }
def fdFullRow : OpenClaim := { program := "ythchaodakfnbbaa", sum := "368d24a936c466a518ee53cde511f653705f5fb12c067eede2b1ffc8695edd27", func := "sump/sumplaw24.FdFull", spec := "fdFull", apart := false }
def FdFullSaid : Prop := fdFullRow.holds Try.pinned (OpenSpec.ofChange fdFullSpec)

/-- ITS FALSE NEIGHBOUR: 'it returns false'. Refute it at one input. -/
def fdFullWrong : ChangeSpec := { name := "fdFull", fn := fun _ => fun
  | [d1, d2, d3] => { results := [.lit (.bool false)], args := [d1, d2, d3] }
  | _ => none }
def FdFullWrongFalsely : Prop := fdFullRow.holds Try.pinned (OpenSpec.ofChange fdFullWrong)

/-- 'sumplaw24.FdDoes': WHATEVER THE INPUT: true; the input reads as it did. -/
def fdDoesSpec : ChangeSpec := { name := "fdDoes", fn := fun _ => fun
  | [d1, d2] => { results := [.lit (.bool true)], args := [d1, d2] }
  | _ => none }
def fdDoesRow : OpenClaim := { program := "ythchaodakfnbbaa", sum := "368d24a936c466a518ee53cde511f653705f5fb12c067eede2b1ffc8695edd27", func := "sump/sumplaw24.FdDoes", spec := "fdDoes", apart := false }
def FdDoesSaid : Prop := fdDoesRow.holds Try.pinned (OpenSpec.ofChange fdDoesSpec)

/-- ITS FALSE NEIGHBOUR: 'it returns false'. Refute it at one input. -/
def fdDoesWrong : ChangeSpec := { name := "fdDoes", fn := fun _ => fun
  | [d1, d2] => { results := [.lit (.bool false)], args := [d1, d2] }
  | _ => none }
def FdDoesWrongFalsely : Prop := fdDoesRow.holds Try.pinned (OpenSpec.ofChange fdDoesWrong)

/-- 'sumplaw24.FdOpens': WHATEVER THE INPUT: true; the input reads as it did. -/
def fdOpensSpec : ChangeSpec := { name := "fdOpens", fn := fun _ => fun
  | [d1, d2, d3] => { results := [.lit (.bool true)], args := [d1, d2, d3] }
  | _ => none }
def fdOpensRow : OpenClaim := { program := "ythchaodakfnbbaa", sum := "368d24a936c466a518ee53cde511f653705f5fb12c067eede2b1ffc8695edd27", func := "sump/sumplaw24.FdOpens", spec := "fdOpens", apart := false }
def FdOpensSaid : Prop := fdOpensRow.holds Try.pinned (OpenSpec.ofChange fdOpensSpec)

/-- ITS FALSE NEIGHBOUR: 'it returns false'. Refute it at one input. -/
def fdOpensWrong : ChangeSpec := { name := "fdOpens", fn := fun _ => fun
  | [d1, d2, d3] => { results := [.lit (.bool false)], args := [d1, d2, d3] }
  | _ => none }
def FdOpensWrongFalsely : Prop := fdOpensRow.holds Try.pinned (OpenSpec.ofChange fdOpensWrong)

/-- 'sumplaw21.PendDoes': WHATEVER THE INPUT: true; the input reads as it did. -/
def pendDoesSpec : ChangeSpec := { name := "pendDoes", fn := fun _ => fun
  | [d1, d2, d3] => { results := [.lit (.bool true)], args := [d1, d2, d3] }
  | _ => none }
def pendDoesRow : OpenClaim := { program := "ythchaodakfnbbaa", sum := "368d24a936c466a518ee53cde511f653705f5fb12c067eede2b1ffc8695edd27", func := "sump/sumplaw21.PendDoes", spec := "pendDoes", apart := false }
def PendDoesSaid : Prop := pendDoesRow.holds Try.pinned (OpenSpec.ofChange pendDoesSpec)

/-- ITS FALSE NEIGHBOUR: 'it returns false'. Refute it at one input. -/
def pendDoesWrong : ChangeSpec := { name := "pendDoes", fn := fun _ => fun
  | [d1, d2, d3] => { results := [.lit (.bool false)], args := [d1, d2, d3] }
  | _ => none }
def PendDoesWrongFalsely : Prop := pendDoesRow.holds Try.pinned (OpenSpec.ofChange pendDoesWrong)

/-- 'sumplaw21.PendOrder': WHATEVER THE INPUT: true; the input reads as it did. -/
def pendOrderSpec : ChangeSpec := { name := "pendOrder", fn := fun _ => fun
  | [d1, d2] => { results := [.lit (.bool true)], args := [d1, d2] }
  | _ => none }
def pendOrderRow : OpenClaim := { program := "ythchaodakfnbbaa", sum := "368d24a936c466a518ee53cde511f653705f5fb12c067eede2b1ffc8695edd27", func := "sump/sumplaw21.PendOrder", spec := "pendOrder", apart := false }
def PendOrderSaid : Prop := pendOrderRow.holds Try.pinned (OpenSpec.ofChange pendOrderSpec)

/-- ITS FALSE NEIGHBOUR: 'it returns false'. Refute it at one input. -/
def pendOrderWrong : ChangeSpec := { name := "pendOrder", fn := fun _ => fun
  | [d1, d2] => { results := [.lit (.bool false)], args := [d1, d2] }
  | _ => none }
def PendOrderWrongFalsely : Prop := pendOrderRow.holds Try.pinned (OpenSpec.ofChange pendOrderWrong)

/- THE SECOND FORM. 'bulk': how many values and letters a reading holds, each counted each time it is reached (what is shared counts as often as it is met; a slice's spare places count too). A statement '..UptoSaid' is the law's where the arguments, and the package variables that the reading takes, are together of bulk at most 1048576: NARROWER than '..Said'. Prove '..Said' where nothing that the law and all that it calls make is longer than what came in: it says more and counts as full. Else prove '..UptoSaid'. A law counts once. -/
mutual
def uptoBulk {H : Type} : DataW H → Nat
  | .lit (.string bytes) => bytes.length + 1
  | .lit _ => 1
  | .nil => 1
  | .ptr d => uptoBulk d + 1
  | .slice elems spare => uptoBulkAll elems + uptoBulkAll spare + 1
  | .agg parts => uptoBulkAll parts + 1
  | .iface _ d => uptoBulk d + 1
  | .map entries => uptoBulkEntries entries + 1
  | .held _ => 1
def uptoBulkAll {H : Type} : List (DataW H) → Nat
  | [] => 0
  | d :: r => uptoBulk d + uptoBulkAll r
def uptoBulkEntries {H : Type} : List (Lit × DataW H) → Nat
  | [] => 0
  | x :: r => uptoBulkEntry x + uptoBulkEntries r
def uptoBulkEntry {H : Type} : Lit × DataW H → Nat
  | (.string bytes, d) => bytes.length + uptoBulk d + 1
  | (_, d) => uptoBulk d + 1
 end
def uptoSmall : (H : Type) → List (DataW H) → Bool := fun _ ds => decide (uptoBulkAll ds ≤ 1048576)
def OpenSpec.upto (s : _root_.Go.ChangeSpec) : _root_.Go.OpenSpec := { _root_.Go.OpenSpec.ofChange s with cond := some uptoSmall }

/-- 'sumplaw24.FdFull', WHERE WHAT IT READS IS OF BULK AT MOST 1048576: true; the input reads as it did. -/
def fdFullUptoRow : OpenClaim := { program := "ythchaodakfnbbaa", sum := "368d24a936c466a518ee53cde511f653705f5fb12c067eede2b1ffc8695edd27", func := "sump/sumplaw24.FdFull", spec := "fdFull", apart := false, narrowed := true }
def FdFullUptoSaid : Prop := fdFullUptoRow.holds Try.pinned (OpenSpec.upto fdFullSpec)

/-- 'sumplaw24.FdDoes', WHERE WHAT IT READS IS OF BULK AT MOST 1048576: true; the input reads as it did. -/
def fdDoesUptoRow : OpenClaim := { program := "ythchaodakfnbbaa", sum := "368d24a936c466a518ee53cde511f653705f5fb12c067eede2b1ffc8695edd27", func := "sump/sumplaw24.FdDoes", spec := "fdDoes", apart := false, narrowed := true }
def FdDoesUptoSaid : Prop := fdDoesUptoRow.holds Try.pinned (OpenSpec.upto fdDoesSpec)

/-- 'sumplaw24.FdOpens', WHERE WHAT IT READS IS OF BULK AT MOST 1048576: true; the input reads as it did. -/
def fdOpensUptoRow : OpenClaim := { program := "ythchaodakfnbbaa", sum := "368d24a936c466a518ee53cde511f653705f5fb12c067eede2b1ffc8695edd27", func := "sump/sumplaw24.FdOpens", spec := "fdOpens", apart := false, narrowed := true }
def FdOpensUptoSaid : Prop := fdOpensUptoRow.holds Try.pinned (OpenSpec.upto fdOpensSpec)

/-- 'sumplaw21.PendDoes', WHERE WHAT IT READS IS OF BULK AT MOST 1048576: true; the input reads as it did. -/
def pendDoesUptoRow : OpenClaim := { program := "ythchaodakfnbbaa", sum := "368d24a936c466a518ee53cde511f653705f5fb12c067eede2b1ffc8695edd27", func := "sump/sumplaw21.PendDoes", spec := "pendDoes", apart := false, narrowed := true }
def PendDoesUptoSaid : Prop := pendDoesUptoRow.holds Try.pinned (OpenSpec.upto pendDoesSpec)

/-- 'sumplaw21.PendOrder', WHERE WHAT IT READS IS OF BULK AT MOST 1048576: true; the input reads as it did. -/
def pendOrderUptoRow : OpenClaim := { program := "ythchaodakfnbbaa", sum := "368d24a936c466a518ee53cde511f653705f5fb12c067eede2b1ffc8695edd27", func := "sump/sumplaw21.PendOrder", spec := "pendOrder", apart := false, narrowed := true }
def PendOrderUptoSaid : Prop := pendOrderUptoRow.holds Try.pinned (OpenSpec.upto pendOrderSpec)

end Rows
end Go.Proofs.Ythchaodakfnbbaa
