/-
  No cell of these rows narrows 'for every input' (looked for: loops, veiled, ifaces, maps, wideKeys, modest, calm, conditions, laid).
  DERIVED. THE GIVEN ROWS OF THIS SEAT. 5 by the template 'for every input the law returns true; each argument reads behind the call as it read before'; 0 by the template 'total and deterministic' (their statements: YtdfjfagljngciaaGreatTotals.lean).
  GIVEN WITH THE SEED: the statements are not yours to turn. If you find one false, say at which input.
  Laid BY PROGRAM, IN A SANDBOX (cutbox-rows.mjs): the forced cells as the released guide's own fill.sh prints them over the translation 1d7c71d680cb47eb… (all of the seat's roots in one cut). By AI agents, Wed Nov 11 2026. No macro, syntax, notation, axiom, sorry.
-/
import Derived.Test.YtdfjfagljngciaaGreatChecked
import GoSem.Claim
import GoSem.ClaimJoined
import GoSem.ClaimMapViews
import Derived.JoinedTies
import Derived.KernelRfl
namespace Go.Proofs.YtdfjfagljngciaaGreat
/- THE CELL 'sum', in the pinned program and in every row, IS THE sha256 OF THE DUMP (.gsa) THAT YtdfjfagljngciaaGreatProg.lean LOADS. Nothing in Lean hashes anything: it is a label: what it is worth is what the hold of that sum in a sandbox is worth. -/
noncomputable def Tryz.pinned : Pinned := { name := "ytdfjfagljngciaagreat", sum := "1d7c71d680cb47eb11a701cdcb995620935ba0a0c30bbf255ead4443e3895d5b", checked := Tryz.checked }
namespace Rows
def none {H : Type} : Left H := { results := [], args := [] }

/-- 'sumplaw17.RoomGoes': WHATEVER THE INPUT: true; the input reads as it did. -/
def roomGoesSpec : ChangeSpec := { name := "roomGoes", fn := fun _ => fun
  | [d1, d2, d3] => { results := [.lit (.bool true)], args := [d1, d2, d3] }
  | _ => none }
def roomGoesRow : OpenClaim := { program := "ytdfjfagljngciaagreat", sum := "1d7c71d680cb47eb11a701cdcb995620935ba0a0c30bbf255ead4443e3895d5b", func := "sump/sumplaw17.RoomGoes", spec := "roomGoes", inPlace := ["maps.clone", "internal/bytealg.IndexByteString", "internal/bytealg.IndexString", "slices.overlaps[sump/api.Entry]"], unfollowed := true, recurses := true, named := ["internal/bytealg.MaxLen"], apart := false }
def RoomGoesSaid : Prop := roomGoesRow.holds Tryz.pinned (OpenSpec.ofChange roomGoesSpec)

/-- ITS FALSE NEIGHBOUR: 'it returns false'. Refute it at one input. -/
def roomGoesWrong : ChangeSpec := { name := "roomGoes", fn := fun _ => fun
  | [d1, d2, d3] => { results := [.lit (.bool false)], args := [d1, d2, d3] }
  | _ => none }
def RoomGoesWrongFalsely : Prop := roomGoesRow.holds Tryz.pinned (OpenSpec.ofChange roomGoesWrong)

/-- 'sumplaw17.RoomDoes': WHATEVER THE INPUT: true; the input reads as it did. -/
def roomDoesSpec : ChangeSpec := { name := "roomDoes", fn := fun _ => fun
  | [d1, d2, d3] => { results := [.lit (.bool true)], args := [d1, d2, d3] }
  | _ => none }
def roomDoesRow : OpenClaim := { program := "ytdfjfagljngciaagreat", sum := "1d7c71d680cb47eb11a701cdcb995620935ba0a0c30bbf255ead4443e3895d5b", func := "sump/sumplaw17.RoomDoes", spec := "roomDoes", inPlace := ["maps.clone", "internal/bytealg.IndexByteString", "internal/bytealg.IndexString", "slices.overlaps[sump/api.Entry]"], unfollowed := true, recurses := true, named := ["internal/bytealg.MaxLen"], apart := false }
def RoomDoesSaid : Prop := roomDoesRow.holds Tryz.pinned (OpenSpec.ofChange roomDoesSpec)

/-- ITS FALSE NEIGHBOUR: 'it returns false'. Refute it at one input. -/
def roomDoesWrong : ChangeSpec := { name := "roomDoes", fn := fun _ => fun
  | [d1, d2, d3] => { results := [.lit (.bool false)], args := [d1, d2, d3] }
  | _ => none }
def RoomDoesWrongFalsely : Prop := roomDoesRow.holds Tryz.pinned (OpenSpec.ofChange roomDoesWrong)

/-- 'sumplaw18.ImageApart': WHATEVER THE INPUT: true; the input reads as it did. -/
def imageApartSpec : ChangeSpec := { name := "imageApart", fn := fun _ => fun
  | [d1, d2] => { results := [.lit (.bool true)], args := [d1, d2] }
  | _ => none }
def imageApartRow : OpenClaim := { program := "ytdfjfagljngciaagreat", sum := "1d7c71d680cb47eb11a701cdcb995620935ba0a0c30bbf255ead4443e3895d5b", func := "sump/sumplaw18.ImageApart", spec := "imageApart", inPlace := ["internal/bytealg.IndexByteString", "internal/bytealg.IndexString", "slices.overlaps[sump/api.Entry]"], unfollowed := true, recurses := true, named := ["internal/bytealg.MaxLen"], apart := false }
def ImageApartSaid : Prop := imageApartRow.holds Tryz.pinned (OpenSpec.ofChange imageApartSpec)

/-- ITS FALSE NEIGHBOUR: 'it returns false'. Refute it at one input. -/
def imageApartWrong : ChangeSpec := { name := "imageApart", fn := fun _ => fun
  | [d1, d2] => { results := [.lit (.bool false)], args := [d1, d2] }
  | _ => none }
def ImageApartWrongFalsely : Prop := imageApartRow.holds Tryz.pinned (OpenSpec.ofChange imageApartWrong)

/-- 'sumplaw18.ImageBack': WHATEVER THE INPUT: true; the input reads as it did. -/
def imageBackSpec : ChangeSpec := { name := "imageBack", fn := fun _ => fun
  | [d1, d2, d3] => { results := [.lit (.bool true)], args := [d1, d2, d3] }
  | _ => none }
def imageBackRow : OpenClaim := { program := "ytdfjfagljngciaagreat", sum := "1d7c71d680cb47eb11a701cdcb995620935ba0a0c30bbf255ead4443e3895d5b", func := "sump/sumplaw18.ImageBack", spec := "imageBack", inPlace := ["internal/bytealg.IndexByteString", "internal/bytealg.IndexString", "slices.overlaps[sump/api.Entry]"], unfollowed := true, recurses := true, named := ["internal/bytealg.MaxLen"], apart := false }
def ImageBackSaid : Prop := imageBackRow.holds Tryz.pinned (OpenSpec.ofChange imageBackSpec)

/-- ITS FALSE NEIGHBOUR: 'it returns false'. Refute it at one input. -/
def imageBackWrong : ChangeSpec := { name := "imageBack", fn := fun _ => fun
  | [d1, d2, d3] => { results := [.lit (.bool false)], args := [d1, d2, d3] }
  | _ => none }
def ImageBackWrongFalsely : Prop := imageBackRow.holds Tryz.pinned (OpenSpec.ofChange imageBackWrong)

/-- 'sumplaw18.ImageDoes': WHATEVER THE INPUT: true; the input reads as it did. -/
def imageDoesSpec : ChangeSpec := { name := "imageDoes", fn := fun _ => fun
  | [d1, d2, d3] => { results := [.lit (.bool true)], args := [d1, d2, d3] }
  | _ => none }
def imageDoesRow : OpenClaim := { program := "ytdfjfagljngciaagreat", sum := "1d7c71d680cb47eb11a701cdcb995620935ba0a0c30bbf255ead4443e3895d5b", func := "sump/sumplaw18.ImageDoes", spec := "imageDoes", inPlace := ["internal/bytealg.IndexByteString", "internal/bytealg.IndexString", "slices.overlaps[sump/api.Entry]"], unfollowed := true, recurses := true, named := ["internal/bytealg.MaxLen"], apart := false }
def ImageDoesSaid : Prop := imageDoesRow.holds Tryz.pinned (OpenSpec.ofChange imageDoesSpec)

/-- ITS FALSE NEIGHBOUR: 'it returns false'. Refute it at one input. -/
def imageDoesWrong : ChangeSpec := { name := "imageDoes", fn := fun _ => fun
  | [d1, d2, d3] => { results := [.lit (.bool false)], args := [d1, d2, d3] }
  | _ => none }
def ImageDoesWrongFalsely : Prop := imageDoesRow.holds Tryz.pinned (OpenSpec.ofChange imageDoesWrong)

/- THE SECOND FORM. 'bulk': how many values and letters a reading holds, each counted each time it is reached (what is shared counts as often as it is met; a slice's spare places count too). A statement '..UptoSaid' is the law's where the arguments, and the package variables that the reading takes, are together of bulk at most 1048576: NARROWER than '..Said'. Prove '..Said' where nothing that the law and all that it calls make is longer than what came in: it says more and counts as full. Else prove '..UptoSaid'. A law counts once. -/
mutual
def uptoBulk {H : Type} : DataW H → Nat
  | .lit (.string bytes) => bytes.length + 1
  | .lit _ => 1
  | .nil => 1
  | .ptr d => uptoBulk d + 1
  | .slice elems spare => uptoBulkAll elems + uptoBulkAll spare + 1
  | .agg parts => uptoBulkAll parts + 1
  | .iface _ d => uptoBulk d + 1
  | .map entries => uptoBulkEntries entries + 1
  | .held _ => 1
def uptoBulkAll {H : Type} : List (DataW H) → Nat
  | [] => 0
  | d :: r => uptoBulk d + uptoBulkAll r
def uptoBulkEntries {H : Type} : List (Lit × DataW H) → Nat
  | [] => 0
  | x :: r => uptoBulkEntry x + uptoBulkEntries r
def uptoBulkEntry {H : Type} : Lit × DataW H → Nat
  | (.string bytes, d) => bytes.length + uptoBulk d + 1
  | (_, d) => uptoBulk d + 1
 end
def uptoSmall : (H : Type) → List (DataW H) → Bool := fun _ ds => decide (uptoBulkAll ds ≤ 1048576)
def OpenSpec.upto (s : _root_.Go.ChangeSpec) : _root_.Go.OpenSpec := { _root_.Go.OpenSpec.ofChange s with cond := some uptoSmall }

/-- 'sumplaw17.RoomGoes', WHERE WHAT IT READS IS OF BULK AT MOST 1048576: true; the input reads as it did. -/
def roomGoesUptoRow : OpenClaim := { program := "ytdfjfagljngciaagreat", sum := "1d7c71d680cb47eb11a701cdcb995620935ba0a0c30bbf255ead4443e3895d5b", func := "sump/sumplaw17.RoomGoes", spec := "roomGoes", inPlace := ["maps.clone", "internal/bytealg.IndexByteString", "internal/bytealg.IndexString", "slices.overlaps[sump/api.Entry]"], unfollowed := true, recurses := true, named := ["internal/bytealg.MaxLen"], apart := false, narrowed := true }
def RoomGoesUptoSaid : Prop := roomGoesUptoRow.holds Tryz.pinned (OpenSpec.upto roomGoesSpec)

/-- 'sumplaw17.RoomDoes', WHERE WHAT IT READS IS OF BULK AT MOST 1048576: true; the input reads as it did. -/
def roomDoesUptoRow : OpenClaim := { program := "ytdfjfagljngciaagreat", sum := "1d7c71d680cb47eb11a701cdcb995620935ba0a0c30bbf255ead4443e3895d5b", func := "sump/sumplaw17.RoomDoes", spec := "roomDoes", inPlace := ["maps.clone", "internal/bytealg.IndexByteString", "internal/bytealg.IndexString", "slices.overlaps[sump/api.Entry]"], unfollowed := true, recurses := true, named := ["internal/bytealg.MaxLen"], apart := false, narrowed := true }
def RoomDoesUptoSaid : Prop := roomDoesUptoRow.holds Tryz.pinned (OpenSpec.upto roomDoesSpec)

/-- 'sumplaw18.ImageApart', WHERE WHAT IT READS IS OF BULK AT MOST 1048576: true; the input reads as it did. -/
def imageApartUptoRow : OpenClaim := { program := "ytdfjfagljngciaagreat", sum := "1d7c71d680cb47eb11a701cdcb995620935ba0a0c30bbf255ead4443e3895d5b", func := "sump/sumplaw18.ImageApart", spec := "imageApart", inPlace := ["internal/bytealg.IndexByteString", "internal/bytealg.IndexString", "slices.overlaps[sump/api.Entry]"], unfollowed := true, recurses := true, named := ["internal/bytealg.MaxLen"], apart := false, narrowed := true }
def ImageApartUptoSaid : Prop := imageApartUptoRow.holds Tryz.pinned (OpenSpec.upto imageApartSpec)

/-- 'sumplaw18.ImageBack', WHERE WHAT IT READS IS OF BULK AT MOST 1048576: true; the input reads as it did. -/
def imageBackUptoRow : OpenClaim := { program := "ytdfjfagljngciaagreat", sum := "1d7c71d680cb47eb11a701cdcb995620935ba0a0c30bbf255ead4443e3895d5b", func := "sump/sumplaw18.ImageBack", spec := "imageBack", inPlace := ["internal/bytealg.IndexByteString", "internal/bytealg.IndexString", "slices.overlaps[sump/api.Entry]"], unfollowed := true, recurses := true, named := ["internal/bytealg.MaxLen"], apart := false, narrowed := true }
def ImageBackUptoSaid : Prop := imageBackUptoRow.holds Tryz.pinned (OpenSpec.upto imageBackSpec)

/-- 'sumplaw18.ImageDoes', WHERE WHAT IT READS IS OF BULK AT MOST 1048576: true; the input reads as it did. -/
def imageDoesUptoRow : OpenClaim := { program := "ytdfjfagljngciaagreat", sum := "1d7c71d680cb47eb11a701cdcb995620935ba0a0c30bbf255ead4443e3895d5b", func := "sump/sumplaw18.ImageDoes", spec := "imageDoes", inPlace := ["internal/bytealg.IndexByteString", "internal/bytealg.IndexString", "slices.overlaps[sump/api.Entry]"], unfollowed := true, recurses := true, named := ["internal/bytealg.MaxLen"], apart := false, narrowed := true }
def ImageDoesUptoSaid : Prop := imageDoesUptoRow.holds Tryz.pinned (OpenSpec.upto imageDoesSpec)

end Rows
end Go.Proofs.YtdfjfagljngciaaGreat
