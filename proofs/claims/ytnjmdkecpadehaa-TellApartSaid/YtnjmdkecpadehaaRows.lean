/-
  No cell of these rows narrows 'for every input' (looked for: loops, veiled, ifaces, maps, wideKeys, modest, calm, conditions, laid).
  DERIVED. THE GIVEN ROWS OF THIS SEAT. 5 by the template 'for every input the law returns true; each argument reads behind the call as it read before'; 0 by the template 'total and deterministic' (their statements: YtnjmdkecpadehaaTotals.lean).
  GIVEN WITH THE SEED: the statements are not yours to turn. If you find one false, say at which input.
  Laid BY PROGRAM, IN A SANDBOX (cutbox-rows.mjs): the forced cells as the released guide's own fill.sh prints them over the translation 6861e02a83f114de… (all of the seat's roots in one cut). By AI agents, Wed Nov 11 2026. No macro, syntax, notation, axiom, sorry.
-/
import Derived.Test.YtnjmdkecpadehaaChecked
import GoSem.Claim
import GoSem.ClaimJoined
import GoSem.ClaimMapViews
import Derived.JoinedTies
import Derived.KernelRfl
namespace Go.Proofs.Ytnjmdkecpadehaa
/- THE CELL 'sum', in the pinned program and in every row, IS THE sha256 OF THE DUMP (.gsa) THAT YtnjmdkecpadehaaProg.lean LOADS. Nothing in Lean hashes anything: it is a label: what it is worth is what the hold of that sum in a sandbox is worth. -/
noncomputable def Try.pinned : Pinned := { name := "ytnjmdkecpadehaa", sum := "6861e02a83f114de2e087c3c20893fa00d3b1a4b1eb9eaf6e9c818590cfe849f", checked := Try.checked }
namespace Rows
def none {H : Type} : Left H := { results := [], args := [] }

/-- 'tollbarlaw23.Tells': WHATEVER THE INPUT: true; the input reads as it did. -/
def tellsSpec : ChangeSpec := { name := "tells", fn := fun _ => fun
  | [d] => { results := [.lit (.bool true)], args := [d] }
  | _ => none }
def tellsRow : OpenClaim := { program := "ytnjmdkecpadehaa", sum := "6861e02a83f114de2e087c3c20893fa00d3b1a4b1eb9eaf6e9c818590cfe849f", func := "tollbar/tollbarlaw23.Tells", spec := "tells", inPlace := ["internal/abi.NoEscape"], apart := false }
def TellsSaid : Prop := tellsRow.holds Try.pinned (OpenSpec.ofChange tellsSpec)

/-- ITS FALSE NEIGHBOUR: 'it returns false'. Refute it at one input. -/
def tellsWrong : ChangeSpec := { name := "tells", fn := fun _ => fun
  | [d] => { results := [.lit (.bool false)], args := [d] }
  | _ => none }
def TellsWrongFalsely : Prop := tellsRow.holds Try.pinned (OpenSpec.ofChange tellsWrong)

/-- 'tollbarlaw23.TellReads': WHATEVER THE INPUT: true; the input reads as it did. -/
def tellReadsSpec : ChangeSpec := { name := "tellReads", fn := fun _ => fun
  | [d] => { results := [.lit (.bool true)], args := [d] }
  | _ => none }
def tellReadsRow : OpenClaim := { program := "ytnjmdkecpadehaa", sum := "6861e02a83f114de2e087c3c20893fa00d3b1a4b1eb9eaf6e9c818590cfe849f", func := "tollbar/tollbarlaw23.TellReads", spec := "tellReads", inPlace := ["internal/abi.NoEscape"], apart := false }
def TellReadsSaid : Prop := tellReadsRow.holds Try.pinned (OpenSpec.ofChange tellReadsSpec)

/-- ITS FALSE NEIGHBOUR: 'it returns false'. Refute it at one input. -/
def tellReadsWrong : ChangeSpec := { name := "tellReads", fn := fun _ => fun
  | [d] => { results := [.lit (.bool false)], args := [d] }
  | _ => none }
def TellReadsWrongFalsely : Prop := tellReadsRow.holds Try.pinned (OpenSpec.ofChange tellReadsWrong)

/-- 'tollbarlaw23.TellBack': WHATEVER THE INPUT: true; the input reads as it did. -/
def tellBackSpec : ChangeSpec := { name := "tellBack", fn := fun _ => fun
  | [d] => { results := [.lit (.bool true)], args := [d] }
  | _ => none }
def tellBackRow : OpenClaim := { program := "ytnjmdkecpadehaa", sum := "6861e02a83f114de2e087c3c20893fa00d3b1a4b1eb9eaf6e9c818590cfe849f", func := "tollbar/tollbarlaw23.TellBack", spec := "tellBack", inPlace := ["internal/abi.NoEscape"], apart := false }
def TellBackSaid : Prop := tellBackRow.holds Try.pinned (OpenSpec.ofChange tellBackSpec)

/-- ITS FALSE NEIGHBOUR: 'it returns false'. Refute it at one input. -/
def tellBackWrong : ChangeSpec := { name := "tellBack", fn := fun _ => fun
  | [d] => { results := [.lit (.bool false)], args := [d] }
  | _ => none }
def TellBackWrongFalsely : Prop := tellBackRow.holds Try.pinned (OpenSpec.ofChange tellBackWrong)

/-- 'tollbarlaw23.TellForms': WHATEVER THE INPUT: true; the input reads as it did. -/
def tellFormsSpec : ChangeSpec := { name := "tellForms", fn := fun _ => fun
  | [d] => { results := [.lit (.bool true)], args := [d] }
  | _ => none }
def tellFormsRow : OpenClaim := { program := "ytnjmdkecpadehaa", sum := "6861e02a83f114de2e087c3c20893fa00d3b1a4b1eb9eaf6e9c818590cfe849f", func := "tollbar/tollbarlaw23.TellForms", spec := "tellForms", inPlace := ["internal/abi.NoEscape"], apart := false }
def TellFormsSaid : Prop := tellFormsRow.holds Try.pinned (OpenSpec.ofChange tellFormsSpec)

/-- ITS FALSE NEIGHBOUR: 'it returns false'. Refute it at one input. -/
def tellFormsWrong : ChangeSpec := { name := "tellForms", fn := fun _ => fun
  | [d] => { results := [.lit (.bool false)], args := [d] }
  | _ => none }
def TellFormsWrongFalsely : Prop := tellFormsRow.holds Try.pinned (OpenSpec.ofChange tellFormsWrong)

/-- 'tollbarlaw23.TellApart': WHATEVER THE INPUT: true; the input reads as it did. -/
def tellApartSpec : ChangeSpec := { name := "tellApart", fn := fun _ => fun
  | [d1, d2] => { results := [.lit (.bool true)], args := [d1, d2] }
  | _ => none }
def tellApartRow : OpenClaim := { program := "ytnjmdkecpadehaa", sum := "6861e02a83f114de2e087c3c20893fa00d3b1a4b1eb9eaf6e9c818590cfe849f", func := "tollbar/tollbarlaw23.TellApart", spec := "tellApart", inPlace := ["internal/abi.NoEscape"], apart := false }
def TellApartSaid : Prop := tellApartRow.holds Try.pinned (OpenSpec.ofChange tellApartSpec)

/-- ITS FALSE NEIGHBOUR: 'it returns false'. Refute it at one input. -/
def tellApartWrong : ChangeSpec := { name := "tellApart", fn := fun _ => fun
  | [d1, d2] => { results := [.lit (.bool false)], args := [d1, d2] }
  | _ => none }
def TellApartWrongFalsely : Prop := tellApartRow.holds Try.pinned (OpenSpec.ofChange tellApartWrong)

/- THE SECOND FORM. 'bulk': how many values and letters a reading holds, each counted each time it is reached (what is shared counts as often as it is met; a slice's spare places count too). A statement '..UptoSaid' is the law's where the arguments, and the package variables that the reading takes, are together of bulk at most 1048576: NARROWER than '..Said'. Prove '..Said' where nothing that the law and all that it calls make is longer than what came in: it says more and counts as full. Else prove '..UptoSaid'. A law counts once. -/
mutual
def uptoBulk {H : Type} : DataW H → Nat
  | .lit (.string bytes) => bytes.length + 1
  | .lit _ => 1
  | .nil => 1
  | .ptr d => uptoBulk d + 1
  | .slice elems spare => uptoBulkAll elems + uptoBulkAll spare + 1
  | .agg parts => uptoBulkAll parts + 1
  | .iface _ d => uptoBulk d + 1
  | .map entries => uptoBulkEntries entries + 1
  | .held _ => 1
def uptoBulkAll {H : Type} : List (DataW H) → Nat
  | [] => 0
  | d :: r => uptoBulk d + uptoBulkAll r
def uptoBulkEntries {H : Type} : List (Lit × DataW H) → Nat
  | [] => 0
  | x :: r => uptoBulkEntry x + uptoBulkEntries r
def uptoBulkEntry {H : Type} : Lit × DataW H → Nat
  | (.string bytes, d) => bytes.length + uptoBulk d + 1
  | (_, d) => uptoBulk d + 1
 end
def uptoSmall : (H : Type) → List (DataW H) → Bool := fun _ ds => decide (uptoBulkAll ds ≤ 1048576)
def OpenSpec.upto (s : _root_.Go.ChangeSpec) : _root_.Go.OpenSpec := { _root_.Go.OpenSpec.ofChange s with cond := some uptoSmall }

/-- 'tollbarlaw23.Tells', WHERE WHAT IT READS IS OF BULK AT MOST 1048576: true; the input reads as it did. -/
def tellsUptoRow : OpenClaim := { program := "ytnjmdkecpadehaa", sum := "6861e02a83f114de2e087c3c20893fa00d3b1a4b1eb9eaf6e9c818590cfe849f", func := "tollbar/tollbarlaw23.Tells", spec := "tells", inPlace := ["internal/abi.NoEscape"], apart := false, narrowed := true }
def TellsUptoSaid : Prop := tellsUptoRow.holds Try.pinned (OpenSpec.upto tellsSpec)

/-- 'tollbarlaw23.TellReads', WHERE WHAT IT READS IS OF BULK AT MOST 1048576: true; the input reads as it did. -/
def tellReadsUptoRow : OpenClaim := { program := "ytnjmdkecpadehaa", sum := "6861e02a83f114de2e087c3c20893fa00d3b1a4b1eb9eaf6e9c818590cfe849f", func := "tollbar/tollbarlaw23.TellReads", spec := "tellReads", inPlace := ["internal/abi.NoEscape"], apart := false, narrowed := true }
def TellReadsUptoSaid : Prop := tellReadsUptoRow.holds Try.pinned (OpenSpec.upto tellReadsSpec)

/-- 'tollbarlaw23.TellBack', WHERE WHAT IT READS IS OF BULK AT MOST 1048576: true; the input reads as it did. -/
def tellBackUptoRow : OpenClaim := { program := "ytnjmdkecpadehaa", sum := "6861e02a83f114de2e087c3c20893fa00d3b1a4b1eb9eaf6e9c818590cfe849f", func := "tollbar/tollbarlaw23.TellBack", spec := "tellBack", inPlace := ["internal/abi.NoEscape"], apart := false, narrowed := true }
def TellBackUptoSaid : Prop := tellBackUptoRow.holds Try.pinned (OpenSpec.upto tellBackSpec)

/-- 'tollbarlaw23.TellForms', WHERE WHAT IT READS IS OF BULK AT MOST 1048576: true; the input reads as it did. -/
def tellFormsUptoRow : OpenClaim := { program := "ytnjmdkecpadehaa", sum := "6861e02a83f114de2e087c3c20893fa00d3b1a4b1eb9eaf6e9c818590cfe849f", func := "tollbar/tollbarlaw23.TellForms", spec := "tellForms", inPlace := ["internal/abi.NoEscape"], apart := false, narrowed := true }
def TellFormsUptoSaid : Prop := tellFormsUptoRow.holds Try.pinned (OpenSpec.upto tellFormsSpec)

/-- 'tollbarlaw23.TellApart', WHERE WHAT IT READS IS OF BULK AT MOST 1048576: true; the input reads as it did. -/
def tellApartUptoRow : OpenClaim := { program := "ytnjmdkecpadehaa", sum := "6861e02a83f114de2e087c3c20893fa00d3b1a4b1eb9eaf6e9c818590cfe849f", func := "tollbar/tollbarlaw23.TellApart", spec := "tellApart", inPlace := ["internal/abi.NoEscape"], apart := false, narrowed := true }
def TellApartUptoSaid : Prop := tellApartUptoRow.holds Try.pinned (OpenSpec.upto tellApartSpec)

end Rows
end Go.Proofs.Ytnjmdkecpadehaa
