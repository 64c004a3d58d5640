/-
  No cell of these rows narrows 'for every input' (looked for: loops, veiled, ifaces, maps, wideKeys, modest, calm, conditions, laid).
  DERIVED. THE GIVEN ROWS OF THIS SEAT. 11 by the template 'for every input the law returns true; each argument reads behind the call as it read before'; 0 by the template 'total and deterministic' (their statements: YthkaicbkcaiffaaTotals.lean).
  GIVEN WITH THE SEED: the statements are not yours to turn. If you find one false, say at which input.
  Laid BY PROGRAM, IN A SANDBOX (cutbox-rows.mjs): the forced cells as the released guide's own fill.sh prints them over the translation 3e6a91fa9a71e706… (all of the seat's roots in one cut). By AI agents, Wed Nov 11 2026. No macro, syntax, notation, axiom, sorry.
-/
import Derived.Test.YthkaicbkcaiffaaChecked
import GoSem.Claim
import GoSem.ClaimJoined
import GoSem.ClaimMapViews
import Derived.JoinedTies
import Derived.KernelRfl
namespace Go.Proofs.Ythkaicbkcaiffaa
/- THE CELL 'sum', in the pinned program and in every row, IS THE sha256 OF THE DUMP (.gsa) THAT YthkaicbkcaiffaaProg.lean LOADS. Nothing in Lean hashes anything: it is a label: what it is worth is what the hold of that sum in a sandbox is worth. -/
noncomputable def Try.pinned : Pinned := { name := "ythkaicbkcaiffaa", sum := "3e6a91fa9a71e706e0a49b6d8e860d526360f6c19b48845481ee23f8546bb168", checked := Try.checked }
namespace Rows
def none {H : Type} : Left H := { results := [], args := [] }

/-- 'graftlaw5.SieveOverlaps': WHATEVER THE INPUT: true; the input reads as it did. -/
def sieveOverlapsSpec : ChangeSpec := { name := "sieveOverlaps", fn := fun _ => fun
  | [d1, d2] => { results := [.lit (.bool true)], args := [d1, d2] }
  | _ => none }
def sieveOverlapsRow : OpenClaim := { program := "ythkaicbkcaiffaa", sum := "3e6a91fa9a71e706e0a49b6d8e860d526360f6c19b48845481ee23f8546bb168", func := "graft/graftlaw5.SieveOverlaps", spec := "sieveOverlaps", plainKeys := false, apart := false }
def SieveOverlapsSaid : Prop := sieveOverlapsRow.holds Try.pinned (OpenSpec.ofChange sieveOverlapsSpec)

/-- ITS FALSE NEIGHBOUR: 'it returns false'. Refute it at one input. -/
def sieveOverlapsWrong : ChangeSpec := { name := "sieveOverlaps", fn := fun _ => fun
  | [d1, d2] => { results := [.lit (.bool false)], args := [d1, d2] }
  | _ => none }
def SieveOverlapsWrongFalsely : Prop := sieveOverlapsRow.holds Try.pinned (OpenSpec.ofChange sieveOverlapsWrong)

/-- 'graftlaw5.SieveBegins': WHATEVER THE INPUT: true; the input reads as it did. -/
def sieveBeginsSpec : ChangeSpec := { name := "sieveBegins", fn := fun _ => fun
  | [d1, d2] => { results := [.lit (.bool true)], args := [d1, d2] }
  | _ => none }
def sieveBeginsRow : OpenClaim := { program := "ythkaicbkcaiffaa", sum := "3e6a91fa9a71e706e0a49b6d8e860d526360f6c19b48845481ee23f8546bb168", func := "graft/graftlaw5.SieveBegins", spec := "sieveBegins", plainKeys := false, apart := false }
def SieveBeginsSaid : Prop := sieveBeginsRow.holds Try.pinned (OpenSpec.ofChange sieveBeginsSpec)

/-- ITS FALSE NEIGHBOUR: 'it returns false'. Refute it at one input. -/
def sieveBeginsWrong : ChangeSpec := { name := "sieveBegins", fn := fun _ => fun
  | [d1, d2] => { results := [.lit (.bool false)], args := [d1, d2] }
  | _ => none }
def SieveBeginsWrongFalsely : Prop := sieveBeginsRow.holds Try.pinned (OpenSpec.ofChange sieveBeginsWrong)

/-- 'graftlaw5.SieveScans': WHATEVER THE INPUT: true; the input reads as it did. -/
def sieveScansSpec : ChangeSpec := { name := "sieveScans", fn := fun _ => fun
  | [d1, d2, d3] => { results := [.lit (.bool true)], args := [d1, d2, d3] }
  | _ => none }
def sieveScansRow : OpenClaim := { program := "ythkaicbkcaiffaa", sum := "3e6a91fa9a71e706e0a49b6d8e860d526360f6c19b48845481ee23f8546bb168", func := "graft/graftlaw5.SieveScans", spec := "sieveScans", plainKeys := false, apart := false }
def SieveScansSaid : Prop := sieveScansRow.holds Try.pinned (OpenSpec.ofChange sieveScansSpec)

/-- ITS FALSE NEIGHBOUR: 'it returns false'. Refute it at one input. -/
def sieveScansWrong : ChangeSpec := { name := "sieveScans", fn := fun _ => fun
  | [d1, d2, d3] => { results := [.lit (.bool false)], args := [d1, d2, d3] }
  | _ => none }
def SieveScansWrongFalsely : Prop := sieveScansRow.holds Try.pinned (OpenSpec.ofChange sieveScansWrong)

/-- 'graftlaw5.SieveFinds': WHATEVER THE INPUT: true; the input reads as it did. -/
def sieveFindsSpec : ChangeSpec := { name := "sieveFinds", fn := fun _ => fun
  | [d1, d2, d3, d4] => { results := [.lit (.bool true)], args := [d1, d2, d3, d4] }
  | _ => none }
def sieveFindsRow : OpenClaim := { program := "ythkaicbkcaiffaa", sum := "3e6a91fa9a71e706e0a49b6d8e860d526360f6c19b48845481ee23f8546bb168", func := "graft/graftlaw5.SieveFinds", spec := "sieveFinds", plainKeys := false, apart := false }
def SieveFindsSaid : Prop := sieveFindsRow.holds Try.pinned (OpenSpec.ofChange sieveFindsSpec)

/-- ITS FALSE NEIGHBOUR: 'it returns false'. Refute it at one input. -/
def sieveFindsWrong : ChangeSpec := { name := "sieveFinds", fn := fun _ => fun
  | [d1, d2, d3, d4] => { results := [.lit (.bool false)], args := [d1, d2, d3, d4] }
  | _ => none }
def SieveFindsWrongFalsely : Prop := sieveFindsRow.holds Try.pinned (OpenSpec.ofChange sieveFindsWrong)

/-- 'graftlaw5.SieveStreams': WHATEVER THE INPUT: true; the input reads as it did. -/
def sieveStreamsSpec : ChangeSpec := { name := "sieveStreams", fn := fun _ => fun
  | [d1, d2, d3, d4, d5, d6] => { results := [.lit (.bool true)], args := [d1, d2, d3, d4, d5, d6] }
  | _ => none }
def sieveStreamsRow : OpenClaim := { program := "ythkaicbkcaiffaa", sum := "3e6a91fa9a71e706e0a49b6d8e860d526360f6c19b48845481ee23f8546bb168", func := "graft/graftlaw5.SieveStreams", spec := "sieveStreams", plainKeys := false, apart := false }
def SieveStreamsSaid : Prop := sieveStreamsRow.holds Try.pinned (OpenSpec.ofChange sieveStreamsSpec)

/-- ITS FALSE NEIGHBOUR: 'it returns false'. Refute it at one input. -/
def sieveStreamsWrong : ChangeSpec := { name := "sieveStreams", fn := fun _ => fun
  | [d1, d2, d3, d4, d5, d6] => { results := [.lit (.bool false)], args := [d1, d2, d3, d4, d5, d6] }
  | _ => none }
def SieveStreamsWrongFalsely : Prop := sieveStreamsRow.holds Try.pinned (OpenSpec.ofChange sieveStreamsWrong)

/-- 'graftlaw5.SieveBack': WHATEVER THE INPUT: true; the input reads as it did. -/
def sieveBackSpec : ChangeSpec := { name := "sieveBack", fn := fun _ => fun
  | [d1, d2, d3, d4, d5] => { results := [.lit (.bool true)], args := [d1, d2, d3, d4, d5] }
  | _ => none }
def sieveBackRow : OpenClaim := { program := "ythkaicbkcaiffaa", sum := "3e6a91fa9a71e706e0a49b6d8e860d526360f6c19b48845481ee23f8546bb168", func := "graft/graftlaw5.SieveBack", spec := "sieveBack", plainKeys := false, apart := false }
def SieveBackSaid : Prop := sieveBackRow.holds Try.pinned (OpenSpec.ofChange sieveBackSpec)

/-- ITS FALSE NEIGHBOUR: 'it returns false'. Refute it at one input. -/
def sieveBackWrong : ChangeSpec := { name := "sieveBack", fn := fun _ => fun
  | [d1, d2, d3, d4, d5] => { results := [.lit (.bool false)], args := [d1, d2, d3, d4, d5] }
  | _ => none }
def SieveBackWrongFalsely : Prop := sieveBackRow.holds Try.pinned (OpenSpec.ofChange sieveBackWrong)

/-- 'graftlaw5.SieveWrites': WHATEVER THE INPUT: true; the input reads as it did. -/
def sieveWritesSpec : ChangeSpec := { name := "sieveWrites", fn := fun _ => fun
  | [d1, d2, d3] => { results := [.lit (.bool true)], args := [d1, d2, d3] }
  | _ => none }
def sieveWritesRow : OpenClaim := { program := "ythkaicbkcaiffaa", sum := "3e6a91fa9a71e706e0a49b6d8e860d526360f6c19b48845481ee23f8546bb168", func := "graft/graftlaw5.SieveWrites", spec := "sieveWrites", plainKeys := false, apart := false }
def SieveWritesSaid : Prop := sieveWritesRow.holds Try.pinned (OpenSpec.ofChange sieveWritesSpec)

/-- ITS FALSE NEIGHBOUR: 'it returns false'. Refute it at one input. -/
def sieveWritesWrong : ChangeSpec := { name := "sieveWrites", fn := fun _ => fun
  | [d1, d2, d3] => { results := [.lit (.bool false)], args := [d1, d2, d3] }
  | _ => none }
def SieveWritesWrongFalsely : Prop := sieveWritesRow.holds Try.pinned (OpenSpec.ofChange sieveWritesWrong)

/-- 'graftlaw5.SieveCuts': WHATEVER THE INPUT: true; the input reads as it did. -/
def sieveCutsSpec : ChangeSpec := { name := "sieveCuts", fn := fun _ => fun
  | [d1, d2, d3, d4, d5] => { results := [.lit (.bool true)], args := [d1, d2, d3, d4, d5] }
  | _ => none }
def sieveCutsRow : OpenClaim := { program := "ythkaicbkcaiffaa", sum := "3e6a91fa9a71e706e0a49b6d8e860d526360f6c19b48845481ee23f8546bb168", func := "graft/graftlaw5.SieveCuts", spec := "sieveCuts", plainKeys := false, apart := false }
def SieveCutsSaid : Prop := sieveCutsRow.holds Try.pinned (OpenSpec.ofChange sieveCutsSpec)

/-- ITS FALSE NEIGHBOUR: 'it returns false'. Refute it at one input. -/
def sieveCutsWrong : ChangeSpec := { name := "sieveCuts", fn := fun _ => fun
  | [d1, d2, d3, d4, d5] => { results := [.lit (.bool false)], args := [d1, d2, d3, d4, d5] }
  | _ => none }
def SieveCutsWrongFalsely : Prop := sieveCutsRow.holds Try.pinned (OpenSpec.ofChange sieveCutsWrong)

/-- 'graftlaw5.SieveFresh': WHATEVER THE INPUT: true; the input reads as it did. -/
def sieveFreshSpec : ChangeSpec := { name := "sieveFresh", fn := fun _ => fun
  | [d1, d2, d3, d4] => { results := [.lit (.bool true)], args := [d1, d2, d3, d4] }
  | _ => none }
def sieveFreshRow : OpenClaim := { program := "ythkaicbkcaiffaa", sum := "3e6a91fa9a71e706e0a49b6d8e860d526360f6c19b48845481ee23f8546bb168", func := "graft/graftlaw5.SieveFresh", spec := "sieveFresh", plainKeys := false, apart := false }
def SieveFreshSaid : Prop := sieveFreshRow.holds Try.pinned (OpenSpec.ofChange sieveFreshSpec)

/-- ITS FALSE NEIGHBOUR: 'it returns false'. Refute it at one input. -/
def sieveFreshWrong : ChangeSpec := { name := "sieveFresh", fn := fun _ => fun
  | [d1, d2, d3, d4] => { results := [.lit (.bool false)], args := [d1, d2, d3, d4] }
  | _ => none }
def SieveFreshWrongFalsely : Prop := sieveFreshRow.holds Try.pinned (OpenSpec.ofChange sieveFreshWrong)

/-- 'graftlaw5.SieveKeeps': WHATEVER THE INPUT: true; the input reads as it did. -/
def sieveKeepsSpec : ChangeSpec := { name := "sieveKeeps", fn := fun _ => fun
  | [d1, d2, d3, d4, d5] => { results := [.lit (.bool true)], args := [d1, d2, d3, d4, d5] }
  | _ => none }
def sieveKeepsRow : OpenClaim := { program := "ythkaicbkcaiffaa", sum := "3e6a91fa9a71e706e0a49b6d8e860d526360f6c19b48845481ee23f8546bb168", func := "graft/graftlaw5.SieveKeeps", spec := "sieveKeeps", plainKeys := false, apart := false }
def SieveKeepsSaid : Prop := sieveKeepsRow.holds Try.pinned (OpenSpec.ofChange sieveKeepsSpec)

/-- ITS FALSE NEIGHBOUR: 'it returns false'. Refute it at one input. -/
def sieveKeepsWrong : ChangeSpec := { name := "sieveKeeps", fn := fun _ => fun
  | [d1, d2, d3, d4, d5] => { results := [.lit (.bool false)], args := [d1, d2, d3, d4, d5] }
  | _ => none }
def SieveKeepsWrongFalsely : Prop := sieveKeepsRow.holds Try.pinned (OpenSpec.ofChange sieveKeepsWrong)

/-- 'graftlaw5.SieveNil': WHATEVER THE INPUT: true; the input reads as it did. -/
def sieveNilSpec : ChangeSpec := { name := "sieveNil", fn := fun _ => fun
  | [] => { results := [.lit (.bool true)], args := [] }
  | _ => none }
def sieveNilRow : OpenClaim := { program := "ythkaicbkcaiffaa", sum := "3e6a91fa9a71e706e0a49b6d8e860d526360f6c19b48845481ee23f8546bb168", func := "graft/graftlaw5.SieveNil", spec := "sieveNil", plainKeys := false, apart := false }
def SieveNilSaid : Prop := sieveNilRow.holds Try.pinned (OpenSpec.ofChange sieveNilSpec)

/-- ITS FALSE NEIGHBOUR: 'it returns false'. Refute it at one input. -/
def sieveNilWrong : ChangeSpec := { name := "sieveNil", fn := fun _ => fun
  | [] => { results := [.lit (.bool false)], args := [] }
  | _ => none }
def SieveNilWrongFalsely : Prop := sieveNilRow.holds Try.pinned (OpenSpec.ofChange sieveNilWrong)

/- THE SECOND FORM. 'bulk': how many values and letters a reading holds, each counted each time it is reached (what is shared counts as often as it is met; a slice's spare places count too). A statement '..UptoSaid' is the law's where the arguments, and the package variables that the reading takes, are together of bulk at most 1048576: NARROWER than '..Said'. Prove '..Said' where nothing that the law and all that it calls make is longer than what came in: it says more and counts as full. Else prove '..UptoSaid'. A law counts once. -/
mutual
def uptoBulk {H : Type} : DataW H → Nat
  | .lit (.string bytes) => bytes.length + 1
  | .lit _ => 1
  | .nil => 1
  | .ptr d => uptoBulk d + 1
  | .slice elems spare => uptoBulkAll elems + uptoBulkAll spare + 1
  | .agg parts => uptoBulkAll parts + 1
  | .iface _ d => uptoBulk d + 1
  | .map entries => uptoBulkEntries entries + 1
  | .held _ => 1
def uptoBulkAll {H : Type} : List (DataW H) → Nat
  | [] => 0
  | d :: r => uptoBulk d + uptoBulkAll r
def uptoBulkEntries {H : Type} : List (Lit × DataW H) → Nat
  | [] => 0
  | x :: r => uptoBulkEntry x + uptoBulkEntries r
def uptoBulkEntry {H : Type} : Lit × DataW H → Nat
  | (.string bytes, d) => bytes.length + uptoBulk d + 1
  | (_, d) => uptoBulk d + 1
 end
def uptoSmall : (H : Type) → List (DataW H) → Bool := fun _ ds => decide (uptoBulkAll ds ≤ 1048576)
def OpenSpec.upto (s : _root_.Go.ChangeSpec) : _root_.Go.OpenSpec := { _root_.Go.OpenSpec.ofChange s with cond := some uptoSmall }

/-- 'graftlaw5.SieveOverlaps', WHERE WHAT IT READS IS OF BULK AT MOST 1048576: true; the input reads as it did. -/
def sieveOverlapsUptoRow : OpenClaim := { program := "ythkaicbkcaiffaa", sum := "3e6a91fa9a71e706e0a49b6d8e860d526360f6c19b48845481ee23f8546bb168", func := "graft/graftlaw5.SieveOverlaps", spec := "sieveOverlaps", plainKeys := false, apart := false, narrowed := true }
def SieveOverlapsUptoSaid : Prop := sieveOverlapsUptoRow.holds Try.pinned (OpenSpec.upto sieveOverlapsSpec)

/-- 'graftlaw5.SieveBegins', WHERE WHAT IT READS IS OF BULK AT MOST 1048576: true; the input reads as it did. -/
def sieveBeginsUptoRow : OpenClaim := { program := "ythkaicbkcaiffaa", sum := "3e6a91fa9a71e706e0a49b6d8e860d526360f6c19b48845481ee23f8546bb168", func := "graft/graftlaw5.SieveBegins", spec := "sieveBegins", plainKeys := false, apart := false, narrowed := true }
def SieveBeginsUptoSaid : Prop := sieveBeginsUptoRow.holds Try.pinned (OpenSpec.upto sieveBeginsSpec)

/-- 'graftlaw5.SieveScans', WHERE WHAT IT READS IS OF BULK AT MOST 1048576: true; the input reads as it did. -/
def sieveScansUptoRow : OpenClaim := { program := "ythkaicbkcaiffaa", sum := "3e6a91fa9a71e706e0a49b6d8e860d526360f6c19b48845481ee23f8546bb168", func := "graft/graftlaw5.SieveScans", spec := "sieveScans", plainKeys := false, apart := false, narrowed := true }
def SieveScansUptoSaid : Prop := sieveScansUptoRow.holds Try.pinned (OpenSpec.upto sieveScansSpec)

/-- 'graftlaw5.SieveFinds', WHERE WHAT IT READS IS OF BULK AT MOST 1048576: true; the input reads as it did. -/
def sieveFindsUptoRow : OpenClaim := { program := "ythkaicbkcaiffaa", sum := "3e6a91fa9a71e706e0a49b6d8e860d526360f6c19b48845481ee23f8546bb168", func := "graft/graftlaw5.SieveFinds", spec := "sieveFinds", plainKeys := false, apart := false, narrowed := true }
def SieveFindsUptoSaid : Prop := sieveFindsUptoRow.holds Try.pinned (OpenSpec.upto sieveFindsSpec)

/-- 'graftlaw5.SieveStreams', WHERE WHAT IT READS IS OF BULK AT MOST 1048576: true; the input reads as it did. -/
def sieveStreamsUptoRow : OpenClaim := { program := "ythkaicbkcaiffaa", sum := "3e6a91fa9a71e706e0a49b6d8e860d526360f6c19b48845481ee23f8546bb168", func := "graft/graftlaw5.SieveStreams", spec := "sieveStreams", plainKeys := false, apart := false, narrowed := true }
def SieveStreamsUptoSaid : Prop := sieveStreamsUptoRow.holds Try.pinned (OpenSpec.upto sieveStreamsSpec)

/-- 'graftlaw5.SieveBack', WHERE WHAT IT READS IS OF BULK AT MOST 1048576: true; the input reads as it did. -/
def sieveBackUptoRow : OpenClaim := { program := "ythkaicbkcaiffaa", sum := "3e6a91fa9a71e706e0a49b6d8e860d526360f6c19b48845481ee23f8546bb168", func := "graft/graftlaw5.SieveBack", spec := "sieveBack", plainKeys := false, apart := false, narrowed := true }
def SieveBackUptoSaid : Prop := sieveBackUptoRow.holds Try.pinned (OpenSpec.upto sieveBackSpec)

/-- 'graftlaw5.SieveWrites', WHERE WHAT IT READS IS OF BULK AT MOST 1048576: true; the input reads as it did. -/
def sieveWritesUptoRow : OpenClaim := { program := "ythkaicbkcaiffaa", sum := "3e6a91fa9a71e706e0a49b6d8e860d526360f6c19b48845481ee23f8546bb168", func := "graft/graftlaw5.SieveWrites", spec := "sieveWrites", plainKeys := false, apart := false, narrowed := true }
def SieveWritesUptoSaid : Prop := sieveWritesUptoRow.holds Try.pinned (OpenSpec.upto sieveWritesSpec)

/-- 'graftlaw5.SieveCuts', WHERE WHAT IT READS IS OF BULK AT MOST 1048576: true; the input reads as it did. -/
def sieveCutsUptoRow : OpenClaim := { program := "ythkaicbkcaiffaa", sum := "3e6a91fa9a71e706e0a49b6d8e860d526360f6c19b48845481ee23f8546bb168", func := "graft/graftlaw5.SieveCuts", spec := "sieveCuts", plainKeys := false, apart := false, narrowed := true }
def SieveCutsUptoSaid : Prop := sieveCutsUptoRow.holds Try.pinned (OpenSpec.upto sieveCutsSpec)

/-- 'graftlaw5.SieveFresh', WHERE WHAT IT READS IS OF BULK AT MOST 1048576: true; the input reads as it did. -/
def sieveFreshUptoRow : OpenClaim := { program := "ythkaicbkcaiffaa", sum := "3e6a91fa9a71e706e0a49b6d8e860d526360f6c19b48845481ee23f8546bb168", func := "graft/graftlaw5.SieveFresh", spec := "sieveFresh", plainKeys := false, apart := false, narrowed := true }
def SieveFreshUptoSaid : Prop := sieveFreshUptoRow.holds Try.pinned (OpenSpec.upto sieveFreshSpec)

/-- 'graftlaw5.SieveKeeps', WHERE WHAT IT READS IS OF BULK AT MOST 1048576: true; the input reads as it did. -/
def sieveKeepsUptoRow : OpenClaim := { program := "ythkaicbkcaiffaa", sum := "3e6a91fa9a71e706e0a49b6d8e860d526360f6c19b48845481ee23f8546bb168", func := "graft/graftlaw5.SieveKeeps", spec := "sieveKeeps", plainKeys := false, apart := false, narrowed := true }
def SieveKeepsUptoSaid : Prop := sieveKeepsUptoRow.holds Try.pinned (OpenSpec.upto sieveKeepsSpec)

/-- 'graftlaw5.SieveNil', WHERE WHAT IT READS IS OF BULK AT MOST 1048576: true; the input reads as it did. -/
def sieveNilUptoRow : OpenClaim := { program := "ythkaicbkcaiffaa", sum := "3e6a91fa9a71e706e0a49b6d8e860d526360f6c19b48845481ee23f8546bb168", func := "graft/graftlaw5.SieveNil", spec := "sieveNil", plainKeys := false, apart := false, narrowed := true }
def SieveNilUptoSaid : Prop := sieveNilUptoRow.holds Try.pinned (OpenSpec.upto sieveNilSpec)

end Rows
end Go.Proofs.Ythkaicbkcaiffaa
