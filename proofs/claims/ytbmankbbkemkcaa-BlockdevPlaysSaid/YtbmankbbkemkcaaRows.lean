/-
  No cell of these rows narrows 'for every input' (looked for: loops, veiled, ifaces, maps, wideKeys, modest, calm, conditions, laid).
  DERIVED. THE GIVEN ROWS OF THIS SEAT. 7 by the template 'for every input the law returns true; each argument reads behind the call as it read before'; 0 by the template 'total and deterministic' (their statements: YtbmankbbkemkcaaTotals.lean).
  GIVEN WITH THE SEED: the statements are not yours to turn. If you find one false, say at which input.
  Laid BY PROGRAM, IN A SANDBOX (cutbox-rows.mjs): the forced cells as the released guide's own fill.sh prints them over the translation b921aff81027c3bd… (all of the seat's roots in one cut). By AI agents, Wed Nov 11 2026. No macro, syntax, notation, axiom, sorry.
-/
import Derived.Test.YtbmankbbkemkcaaChecked
import GoSem.Claim
import GoSem.ClaimJoined
import GoSem.ClaimMapViews
import Derived.JoinedTies
import Derived.KernelRfl
namespace Go.Proofs.Ytbmankbbkemkcaa
/- THE CELL 'sum', in the pinned program and in every row, IS THE sha256 OF THE DUMP (.gsa) THAT YtbmankbbkemkcaaProg.lean LOADS. Nothing in Lean hashes anything: it is a label: what it is worth is what the hold of that sum in a sandbox is worth. -/
noncomputable def Try.pinned : Pinned := { name := "ytbmankbbkemkcaa", sum := "b921aff81027c3bdccdd56bdf51d715856abb299ce741d7268e7729c18c3b8b2", checked := Try.checked }
namespace Rows
def none {H : Type} : Left H := { results := [], args := [] }

/-- 'kilowattlaw12.BlockdevKeeps': WHATEVER THE INPUT: true; the input reads as it did. -/
def blockdevKeepsSpec : ChangeSpec := { name := "blockdevKeeps", fn := fun _ => fun
  | [d1, d2, d3] => { results := [.lit (.bool true)], args := [d1, d2, d3] }
  | _ => none }
def blockdevKeepsRow : OpenClaim := { program := "ytbmankbbkemkcaa", sum := "b921aff81027c3bdccdd56bdf51d715856abb299ce741d7268e7729c18c3b8b2", func := "kilowatt/kilowattlaw12.BlockdevKeeps", spec := "blockdevKeeps", unfollowed := true, recurses := true, apart := false }
def BlockdevKeepsSaid : Prop := blockdevKeepsRow.holds Try.pinned (OpenSpec.ofChange blockdevKeepsSpec)

/-- ITS FALSE NEIGHBOUR: 'it returns false'. Refute it at one input. -/
def blockdevKeepsWrong : ChangeSpec := { name := "blockdevKeeps", fn := fun _ => fun
  | [d1, d2, d3] => { results := [.lit (.bool false)], args := [d1, d2, d3] }
  | _ => none }
def BlockdevKeepsWrongFalsely : Prop := blockdevKeepsRow.holds Try.pinned (OpenSpec.ofChange blockdevKeepsWrong)

/-- 'kilowattlaw12.BlockdevDown': WHATEVER THE INPUT: true; the input reads as it did. -/
def blockdevDownSpec : ChangeSpec := { name := "blockdevDown", fn := fun _ => fun
  | [d1, d2, d3] => { results := [.lit (.bool true)], args := [d1, d2, d3] }
  | _ => none }
def blockdevDownRow : OpenClaim := { program := "ytbmankbbkemkcaa", sum := "b921aff81027c3bdccdd56bdf51d715856abb299ce741d7268e7729c18c3b8b2", func := "kilowatt/kilowattlaw12.BlockdevDown", spec := "blockdevDown", unfollowed := true, recurses := true, apart := false }
def BlockdevDownSaid : Prop := blockdevDownRow.holds Try.pinned (OpenSpec.ofChange blockdevDownSpec)

/-- ITS FALSE NEIGHBOUR: 'it returns false'. Refute it at one input. -/
def blockdevDownWrong : ChangeSpec := { name := "blockdevDown", fn := fun _ => fun
  | [d1, d2, d3] => { results := [.lit (.bool false)], args := [d1, d2, d3] }
  | _ => none }
def BlockdevDownWrongFalsely : Prop := blockdevDownRow.holds Try.pinned (OpenSpec.ofChange blockdevDownWrong)

/-- 'kilowattlaw12.BlockdevPlays': WHATEVER THE INPUT: true; the input reads as it did. -/
def blockdevPlaysSpec : ChangeSpec := { name := "blockdevPlays", fn := fun _ => fun
  | [d1, d2] => { results := [.lit (.bool true)], args := [d1, d2] }
  | _ => none }
def blockdevPlaysRow : OpenClaim := { program := "ytbmankbbkemkcaa", sum := "b921aff81027c3bdccdd56bdf51d715856abb299ce741d7268e7729c18c3b8b2", func := "kilowatt/kilowattlaw12.BlockdevPlays", spec := "blockdevPlays", unfollowed := true, recurses := true, apart := false }
def BlockdevPlaysSaid : Prop := blockdevPlaysRow.holds Try.pinned (OpenSpec.ofChange blockdevPlaysSpec)

/-- ITS FALSE NEIGHBOUR: 'it returns false'. Refute it at one input. -/
def blockdevPlaysWrong : ChangeSpec := { name := "blockdevPlays", fn := fun _ => fun
  | [d1, d2] => { results := [.lit (.bool false)], args := [d1, d2] }
  | _ => none }
def BlockdevPlaysWrongFalsely : Prop := blockdevPlaysRow.holds Try.pinned (OpenSpec.ofChange blockdevPlaysWrong)

/-- 'kilowattlaw12.BlockdevNames': WHATEVER THE INPUT: true; the input reads as it did. -/
def blockdevNamesSpec : ChangeSpec := { name := "blockdevNames", fn := fun _ => fun
  | [] => { results := [.lit (.bool true)], args := [] }
  | _ => none }
def blockdevNamesRow : OpenClaim := { program := "ytbmankbbkemkcaa", sum := "b921aff81027c3bdccdd56bdf51d715856abb299ce741d7268e7729c18c3b8b2", func := "kilowatt/kilowattlaw12.BlockdevNames", spec := "blockdevNames", unfollowed := true, recurses := true, apart := false }
def BlockdevNamesSaid : Prop := blockdevNamesRow.holds Try.pinned (OpenSpec.ofChange blockdevNamesSpec)

/-- ITS FALSE NEIGHBOUR: 'it returns false'. Refute it at one input. -/
def blockdevNamesWrong : ChangeSpec := { name := "blockdevNames", fn := fun _ => fun
  | [] => { results := [.lit (.bool false)], args := [] }
  | _ => none }
def BlockdevNamesWrongFalsely : Prop := blockdevNamesRow.holds Try.pinned (OpenSpec.ofChange blockdevNamesWrong)

/-- 'kilowattlaw14.JournalRoom': WHATEVER THE INPUT: true; the input reads as it did. -/
def journalRoomSpec : ChangeSpec := { name := "journalRoom", fn := fun _ => fun
  | [d1, d2] => { results := [.lit (.bool true)], args := [d1, d2] }
  | _ => none }
def journalRoomRow : OpenClaim := { program := "ytbmankbbkemkcaa", sum := "b921aff81027c3bdccdd56bdf51d715856abb299ce741d7268e7729c18c3b8b2", func := "kilowatt/kilowattlaw14.JournalRoom", spec := "journalRoom", unfollowed := true, recurses := true, apart := false }
def JournalRoomSaid : Prop := journalRoomRow.holds Try.pinned (OpenSpec.ofChange journalRoomSpec)

/-- ITS FALSE NEIGHBOUR: 'it returns false'. Refute it at one input. -/
def journalRoomWrong : ChangeSpec := { name := "journalRoom", fn := fun _ => fun
  | [d1, d2] => { results := [.lit (.bool false)], args := [d1, d2] }
  | _ => none }
def JournalRoomWrongFalsely : Prop := journalRoomRow.holds Try.pinned (OpenSpec.ofChange journalRoomWrong)

/-- 'kilowattlaw14.JournalGoes': WHATEVER THE INPUT: true; the input reads as it did. -/
def journalGoesSpec : ChangeSpec := { name := "journalGoes", fn := fun _ => fun
  | [d1, d2, d3] => { results := [.lit (.bool true)], args := [d1, d2, d3] }
  | _ => none }
def journalGoesRow : OpenClaim := { program := "ytbmankbbkemkcaa", sum := "b921aff81027c3bdccdd56bdf51d715856abb299ce741d7268e7729c18c3b8b2", func := "kilowatt/kilowattlaw14.JournalGoes", spec := "journalGoes", unfollowed := true, recurses := true, apart := false }
def JournalGoesSaid : Prop := journalGoesRow.holds Try.pinned (OpenSpec.ofChange journalGoesSpec)

/-- ITS FALSE NEIGHBOUR: 'it returns false'. Refute it at one input. -/
def journalGoesWrong : ChangeSpec := { name := "journalGoes", fn := fun _ => fun
  | [d1, d2, d3] => { results := [.lit (.bool false)], args := [d1, d2, d3] }
  | _ => none }
def JournalGoesWrongFalsely : Prop := journalGoesRow.holds Try.pinned (OpenSpec.ofChange journalGoesWrong)

/-- 'kilowattlaw14.JournalCrashes': WHATEVER THE INPUT: true; the input reads as it did. -/
def journalCrashesSpec : ChangeSpec := { name := "journalCrashes", fn := fun _ => fun
  | [d1, d2, d3, d4] => { results := [.lit (.bool true)], args := [d1, d2, d3, d4] }
  | _ => none }
def journalCrashesRow : OpenClaim := { program := "ytbmankbbkemkcaa", sum := "b921aff81027c3bdccdd56bdf51d715856abb299ce741d7268e7729c18c3b8b2", func := "kilowatt/kilowattlaw14.JournalCrashes", spec := "journalCrashes", unfollowed := true, recurses := true, apart := false }
def JournalCrashesSaid : Prop := journalCrashesRow.holds Try.pinned (OpenSpec.ofChange journalCrashesSpec)

/-- ITS FALSE NEIGHBOUR: 'it returns false'. Refute it at one input. -/
def journalCrashesWrong : ChangeSpec := { name := "journalCrashes", fn := fun _ => fun
  | [d1, d2, d3, d4] => { results := [.lit (.bool false)], args := [d1, d2, d3, d4] }
  | _ => none }
def JournalCrashesWrongFalsely : Prop := journalCrashesRow.holds Try.pinned (OpenSpec.ofChange journalCrashesWrong)

/- THE SECOND FORM. 'bulk': how many values and letters a reading holds, each counted each time it is reached (what is shared counts as often as it is met; a slice's spare places count too). A statement '..UptoSaid' is the law's where the arguments, and the package variables that the reading takes, are together of bulk at most 1048576: NARROWER than '..Said'. Prove '..Said' where nothing that the law and all that it calls make is longer than what came in: it says more and counts as full. Else prove '..UptoSaid'. A law counts once. -/
mutual
def uptoBulk {H : Type} : DataW H → Nat
  | .lit (.string bytes) => bytes.length + 1
  | .lit _ => 1
  | .nil => 1
  | .ptr d => uptoBulk d + 1
  | .slice elems spare => uptoBulkAll elems + uptoBulkAll spare + 1
  | .agg parts => uptoBulkAll parts + 1
  | .iface _ d => uptoBulk d + 1
  | .map entries => uptoBulkEntries entries + 1
  | .held _ => 1
def uptoBulkAll {H : Type} : List (DataW H) → Nat
  | [] => 0
  | d :: r => uptoBulk d + uptoBulkAll r
def uptoBulkEntries {H : Type} : List (Lit × DataW H) → Nat
  | [] => 0
  | x :: r => uptoBulkEntry x + uptoBulkEntries r
def uptoBulkEntry {H : Type} : Lit × DataW H → Nat
  | (.string bytes, d) => bytes.length + uptoBulk d + 1
  | (_, d) => uptoBulk d + 1
 end
def uptoSmall : (H : Type) → List (DataW H) → Bool := fun _ ds => decide (uptoBulkAll ds ≤ 1048576)
def OpenSpec.upto (s : _root_.Go.ChangeSpec) : _root_.Go.OpenSpec := { _root_.Go.OpenSpec.ofChange s with cond := some uptoSmall }

/-- 'kilowattlaw12.BlockdevKeeps', WHERE WHAT IT READS IS OF BULK AT MOST 1048576: true; the input reads as it did. -/
def blockdevKeepsUptoRow : OpenClaim := { program := "ytbmankbbkemkcaa", sum := "b921aff81027c3bdccdd56bdf51d715856abb299ce741d7268e7729c18c3b8b2", func := "kilowatt/kilowattlaw12.BlockdevKeeps", spec := "blockdevKeeps", unfollowed := true, recurses := true, apart := false, narrowed := true }
def BlockdevKeepsUptoSaid : Prop := blockdevKeepsUptoRow.holds Try.pinned (OpenSpec.upto blockdevKeepsSpec)

/-- 'kilowattlaw12.BlockdevDown', WHERE WHAT IT READS IS OF BULK AT MOST 1048576: true; the input reads as it did. -/
def blockdevDownUptoRow : OpenClaim := { program := "ytbmankbbkemkcaa", sum := "b921aff81027c3bdccdd56bdf51d715856abb299ce741d7268e7729c18c3b8b2", func := "kilowatt/kilowattlaw12.BlockdevDown", spec := "blockdevDown", unfollowed := true, recurses := true, apart := false, narrowed := true }
def BlockdevDownUptoSaid : Prop := blockdevDownUptoRow.holds Try.pinned (OpenSpec.upto blockdevDownSpec)

/-- 'kilowattlaw12.BlockdevPlays', WHERE WHAT IT READS IS OF BULK AT MOST 1048576: true; the input reads as it did. -/
def blockdevPlaysUptoRow : OpenClaim := { program := "ytbmankbbkemkcaa", sum := "b921aff81027c3bdccdd56bdf51d715856abb299ce741d7268e7729c18c3b8b2", func := "kilowatt/kilowattlaw12.BlockdevPlays", spec := "blockdevPlays", unfollowed := true, recurses := true, apart := false, narrowed := true }
def BlockdevPlaysUptoSaid : Prop := blockdevPlaysUptoRow.holds Try.pinned (OpenSpec.upto blockdevPlaysSpec)

/-- 'kilowattlaw12.BlockdevNames', WHERE WHAT IT READS IS OF BULK AT MOST 1048576: true; the input reads as it did. -/
def blockdevNamesUptoRow : OpenClaim := { program := "ytbmankbbkemkcaa", sum := "b921aff81027c3bdccdd56bdf51d715856abb299ce741d7268e7729c18c3b8b2", func := "kilowatt/kilowattlaw12.BlockdevNames", spec := "blockdevNames", unfollowed := true, recurses := true, apart := false, narrowed := true }
def BlockdevNamesUptoSaid : Prop := blockdevNamesUptoRow.holds Try.pinned (OpenSpec.upto blockdevNamesSpec)

/-- 'kilowattlaw14.JournalRoom', WHERE WHAT IT READS IS OF BULK AT MOST 1048576: true; the input reads as it did. -/
def journalRoomUptoRow : OpenClaim := { program := "ytbmankbbkemkcaa", sum := "b921aff81027c3bdccdd56bdf51d715856abb299ce741d7268e7729c18c3b8b2", func := "kilowatt/kilowattlaw14.JournalRoom", spec := "journalRoom", unfollowed := true, recurses := true, apart := false, narrowed := true }
def JournalRoomUptoSaid : Prop := journalRoomUptoRow.holds Try.pinned (OpenSpec.upto journalRoomSpec)

/-- 'kilowattlaw14.JournalGoes', WHERE WHAT IT READS IS OF BULK AT MOST 1048576: true; the input reads as it did. -/
def journalGoesUptoRow : OpenClaim := { program := "ytbmankbbkemkcaa", sum := "b921aff81027c3bdccdd56bdf51d715856abb299ce741d7268e7729c18c3b8b2", func := "kilowatt/kilowattlaw14.JournalGoes", spec := "journalGoes", unfollowed := true, recurses := true, apart := false, narrowed := true }
def JournalGoesUptoSaid : Prop := journalGoesUptoRow.holds Try.pinned (OpenSpec.upto journalGoesSpec)

/-- 'kilowattlaw14.JournalCrashes', WHERE WHAT IT READS IS OF BULK AT MOST 1048576: true; the input reads as it did. -/
def journalCrashesUptoRow : OpenClaim := { program := "ytbmankbbkemkcaa", sum := "b921aff81027c3bdccdd56bdf51d715856abb299ce741d7268e7729c18c3b8b2", func := "kilowatt/kilowattlaw14.JournalCrashes", spec := "journalCrashes", unfollowed := true, recurses := true, apart := false, narrowed := true }
def JournalCrashesUptoSaid : Prop := journalCrashesUptoRow.holds Try.pinned (OpenSpec.upto journalCrashesSpec)

end Rows
end Go.Proofs.Ytbmankbbkemkcaa
