/-
  No cell of these rows narrows 'for every input' (looked for: loops, veiled, ifaces, maps, wideKeys, modest, calm, conditions, laid).
  DERIVED. THE GIVEN ROWS OF THIS SEAT. 9 by the template 'for every input the law returns true; each argument reads behind the call as it read before'; 0 by the template 'total and deterministic' (their statements: YtffgjjhopopgcaaTotals.lean).
  GIVEN WITH THE SEED: the statements are not yours to turn. If you find one false, say at which input.
  Laid BY PROGRAM, IN A SANDBOX (cutbox-rows.mjs): the forced cells as the released guide's own fill.sh prints them over the translation df37a7e80e0f1d0e… (all of the seat's roots in one cut). By AI agents, Wed Nov 11 2026. No macro, syntax, notation, axiom, sorry.
-/
import Derived.Test.YtffgjjhopopgcaaChecked
import GoSem.Claim
import GoSem.ClaimJoined
import GoSem.ClaimMapViews
import Derived.JoinedTies
import Derived.KernelRfl
namespace Go.Proofs.Ytffgjjhopopgcaa
/- THE CELL 'sum', in the pinned program and in every row, IS THE sha256 OF THE DUMP (.gsa) THAT YtffgjjhopopgcaaProg.lean LOADS. Nothing in Lean hashes anything: it is a label: what it is worth is what the hold of that sum in a sandbox is worth. -/
noncomputable def Try.pinned : Pinned := { name := "ytffgjjhopopgcaa", sum := "df37a7e80e0f1d0e501e361e359c79cec5d40b4a119d8672b8253a67bb61a32a", checked := Try.checked }
namespace Rows
def none {H : Type} : Left H := { results := [], args := [] }

/-- 'lighterlaw09.InodesGet': WHATEVER THE INPUT: true; the input reads as it did. -/
def inodesGetSpec : ChangeSpec := { name := "inodesGet", fn := fun _ => fun
  | [d] => { results := [.lit (.bool true)], args := [d] }
  | _ => none }
def inodesGetRow : OpenClaim := { program := "ytffgjjhopopgcaa", sum := "df37a7e80e0f1d0e501e361e359c79cec5d40b4a119d8672b8253a67bb61a32a", func := "lighter/lighterlaw09.InodesGet", spec := "inodesGet", inPlace := ["internal/abi.NoEscape", "internal/bytealg.MakeNoZero"], apart := false }
def InodesGetSaid : Prop := inodesGetRow.holds Try.pinned (OpenSpec.ofChange inodesGetSpec)

/-- ITS FALSE NEIGHBOUR: 'it returns false'. Refute it at one input. -/
def inodesGetWrong : ChangeSpec := { name := "inodesGet", fn := fun _ => fun
  | [d] => { results := [.lit (.bool false)], args := [d] }
  | _ => none }
def InodesGetWrongFalsely : Prop := inodesGetRow.holds Try.pinned (OpenSpec.ofChange inodesGetWrong)

/-- 'lighterlaw09.InodesSizes': WHATEVER THE INPUT: true; the input reads as it did. -/
def inodesSizesSpec : ChangeSpec := { name := "inodesSizes", fn := fun _ => fun
  | [d1, d2] => { results := [.lit (.bool true)], args := [d1, d2] }
  | _ => none }
def inodesSizesRow : OpenClaim := { program := "ytffgjjhopopgcaa", sum := "df37a7e80e0f1d0e501e361e359c79cec5d40b4a119d8672b8253a67bb61a32a", func := "lighter/lighterlaw09.InodesSizes", spec := "inodesSizes", inPlace := ["internal/abi.NoEscape", "internal/bytealg.MakeNoZero"], apart := false }
def InodesSizesSaid : Prop := inodesSizesRow.holds Try.pinned (OpenSpec.ofChange inodesSizesSpec)

/-- ITS FALSE NEIGHBOUR: 'it returns false'. Refute it at one input. -/
def inodesSizesWrong : ChangeSpec := { name := "inodesSizes", fn := fun _ => fun
  | [d1, d2] => { results := [.lit (.bool false)], args := [d1, d2] }
  | _ => none }
def InodesSizesWrongFalsely : Prop := inodesSizesRow.holds Try.pinned (OpenSpec.ofChange inodesSizesWrong)

/-- 'lighterlaw09.InodesTell': WHATEVER THE INPUT: true; the input reads as it did. -/
def inodesTellSpec : ChangeSpec := { name := "inodesTell", fn := fun _ => fun
  | [d1, d2] => { results := [.lit (.bool true)], args := [d1, d2] }
  | _ => none }
def inodesTellRow : OpenClaim := { program := "ytffgjjhopopgcaa", sum := "df37a7e80e0f1d0e501e361e359c79cec5d40b4a119d8672b8253a67bb61a32a", func := "lighter/lighterlaw09.InodesTell", spec := "inodesTell", inPlace := ["internal/abi.NoEscape", "internal/bytealg.MakeNoZero"], apart := false }
def InodesTellSaid : Prop := inodesTellRow.holds Try.pinned (OpenSpec.ofChange inodesTellSpec)

/-- ITS FALSE NEIGHBOUR: 'it returns false'. Refute it at one input. -/
def inodesTellWrong : ChangeSpec := { name := "inodesTell", fn := fun _ => fun
  | [d1, d2] => { results := [.lit (.bool false)], args := [d1, d2] }
  | _ => none }
def InodesTellWrongFalsely : Prop := inodesTellRow.holds Try.pinned (OpenSpec.ofChange inodesTellWrong)

/-- 'lighterlaw09.InodesBack': WHATEVER THE INPUT: true; the input reads as it did. -/
def inodesBackSpec : ChangeSpec := { name := "inodesBack", fn := fun _ => fun
  | [d1, d2, d3] => { results := [.lit (.bool true)], args := [d1, d2, d3] }
  | _ => none }
def inodesBackRow : OpenClaim := { program := "ytffgjjhopopgcaa", sum := "df37a7e80e0f1d0e501e361e359c79cec5d40b4a119d8672b8253a67bb61a32a", func := "lighter/lighterlaw09.InodesBack", spec := "inodesBack", inPlace := ["internal/abi.NoEscape", "internal/bytealg.MakeNoZero"], apart := false }
def InodesBackSaid : Prop := inodesBackRow.holds Try.pinned (OpenSpec.ofChange inodesBackSpec)

/-- ITS FALSE NEIGHBOUR: 'it returns false'. Refute it at one input. -/
def inodesBackWrong : ChangeSpec := { name := "inodesBack", fn := fun _ => fun
  | [d1, d2, d3] => { results := [.lit (.bool false)], args := [d1, d2, d3] }
  | _ => none }
def InodesBackWrongFalsely : Prop := inodesBackRow.holds Try.pinned (OpenSpec.ofChange inodesBackWrong)

/-- 'lighterlaw09.InodesForm': WHATEVER THE INPUT: true; the input reads as it did. -/
def inodesFormSpec : ChangeSpec := { name := "inodesForm", fn := fun _ => fun
  | [d] => { results := [.lit (.bool true)], args := [d] }
  | _ => none }
def inodesFormRow : OpenClaim := { program := "ytffgjjhopopgcaa", sum := "df37a7e80e0f1d0e501e361e359c79cec5d40b4a119d8672b8253a67bb61a32a", func := "lighter/lighterlaw09.InodesForm", spec := "inodesForm", inPlace := ["internal/abi.NoEscape", "internal/bytealg.MakeNoZero"], apart := false }
def InodesFormSaid : Prop := inodesFormRow.holds Try.pinned (OpenSpec.ofChange inodesFormSpec)

/-- ITS FALSE NEIGHBOUR: 'it returns false'. Refute it at one input. -/
def inodesFormWrong : ChangeSpec := { name := "inodesForm", fn := fun _ => fun
  | [d] => { results := [.lit (.bool false)], args := [d] }
  | _ => none }
def InodesFormWrongFalsely : Prop := inodesFormRow.holds Try.pinned (OpenSpec.ofChange inodesFormWrong)

/-- 'lighterlaw07.JournalDirect': WHATEVER THE INPUT: true; the input reads as it did. -/
def journalDirectSpec : ChangeSpec := { name := "journalDirect", fn := fun _ => fun
  | [d1, d2, d3] => { results := [.lit (.bool true)], args := [d1, d2, d3] }
  | _ => none }
def journalDirectRow : OpenClaim := { program := "ytffgjjhopopgcaa", sum := "df37a7e80e0f1d0e501e361e359c79cec5d40b4a119d8672b8253a67bb61a32a", func := "lighter/lighterlaw07.JournalDirect", spec := "journalDirect", inPlace := ["internal/abi.NoEscape", "internal/bytealg.MakeNoZero"], unfollowed := true, recurses := true, apart := false }
def JournalDirectSaid : Prop := journalDirectRow.holds Try.pinned (OpenSpec.ofChange journalDirectSpec)

/-- ITS FALSE NEIGHBOUR: 'it returns false'. Refute it at one input. -/
def journalDirectWrong : ChangeSpec := { name := "journalDirect", fn := fun _ => fun
  | [d1, d2, d3] => { results := [.lit (.bool false)], args := [d1, d2, d3] }
  | _ => none }
def JournalDirectWrongFalsely : Prop := journalDirectRow.holds Try.pinned (OpenSpec.ofChange journalDirectWrong)

/-- 'lighterlaw07.JournalNone': WHATEVER THE INPUT: true; the input reads as it did. -/
def journalNoneSpec : ChangeSpec := { name := "journalNone", fn := fun _ => fun
  | [d] => { results := [.lit (.bool true)], args := [d] }
  | _ => none }
def journalNoneRow : OpenClaim := { program := "ytffgjjhopopgcaa", sum := "df37a7e80e0f1d0e501e361e359c79cec5d40b4a119d8672b8253a67bb61a32a", func := "lighter/lighterlaw07.JournalNone", spec := "journalNone", inPlace := ["internal/abi.NoEscape", "internal/bytealg.MakeNoZero"], unfollowed := true, recurses := true, apart := false }
def JournalNoneSaid : Prop := journalNoneRow.holds Try.pinned (OpenSpec.ofChange journalNoneSpec)

/-- ITS FALSE NEIGHBOUR: 'it returns false'. Refute it at one input. -/
def journalNoneWrong : ChangeSpec := { name := "journalNone", fn := fun _ => fun
  | [d] => { results := [.lit (.bool false)], args := [d] }
  | _ => none }
def JournalNoneWrongFalsely : Prop := journalNoneRow.holds Try.pinned (OpenSpec.ofChange journalNoneWrong)

/-- 'lighterlaw07.JournalAgain': WHATEVER THE INPUT: true; the input reads as it did. -/
def journalAgainSpec : ChangeSpec := { name := "journalAgain", fn := fun _ => fun
  | [d1, d2] => { results := [.lit (.bool true)], args := [d1, d2] }
  | _ => none }
def journalAgainRow : OpenClaim := { program := "ytffgjjhopopgcaa", sum := "df37a7e80e0f1d0e501e361e359c79cec5d40b4a119d8672b8253a67bb61a32a", func := "lighter/lighterlaw07.JournalAgain", spec := "journalAgain", inPlace := ["internal/abi.NoEscape", "internal/bytealg.MakeNoZero"], unfollowed := true, recurses := true, apart := false }
def JournalAgainSaid : Prop := journalAgainRow.holds Try.pinned (OpenSpec.ofChange journalAgainSpec)

/-- ITS FALSE NEIGHBOUR: 'it returns false'. Refute it at one input. -/
def journalAgainWrong : ChangeSpec := { name := "journalAgain", fn := fun _ => fun
  | [d1, d2] => { results := [.lit (.bool false)], args := [d1, d2] }
  | _ => none }
def JournalAgainWrongFalsely : Prop := journalAgainRow.holds Try.pinned (OpenSpec.ofChange journalAgainWrong)

/-- 'lighterlaw07.JournalWhole': WHATEVER THE INPUT: true; the input reads as it did. -/
def journalWholeSpec : ChangeSpec := { name := "journalWhole", fn := fun _ => fun
  | [d] => { results := [.lit (.bool true)], args := [d] }
  | _ => none }
def journalWholeRow : OpenClaim := { program := "ytffgjjhopopgcaa", sum := "df37a7e80e0f1d0e501e361e359c79cec5d40b4a119d8672b8253a67bb61a32a", func := "lighter/lighterlaw07.JournalWhole", spec := "journalWhole", inPlace := ["internal/abi.NoEscape", "internal/bytealg.MakeNoZero"], unfollowed := true, recurses := true, apart := false }
def JournalWholeSaid : Prop := journalWholeRow.holds Try.pinned (OpenSpec.ofChange journalWholeSpec)

/-- ITS FALSE NEIGHBOUR: 'it returns false'. Refute it at one input. -/
def journalWholeWrong : ChangeSpec := { name := "journalWhole", fn := fun _ => fun
  | [d] => { results := [.lit (.bool false)], args := [d] }
  | _ => none }
def JournalWholeWrongFalsely : Prop := journalWholeRow.holds Try.pinned (OpenSpec.ofChange journalWholeWrong)

/- THE SECOND FORM. 'bulk': how many values and letters a reading holds, each counted each time it is reached (what is shared counts as often as it is met; a slice's spare places count too). A statement '..UptoSaid' is the law's where the arguments, and the package variables that the reading takes, are together of bulk at most 1048576: NARROWER than '..Said'. Prove '..Said' where nothing that the law and all that it calls make is longer than what came in: it says more and counts as full. Else prove '..UptoSaid'. A law counts once. -/
mutual
def uptoBulk {H : Type} : DataW H → Nat
  | .lit (.string bytes) => bytes.length + 1
  | .lit _ => 1
  | .nil => 1
  | .ptr d => uptoBulk d + 1
  | .slice elems spare => uptoBulkAll elems + uptoBulkAll spare + 1
  | .agg parts => uptoBulkAll parts + 1
  | .iface _ d => uptoBulk d + 1
  | .map entries => uptoBulkEntries entries + 1
  | .held _ => 1
def uptoBulkAll {H : Type} : List (DataW H) → Nat
  | [] => 0
  | d :: r => uptoBulk d + uptoBulkAll r
def uptoBulkEntries {H : Type} : List (Lit × DataW H) → Nat
  | [] => 0
  | x :: r => uptoBulkEntry x + uptoBulkEntries r
def uptoBulkEntry {H : Type} : Lit × DataW H → Nat
  | (.string bytes, d) => bytes.length + uptoBulk d + 1
  | (_, d) => uptoBulk d + 1
 end
def uptoSmall : (H : Type) → List (DataW H) → Bool := fun _ ds => decide (uptoBulkAll ds ≤ 1048576)
def OpenSpec.upto (s : _root_.Go.ChangeSpec) : _root_.Go.OpenSpec := { _root_.Go.OpenSpec.ofChange s with cond := some uptoSmall }

/-- 'lighterlaw09.InodesGet', WHERE WHAT IT READS IS OF BULK AT MOST 1048576: true; the input reads as it did. -/
def inodesGetUptoRow : OpenClaim := { program := "ytffgjjhopopgcaa", sum := "df37a7e80e0f1d0e501e361e359c79cec5d40b4a119d8672b8253a67bb61a32a", func := "lighter/lighterlaw09.InodesGet", spec := "inodesGet", inPlace := ["internal/abi.NoEscape", "internal/bytealg.MakeNoZero"], apart := false, narrowed := true }
def InodesGetUptoSaid : Prop := inodesGetUptoRow.holds Try.pinned (OpenSpec.upto inodesGetSpec)

/-- 'lighterlaw09.InodesSizes', WHERE WHAT IT READS IS OF BULK AT MOST 1048576: true; the input reads as it did. -/
def inodesSizesUptoRow : OpenClaim := { program := "ytffgjjhopopgcaa", sum := "df37a7e80e0f1d0e501e361e359c79cec5d40b4a119d8672b8253a67bb61a32a", func := "lighter/lighterlaw09.InodesSizes", spec := "inodesSizes", inPlace := ["internal/abi.NoEscape", "internal/bytealg.MakeNoZero"], apart := false, narrowed := true }
def InodesSizesUptoSaid : Prop := inodesSizesUptoRow.holds Try.pinned (OpenSpec.upto inodesSizesSpec)

/-- 'lighterlaw09.InodesTell', WHERE WHAT IT READS IS OF BULK AT MOST 1048576: true; the input reads as it did. -/
def inodesTellUptoRow : OpenClaim := { program := "ytffgjjhopopgcaa", sum := "df37a7e80e0f1d0e501e361e359c79cec5d40b4a119d8672b8253a67bb61a32a", func := "lighter/lighterlaw09.InodesTell", spec := "inodesTell", inPlace := ["internal/abi.NoEscape", "internal/bytealg.MakeNoZero"], apart := false, narrowed := true }
def InodesTellUptoSaid : Prop := inodesTellUptoRow.holds Try.pinned (OpenSpec.upto inodesTellSpec)

/-- 'lighterlaw09.InodesBack', WHERE WHAT IT READS IS OF BULK AT MOST 1048576: true; the input reads as it did. -/
def inodesBackUptoRow : OpenClaim := { program := "ytffgjjhopopgcaa", sum := "df37a7e80e0f1d0e501e361e359c79cec5d40b4a119d8672b8253a67bb61a32a", func := "lighter/lighterlaw09.InodesBack", spec := "inodesBack", inPlace := ["internal/abi.NoEscape", "internal/bytealg.MakeNoZero"], apart := false, narrowed := true }
def InodesBackUptoSaid : Prop := inodesBackUptoRow.holds Try.pinned (OpenSpec.upto inodesBackSpec)

/-- 'lighterlaw09.InodesForm', WHERE WHAT IT READS IS OF BULK AT MOST 1048576: true; the input reads as it did. -/
def inodesFormUptoRow : OpenClaim := { program := "ytffgjjhopopgcaa", sum := "df37a7e80e0f1d0e501e361e359c79cec5d40b4a119d8672b8253a67bb61a32a", func := "lighter/lighterlaw09.InodesForm", spec := "inodesForm", inPlace := ["internal/abi.NoEscape", "internal/bytealg.MakeNoZero"], apart := false, narrowed := true }
def InodesFormUptoSaid : Prop := inodesFormUptoRow.holds Try.pinned (OpenSpec.upto inodesFormSpec)

/-- 'lighterlaw07.JournalDirect', WHERE WHAT IT READS IS OF BULK AT MOST 1048576: true; the input reads as it did. -/
def journalDirectUptoRow : OpenClaim := { program := "ytffgjjhopopgcaa", sum := "df37a7e80e0f1d0e501e361e359c79cec5d40b4a119d8672b8253a67bb61a32a", func := "lighter/lighterlaw07.JournalDirect", spec := "journalDirect", inPlace := ["internal/abi.NoEscape", "internal/bytealg.MakeNoZero"], unfollowed := true, recurses := true, apart := false, narrowed := true }
def JournalDirectUptoSaid : Prop := journalDirectUptoRow.holds Try.pinned (OpenSpec.upto journalDirectSpec)

/-- 'lighterlaw07.JournalNone', WHERE WHAT IT READS IS OF BULK AT MOST 1048576: true; the input reads as it did. -/
def journalNoneUptoRow : OpenClaim := { program := "ytffgjjhopopgcaa", sum := "df37a7e80e0f1d0e501e361e359c79cec5d40b4a119d8672b8253a67bb61a32a", func := "lighter/lighterlaw07.JournalNone", spec := "journalNone", inPlace := ["internal/abi.NoEscape", "internal/bytealg.MakeNoZero"], unfollowed := true, recurses := true, apart := false, narrowed := true }
def JournalNoneUptoSaid : Prop := journalNoneUptoRow.holds Try.pinned (OpenSpec.upto journalNoneSpec)

/-- 'lighterlaw07.JournalAgain', WHERE WHAT IT READS IS OF BULK AT MOST 1048576: true; the input reads as it did. -/
def journalAgainUptoRow : OpenClaim := { program := "ytffgjjhopopgcaa", sum := "df37a7e80e0f1d0e501e361e359c79cec5d40b4a119d8672b8253a67bb61a32a", func := "lighter/lighterlaw07.JournalAgain", spec := "journalAgain", inPlace := ["internal/abi.NoEscape", "internal/bytealg.MakeNoZero"], unfollowed := true, recurses := true, apart := false, narrowed := true }
def JournalAgainUptoSaid : Prop := journalAgainUptoRow.holds Try.pinned (OpenSpec.upto journalAgainSpec)

/-- 'lighterlaw07.JournalWhole', WHERE WHAT IT READS IS OF BULK AT MOST 1048576: true; the input reads as it did. -/
def journalWholeUptoRow : OpenClaim := { program := "ytffgjjhopopgcaa", sum := "df37a7e80e0f1d0e501e361e359c79cec5d40b4a119d8672b8253a67bb61a32a", func := "lighter/lighterlaw07.JournalWhole", spec := "journalWhole", inPlace := ["internal/abi.NoEscape", "internal/bytealg.MakeNoZero"], unfollowed := true, recurses := true, apart := false, narrowed := true }
def JournalWholeUptoSaid : Prop := journalWholeUptoRow.holds Try.pinned (OpenSpec.upto journalWholeSpec)

end Rows
end Go.Proofs.Ytffgjjhopopgcaa
