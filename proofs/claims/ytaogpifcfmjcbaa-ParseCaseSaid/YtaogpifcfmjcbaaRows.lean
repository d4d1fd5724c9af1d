/-
  No cell of these rows narrows 'for every input' (looked for: loops, veiled, ifaces, maps, wideKeys, modest, calm, conditions, laid).
  DERIVED. THE GIVEN ROWS OF THIS SEAT. 4 by the template 'for every input the law returns true; each argument reads behind the call as it read before'; 0 by the template 'total and deterministic' (their statements: YtaogpifcfmjcbaaTotals.lean).
  GIVEN WITH THE SEED: the statements are not yours to turn. If you find one false, say at which input.
  Laid BY PROGRAM, IN A SANDBOX (cutbox-rows.mjs): the forced cells as the released guide's own fill.sh prints them over the translation 4589c638552f1c03… (all of the seat's roots in one cut). By AI agents, Wed Nov 11 2026. No macro, syntax, notation, axiom, sorry.
-/
import Derived.Test.YtaogpifcfmjcbaaChecked
import GoSem.Claim
import GoSem.ClaimJoined
import GoSem.ClaimMapViews
import Derived.JoinedTies
import Derived.KernelRfl
namespace Go.Proofs.Ytaogpifcfmjcbaa
/- THE CELL 'sum', in the pinned program and in every row, IS THE sha256 OF THE DUMP (.gsa) THAT YtaogpifcfmjcbaaProg.lean LOADS. Nothing in Lean hashes anything: it is a label: what it is worth is what the hold of that sum in a sandbox is worth. -/
noncomputable def Try.pinned : Pinned := { name := "ytaogpifcfmjcbaa", sum := "4589c638552f1c030a7d02f0f43aa37d0a449cab1882b5f211e6b02e97412dae", checked := Try.checked }
namespace Rows
def none {H : Type} : Left H := { results := [], args := [] }

/-- 'palimpsestlaw19.ParseWords': WHATEVER THE INPUT: true; the input reads as it did. -/
def parseWordsSpec : ChangeSpec := { name := "parseWords", fn := fun _ => fun
  | [d] => { results := [.lit (.bool true)], args := [d] }
  | _ => none }
def parseWordsRow : OpenClaim := { program := "ytaogpifcfmjcbaa", sum := "4589c638552f1c030a7d02f0f43aa37d0a449cab1882b5f211e6b02e97412dae", func := "palimpsest/palimpsestlaw19.ParseWords", spec := "parseWords", inPlace := ["internal/abi.NoEscape", "internal/bytealg.IndexByteString", "internal/bytealg.IndexString"], unfollowed := true, recurses := true, named := ["internal/bytealg.MaxLen"], apart := false }
def ParseWordsSaid : Prop := parseWordsRow.holds Try.pinned (OpenSpec.ofChange parseWordsSpec)

/-- ITS FALSE NEIGHBOUR: 'it returns false'. Refute it at one input. -/
def parseWordsWrong : ChangeSpec := { name := "parseWords", fn := fun _ => fun
  | [d] => { results := [.lit (.bool false)], args := [d] }
  | _ => none }
def ParseWordsWrongFalsely : Prop := parseWordsRow.holds Try.pinned (OpenSpec.ofChange parseWordsWrong)

/-- 'palimpsestlaw19.ParseLists': WHATEVER THE INPUT: true; the input reads as it did. -/
def parseListsSpec : ChangeSpec := { name := "parseLists", fn := fun _ => fun
  | [d1, d2, d3] => { results := [.lit (.bool true)], args := [d1, d2, d3] }
  | _ => none }
def parseListsRow : OpenClaim := { program := "ytaogpifcfmjcbaa", sum := "4589c638552f1c030a7d02f0f43aa37d0a449cab1882b5f211e6b02e97412dae", func := "palimpsest/palimpsestlaw19.ParseLists", spec := "parseLists", inPlace := ["internal/abi.NoEscape", "internal/bytealg.IndexByteString", "internal/bytealg.IndexString"], unfollowed := true, recurses := true, named := ["internal/bytealg.MaxLen"], apart := false }
def ParseListsSaid : Prop := parseListsRow.holds Try.pinned (OpenSpec.ofChange parseListsSpec)

/-- ITS FALSE NEIGHBOUR: 'it returns false'. Refute it at one input. -/
def parseListsWrong : ChangeSpec := { name := "parseLists", fn := fun _ => fun
  | [d1, d2, d3] => { results := [.lit (.bool false)], args := [d1, d2, d3] }
  | _ => none }
def ParseListsWrongFalsely : Prop := parseListsRow.holds Try.pinned (OpenSpec.ofChange parseListsWrong)

/-- 'palimpsestlaw19.ParseDepths': WHATEVER THE INPUT: true; the input reads as it did. -/
def parseDepthsSpec : ChangeSpec := { name := "parseDepths", fn := fun _ => fun
  | [d1, d2] => { results := [.lit (.bool true)], args := [d1, d2] }
  | _ => none }
def parseDepthsRow : OpenClaim := { program := "ytaogpifcfmjcbaa", sum := "4589c638552f1c030a7d02f0f43aa37d0a449cab1882b5f211e6b02e97412dae", func := "palimpsest/palimpsestlaw19.ParseDepths", spec := "parseDepths", inPlace := ["internal/abi.NoEscape", "internal/bytealg.IndexByteString", "internal/bytealg.IndexString"], unfollowed := true, recurses := true, named := ["internal/bytealg.MaxLen"], apart := false }
def ParseDepthsSaid : Prop := parseDepthsRow.holds Try.pinned (OpenSpec.ofChange parseDepthsSpec)

/-- ITS FALSE NEIGHBOUR: 'it returns false'. Refute it at one input. -/
def parseDepthsWrong : ChangeSpec := { name := "parseDepths", fn := fun _ => fun
  | [d1, d2] => { results := [.lit (.bool false)], args := [d1, d2] }
  | _ => none }
def ParseDepthsWrongFalsely : Prop := parseDepthsRow.holds Try.pinned (OpenSpec.ofChange parseDepthsWrong)

/-- 'palimpsestlaw19.ParseCase': WHATEVER THE INPUT: true; the input reads as it did. -/
def parseCaseSpec : ChangeSpec := { name := "parseCase", fn := fun _ => fun
  | [d] => { results := [.lit (.bool true)], args := [d] }
  | _ => none }
def parseCaseRow : OpenClaim := { program := "ytaogpifcfmjcbaa", sum := "4589c638552f1c030a7d02f0f43aa37d0a449cab1882b5f211e6b02e97412dae", func := "palimpsest/palimpsestlaw19.ParseCase", spec := "parseCase", inPlace := ["internal/abi.NoEscape", "internal/bytealg.IndexByteString", "internal/bytealg.IndexString"], unfollowed := true, recurses := true, named := ["internal/bytealg.MaxLen"], apart := false }
def ParseCaseSaid : Prop := parseCaseRow.holds Try.pinned (OpenSpec.ofChange parseCaseSpec)

/-- ITS FALSE NEIGHBOUR: 'it returns false'. Refute it at one input. -/
def parseCaseWrong : ChangeSpec := { name := "parseCase", fn := fun _ => fun
  | [d] => { results := [.lit (.bool false)], args := [d] }
  | _ => none }
def ParseCaseWrongFalsely : Prop := parseCaseRow.holds Try.pinned (OpenSpec.ofChange parseCaseWrong)

/- THE SECOND FORM. 'bulk': how many values and letters a reading holds, each counted each time it is reached (what is shared counts as often as it is met; a slice's spare places count too). A statement '..UptoSaid' is the law's where the arguments, and the package variables that the reading takes, are together of bulk at most 1048576: NARROWER than '..Said'. Prove '..Said' where nothing that the law and all that it calls make is longer than what came in: it says more and counts as full. Else prove '..UptoSaid'. A law counts once. -/
mutual
def uptoBulk {H : Type} : DataW H → Nat
  | .lit (.string bytes) => bytes.length + 1
  | .lit _ => 1
  | .nil => 1
  | .ptr d => uptoBulk d + 1
  | .slice elems spare => uptoBulkAll elems + uptoBulkAll spare + 1
  | .agg parts => uptoBulkAll parts + 1
  | .iface _ d => uptoBulk d + 1
  | .map entries => uptoBulkEntries entries + 1
  | .held _ => 1
def uptoBulkAll {H : Type} : List (DataW H) → Nat
  | [] => 0
  | d :: r => uptoBulk d + uptoBulkAll r
def uptoBulkEntries {H : Type} : List (Lit × DataW H) → Nat
  | [] => 0
  | x :: r => uptoBulkEntry x + uptoBulkEntries r
def uptoBulkEntry {H : Type} : Lit × DataW H → Nat
  | (.string bytes, d) => bytes.length + uptoBulk d + 1
  | (_, d) => uptoBulk d + 1
 end
def uptoSmall : (H : Type) → List (DataW H) → Bool := fun _ ds => decide (uptoBulkAll ds ≤ 1048576)
def OpenSpec.upto (s : _root_.Go.ChangeSpec) : _root_.Go.OpenSpec := { _root_.Go.OpenSpec.ofChange s with cond := some uptoSmall }

/-- 'palimpsestlaw19.ParseWords', WHERE WHAT IT READS IS OF BULK AT MOST 1048576: true; the input reads as it did. -/
def parseWordsUptoRow : OpenClaim := { program := "ytaogpifcfmjcbaa", sum := "4589c638552f1c030a7d02f0f43aa37d0a449cab1882b5f211e6b02e97412dae", func := "palimpsest/palimpsestlaw19.ParseWords", spec := "parseWords", inPlace := ["internal/abi.NoEscape", "internal/bytealg.IndexByteString", "internal/bytealg.IndexString"], unfollowed := true, recurses := true, named := ["internal/bytealg.MaxLen"], apart := false, narrowed := true }
def ParseWordsUptoSaid : Prop := parseWordsUptoRow.holds Try.pinned (OpenSpec.upto parseWordsSpec)

/-- 'palimpsestlaw19.ParseLists', WHERE WHAT IT READS IS OF BULK AT MOST 1048576: true; the input reads as it did. -/
def parseListsUptoRow : OpenClaim := { program := "ytaogpifcfmjcbaa", sum := "4589c638552f1c030a7d02f0f43aa37d0a449cab1882b5f211e6b02e97412dae", func := "palimpsest/palimpsestlaw19.ParseLists", spec := "parseLists", inPlace := ["internal/abi.NoEscape", "internal/bytealg.IndexByteString", "internal/bytealg.IndexString"], unfollowed := true, recurses := true, named := ["internal/bytealg.MaxLen"], apart := false, narrowed := true }
def ParseListsUptoSaid : Prop := parseListsUptoRow.holds Try.pinned (OpenSpec.upto parseListsSpec)

/-- 'palimpsestlaw19.ParseDepths', WHERE WHAT IT READS IS OF BULK AT MOST 1048576: true; the input reads as it did. -/
def parseDepthsUptoRow : OpenClaim := { program := "ytaogpifcfmjcbaa", sum := "4589c638552f1c030a7d02f0f43aa37d0a449cab1882b5f211e6b02e97412dae", func := "palimpsest/palimpsestlaw19.ParseDepths", spec := "parseDepths", inPlace := ["internal/abi.NoEscape", "internal/bytealg.IndexByteString", "internal/bytealg.IndexString"], unfollowed := true, recurses := true, named := ["internal/bytealg.MaxLen"], apart := false, narrowed := true }
def ParseDepthsUptoSaid : Prop := parseDepthsUptoRow.holds Try.pinned (OpenSpec.upto parseDepthsSpec)

/-- 'palimpsestlaw19.ParseCase', WHERE WHAT IT READS IS OF BULK AT MOST 1048576: true; the input reads as it did. -/
def parseCaseUptoRow : OpenClaim := { program := "ytaogpifcfmjcbaa", sum := "4589c638552f1c030a7d02f0f43aa37d0a449cab1882b5f211e6b02e97412dae", func := "palimpsest/palimpsestlaw19.ParseCase", spec := "parseCase", inPlace := ["internal/abi.NoEscape", "internal/bytealg.IndexByteString", "internal/bytealg.IndexString"], unfollowed := true, recurses := true, named := ["internal/bytealg.MaxLen"], apart := false, narrowed := true }
def ParseCaseUptoSaid : Prop := parseCaseUptoRow.holds Try.pinned (OpenSpec.upto parseCaseSpec)

end Rows
end Go.Proofs.Ytaogpifcfmjcbaa
