/-
  No cell of these rows narrows 'for every input' (looked for: loops, veiled, ifaces, maps, wideKeys, modest, calm, conditions, laid).
  DERIVED. THE GIVEN ROWS OF THIS SEAT. 4 by the template 'for every input the law returns true; each argument reads behind the call as it read before'; 0 by the template 'total and deterministic' (their statements: YtmanokhadppeeaaTotals.lean).
  GIVEN WITH THE SEED: the statements are not yours to turn. If you find one false, say at which input.
  Laid BY PROGRAM, IN A SANDBOX (cutbox-rows.mjs): the forced cells as the released guide's own fill.sh prints them over the translation 440ab6d18225c2c9… (all of the seat's roots in one cut). By AI agents, Wed Nov 11 2026. No macro, syntax, notation, axiom, sorry.
-/
import Derived.Test.YtmanokhadppeeaaChecked
import GoSem.Claim
import GoSem.ClaimJoined
import GoSem.ClaimMapViews
import Derived.JoinedTies
import Derived.KernelRfl
namespace Go.Proofs.Ytmanokhadppeeaa
/- THE CELL 'sum', in the pinned program and in every row, IS THE sha256 OF THE DUMP (.gsa) THAT YtmanokhadppeeaaProg.lean LOADS. Nothing in Lean hashes anything: it is a label: what it is worth is what the hold of that sum in a sandbox is worth. -/
noncomputable def Try.pinned : Pinned := { name := "ytmanokhadppeeaa", sum := "440ab6d18225c2c9c7e74e0294888bcdbbda58eb7853e0e665a84fdcdb1aec21", checked := Try.checked }
namespace Rows
def none {H : Type} : Left H := { results := [], args := [] }

/-- 'palimpsestlaw6.RedoCounts': WHATEVER THE INPUT: true; the input reads as it did. -/
def redoCountsSpec : ChangeSpec := { name := "redoCounts", fn := fun _ => fun
  | [d1, d2, d3] => { results := [.lit (.bool true)], args := [d1, d2, d3] }
  | _ => none }
def redoCountsRow : OpenClaim := { program := "ytmanokhadppeeaa", sum := "440ab6d18225c2c9c7e74e0294888bcdbbda58eb7853e0e665a84fdcdb1aec21", func := "palimpsest/palimpsestlaw6.RedoCounts", spec := "redoCounts", unfollowed := true, recurses := true, apart := false }
def RedoCountsSaid : Prop := redoCountsRow.holds Try.pinned (OpenSpec.ofChange redoCountsSpec)

/-- ITS FALSE NEIGHBOUR: 'it returns false'. Refute it at one input. -/
def redoCountsWrong : ChangeSpec := { name := "redoCounts", fn := fun _ => fun
  | [d1, d2, d3] => { results := [.lit (.bool false)], args := [d1, d2, d3] }
  | _ => none }
def RedoCountsWrongFalsely : Prop := redoCountsRow.holds Try.pinned (OpenSpec.ofChange redoCountsWrong)

/-- 'palimpsestlaw6.RedoRepeats': WHATEVER THE INPUT: true; the input reads as it did. -/
def redoRepeatsSpec : ChangeSpec := { name := "redoRepeats", fn := fun _ => fun
  | [d1, d2, d3] => { results := [.lit (.bool true)], args := [d1, d2, d3] }
  | _ => none }
def redoRepeatsRow : OpenClaim := { program := "ytmanokhadppeeaa", sum := "440ab6d18225c2c9c7e74e0294888bcdbbda58eb7853e0e665a84fdcdb1aec21", func := "palimpsest/palimpsestlaw6.RedoRepeats", spec := "redoRepeats", unfollowed := true, recurses := true, apart := false }
def RedoRepeatsSaid : Prop := redoRepeatsRow.holds Try.pinned (OpenSpec.ofChange redoRepeatsSpec)

/-- ITS FALSE NEIGHBOUR: 'it returns false'. Refute it at one input. -/
def redoRepeatsWrong : ChangeSpec := { name := "redoRepeats", fn := fun _ => fun
  | [d1, d2, d3] => { results := [.lit (.bool false)], args := [d1, d2, d3] }
  | _ => none }
def RedoRepeatsWrongFalsely : Prop := redoRepeatsRow.holds Try.pinned (OpenSpec.ofChange redoRepeatsWrong)

/-- 'palimpsestlaw6.RedoOnce': WHATEVER THE INPUT: true; the input reads as it did. -/
def redoOnceSpec : ChangeSpec := { name := "redoOnce", fn := fun _ => fun
  | [d] => { results := [.lit (.bool true)], args := [d] }
  | _ => none }
def redoOnceRow : OpenClaim := { program := "ytmanokhadppeeaa", sum := "440ab6d18225c2c9c7e74e0294888bcdbbda58eb7853e0e665a84fdcdb1aec21", func := "palimpsest/palimpsestlaw6.RedoOnce", spec := "redoOnce", unfollowed := true, recurses := true, apart := false }
def RedoOnceSaid : Prop := redoOnceRow.holds Try.pinned (OpenSpec.ofChange redoOnceSpec)

/-- ITS FALSE NEIGHBOUR: 'it returns false'. Refute it at one input. -/
def redoOnceWrong : ChangeSpec := { name := "redoOnce", fn := fun _ => fun
  | [d] => { results := [.lit (.bool false)], args := [d] }
  | _ => none }
def RedoOnceWrongFalsely : Prop := redoOnceRow.holds Try.pinned (OpenSpec.ofChange redoOnceWrong)

/-- 'palimpsestlaw6.RedoTwice': WHATEVER THE INPUT: true; the input reads as it did. -/
def redoTwiceSpec : ChangeSpec := { name := "redoTwice", fn := fun _ => fun
  | [d] => { results := [.lit (.bool true)], args := [d] }
  | _ => none }
def redoTwiceRow : OpenClaim := { program := "ytmanokhadppeeaa", sum := "440ab6d18225c2c9c7e74e0294888bcdbbda58eb7853e0e665a84fdcdb1aec21", func := "palimpsest/palimpsestlaw6.RedoTwice", spec := "redoTwice", unfollowed := true, recurses := true, apart := false }
def RedoTwiceSaid : Prop := redoTwiceRow.holds Try.pinned (OpenSpec.ofChange redoTwiceSpec)

/-- ITS FALSE NEIGHBOUR: 'it returns false'. Refute it at one input. -/
def redoTwiceWrong : ChangeSpec := { name := "redoTwice", fn := fun _ => fun
  | [d] => { results := [.lit (.bool false)], args := [d] }
  | _ => none }
def RedoTwiceWrongFalsely : Prop := redoTwiceRow.holds Try.pinned (OpenSpec.ofChange redoTwiceWrong)

/- THE SECOND FORM. 'bulk': how many values and letters a reading holds, each counted each time it is reached (what is shared counts as often as it is met; a slice's spare places count too). A statement '..UptoSaid' is the law's where the arguments, and the package variables that the reading takes, are together of bulk at most 1048576: NARROWER than '..Said'. Prove '..Said' where nothing that the law and all that it calls make is longer than what came in: it says more and counts as full. Else prove '..UptoSaid'. A law counts once. -/
mutual
def uptoBulk {H : Type} : DataW H → Nat
  | .lit (.string bytes) => bytes.length + 1
  | .lit _ => 1
  | .nil => 1
  | .ptr d => uptoBulk d + 1
  | .slice elems spare => uptoBulkAll elems + uptoBulkAll spare + 1
  | .agg parts => uptoBulkAll parts + 1
  | .iface _ d => uptoBulk d + 1
  | .map entries => uptoBulkEntries entries + 1
  | .held _ => 1
def uptoBulkAll {H : Type} : List (DataW H) → Nat
  | [] => 0
  | d :: r => uptoBulk d + uptoBulkAll r
def uptoBulkEntries {H : Type} : List (Lit × DataW H) → Nat
  | [] => 0
  | x :: r => uptoBulkEntry x + uptoBulkEntries r
def uptoBulkEntry {H : Type} : Lit × DataW H → Nat
  | (.string bytes, d) => bytes.length + uptoBulk d + 1
  | (_, d) => uptoBulk d + 1
 end
def uptoSmall : (H : Type) → List (DataW H) → Bool := fun _ ds => decide (uptoBulkAll ds ≤ 1048576)
def OpenSpec.upto (s : _root_.Go.ChangeSpec) : _root_.Go.OpenSpec := { _root_.Go.OpenSpec.ofChange s with cond := some uptoSmall }

/-- 'palimpsestlaw6.RedoCounts', WHERE WHAT IT READS IS OF BULK AT MOST 1048576: true; the input reads as it did. -/
def redoCountsUptoRow : OpenClaim := { program := "ytmanokhadppeeaa", sum := "440ab6d18225c2c9c7e74e0294888bcdbbda58eb7853e0e665a84fdcdb1aec21", func := "palimpsest/palimpsestlaw6.RedoCounts", spec := "redoCounts", unfollowed := true, recurses := true, apart := false, narrowed := true }
def RedoCountsUptoSaid : Prop := redoCountsUptoRow.holds Try.pinned (OpenSpec.upto redoCountsSpec)

/-- 'palimpsestlaw6.RedoRepeats', WHERE WHAT IT READS IS OF BULK AT MOST 1048576: true; the input reads as it did. -/
def redoRepeatsUptoRow : OpenClaim := { program := "ytmanokhadppeeaa", sum := "440ab6d18225c2c9c7e74e0294888bcdbbda58eb7853e0e665a84fdcdb1aec21", func := "palimpsest/palimpsestlaw6.RedoRepeats", spec := "redoRepeats", unfollowed := true, recurses := true, apart := false, narrowed := true }
def RedoRepeatsUptoSaid : Prop := redoRepeatsUptoRow.holds Try.pinned (OpenSpec.upto redoRepeatsSpec)

/-- 'palimpsestlaw6.RedoOnce', WHERE WHAT IT READS IS OF BULK AT MOST 1048576: true; the input reads as it did. -/
def redoOnceUptoRow : OpenClaim := { program := "ytmanokhadppeeaa", sum := "440ab6d18225c2c9c7e74e0294888bcdbbda58eb7853e0e665a84fdcdb1aec21", func := "palimpsest/palimpsestlaw6.RedoOnce", spec := "redoOnce", unfollowed := true, recurses := true, apart := false, narrowed := true }
def RedoOnceUptoSaid : Prop := redoOnceUptoRow.holds Try.pinned (OpenSpec.upto redoOnceSpec)

/-- 'palimpsestlaw6.RedoTwice', WHERE WHAT IT READS IS OF BULK AT MOST 1048576: true; the input reads as it did. -/
def redoTwiceUptoRow : OpenClaim := { program := "ytmanokhadppeeaa", sum := "440ab6d18225c2c9c7e74e0294888bcdbbda58eb7853e0e665a84fdcdb1aec21", func := "palimpsest/palimpsestlaw6.RedoTwice", spec := "redoTwice", unfollowed := true, recurses := true, apart := false, narrowed := true }
def RedoTwiceUptoSaid : Prop := redoTwiceUptoRow.holds Try.pinned (OpenSpec.upto redoTwiceSpec)

end Rows
end Go.Proofs.Ytmanokhadppeeaa
