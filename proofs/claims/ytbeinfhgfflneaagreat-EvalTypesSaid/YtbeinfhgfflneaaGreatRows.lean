/-
  No cell of these rows narrows 'for every input' (looked for: loops, veiled, ifaces, maps, wideKeys, modest, calm, conditions, laid).
  DERIVED. THE GIVEN ROWS OF THIS SEAT. 3 by the template 'for every input the law returns true; each argument reads behind the call as it read before'; 0 by the template 'total and deterministic' (their statements: YtbeinfhgfflneaaGreatTotals.lean).
  GIVEN WITH THE SEED: the statements are not yours to turn. If you find one false, say at which input.
  Laid BY PROGRAM, IN A SANDBOX (cutbox-rows.mjs): the forced cells as the released guide's own fill.sh prints them over the translation 42adab4a5b8223ca… (all of the seat's roots in one cut). By AI agents, Wed Nov 11 2026. No macro, syntax, notation, axiom, sorry.
-/
import Derived.Test.YtbeinfhgfflneaaGreatChecked
import GoSem.Claim
import GoSem.ClaimJoined
import GoSem.ClaimMapViews
import Derived.JoinedTies
import Derived.KernelRfl
namespace Go.Proofs.YtbeinfhgfflneaaGreat
/- THE CELL 'sum', in the pinned program and in every row, IS THE sha256 OF THE DUMP (.gsa) THAT YtbeinfhgfflneaaGreatProg.lean LOADS. Nothing in Lean hashes anything: it is a label: what it is worth is what the hold of that sum in a sandbox is worth. -/
noncomputable def Tryz.pinned : Pinned := { name := "ytbeinfhgfflneaagreat", sum := "42adab4a5b8223ca387269ca1ad67824698339608067bf6d56dcd3e01c84f823", checked := Tryz.checked }
namespace Rows
def none {H : Type} : Left H := { results := [], args := [] }

/-- 'palimpsestlaw21.EvalNulls': WHATEVER THE INPUT: true; the input reads as it did. -/
def evalNullsSpec : ChangeSpec := { name := "evalNulls", fn := fun _ => fun
  | [d1, d2] => { results := [.lit (.bool true)], args := [d1, d2] }
  | _ => none }
def evalNullsRow : OpenClaim := { program := "ytbeinfhgfflneaagreat", sum := "42adab4a5b8223ca387269ca1ad67824698339608067bf6d56dcd3e01c84f823", func := "palimpsest/palimpsestlaw21.EvalNulls", spec := "evalNulls", inPlace := ["math/bits.Add64", "math/bits.Sub64", "internal/bytealg.abigen_runtime_cmpstring", "internal/abi.NoEscape", "internal/bytealg.IndexByteString", "internal/bytealg.IndexString"], unfollowed := true, recurses := true, named := ["internal/bytealg.MaxLen"], apart := false }
def EvalNullsSaid : Prop := evalNullsRow.holds Tryz.pinned (OpenSpec.ofChange evalNullsSpec)

/-- ITS FALSE NEIGHBOUR: 'it returns false'. Refute it at one input. -/
def evalNullsWrong : ChangeSpec := { name := "evalNulls", fn := fun _ => fun
  | [d1, d2] => { results := [.lit (.bool false)], args := [d1, d2] }
  | _ => none }
def EvalNullsWrongFalsely : Prop := evalNullsRow.holds Tryz.pinned (OpenSpec.ofChange evalNullsWrong)

/-- 'palimpsestlaw21.EvalShorts': WHATEVER THE INPUT: true; the input reads as it did. -/
def evalShortsSpec : ChangeSpec := { name := "evalShorts", fn := fun _ => fun
  | [d1, d2, d3] => { results := [.lit (.bool true)], args := [d1, d2, d3] }
  | _ => none }
def evalShortsRow : OpenClaim := { program := "ytbeinfhgfflneaagreat", sum := "42adab4a5b8223ca387269ca1ad67824698339608067bf6d56dcd3e01c84f823", func := "palimpsest/palimpsestlaw21.EvalShorts", spec := "evalShorts", inPlace := ["math/bits.Add64", "math/bits.Sub64", "internal/bytealg.abigen_runtime_cmpstring", "internal/abi.NoEscape", "internal/bytealg.IndexByteString", "internal/bytealg.IndexString"], unfollowed := true, recurses := true, named := ["internal/bytealg.MaxLen"], apart := false }
def EvalShortsSaid : Prop := evalShortsRow.holds Tryz.pinned (OpenSpec.ofChange evalShortsSpec)

/-- ITS FALSE NEIGHBOUR: 'it returns false'. Refute it at one input. -/
def evalShortsWrong : ChangeSpec := { name := "evalShorts", fn := fun _ => fun
  | [d1, d2, d3] => { results := [.lit (.bool false)], args := [d1, d2, d3] }
  | _ => none }
def EvalShortsWrongFalsely : Prop := evalShortsRow.holds Tryz.pinned (OpenSpec.ofChange evalShortsWrong)

/-- 'palimpsestlaw21.EvalTypes': WHATEVER THE INPUT: true; the input reads as it did. -/
def evalTypesSpec : ChangeSpec := { name := "evalTypes", fn := fun _ => fun
  | [d1, d2, d3] => { results := [.lit (.bool true)], args := [d1, d2, d3] }
  | _ => none }
def evalTypesRow : OpenClaim := { program := "ytbeinfhgfflneaagreat", sum := "42adab4a5b8223ca387269ca1ad67824698339608067bf6d56dcd3e01c84f823", func := "palimpsest/palimpsestlaw21.EvalTypes", spec := "evalTypes", inPlace := ["internal/abi.NoEscape", "internal/bytealg.IndexByteString", "internal/bytealg.IndexString", "math/bits.Add64", "math/bits.Sub64", "internal/bytealg.abigen_runtime_cmpstring"], unfollowed := true, recurses := true, named := ["internal/bytealg.MaxLen"], apart := false }
def EvalTypesSaid : Prop := evalTypesRow.holds Tryz.pinned (OpenSpec.ofChange evalTypesSpec)

/-- ITS FALSE NEIGHBOUR: 'it returns false'. Refute it at one input. -/
def evalTypesWrong : ChangeSpec := { name := "evalTypes", fn := fun _ => fun
  | [d1, d2, d3] => { results := [.lit (.bool false)], args := [d1, d2, d3] }
  | _ => none }
def EvalTypesWrongFalsely : Prop := evalTypesRow.holds Tryz.pinned (OpenSpec.ofChange evalTypesWrong)

/- THE SECOND FORM. 'bulk': how many values and letters a reading holds, each counted each time it is reached (what is shared counts as often as it is met; a slice's spare places count too). A statement '..UptoSaid' is the law's where the arguments, and the package variables that the reading takes, are together of bulk at most 1048576: NARROWER than '..Said'. Prove '..Said' where nothing that the law and all that it calls make is longer than what came in: it says more and counts as full. Else prove '..UptoSaid'. A law counts once. -/
mutual
def uptoBulk {H : Type} : DataW H → Nat
  | .lit (.string bytes) => bytes.length + 1
  | .lit _ => 1
  | .nil => 1
  | .ptr d => uptoBulk d + 1
  | .slice elems spare => uptoBulkAll elems + uptoBulkAll spare + 1
  | .agg parts => uptoBulkAll parts + 1
  | .iface _ d => uptoBulk d + 1
  | .map entries => uptoBulkEntries entries + 1
  | .held _ => 1
def uptoBulkAll {H : Type} : List (DataW H) → Nat
  | [] => 0
  | d :: r => uptoBulk d + uptoBulkAll r
def uptoBulkEntries {H : Type} : List (Lit × DataW H) → Nat
  | [] => 0
  | x :: r => uptoBulkEntry x + uptoBulkEntries r
def uptoBulkEntry {H : Type} : Lit × DataW H → Nat
  | (.string bytes, d) => bytes.length + uptoBulk d + 1
  | (_, d) => uptoBulk d + 1
 end
def uptoSmall : (H : Type) → List (DataW H) → Bool := fun _ ds => decide (uptoBulkAll ds ≤ 1048576)
def OpenSpec.upto (s : _root_.Go.ChangeSpec) : _root_.Go.OpenSpec := { _root_.Go.OpenSpec.ofChange s with cond := some uptoSmall }

/-- 'palimpsestlaw21.EvalNulls', WHERE WHAT IT READS IS OF BULK AT MOST 1048576: true; the input reads as it did. -/
def evalNullsUptoRow : OpenClaim := { program := "ytbeinfhgfflneaagreat", sum := "42adab4a5b8223ca387269ca1ad67824698339608067bf6d56dcd3e01c84f823", func := "palimpsest/palimpsestlaw21.EvalNulls", spec := "evalNulls", inPlace := ["math/bits.Add64", "math/bits.Sub64", "internal/bytealg.abigen_runtime_cmpstring", "internal/abi.NoEscape", "internal/bytealg.IndexByteString", "internal/bytealg.IndexString"], unfollowed := true, recurses := true, named := ["internal/bytealg.MaxLen"], apart := false, narrowed := true }
def EvalNullsUptoSaid : Prop := evalNullsUptoRow.holds Tryz.pinned (OpenSpec.upto evalNullsSpec)

/-- 'palimpsestlaw21.EvalShorts', WHERE WHAT IT READS IS OF BULK AT MOST 1048576: true; the input reads as it did. -/
def evalShortsUptoRow : OpenClaim := { program := "ytbeinfhgfflneaagreat", sum := "42adab4a5b8223ca387269ca1ad67824698339608067bf6d56dcd3e01c84f823", func := "palimpsest/palimpsestlaw21.EvalShorts", spec := "evalShorts", inPlace := ["math/bits.Add64", "math/bits.Sub64", "internal/bytealg.abigen_runtime_cmpstring", "internal/abi.NoEscape", "internal/bytealg.IndexByteString", "internal/bytealg.IndexString"], unfollowed := true, recurses := true, named := ["internal/bytealg.MaxLen"], apart := false, narrowed := true }
def EvalShortsUptoSaid : Prop := evalShortsUptoRow.holds Tryz.pinned (OpenSpec.upto evalShortsSpec)

/-- 'palimpsestlaw21.EvalTypes', WHERE WHAT IT READS IS OF BULK AT MOST 1048576: true; the input reads as it did. -/
def evalTypesUptoRow : OpenClaim := { program := "ytbeinfhgfflneaagreat", sum := "42adab4a5b8223ca387269ca1ad67824698339608067bf6d56dcd3e01c84f823", func := "palimpsest/palimpsestlaw21.EvalTypes", spec := "evalTypes", inPlace := ["internal/abi.NoEscape", "internal/bytealg.IndexByteString", "internal/bytealg.IndexString", "math/bits.Add64", "math/bits.Sub64", "internal/bytealg.abigen_runtime_cmpstring"], unfollowed := true, recurses := true, named := ["internal/bytealg.MaxLen"], apart := false, narrowed := true }
def EvalTypesUptoSaid : Prop := evalTypesUptoRow.holds Tryz.pinned (OpenSpec.upto evalTypesSpec)

end Rows
end Go.Proofs.YtbeinfhgfflneaaGreat
