/- lex.Words: what holds at its labels. -/
import Derived.Test.YthmihhjpilpcpaaW4
import Derived.Test.YthmihhjpilpcpaaJumps
namespace Go.Proofs.Ythmihhjpilpcpaa
open Go.RowKit
set_option linter.unusedVariables false
@[go_sem] theorem jumps_ret {J : Nat → Act → World → Prop} {Q : Exit → Act → World → Prop} {a : Act} {w : World} : Exit.jumps J Q .ret a w = Q .ret a w := rfl
@[go_sem] theorem jumps_normal {J : Nat → Act → World → Prop} {Q : Exit → Act → World → Prop} {a : Act} {w : World} : Exit.jumps J Q .normal a w = Q .normal a w := rfl
def toksCells (l : List Lx.Tok) : List Value := l.flatMap fun t => (tkCells t.tk (t.pos : Int)).toList
theorem toksCells_len (l : List Lx.Tok) : (toksCells l).length = l.length * 4 := by
  induction l with
  | nil => rfl
  | cons t r ih => simp only [toksCells, List.flatMap_cons, List.length_append] at *; rw [ih]; simp [tkCells]; omega
theorem toksCells_snoc (l : List Lx.Tok) (t : Lx.Tok) : toksCells (l ++ [t]) = toksCells l ++ (tkCells t.tk (t.pos : Int)).toList := by simp [toksCells]
def LFrame (s : ByteArray) (g : Nat) (out : Value) (k : Nat) (f : Nat → Value) : Act := { tmps := #[.string s, f 1, f 2, f 3, f 4, out, .pointer (some ⟨g, 0, none⟩), f 7, .int .i64 (k : Int), f 9, f 10, f 11, f 12, f 13, f 14, f 15, f 16, f 17, f 18, f 19, f 20, f 21, f 22, f 23, f 24, f 25, f 26, f 27, f 28, f 29, f 30, f 31, f 32, f 33, f 34, f 35, f 36, f 37, f 38, f 39, f 40, f 41, f 42, f 43, f 44, f 45, f 46, f 47, f 48, f 49, f 50, f 51, f 52, f 53, f 54, f 55, f 56, f 57, f 58, f 59, f 60, f 61, f 62, f 63, f 64, f 65, f 66, f 67, f 68, f 69, f 70, f 71, f 72, f 73, f 74, f 75, f 76, f 77, f 78, f 79, f 80, f 81, f 82, f 83, f 84, f 85, f 86, f 87, f 88, f 89, f 90, f 91, f 92, f 93, f 94, f 95, f 96, f 97, f 98, f 99, f 100, f 101, f 102, f 103, f 104, f 105, f 106, f 107, f 108, f 109, f 110, f 111, f 112, f 113, f 114, f 115, f 116, f 117, f 118, f 119, f 120, f 121, f 122, f 123, f 124, f 125, f 126, f 127, f 128, f 129], defers := [] }
set_option maxRecDepth 100000 in
theorem LFrame_of {s : ByteArray} {g : Nat} {out : Value} {k : Nat} (a : Act) (hd : a.defers = []) (hs : a.tmps.size = 130) (h0 : a.tmps.getD 0 undef = .string s) (h5 : a.tmps.getD 5 undef = out)
    (h6 : a.tmps.getD 6 undef = .pointer (some ⟨g, 0, none⟩)) (h8 : a.tmps.getD 8 undef = .int .i64 (k : Int)) : a = LFrame s g out k (fun i => a.tmps.getD i undef) := by
  obtain ⟨t, d⟩ := a
  subst hd
  have h := frame_out t 130 hs
  unfold LFrame
  rw [← h0, ← h5, ← h6, ← h8]
  exact congrArg (fun t => Act.mk t []) h
structure WInv (w wr : World) (out : Value) (acc : List Lx.Tok) : Prop where
  own : wr.ownsRow (w.heap.size + 1) 29 4 out acc.length (toksCells acc)
  blk : ∃ a b c d, wr.heap[w.heap.size]? = some (.cells #[a, b, c, d] 29 (0, 0))
  bel : Below w.heap.size w wr
  sz : w.heap.size + 1 ≤ wr.heap.size
/-- what is read so far, and what is to come -/
def Came (l : List UInt8) (k : Nat) (acc : List Lx.Tok) : Prop := ∃ f, Lx.lexN f l k acc = Lx.lexAll l ∧ l.length + 1 ≤ k + f ∧ acc.length ≤ k
def LJ (s : ByteArray) (w : World) (lb : Nat) (a : Act) (wr : World) : Prop :=
  ∃ f out k acc, a = LFrame s w.heap.size out k f ∧ WInv w wr out acc ∧ Came s.data.toList k acc ∧ k ≤ s.size ∧
    (lb = 1 ∨ (lb = 2 ∧ k < s.size ∧ Lx.blank1 (s.data.toList.drop k) = Lx.runL Lx.noLine (s.data.toList.drop k) ∧ 1 ≤ Lx.runL Lx.noLine (s.data.toList.drop k)) ∨ (lb = 0 ∧ k = s.size))
def Lmu (s : ByteArray) (lb : Nat) (a : Act) (_ : World) : Nat :=
  if lb = 1 then 2 * (s.size - (intOf (a.tmps.getD 8 undef)).toNat) + 2 else if lb = 2 then 2 * (s.size - (intOf (a.tmps.getD 8 undef)).toNat) + 1 else 0
def scopeOf : Code → Option Code
  | .scope c => some c
  | .seq a b => match scopeOf a with
    | some c => some c
    | none => scopeOf b
  | .block _ c => scopeOf c
  | .cond _ a b => match scopeOf a with
    | some c => some c
    | none => scopeOf b
  | _ => none
noncomputable def scopeC : Code := (Try.f8.body.bind scopeOf).getD .skip
noncomputable def restC (lb : Nat) : Code := (findLabel scopeC lb).getD .skip
def behindSkip : Code → Code
  | .seq .skip b => b
  | c => c
noncomputable def restB (lb : Nat) : Code := behindSkip (restC lb)
/-- what Words tells -/
def WordsPost (l : List UInt8) (w : World) (e : Ending) (w' : World) : Prop :=
  Below w.heap.size w w' ∧ match Lx.lexAll l with
    | .good toks => ∃ g, w.heap.size ≤ g ∧ e = .returned (.tuple #[.slice (some ⟨g, 0, none⟩) toks.length toks.length, .int .i64 0, .int .i64 0]) ∧ ∀ j u, (toksCells toks)[j]? = some u → w'.cell? ⟨g, j, none⟩ = some u
    | .bad p => e = .returned (.tuple #[.slice none 0 0, .int .i64 180, .int .i64 (p : Int)])
noncomputable def LQ (s : ByteArray) (w : World) (lb k : Nat) : Exit → Act → World → Prop :=
  Exit.jumps (fun l' a' w' => LJ s w l' a' w' ∧ Lmu s l' a' w' < Lmu s lb (LFrame s w.heap.size undef k fun _ => undef) w') (bodyPost Try.prog Try.f8 (WordsPost s.data.toList w))
set_option maxRecDepth 100000 in
theorem find1 : findLabel scopeC 1 = some (restC 1) := by kernel_rfl
theorem rest1 : restC 1 = .seq .skip (restB 1) := by kernel_rfl
theorem find2 : findLabel scopeC 2 = some (restC 2) := by kernel_rfl
theorem find0 : findLabel scopeC 0 = some (restC 0) := by kernel_rfl
end Go.Proofs.Ythmihhjpilpcpaa
