/- Words and small lemmas that the walks of this seat share. -/
import Derived.Test.YtacbhkmkknicoaaDoorRows
import Derived.WalkKit
import Derived.WalkLawsBesides
import Derived.WalkSpells
import Derived.Handy
import Derived.Below
namespace Go.Proofs.YtacbhkmkknicoaaDoor
open Go.RowKit
theorem hid {p : Prop} (h : p) : Hid p := h
theorem ret_bool {a b : Bool} (h : a = b) : Ending.returned (.bool a) = .returned (.bool b) := by rw [h]
/-- old memory stands -/
def Gr (w w' : World) : Prop := Below w.heap.size w w'
theorem Gr.refl (w : World) : Gr w w := Below.refl _ _
theorem Gr.size {w w' : World} (h : Gr w w') : w.heap.size ≤ w'.heap.size := Below.size h
theorem Gr.trans {a b c : World} (h : Gr a b) (k : Gr b c) : Gr a c := Below.trans h (Below.mono k h.size)
theorem Gr.alloc {a w : World} (h : Gr a w) (o : Obj) : Gr a (w.alloc o) := Below.alloc h h.size o
theorem Gr.drew {a w : World} (h : Gr a w) : Gr a w.drew := Below.drew h
theorem Gr.drewN {a w : World} (h : Gr a w) (n : Nat) : Gr a (w.drewN n) := ⟨h.os, h.tape, h.output, h.size, h.block⟩
theorem Gr.setCell {a w : World} (h : Gr a w) {p : Addr} (hp : a.heap.size ≤ p.block) (u : Value) : Gr a (w.setCell p u) := Below.setCell h hp u
theorem lt_of_cell {w : World} {g k : Nat} {v : Value} (h : w.cell? ⟨g, k, none⟩ = some v) : g < w.heap.size := World.block_lt_of_cell? _ _ h
theorem Gr.keep {w w' : World} {g k : Nat} {v : Value} (h : Gr w w') (hc : w.cell? ⟨g, k, none⟩ = some v) : w'.cell? ⟨g, k, none⟩ = some v := by
  rw [Below.cell (p := ⟨g, k, none⟩) h (lt_of_cell hc)]; exact hc
/-- a value: its kind, number, text, truth -/
structure V where
  t : Int
  n : Int
  s : ByteArray
  b : Bool
def V.cells (v : V) : Array Value := #[.int .i64 v.t, .int .i64 v.n, .string v.s, .bool v.b]
/-- a value as the model holds it -/
def V.val (v : V) : Value := .agg #[.int .i64 v.t, .int .i64 v.n, .string v.s, .bool v.b]
/-- null -/
def nul : V := ⟨0, 0, ⟨#[]⟩, false⟩
def numV (n : Int) : V := ⟨1, n, ⟨#[]⟩, false⟩
def textV (s : ByteArray) : V := ⟨2, 0, s, false⟩
def boolV (b : Bool) : V := ⟨3, 0, ⟨#[]⟩, b⟩
/-- a result and its error -/
def pairR (r : V × Int) : Ending := .returned (.tuple #[.agg #[.int .i64 r.1.t, .int .i64 r.1.n, .string r.1.s, .bool r.1.b], .int .i64 r.2])
/-- a row of values in a block -/
def VRow (w : World) (g : Nat) (l : List V) : Prop := ∀ (k i : Nat) (u : Value) (h : k < l.length), l[k].cells[i]? = some u → w.cell? ⟨g, k * 4 + i, none⟩ = some u
theorem VRow.keep {w w' : World} {g : Nat} {l : List V} (h : VRow w g l) (hg : Gr w w') : VRow w' g l := fun k i u hk hu => hg.keep (h k i u hk hu)
theorem v_struct : Tryd.prog.underlying 32 = some (.struct (Tryd.prog.fieldsOf 32)) := by kernel_rfl
theorem v_plain : Tryd.prog.stoodInHeld 32 = false := by kernel_rfl
theorem v_guard : Tryd.prog.eqGuardType Tryd.prog.depth 32 = false := by kernel_rfl
theorem v_same (x0 x1 : Int) (x2 : ByteArray) (x3 : Bool) (W : World) : (Op.equalIn 10000 32 (.agg #[.int .i64 x0, .int .i64 x1, .string x2, .bool x3]) (.agg #[.int .i64 x0, .int .i64 x1, .string x2, .bool x3])).run Tryd.prog W = .ok true W := by
  rw [run_equalIn_agg W 9999 32 _ _ v_struct v_plain]
  go_simp
theorem Gr.cells {w w' : World} (h : Gr w w') : ∀ b i, b < w.heap.size → w'.cell? ⟨b, i, none⟩ = w.cell? ⟨b, i, none⟩ := fun b i hb => Below.cell (p := ⟨b, i, none⟩) h hb
theorem Gr.frees {w w' : World} (h : Gr w w') : ∀ b i, b < w.heap.size → w'.frozen? ⟨b, i, none⟩ = w.frozen? ⟨b, i, none⟩ := fun b i hb => Below.frozen (p := ⟨b, i, none⟩) h hb
theorem Gr.set4 {a w : World} {g : Nat} (h : Gr a w) (hg : a.heap.size ≤ g) (x0 x1 x2 x3 : Value) : Gr a ((((w.setCell ⟨g, 0, none⟩ x0).setCell ⟨g, 1, none⟩ x1).setCell ⟨g, 2, none⟩ x2).setCell ⟨g, 3, none⟩ x3) :=
  (((h.setCell hg x0).setCell hg x1).setCell hg x2).setCell hg x3
theorem Gr.own {w w' : World} {o : Obj} (h : Gr (w.alloc o) w') : Gr w w' := ((Gr.refl _).alloc _).trans h
theorem uwrap (n : Int) : IntKind.u64.wrap n = n % 18446744073709551616 := by
  rw [IntKind.wrap_u64]
end Go.Proofs.YtacbhkmkknicoaaDoor
