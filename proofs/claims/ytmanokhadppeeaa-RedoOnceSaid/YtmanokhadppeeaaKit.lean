/- Words and small lemmas that the walks of this seat share. -/
import Derived.Test.YtmanokhadppeeaaRows
import Derived.WalkKit
import Derived.WalkLawsBesides
import Derived.WalkSpells
import Derived.Handy
import Derived.Below
import Derived.Laws.FloatArith
import Derived.Laws.Cover3
namespace Go.Proofs.Ytmanokhadppeeaa
open Go.RowKit
theorem hid {p : Prop} (h : p) : Hid p := h
theorem ret_bool {a b : Bool} (h : a = b) : Ending.returned (.bool a) = .returned (.bool b) := by rw [h]
/-- old memory stands -/
def Gr (w w' : World) : Prop := Below w.heap.size w w'
theorem Gr.refl (w : World) : Gr w w := Below.refl _ _
theorem Gr.size {w w' : World} (h : Gr w w') : w.heap.size ≤ w'.heap.size := Below.size h
theorem Gr.trans {a b c : World} (h : Gr a b) (k : Gr b c) : Gr a c := Below.trans h (Below.mono k h.size)
theorem Gr.alloc {a w : World} (h : Gr a w) (o : Obj) : Gr a (w.alloc o) := Below.alloc h h.size o
theorem Gr.drew {a w : World} (h : Gr a w) : Gr a w.drew := Below.drew h
theorem Gr.drewN {a w : World} (h : Gr a w) (n : Nat) : Gr a (w.drewN n) := ⟨h.os, h.tape, h.output, h.size, h.block⟩
theorem Gr.setCell {a w : World} (h : Gr a w) {p : Addr} (hp : a.heap.size ≤ p.block) (u : Value) : Gr a (w.setCell p u) := Below.setCell h hp u
theorem lt_of_cell {w : World} {g k : Nat} {v : Value} (h : w.cell? ⟨g, k, none⟩ = some v) : g < w.heap.size := World.block_lt_of_cell? _ _ h
theorem Gr.keep {w w' : World} {g k : Nat} {v : Value} (h : Gr w w') (hc : w.cell? ⟨g, k, none⟩ = some v) : w'.cell? ⟨g, k, none⟩ = some v := by
  rw [Below.cell (p := ⟨g, k, none⟩) h (lt_of_cell hc)]; exact hc
theorem Gr.cells {w w' : World} (h : Gr w w') : ∀ b i, b < w.heap.size → w'.cell? ⟨b, i, none⟩ = w.cell? ⟨b, i, none⟩ := fun b i hb => Below.cell (p := ⟨b, i, none⟩) h hb
theorem Gr.frees {w w' : World} (h : Gr w w') : ∀ b i, b < w.heap.size → w'.frozen? ⟨b, i, none⟩ = w.frozen? ⟨b, i, none⟩ := fun b i hb => Below.frozen (p := ⟨b, i, none⟩) h hb
theorem Gr.own {w w' : World} {o : Obj} (h : Gr (w.alloc o) w') : Gr w w' := ((Gr.refl _).alloc _).trans h
theorem uwrap (n : Int) : IntKind.u64.wrap n = n % 18446744073709551616 := by
  rw [IntKind.wrap_u64]
end Go.Proofs.Ytmanokhadppeeaa
