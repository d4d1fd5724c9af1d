/- redo: lsns. -/
import Derived.Test.YtmanokhadppeeaaR2
namespace Go.Proofs.Ytmanokhadppeeaa
open Go.RowKit Go.Maps
set_option linter.unusedSimpArgs false
set_option linter.unusedVariables false
theorem lsns_make (oa : Option Addr) (n c : Nat) (w : World) : Calls Try.prog 12 #[.slice oa n c] w fun e w' => ∃ gp, e = .returned (.func (.func 35) #[] #[.pointer (some ⟨gp, 0, none⟩)]) ∧ w'.cell? ⟨gp, 0, none⟩ = some (.slice oa n c) ∧ Gr w w' := by
  go_enter Try.func12, Try.ntmps12
  go_wp2
  go_ret
  exact ⟨w.heap.size, rfl, by go_simp, (Gr.refl _).alloc _⟩
end Go.Proofs.Ytmanokhadppeeaa
