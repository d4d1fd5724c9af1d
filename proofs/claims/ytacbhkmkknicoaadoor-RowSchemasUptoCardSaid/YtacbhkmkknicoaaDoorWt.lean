/- row: what the second form's bound gives of rows. -/
import Derived.Test.YtacbhkmkknicoaaDoorOq
import Derived.Test.YtacbhkmkknicoaaDoorCW
namespace Go.Proofs.YtacbhkmkknicoaaDoor
open Go.RowKit
set_option linter.unusedSimpArgs false
set_option linter.unusedVariables false
theorem mem_sum {α : Type} (wt : α → Nat) : ∀ {l : List α} {x : α}, x ∈ l → wt x ≤ (l.map wt).sum
  | [], x, h => by cases h
  | y :: r, x, h => by
    simp only [List.map_cons, List.sum_cons]
    rcases List.mem_cons.1 h with rfl | h
    · omega
    · have := mem_sum wt h; omega
theorem join_wt : ∀ l : List V, (joinV l).length ≤ 2 * (l.map wtV).sum
  | [] => by simp [joinV]
  | v :: r => by
    have ih := join_wt r
    have h1 := encV_len v
    have e : joinV (v :: r) = encV v ++ joinV r := rfl
    rw [e, List.length_append, List.map_cons, List.sum_cons]
    unfold wtV at *
    omega
theorem vok_of {l : List V} (hg : ∀ x ∈ l, okI x.t ∧ okI x.n) (hw : (l.map wtV).sum ≤ 1048576) : (∀ v ∈ l, VOk v) ∧ (joinV l).length ≤ 140737488355328 := by
  constructor
  · intro v hv
    have := mem_sum wtV hv
    unfold wtV at this
    exact ⟨(hg v hv).2, by unfold wtV at hw; omega⟩
  · have := join_wt l
    omega
end Go.Proofs.YtacbhkmkknicoaaDoor
