/- What the second form's bound gives: a text among the arguments has at most 1048576 bytes. -/
import Derived.Test.YtefdkpfndjlpgaaDoorRows
namespace Go.Proofs.YtefdkpfndjlpgaaDoor.bulks
theorem part_le {H : Type} {d : DataW H} : ∀ {l : List (DataW H)}, d ∈ l → Rows.uptoBulk d ≤ Rows.uptoBulkAll l
  | [], h => by cases h
  | x :: r, h => by
    simp only [Rows.uptoBulkAll]
    rcases List.mem_cons.1 h with rfl | h
    · exact Nat.le_add_right _ _
    · exact Nat.le_trans (part_le h) (Nat.le_add_left _ _)
theorem text_le {H : Type} {b : ByteArray} {l : List (DataW H)} (hk : Rows.uptoSmall H l = true) (h : DataW.lit (Lit.string b.data.toList) ∈ l) : b.size ≤ 1048576 := by
  have h1 : Rows.uptoBulkAll l ≤ 1048576 := by simpa [Rows.uptoSmall] using hk
  have h2 := part_le h
  have h3 : Rows.uptoBulk (DataW.lit (H := H) (Lit.string b.data.toList)) = b.data.toList.length + 1 := by simp [Rows.uptoBulk]
  have h4 : b.data.toList.length = b.size := rfl
  omega
end Go.Proofs.YtefdkpfndjlpgaaDoor.bulks
