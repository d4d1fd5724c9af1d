/- LexNames: the walk, every string that may come in. -/
import Derived.Test.YthmihhjpilpcpaaN6
import Derived.Test.YthmihhjpilpcpaaPost
namespace Go.Proofs.Ythmihhjpilpcpaa
open Go.RowKit
set_option linter.unusedVariables false
theorem empty_of (s : ByteArray) (h : s.data.toList = []) : s = ⟨#[]⟩ := by
  apply ByteArray.ext
  apply Array.ext'
  simpa using h
theorem reserved_any (s : ByteArray) (m : Int) (w : World) (hs : s.size ≤ 140737488355328) (hm : w.cell? ⟨0, 0, none⟩ = some (.int .i64 m)) :
    Calls Try.prog 12 #[.string s] w fun e w' => e = .returned (.bool (keptB s.data.toList)) ∧ w' = w := by
  by_cases h : s.data.toList = []
  · have e := empty_of s h
    subst e
    exact reserved_empty w
  · exact reserved_full s m w h hs hm
theorem name_any (s : ByteArray) (m : Int) (w : World) (hs : s.size ≤ 140737488355328) (hm : w.cell? ⟨0, 0, none⟩ = some (.int .i64 m)) :
    Calls Try.prog 14 #[.string s] w fun e w' => e = .returned (.bool (nameB s.data.toList)) ∧ Below w.heap.size w w' := by
  cases h : s.data.toList with
  | nil =>
    have e := empty_of s h
    subst e
    exact (name_empty w).mono fun e w' ⟨h1, h2⟩ => ⟨h1, by rw [h2]; exact Below.refl _ _⟩
  | cons c r => rw [← h]; exact name_full s m w c r h hs hm
set_option maxHeartbeats 1000000 in
set_option maxRecDepth 100000 in
theorem lexnames_any (s : ByteArray) (m : Int) (w : World) (hs : s.size ≤ 140737488355328) (hm : w.cell? ⟨0, 0, none⟩ = some (.int .i64 m)) : Calls Try.prog 6 #[.string s] w (Yes w) := by
  go_enter Try.func6, Try.ntmps6
  go_wp2_with fail
  refine (reserved_any s m _ hs hm).mono ?_
  rintro e w1 ⟨rfl, rfl⟩
  go_wp2_with fail
  refine (rreserved_any s _).mono ?_
  rintro e w2 ⟨rfl, hb2⟩
  have hm2 := keep_cell hm hb2
  generalize keptB s.data.toList = kb
  have tb : (kb == kb) = true := by cases kb <;> rfl
  go_wp2_with fail
  refine (name_any s m _ hs hm2).mono ?_
  rintro e w3 ⟨rfl, hb3⟩
  have hb23 := hb2.trans (hb3.mono hb2.size)
  go_wp2_with fail
  refine (rname_any s _ (by unfold maxLen; omega)).mono ?_
  rintro e w4 ⟨rfl, hb4⟩
  have hb24 := hb23.trans (hb4.mono hb23.size)
  generalize nameB s.data.toList = nb
  have tn : (nb == nb) = true := by cases nb <;> rfl
  go_wp2_with fail
  refine (awake_any _).mono ?_
  rintro e w5 ⟨rfl, hb5⟩
  have hb25 := hb24.trans (hb5.mono hb24.size)
  go_wp2
  go_ret
  exact ⟨rfl, hb25⟩
end Go.Proofs.Ythmihhjpilpcpaa
