/- lex.Reserved: a search in one long text. -/
import Derived.Test.YthmihhjpilpcpaaAw
import Derived.Test.YthmihhjpilpcpaaT1
import Derived.Test.YthmihhjpilpcpaaN1
import Derived.Test.YthmihhjpilpcpaaShelf2
namespace Go.Proofs.Ythmihhjpilpcpaa
open Go.RowKit
set_option linter.unusedVariables false
theorem bs_data (s : ByteArray) : bs s.data.toList = s := by
  apply ByteArray.ext
  simp [bs]
set_option maxHeartbeats 1000000 in
set_option maxRecDepth 100000 in
theorem reserved_empty (w : World) :
    Calls Try.prog 12 #[.string ⟨#[]⟩] w fun e w' => e = .returned (.bool false) ∧ w' = w := by
  go_enter Try.func12, Try.ntmps12
  go_wp2
  go_ret
  exact ⟨rfl, rfl⟩
set_option maxHeartbeats 1000000 in
set_option maxRecDepth 100000 in
theorem reserved_full (s : ByteArray) (m : Int) (w : World) (h0 : s.data.toList ≠ []) (hs : s.size ≤ 140737488355328) (hm : w.cell? ⟨0, 0, none⟩ = some (.int .i64 m)) :
    Calls Try.prog 12 #[.string s] w fun e w' => e = .returned (.bool (keptB s.data.toList)) ∧ w' = w := by
  have hne2 : ¬ s.toList = [] := by rw [ByteArray.toList_eq]; exact h0
  have hne : s.toList.isEmpty = false := by cases h : s.toList with | nil => exact absurd h hne2 | cons _ _ => rfl
  have hk := fun h32 => kept_eq s.data.toList h0 h32
  have hc1 := Try.strings_Contains_one s 32
  rw [indexByte_contains] at hc1
  have hsub : (⟨#[32]⟩ ++ s ++ ⟨#[32]⟩ : ByteArray).data.toList = 32 :: (s.data.toList ++ [32]) := by simp
  go_enter Try.func12, Try.ntmps12
  go_wp2_with fail
  refine (hc1 _).mono ?_
  rintro e w1 ⟨rfl, rfl⟩
  cases h32 : s.data.toList.contains 32 with
  | true =>
    have hkf := hid (kept_false s.data.toList (.inr h32))
    go_wp2
    go_ret
    exact ⟨by rw [hkf.out]; rfl, rfl⟩
  | false =>
    have hkt := hid (hk h32)
    clear hk hc1
    go_wp2_with fail
    refine (Try.strings_Contains _ _ m _ (by decide +kernel) hm).mono ?_
    rintro e w2 ⟨rfl, rfl⟩
    rw [hsub]
    have hkw : ∀ b, Lib.contains wordsB b = Lib.contains wordsB b := fun _ => rfl
    go_wp2
    go_ret
    exact ⟨congrArg (fun x => Ending.returned (.bool x)) hkt.out, rfl⟩
end Go.Proofs.Ythmihhjpilpcpaa
