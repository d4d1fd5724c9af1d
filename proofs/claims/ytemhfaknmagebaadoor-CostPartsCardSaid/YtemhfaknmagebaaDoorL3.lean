/- CostTexts: the law's walk. -/
import Derived.Test.YtemhfaknmagebaaDoorT2
import Derived.Test.YtemhfaknmagebaaDoorAw
namespace Go.Proofs.YtemhfaknmagebaaDoor
open Go.RowKit
set_option linter.unusedSimpArgs false
set_option linter.unusedVariables false
def Yes (w : World) (e : Ending) (w' : World) : Prop := e = .returned (.bool true) ∧ Gr w w'
set_option maxHeartbeats 2000000 in
set_option maxRecDepth 100000 in
theorem costTexts_any (x y : Nat) (w : World) (ht : Tab w) : Calls Tryd.prog 3 #[.float .f64 x, .float .f64 y] w (Yes w) := by
  have T1 := fun W h => text_any x y W h
  have T2 := fun W => rtext_any x y W
  generalize partS x ++ ⟨#[43]⟩ ++ partS y ++ ⟨#[105]⟩ = s at *
  have Ht := hid ht
  clear ht
  go_enter Tryd.func3, Tryd.ntmps3
  go_wp2_with fail
  refine (T1 _ Ht.out).mono ?_
  rintro e w1 ⟨rfl, hg⟩
  go_wp2_with fail
  refine (T2 _).mono ?_
  rintro e w2 ⟨rfl, hg2⟩
  go_wp2_with fail
  refine (awake_any _ ((Ht.out.keep hg).keep hg2)).mono ?_
  rintro e w3 ⟨rfl, hg3⟩
  go_wp2
  go_ret
  exact ⟨rfl, (hg.trans hg2).trans hg3⟩
end Go.Proofs.YtemhfaknmagebaaDoor
