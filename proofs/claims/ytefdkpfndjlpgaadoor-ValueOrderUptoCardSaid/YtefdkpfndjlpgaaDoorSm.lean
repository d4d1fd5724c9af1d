/- ValueSums: sums over words, in plain Lean. -/
import Derived.Test.YtefdkpfndjlpgaaDoorPlain
namespace Vl
/-- the two words tell the number, up to 2^128 -/
def Tells (h l : Nat) (s : Int) : Prop := h < 18446744073709551616 ∧ l < 18446744073709551616 ∧ ∃ c : Int, (h : Int) * 18446744073709551616 + l = s + c * 340282366920938463463374607431768211456
theorem Tells.zero : Tells 0 0 0 := ⟨by decide, by decide, 0, rfl⟩
theorem Tells.add {h l : Nat} {s n : Int} (t : Tells h l s) (hn : fitsB n = true) :
    Tells ((h + hi n + (l + lo n) / 18446744073709551616) % 18446744073709551616) ((l + lo n) % 18446744073709551616) (s + n) := by
  obtain ⟨h1, h2, c, e⟩ := t
  have h3 := hi_lo n hn
  refine ⟨by omega, by omega, ?_⟩
  generalize hi n = a at *
  generalize lo n = b at *
  refine ⟨c + (if n < 0 then 1 else 0) - ((h + a + (l + b) / 18446744073709551616) / 18446744073709551616 : Nat), ?_⟩
  rcases h3 with ⟨h3, h4, h5⟩ | ⟨h3, h4, h5⟩
  · rw [if_pos h3]; omega
  · rw [if_neg (by omega)]; omega
/-- what is told by whole words, when the number is far from 2^127 -/
theorem Tells.whole {h l : Nat} {s : Int} (t : Tells h l s) (h1 : -170141183460469231731687303715884105728 ≤ s) (h2 : s < 170141183460469231731687303715884105728) :
    wholeB h l = fitsB s ∧ (fitsB s = true → sgn l = s) :=
  whole_of s h l t.2.1 t.1 h1 h2 t.2.2
end Vl
