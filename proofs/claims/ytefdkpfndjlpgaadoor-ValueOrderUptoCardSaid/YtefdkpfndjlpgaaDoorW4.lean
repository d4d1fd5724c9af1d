/- value.arith: what a sign says of two numbers. -/
import Derived.Test.YtefdkpfndjlpgaaDoorW2
import Derived.Test.YtefdkpfndjlpgaaDoorShelf
import Derived.Shelf.Spec.BitsCarry
namespace Go.Proofs.YtefdkpfndjlpgaaDoor
open Go.RowKit
set_option linter.unusedSimpArgs false
set_option linter.unusedVariables false
theorem add64_run (x y c : Nat) (hc : c ≤ 1) (w : World) :
    (callFunc 45 #[.int .u64 x, .int .u64 y, .int .u64 c]).run Tryd.prog w =
      .ok (.value (.tuple #[.int .u64 (((x + y + c) % 18446744073709551616 : Nat) : Int), .int .u64 (((x + y + c) / 18446744073709551616 : Nat) : Int)])) w := by
  rw [run_callFunc_extern Tryd.func45 (by kernel_rfl) (by kernel_rfl) (by kernel_rfl) (e := add64Entry) (by kernel_rfl), run_add64 x y c (by omega) (by omega) (by omega) (by omega)]
  simp only [Result.andThen]
  congr 5 <;> omega
theorem sub64_run (x y b : Nat) (hb : b ≤ 1) (w : World) :
    (callFunc 54 #[.int .u64 x, .int .u64 y, .int .u64 b]).run Tryd.prog w =
      .ok (.value (.tuple #[.int .u64 (((x + 18446744073709551616 - y - b) % 18446744073709551616 : Nat) : Int), .int .u64 ((if x < y + b then 1 else 0 : Nat) : Int)])) w := by
  rw [run_callFunc_extern Tryd.func54 (by kernel_rfl) (by kernel_rfl) (by kernel_rfl) (e := sub64Entry) (by kernel_rfl), run_sub64 x y b hb]
  rfl
/-- a number, or too large -/
def fitR (n : Int) : V × Int := if Vl.fitsB n then (numV n, 0) else (nul, 161)
theorem whole_fit (h l : Nat) (n : Int) (h1 : Vl.wholeB h l = Vl.fitsB n) (h2 : Vl.fitsB n = true → Vl.sgn l = n) : wholeR h l = fitR n := by
  unfold wholeR fitR
  rw [h1]
  cases hf : Vl.fitsB n with
  | true => rw [if_pos rfl, if_pos rfl, h2 hf]
  | false => rfl
theorem signed_fit (m : Nat) (b : Bool) (n : Int) (h1 : Vl.signedV m b = n) (hz : b = true → 0 < m) : signedR m b = fitR n := by
  unfold signedR fitR
  rw [Vl.signed_of n m b h1 hz, h1]
theorem hi_lt (n : Int) : Vl.hi n < 18446744073709551616 := by unfold Vl.hi; split <;> omega
theorem lo_lt (n : Int) : Vl.lo n < 18446744073709551616 := by unfold Vl.lo; omega
set_option maxHeartbeats 1000000 in
set_option maxRecDepth 100000 in
theorem arith_add (a b : Int) (w : World) (ha : Vl.fitsB a = true) (hb : Vl.fitsB b = true) :
    Calls Tryd.prog 34 #[.int .i64 18, .int .i64 a, .int .i64 b] w fun e w' => e = pairR (fitR (a + b)) ∧ Gr w w' := by
  obtain ⟨h1, h2⟩ := Vl.add_whole a b ha hb
  have hr := hid (whole_fit _ _ _ h1 h2)
  clear h1 h2
  have M1 := fun W => magnitude_any a W ha
  have M2 := fun W => magnitude_any b W hb
  have W1 := fun W => wide_any a W ha
  have W2 := fun W => wide_any b W hb
  have la := lo_lt a
  have lb := lo_lt b
  clear ha hb
  generalize fitR (a + b) = R at *
  generalize Vl.hi a = xh at *
  generalize Vl.lo a = xl at *
  generalize Vl.hi b = yh at *
  generalize Vl.lo b = yl at *
  generalize a.natAbs = am at *
  generalize b.natAbs = bm at *
  generalize Vl.neg a = an at *
  generalize Vl.neg b = bn at *
  have A1 := fun W => add64_run xl yl 0 (by omega) W
  have A2 := fun W => add64_run xh yh ((xl + yl + 0) / 18446744073709551616) (by omega) W
  simp only [Nat.add_zero, Int.natCast_zero] at A1 A2
  have lt1 : (xh + yh + (xl + yl) / 18446744073709551616) % 18446744073709551616 < 18446744073709551616 := Nat.mod_lt _ (by decide)
  have lt2 : (xl + yl) % 18446744073709551616 < 18446744073709551616 := Nat.mod_lt _ (by decide)
  have C := fun W => whole_any _ _ W lt1 lt2
  rw [hr.out] at C
  clear lt1 lt2 hr la lb
  generalize (xh + yh + (xl + yl) / 18446744073709551616) % 18446744073709551616 = sh at *
  generalize (xh + yh + (xl + yl) / 18446744073709551616) / 18446744073709551616 = sc at *
  generalize (xl + yl) % 18446744073709551616 = sl at *
  generalize (xl + yl) / 18446744073709551616 = sd at *
  obtain ⟨⟨rt, rn, rs, rb⟩, re⟩ := R
  unfold pairR at C ⊢
  go_enter Tryd.func34, Tryd.ntmps34
  go_wp2_with fail
  refine (M1 _).mono ?_
  rintro e w' ⟨rfl, rfl⟩
  go_wp2_with fail
  refine (M2 _).mono ?_
  rintro e w' ⟨rfl, rfl⟩
  go_wp2_with fail
  refine (W1 _).mono ?_
  rintro e w' ⟨rfl, rfl⟩
  go_wp2_with fail
  refine (W2 _).mono ?_
  rintro e w' ⟨rfl, rfl⟩
  clear M1 M2 W1 W2
  go_wp2_with fail
  refine (C _).mono ?_
  rintro e w' ⟨rfl, hg⟩
  have hc := hg.cells
  have hf := hg.frees
  go_wp2_with fail
  refine bodyPost_ret (by simp [results, Tryd.results34, go_sem, hc]; try rfl) rfl ⟨rfl, hg.own.set4 (Nat.le_refl _) _ _ _ _⟩
set_option maxHeartbeats 1000000 in
set_option maxRecDepth 100000 in
theorem arith_sub (a b : Int) (w : World) (ha : Vl.fitsB a = true) (hb : Vl.fitsB b = true) :
    Calls Tryd.prog 34 #[.int .i64 19, .int .i64 a, .int .i64 b] w fun e w' => e = pairR (fitR (a - b)) ∧ Gr w w' := by
  obtain ⟨h1, h2⟩ := Vl.sub_whole a b ha hb
  have hr := hid (whole_fit _ _ _ h1 h2)
  clear h1 h2
  have M1 := fun W => magnitude_any a W ha
  have M2 := fun W => magnitude_any b W hb
  have W1 := fun W => wide_any a W ha
  have W2 := fun W => wide_any b W hb
  have la := lo_lt a
  have lb := lo_lt b
  have hi_b := hi_lt b
  clear ha hb
  generalize fitR (a - b) = R at *
  generalize Vl.hi a = xh at *
  generalize Vl.lo a = xl at *
  generalize Vl.hi b = yh at *
  generalize Vl.lo b = yl at *
  generalize a.natAbs = am at *
  generalize b.natAbs = bm at *
  generalize Vl.neg a = an at *
  generalize Vl.neg b = bn at *
  have A1 := fun W => sub64_run xl yl 0 (by omega) W
  have ho1 : Vl.owe xl yl ≤ 1 := by unfold Vl.owe; split <;> omega
  have A2 := fun W => sub64_run xh yh (Vl.owe xl yl) ho1 W
  have e1 : (if xl < yl + 0 then 1 else 0 : Nat) = Vl.owe xl yl := rfl
  rw [e1] at A1
  have e2 : xh + 18446744073709551616 - yh - Vl.owe xl yl = xh + 18446744073709551616 - yh - Vl.owe xl yl := rfl
  have e3 : (xh + 18446744073709551616 - yh - Vl.owe xl yl) % 18446744073709551616 = (xh + 36893488147419103232 - yh - Vl.owe xl yl) % 18446744073709551616 := by
    have := hi_b
    omega
  rw [e3] at A2
  simp only [Nat.sub_zero, Int.natCast_zero] at A1 A2
  have lt1 : (xh + 36893488147419103232 - yh - Vl.owe xl yl) % 18446744073709551616 < 18446744073709551616 := Nat.mod_lt _ (by decide)
  have lt2 : (xl + 18446744073709551616 - yl) % 18446744073709551616 < 18446744073709551616 := Nat.mod_lt _ (by decide)
  have C := fun W => whole_any _ _ W lt1 lt2
  rw [hr.out] at C
  clear lt1 lt2 hr la lb ho1 e1 e2 e3 hi_b
  generalize (if xh < yh + Vl.owe xl yl then 1 else 0 : Nat) = sc at *
  generalize (xh + 36893488147419103232 - yh - Vl.owe xl yl) % 18446744073709551616 = sh at *
  generalize (xl + 18446744073709551616 - yl) % 18446744073709551616 = sl at *
  generalize Vl.owe xl yl = sd at *
  obtain ⟨⟨rt, rn, rs, rb⟩, re⟩ := R
  unfold pairR at C ⊢
  go_enter Tryd.func34, Tryd.ntmps34
  go_wp2_with fail
  refine (M1 _).mono ?_
  rintro e w' ⟨rfl, rfl⟩
  go_wp2_with fail
  refine (M2 _).mono ?_
  rintro e w' ⟨rfl, rfl⟩
  go_wp2_with fail
  refine (W1 _).mono ?_
  rintro e w' ⟨rfl, rfl⟩
  go_wp2_with fail
  refine (W2 _).mono ?_
  rintro e w' ⟨rfl, rfl⟩
  clear M1 M2 W1 W2
  go_wp2_with fail
  refine (C _).mono ?_
  rintro e w' ⟨rfl, hg⟩
  have hc := hg.cells
  have hf := hg.frees
  go_wp2_with fail
  refine bodyPost_ret (by simp [results, Tryd.results34, go_sem, hc]; try rfl) rfl ⟨rfl, hg.own.set4 (Nat.le_refl _) _ _ _ _⟩
end Go.Proofs.YtefdkpfndjlpgaaDoor
