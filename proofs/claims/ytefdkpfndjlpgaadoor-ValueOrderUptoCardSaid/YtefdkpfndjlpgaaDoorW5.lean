/- value.arith: products. -/
import Derived.Test.YtefdkpfndjlpgaaDoorW4
namespace Go.Proofs.YtefdkpfndjlpgaaDoor
open Go.RowKit
set_option linter.unusedSimpArgs false
set_option linter.unusedVariables false
theorem signed_any (n : Nat) (b : Bool) (w : World) (hz : b = true → 0 < n) (hl : n < 18446744073709551616) : Calls Tryd.prog 56 #[.int .u64 n, .bool b] w fun e w' => e = pairR (signedR n b) ∧ Gr w w' := by
  cases b with
  | true => exact signed_below n w (hz rfl) hl
  | false => exact signed_above n w hl
set_option maxHeartbeats 1000000 in
set_option maxRecDepth 100000 in
theorem arith_mul (a b : Int) (w : World) (ha : Vl.fitsB a = true) (hb : Vl.fitsB b = true) :
    Calls Tryd.prog 34 #[.int .i64 20, .int .i64 a, .int .i64 b] w fun e w' => e = pairR (fitR (a * b)) ∧ Gr w w' := by
  have h1 := Vl.mul_signed a b
  have M1 := fun W => magnitude_any a W ha
  have M2 := fun W => magnitude_any b W hb
  have W1 := fun W => wide_any a W ha
  have W2 := fun W => wide_any b W hb
  have la : a.natAbs < 18446744073709551616 := by rw [Vl.fits_iff] at ha; omega
  have lb : b.natAbs < 18446744073709551616 := by rw [Vl.fits_iff] at hb; omega
  clear ha hb
  generalize a * b = n at *
  generalize Vl.hi a = xh at *
  generalize Vl.lo a = xl at *
  generalize Vl.hi b = yh at *
  generalize Vl.lo b = yl at *
  generalize a.natAbs = am at *
  generalize b.natAbs = bm at *
  generalize Vl.neg a = an at *
  generalize Vl.neg b = bn at *
  have B := fun W => Tryd.bits_Mul64 am bm la lb W
  by_cases hbig : am * bm < 18446744073709551616
  · rw [Nat.div_eq_of_lt hbig, Nat.mod_eq_of_lt hbig] at B
    clear la lb
    generalize am * bm = m at *
    have hz : ((an != bn) && decide (0 < m)) = true → 0 < m := fun h => by
      rw [Bool.and_eq_true] at h; exact of_decide_eq_true h.2
    have S := fun W => signed_any m ((an != bn) && decide (0 < m)) W hz hbig
    rw [signed_fit m _ n h1 hz] at S
    clear hz hbig h1
    generalize fitR n = R at *
    obtain ⟨⟨rt, rn, rs, rb⟩, re⟩ := R
    unfold pairR at S ⊢
    simp only [Int.natCast_zero] at B
    cases an <;> cases bn
    all_goals simp only [bne_self_eq_false, Bool.true_bne, Bool.false_bne, Bool.not_true, Bool.not_false, Bool.and_self, Bool.and_false, Bool.false_and, Bool.true_and] at S
    all_goals
      go_enter Tryd.func34, Tryd.ntmps34
      go_wp2_with fail
      refine (M1 _).mono ?_
      rintro e w' ⟨rfl, rfl⟩
      go_wp2_with fail
      refine (M2 _).mono ?_
      rintro e w' ⟨rfl, rfl⟩
      go_wp2_with fail
      refine (W1 _).mono ?_
      rintro e w' ⟨rfl, rfl⟩
      go_wp2_with fail
      refine (W2 _).mono ?_
      rintro e w' ⟨rfl, rfl⟩
      clear M1 M2 W1 W2
      go_wp2_with fail
      refine (B _).mono ?_
      rintro e w' ⟨rfl, hw⟩
      subst hw
      go_wp2_with fail
      refine (S _).mono ?_
      rintro e w' ⟨rfl, hg⟩
      have hc := hg.cells
      have hf := hg.frees
      go_wp2_with fail
      refine bodyPost_ret (by simp [results, Tryd.results34, go_sem, hc]; try rfl) rfl ⟨rfl, hg.own.set4 (Nat.le_refl _) _ _ _ _⟩
  · have hov : Vl.fitsB n = false := by
      have hm : 0 < am * bm := by omega
      have h3 := Vl.signed_of n (am * bm) _ h1 (fun _ => hm)
      rw [← h3]
      unfold Vl.signedOk
      split <;> simp <;> omega
    have hr : Hid (pairR (fitR n) = .returned (.tuple #[.agg #[.int .i64 0, .int .i64 0, .string ⟨#[]⟩, .bool false], .int .i64 161])) := by
      refine hid ?_
      unfold fitR
      rw [hov]; rfl
    have hh : decide (0 < am * bm / 18446744073709551616) = true := by
      rw [decide_eq_true_eq]
      exact Nat.div_pos (by omega) (by decide)
    clear h1 hbig hov la lb
    generalize am * bm / 18446744073709551616 = mh at *
    generalize am * bm % 18446744073709551616 = ml at *
    generalize pairR (fitR n) = R at *
    go_enter Tryd.func34, Tryd.ntmps34
    go_wp2_with fail
    refine (M1 _).mono ?_
    rintro e w' ⟨rfl, rfl⟩
    go_wp2_with fail
    refine (M2 _).mono ?_
    rintro e w' ⟨rfl, rfl⟩
    go_wp2_with fail
    refine (W1 _).mono ?_
    rintro e w' ⟨rfl, rfl⟩
    go_wp2_with fail
    refine (W2 _).mono ?_
    rintro e w' ⟨rfl, rfl⟩
    clear M1 M2 W1 W2
    go_wp2_with fail
    refine (B _).mono ?_
    rintro e w' ⟨rfl, hw⟩
    subst hw
    go_wp2
    go_returns
    exact ⟨by rw [hr.out], (Gr.refl _).alloc _⟩
end Go.Proofs.YtefdkpfndjlpgaaDoor
