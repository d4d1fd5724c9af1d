/- What values do, in plain Lean: sums, products, quotients of ints that may not fit. -/
set_option linter.unusedSimpArgs false
namespace Vl
def fitsB (n : Int) : Bool := decide (-9223372036854775808 ≤ n) && decide (n ≤ 9223372036854775807)
def lo (n : Int) : Nat := (n % 18446744073709551616).toNat
def hi (n : Int) : Nat := if n < 0 then 18446744073709551615 else 0
theorem lo_val (n : Int) : (lo n : Int) = n % 18446744073709551616 := by unfold lo; omega
def wholeB (h l : Nat) : Bool := (h == 0 && decide (l < 9223372036854775808)) || (h == 18446744073709551615 && decide (9223372036854775808 ≤ l))
/-- a word's number -/
def sgn (l : Nat) : Int := if l < 9223372036854775808 then (l : Int) else (l : Int) - 18446744073709551616
theorem sgn_lo (n : Int) (h : fitsB n = true) : sgn (lo n) = n := by
  have := lo_val n
  simp only [fitsB, Bool.and_eq_true, decide_eq_true_eq] at h
  unfold sgn; split <;> omega
theorem hi_lo (n : Int) (h : fitsB n = true) : (n < 0 ∧ hi n = 18446744073709551615 ∧ (lo n : Int) = n + 18446744073709551616) ∨ (0 ≤ n ∧ hi n = 0 ∧ (lo n : Int) = n) := by
  have h1 := lo_val n
  simp only [fitsB, Bool.and_eq_true, decide_eq_true_eq] at h
  unfold hi
  by_cases h2 : n < 0
  · left; rw [if_pos h2]; exact ⟨h2, rfl, by omega⟩
  · right; rw [if_neg h2]; exact ⟨by omega, rfl, by omega⟩
theorem whole_iff (h l : Nat) : wholeB h l = true ↔ (h = 0 ∧ l < 9223372036854775808) ∨ (h = 18446744073709551615 ∧ 9223372036854775808 ≤ l) := by
  unfold wholeB
  simp only [Bool.or_eq_true, Bool.and_eq_true, beq_iff_eq, decide_eq_true_eq]
theorem fits_iff (n : Int) : fitsB n = true ↔ -9223372036854775808 ≤ n ∧ n ≤ 9223372036854775807 := by
  unfold fitsB
  simp only [Bool.and_eq_true, decide_eq_true_eq]
/-- of two words, told as h * 2^64 + l with a sign: whole just if the number fits -/
theorem whole_of (n : Int) (h l : Nat) (hl : l < 18446744073709551616) (hh : h < 18446744073709551616) (hn1 : -170141183460469231731687303715884105728 ≤ n) (hn2 : n < 170141183460469231731687303715884105728)
    (e : ∃ c : Int, (h : Int) * 18446744073709551616 + l = n + c * 340282366920938463463374607431768211456) :
    wholeB h l = fitsB n ∧ (fitsB n = true → sgn l = n) := by
  obtain ⟨c, e⟩ := e
  have hc : (0 ≤ n ∧ c = 0) ∨ (n < 0 ∧ c = 1) := by omega
  constructor
  · rw [Bool.eq_iff_iff, whole_iff, fits_iff]
    rcases hc with ⟨h0, rfl⟩ | ⟨h0, rfl⟩ <;> constructor <;> intro h1 <;> omega
  · intro hf
    rw [fits_iff] at hf
    unfold sgn
    rcases hc with ⟨h0, rfl⟩ | ⟨h0, rfl⟩ <;> split <;> omega
theorem add_whole (a b : Int) (ha : fitsB a = true) (hb : fitsB b = true) :
    wholeB ((hi a + hi b + (lo a + lo b) / 18446744073709551616) % 18446744073709551616) ((lo a + lo b) % 18446744073709551616) = fitsB (a + b) ∧
    (fitsB (a + b) = true → sgn ((lo a + lo b) % 18446744073709551616) = a + b) := by
  have h1 := hi_lo a ha
  have h2 := hi_lo b hb
  rw [fits_iff] at ha hb
  generalize lo a = la at *
  generalize lo b = lb at *
  refine whole_of _ _ _ (by omega) (by omega) (by omega) (by omega) ?_
  rcases h1 with ⟨h1, h3, h4⟩ | ⟨h1, h3, h4⟩ <;> rcases h2 with ⟨h2, h5, h6⟩ | ⟨h2, h5, h6⟩ <;> rw [h3, h5]
  · exact ⟨1, by omega⟩
  · by_cases h7 : la + lb < 18446744073709551616
    · exact ⟨1, by omega⟩
    · exact ⟨0, by omega⟩
  · by_cases h7 : la + lb < 18446744073709551616
    · exact ⟨1, by omega⟩
    · exact ⟨0, by omega⟩
  · exact ⟨0, by omega⟩
/-- what is taken over in a difference of words -/
def owe (x y : Nat) : Nat := if x < y then 1 else 0
theorem sub_whole (a b : Int) (ha : fitsB a = true) (hb : fitsB b = true) :
    wholeB ((hi a + 36893488147419103232 - hi b - owe (lo a) (lo b)) % 18446744073709551616) ((lo a + 18446744073709551616 - lo b) % 18446744073709551616) = fitsB (a - b) ∧
    (fitsB (a - b) = true → sgn ((lo a + 18446744073709551616 - lo b) % 18446744073709551616) = a - b) := by
  have h1 := hi_lo a ha
  have h2 := hi_lo b hb
  rw [fits_iff] at ha hb
  generalize lo a = la at *
  generalize lo b = lb at *
  have ho : (la < lb ∧ owe la lb = 1) ∨ (lb ≤ la ∧ owe la lb = 0) := by unfold owe; split <;> omega
  generalize owe la lb = o at *
  refine whole_of _ _ _ (by omega) (by omega) (by omega) (by omega) ?_
  rcases h1 with ⟨h1, h3, h4⟩ | ⟨h1, h3, h4⟩ <;> rcases h2 with ⟨h2, h5, h6⟩ | ⟨h2, h5, h6⟩ <;> rw [h3, h5] <;> rcases ho with ⟨h7, rfl⟩ | ⟨h7, rfl⟩
  all_goals first
    | exact ⟨0, by omega⟩
    | exact ⟨1, by omega⟩
/-- a magnitude and a sign -/
def signedOk (n : Nat) (below : Bool) : Bool := if below then decide (n ≤ 9223372036854775808) else decide (n ≤ 9223372036854775807)
def signedV (n : Nat) (below : Bool) : Int := if below then -(n : Int) else n
theorem signed_of (n : Int) (m : Nat) (below : Bool) (e : signedV m below = n) (hz : below = true → 0 < m) : signedOk m below = fitsB n := by
  subst e
  rw [Bool.eq_iff_iff, fits_iff]
  cases below with
  | true => have := hz rfl; simp only [signedOk, signedV, if_true, decide_eq_true_eq]; omega
  | false => simp only [signedOk, signedV, Bool.false_eq_true, if_false, decide_eq_true_eq]; omega
def neg (n : Int) : Bool := decide (n < 0)
theorem mul_signed (a b : Int) :
    signedV (a.natAbs * b.natAbs) ((neg a != neg b) && decide (0 < a.natAbs * b.natAbs)) = a * b := by
  have key : ∀ x y : Nat, ((x : Int) * (y : Int)) = ((x * y : Nat) : Int) := fun x y => by simp
  rcases Int.natAbs_eq a with ha | ha <;> rcases Int.natAbs_eq b with hb | hb
  all_goals
    generalize a.natAbs = x at *
    generalize b.natAbs = y at *
    subst ha hb
    simp only [Int.neg_mul, Int.mul_neg, Int.neg_neg, key, signedV, neg]
    have hx : x = 0 ∨ 0 < x := by omega
    have hy : y = 0 ∨ 0 < y := by omega
    rcases hx with rfl | hx
    · simp
    rcases hy with rfl | hy
    · simp
    have h0 : 0 < x * y := Nat.mul_pos hx hy
    have h1 : ¬ ((x : Int) < 0) := by omega
    have h2 : ¬ ((y : Int) < 0) := by omega
    have h3 : (-(x : Int) < 0) := by omega
    have h4 : (-(y : Int) < 0) := by omega
    simp [h0, h1, h2, h3, h4]
    try omega
theorem div_signed (a b : Int) :
    signedV (a.natAbs / b.natAbs) ((neg a != neg b) && decide (0 < a.natAbs / b.natAbs)) = a.tdiv b := by
  have key : ∀ x y : Nat, ((x : Int).tdiv (y : Int)) = ((x / y : Nat) : Int) := fun x y => rfl
  rcases Int.natAbs_eq a with ha | ha <;> rcases Int.natAbs_eq b with hb | hb
  all_goals
    generalize a.natAbs = x at *
    generalize b.natAbs = y at *
    subst ha hb
    simp only [Int.neg_tdiv, Int.tdiv_neg, Int.neg_neg, key, signedV, neg]
    have hx : x = 0 ∨ 0 < x := by omega
    have hy : y = 0 ∨ 0 < y := by omega
    rcases hx with rfl | hx
    · simp
    rcases hy with rfl | hy
    · simp
    have h1 : ¬ ((x : Int) < 0) := by omega
    have h2 : ¬ ((y : Int) < 0) := by omega
    have h3 : (-(x : Int) < 0) := by omega
    have h4 : (-(y : Int) < 0) := by omega
    generalize x / y = q at *
    have hq : q = 0 ∨ 0 < q := by omega
    rcases hq with rfl | hq
    · simp
    simp only [h1, h2, h3, h4, hq, decide_true, decide_false, bne_self_eq_false, Bool.false_and, Bool.and_true, Bool.true_bne, Bool.false_bne, Bool.not_false, Bool.not_true, if_true, Bool.false_eq_true, if_false]
    try rfl
theorem mod_signed (a b : Int) :
    signedV (a.natAbs % b.natAbs) (neg a && decide (0 < a.natAbs % b.natAbs)) = a.tmod b := by
  have key : ∀ x y : Nat, ((x : Int).tmod (y : Int)) = ((x % y : Nat) : Int) := fun x y => rfl
  rcases Int.natAbs_eq a with ha | ha <;> rcases Int.natAbs_eq b with hb | hb
  all_goals
    generalize a.natAbs = x at *
    generalize b.natAbs = y at *
    subst ha hb
    simp only [Int.neg_tmod, Int.tmod_neg, Int.neg_neg, key, signedV, neg]
    have hx : x = 0 ∨ 0 < x := by omega
    rcases hx with rfl | hx
    · simp
    have h1 : ¬ ((x : Int) < 0) := by omega
    have h3 : (-(x : Int) < 0) := by omega
    generalize x % y = q at *
    have hq : q = 0 ∨ 0 < q := by omega
    rcases hq with rfl | hq
    · simp
    simp only [h1, h3, hq, decide_true, decide_false, Bool.false_and, Bool.and_true, if_true, Bool.false_eq_true, if_false]
    try rfl
end Vl
namespace Vl
theorem product_of (a b p : Int) (hb : fitsB b = true) (hb0 : b ≠ 0) (hp : fitsB p = true) (e : ∃ k : Int, p = a * b + k * 18446744073709551616) :
    decide (p.tdiv b = a) = fitsB (a * b) ∧ (fitsB (a * b) = true → p = a * b) := by
  obtain ⟨k, e⟩ := e
  have h2 : fitsB (a * b) = true → p = a * b := by
    intro hf
    rw [fits_iff] at hf hp
    omega
  refine ⟨?_, h2⟩
  rw [Bool.eq_iff_iff, decide_eq_true_eq]
  constructor
  · intro h
    have h3 := Int.mul_tdiv_add_tmod p b
    rw [h, Int.mul_comm b a] at h3
    have h4 : (p.tmod b).natAbs < b.natAbs := by
      rw [Int.natAbs_tmod]
      exact Nat.mod_lt _ (by omega)
    rw [fits_iff] at hb hp ⊢
    generalize a * b = m at *
    omega
  · intro hf
    rw [h2 hf, Int.mul_tdiv_cancel a hb0]
end Vl
