/- Whole numbers as floats of 64 bits, in plain Lean: up to 2^53 they are exact, above they stay above. -/
import Ieee.Arith
import Derived.KernelRfl
namespace Fl
open Ieee
/-- the word of a whole number -/
def fw (n : Nat) : Nat := double.nearest false n 0
/-- m * 2^e is n -/
def Is (m : Nat) (e : Int) (n : Nat) : Prop := ∃ a b : Nat, m * 2 ^ a = n * 2 ^ b ∧ e = (a : Int) - b
theorem cut_double (neg : Bool) (m d : Nat) (hm : m ≠ 0) : Toward.even.cut neg (2 * m) (d + 1) = Toward.even.cut neg m d := by
  unfold Toward.cut
  have hl : (2 * m).log2 = m.log2 + 1 := Nat.log2_two_mul hm
  have h1 : min (d + 1) ((2 * m).log2 + 2) = min d (m.log2 + 2) + 1 := by rw [hl]; omega
  rw [h1]
  generalize min d (m.log2 + 2) = g
  have hg : 1 <<< (g + 1) = 2 * (1 <<< g) := by simp only [Nat.shiftLeft_eq, Nat.pow_succ]; omega
  have hpos : 0 < 1 <<< g := by rw [Nat.shiftLeft_eq]; have := Nat.two_pow_pos g; omega
  simp only [hg]
  generalize 1 <<< g = G at *
  have h2 : 2 * m / (2 * G) = m / G := Nat.mul_div_mul_left _ _ (by decide)
  have h3 : 2 * m % (2 * G) = 2 * (m % G) := Nat.mul_mod_mul_left 2 m G
  rw [h2, h3]
  have e1 : decide (2 * G < 2 * (2 * (m % G))) = decide (G < 2 * (m % G)) := by simp
  have e2 : (2 * G == 2 * (2 * (m % G))) = (G == 2 * (m % G)) := by
    rw [Bool.eq_iff_iff]; simp only [beq_iff_eq]; omega
  simp only [e1, e2]
theorem near_double (f : Format) (neg : Bool) (m : Nat) (p : Int) : f.nearest neg (2 * m) (p - 1) = f.nearest neg m p := by
  by_cases hm : m = 0
  · subst hm; simp [Format.nearest]
  · unfold Format.nearest
    rw [if_neg (by omega), if_neg hm]
    have hl : (2 * m).log2 = m.log2 + 1 := Nat.log2_two_mul hm
    have h1 : max (p - 1 + ((2 * m).log2 : Int) - (f.fractionBits : Int)) f.leastPlace = max (p + (m.log2 : Int) - (f.fractionBits : Int)) f.leastPlace := by rw [hl]; congr 1; omega
    simp only [h1]
    generalize max (p + (m.log2 : Int) - (f.fractionBits : Int)) f.leastPlace = last
    have key : Toward.even.cut neg ((2 * m) <<< (p - 1 - last).toNat) (last - (p - 1)).toNat = Toward.even.cut neg (m <<< (p - last).toNat) (last - p).toNat := by
      by_cases h : last < p
      · have e1 : (p - last).toNat = (p - 1 - last).toNat + 1 := by omega
        have e2 : (last - (p - 1)).toNat = 0 := by omega
        have e3 : (last - p).toNat = 0 := by omega
        rw [e1, e2, e3]
        have e4 : (2 * m) <<< (p - 1 - last).toNat = m <<< ((p - 1 - last).toNat + 1) := by
          simp only [Nat.shiftLeft_eq, Nat.pow_succ]
          rw [Nat.mul_comm 2 m, Nat.mul_assoc, Nat.mul_comm 2]
        rw [e4]
      · have e1 : (p - 1 - last).toNat = 0 := by omega
        have e2 : (p - last).toNat = 0 := by omega
        have e3 : (last - (p - 1)).toNat = (last - p).toNat + 1 := by omega
        rw [e1, e2, e3]
        simp only [Nat.shiftLeft_zero]
        exact cut_double neg m _ hm
    rw [key]
theorem near_shift (f : Format) (neg : Bool) (m : Nat) (p : Int) : ∀ k : Nat, f.nearest neg (m * 2 ^ k) (p - k) = f.nearest neg m p
  | 0 => by simp
  | k + 1 => by
    have := near_double f neg (m * 2 ^ k) (p - k)
    rw [near_shift f neg m p k] at this
    rw [← this, Nat.pow_succ]
    congr 1
    · rw [← Nat.mul_assoc, Nat.mul_comm]
    · omega
theorem near_is {m : Nat} {e : Int} {n : Nat} (h : Is m e n) : double.nearest false m e = fw n := by
  obtain ⟨a, b, h1, rfl⟩ := h
  have e1 := near_shift double false m ((a : Int) - b) a
  have e2 := near_shift double false n 0 b
  rw [← e1, h1, fw, ← e2]
  congr 1
  omega
theorem Is.mul {m e n m' e' n'} (h : Is m e n) (h' : Is m' e' n') : Is (m * m') (e + e') (n * n') := by
  obtain ⟨a, b, h1, rfl⟩ := h
  obtain ⟨a', b', h1', rfl⟩ := h'
  refine ⟨a + a', b + b', ?_, by omega⟩
  rw [Nat.pow_add, Nat.pow_add, Nat.mul_mul_mul_comm, h1, h1', Nat.mul_mul_mul_comm]
/-- scaled to one place -/
theorem Is.scale {m e n m' e' n'} (h : Is m e n) (h' : Is m' e' n') : ∃ K : Nat, 0 < K ∧ ∃ b : Nat, (m <<< (e - min e e').toNat) * 2 ^ b = n * K ∧ (m' <<< (e' - min e e').toNat) * 2 ^ b = n' * K ∧ ∃ c : Nat, K = 2 ^ c ∧ min e e' = (b : Int) - c := by
  obtain ⟨a, b, h1, rfl⟩ := h
  obtain ⟨a', b', h1', rfl⟩ := h'
  refine ⟨2 ^ (b + b'), Nat.two_pow_pos _, ?_⟩
  rcases Int.le_total ((a : Int) - b) ((a' : Int) - b') with hl | hl
  · rw [Int.min_eq_left hl]
    refine ⟨a + b', ?_, ?_, b + b', rfl, by omega⟩
    · rw [Int.sub_self, Int.toNat_zero, Nat.shiftLeft_zero, Nat.pow_add, ← Nat.mul_assoc, h1, Nat.pow_add, Nat.mul_assoc]
    · rw [Nat.shiftLeft_eq, Nat.mul_assoc, ← Nat.pow_add, show ((a' : Int) - b' - ((a : Int) - b)).toNat + (a + b') = a' + b by omega, Nat.pow_add, ← Nat.mul_assoc, h1', Nat.mul_assoc, ← Nat.pow_add, Nat.add_comm b' b]
  · rw [Int.min_eq_right hl]
    refine ⟨a' + b, ?_, ?_, b + b', rfl, by omega⟩
    · rw [Nat.shiftLeft_eq, Nat.mul_assoc, ← Nat.pow_add, show ((a : Int) - b - ((a' : Int) - b')).toNat + (a' + b) = a + b' by omega, Nat.pow_add, ← Nat.mul_assoc, h1, Nat.mul_assoc, ← Nat.pow_add]
    · rw [Int.sub_self, Int.toNat_zero, Nat.shiftLeft_zero, Nat.pow_add, ← Nat.mul_assoc, h1', Nat.mul_assoc, ← Nat.pow_add, Nat.add_comm b' b]
theorem Is.order {m e n m' e' n'} (h : Is m e n) (h' : Is m' e' n') : (Datum.number false m e).order (.number false m' e') = some (compare n n') := by
  obtain ⟨K, hK, b, h1, h2, _⟩ := h.scale h'
  simp only [Datum.order, signed, Bool.false_eq_true, if_false]
  generalize m <<< (e - min e e').toNat = x at *
  generalize m' <<< (e' - min e e').toNat = y at *
  have hb := Nat.two_pow_pos b
  generalize 2 ^ b = B at *
  have hlt : x < y ↔ n < n' := by
    rw [← Nat.mul_lt_mul_right hb, h1, h2, Nat.mul_lt_mul_right hK]
  have heq : x = y ↔ n = n' := by
    constructor
    · intro e; subst e; rw [h1] at h2; exact Nat.eq_of_mul_eq_mul_right hK h2
    · intro e; subst e; rw [← h1] at h2; exact (Nat.eq_of_mul_eq_mul_right hb h2).symm
  congr 1
  simp only [compare, compareOfLessAndEq]
  by_cases h3 : n < n'
  · rw [if_pos (by have := hlt.2 h3; omega), if_pos h3]
  · by_cases h4 : n = n'
    · have := heq.2 h4
      rw [if_neg (by omega), if_pos (by omega), if_neg h3, if_pos h4]
    · have h5 : ¬ x < y := fun h => h3 (hlt.1 h)
      have h6 : ¬ x = y := fun h => h4 (heq.1 h)
      rw [if_neg (by omega), if_neg (by omega), if_neg h3, if_neg h4]
theorem Is.sum {m e n m' e' n'} (h : Is m e n) (h' : Is m' e' n') : ∃ k, (Datum.number false m e).sum (.number false m' e') = some (.number false k (min e e')) ∧ Is k (min e e') (n + n') := by
  obtain ⟨K, hK, b, h1, h2, c, rfl, hc⟩ := h.scale h'
  simp only [Datum.sum, signed, Bool.false_eq_true, if_false, Bool.false_and]
  generalize m <<< (e - min e e').toNat = x at *
  generalize m' <<< (e' - min e e').toNat = y at *
  have h0 : decide ((x : Int) + y < 0) = false := by simp; omega
  refine ⟨x + y, ?_, b, c, by rw [Nat.add_mul, h1, h2, Nat.add_mul], hc⟩
  rw [h0, ite_self, show ((x : Int) + y).natAbs = x + y by omega]
theorem cut_zero (n : Nat) : Toward.even.cut false n 0 = n := by
  simp [Toward.cut, Nat.mod_one]
theorem cut_low (n d : Nat) (h : d ≤ n.log2 + 2) : n / 2 ^ d ≤ Toward.even.cut false n d ∧ Toward.even.cut false n d ≤ n / 2 ^ d + 1 := by
  unfold Toward.cut
  rw [Nat.min_eq_left h, Nat.one_shiftLeft]
  dsimp only
  generalize (decide (2 ^ d < 2 * (n % 2 ^ d)) || (2 ^ d == 2 * (n % 2 ^ d) && n / 2 ^ d % 2 == 1)) = t
  cases t <;> simp
theorem read_rung (r : Nat) (h1 : 4503599627370496 ≤ r) (h2 : r < 9218868437227405312) : double.read r = .number false (4503599627370496 + r % 4503599627370496) (-1074 + (r / 4503599627370496 - 1 : Nat)) := by
  have e1 : double.signWeight = 9223372036854775808 := by kernel_rfl
  have e2 : double.binade = 4503599627370496 := by kernel_rfl
  have e3 : double.infRung = 9218868437227405312 := by kernel_rfl
  have e4 : double.leastPlace = -1074 := by kernel_rfl
  unfold Format.read
  rw [e1, e2, e3, e4]
  have h3 : r % 9223372036854775808 = r := Nat.mod_eq_of_lt (by omega)
  have h4 : r / 9223372036854775808 = 0 := Nat.div_eq_of_lt (by omega)
  rw [h3, h4]
  simp only [Nat.zero_mod]
  rw [if_neg (by omega), if_pos h2]
  rfl
theorem is_zero (e : Int) : Is 0 e 0 := by
  refine ⟨e.toNat, (-e).toNat, ?_, by omega⟩
  rw [Nat.zero_mul, Nat.zero_mul]
theorem fw_zero : fw 0 = 0 := by simp [fw, Format.nearest, Format.word]
theorem read_zero : double.read 0 = .number false 0 (-1074) := by kernel_rfl
/-- what stands for a whole number: exact up to 2^53, above it at least that -/
theorem read_fw (n : Nat) (h : n < 2 ^ 200) : ∃ m e N, double.read (fw n) = .number false m e ∧ Is m e N ∧ (n ≤ 9007199254740992 → N = n) ∧ (9007199254740992 ≤ n → 9007199254740992 ≤ N) ∧ N ≤ 2 * n := by
  by_cases hn : n = 0
  · subst hn
    exact ⟨0, -1074, 0, by rw [fw_zero]; exact read_zero, is_zero _, fun _ => rfl, fun h => h, by omega⟩
  have hlo : 2 ^ n.log2 ≤ n := Nat.log2_self_le hn
  have hhi : n < 2 ^ (n.log2 + 1) := Nat.lt_log2_self
  have hL : n.log2 < 200 := by
    rcases Nat.lt_or_ge n.log2 200 with h' | h'
    · exact h'
    · have := Nat.pow_le_pow_right (show 0 < 2 by decide) h'
      omega
  have e1 : double.fractionBits = 52 := rfl
  have e2 : double.binade = 4503599627370496 := by kernel_rfl
  have e3 : double.infRung = 9218868437227405312 := by kernel_rfl
  have e4 : double.leastPlace = -1074 := by kernel_rfl
  have hfw : fw n = min ((n.log2 + 1022) * 4503599627370496 + Toward.even.cut false (n <<< (52 - n.log2)) (n.log2 - 52)) 9218868437227405312 := by
    unfold fw Format.nearest
    rw [if_neg hn, e1, e2, e3, e4]
    have h1 : max (0 + (n.log2 : Int) - (52 : Nat)) (-1074) = (n.log2 : Int) - 52 := by omega
    rw [h1]
    simp only [Format.word, Bool.false_eq_true, if_false]
    have h2 : ((n.log2 : Int) - 52 - -1074).toNat = n.log2 + 1022 := by omega
    have h3 : (0 - ((n.log2 : Int) - 52)).toNat = 52 - n.log2 := by omega
    have h4 : ((n.log2 : Int) - 52 - 0).toNat = n.log2 - 52 := by omega
    rw [h2, h3, h4]
  rcases Nat.lt_or_ge 52 n.log2 with hb | hb
  · -- above
    have h0 : 52 - n.log2 = 0 := by omega
    rw [h0, Nat.shiftLeft_zero] at hfw
    have hc := cut_low n (n.log2 - 52) (by omega)
    have hp : 2 ^ n.log2 = 2 ^ 52 * 2 ^ (n.log2 - 52) := by rw [← Nat.pow_add]; congr 1; omega
    have hp' : 2 ^ (n.log2 + 1) = 2 ^ 53 * 2 ^ (n.log2 - 52) := by rw [← Nat.pow_add]; congr 1; omega
    have q1 : 4503599627370496 ≤ n / 2 ^ (n.log2 - 52) := by
      rw [Nat.le_div_iff_mul_le (Nat.two_pow_pos _)]
      have : (4503599627370496 : Nat) = 2 ^ 52 := by decide
      rw [this, ← hp]; exact hlo
    have q2 : n / 2 ^ (n.log2 - 52) < 9007199254740992 := by
      rw [Nat.div_lt_iff_lt_mul (Nat.two_pow_pos _)]
      have : (9007199254740992 : Nat) = 2 ^ 53 := by decide
      rw [this, ← hp']; exact hhi
    have hbig : 9007199254740992 ≤ n := by
      have : 2 ^ 53 ≤ 2 ^ n.log2 := Nat.pow_le_pow_right (by decide) (by omega)
      have h53 : (9007199254740992 : Nat) = 2 ^ 53 := by decide
      omega
    by_cases hx : n = 9007199254740992
    · subst hx
      exact ⟨4503599627370496, 1, 9007199254740992, by kernel_rfl, ⟨1, 0, by decide, by decide⟩, fun _ => rfl, fun h => h, by omega⟩
    have hlow : n / 2 ^ (n.log2 - 52) * 2 ^ (n.log2 - 52) ≤ n := Nat.div_mul_le_self _ _
    generalize Toward.even.cut false n (n.log2 - 52) = kept at *
    generalize n / 2 ^ (n.log2 - 52) = low at *
    rw [Nat.min_eq_left (by omega)] at hfw
    have hr := read_rung (fw n) (by omega) (by omega)
    rw [hr]
    have hm : 4503599627370496 + fw n % 4503599627370496 ≥ 4503599627370496 := by omega
    obtain ⟨E, hE⟩ : ∃ E : Nat, (-1074 + ((fw n / 4503599627370496 - 1 : Nat) : Int)) = ((E + 1 : Nat) : Int) := ⟨fw n / 4503599627370496 - 1 - 1075, by omega⟩
    rw [hE]
    refine ⟨_, _, (4503599627370496 + fw n % 4503599627370496) * 2 ^ (E + 1), rfl, ⟨E + 1, 0, by simp, by simp⟩, fun h => by omega, fun _ => ?_, ?_⟩
    · have := Nat.two_pow_pos E
      rw [Nat.pow_succ, ← Nat.mul_assoc]
      have h5 : 4503599627370496 * 1 ≤ (4503599627370496 + fw n % 4503599627370496) * 2 ^ E := Nat.mul_le_mul hm this
      omega
    · by_cases hkk : kept = 9007199254740992
      · have x1 : fw n % 4503599627370496 = 0 := by omega
        have x2 : E + 1 = n.log2 - 52 + 1 := by omega
        rw [x1, x2, Nat.pow_succ, Nat.add_zero, ← Nat.mul_assoc]
        have : (4503599627370496 : Nat) = 2 ^ 52 := by decide
        rw [this, ← hp]
        omega
      · have x1 : 4503599627370496 + fw n % 4503599627370496 = kept := by omega
        have x2 : E + 1 = n.log2 - 52 := by omega
        rw [x1, x2]
        have h6 : kept * 2 ^ (n.log2 - 52) ≤ (2 * low) * 2 ^ (n.log2 - 52) := Nat.mul_le_mul_right _ (by omega)
        rw [Nat.mul_assoc] at h6
        omega
  · have h0 : n.log2 - 52 = 0 := by omega
    rw [h0, cut_zero] at hfw
    have hp : 2 ^ n.log2 * 2 ^ (52 - n.log2) = 2 ^ 52 := by rw [← Nat.pow_add]; congr 1; omega
    have hp' : 2 ^ (n.log2 + 1) * 2 ^ (52 - n.log2) = 2 ^ 53 := by rw [← Nat.pow_add]; congr 1; omega
    have k1 : 4503599627370496 ≤ n <<< (52 - n.log2) := by
      rw [Nat.shiftLeft_eq]
      have := Nat.mul_le_mul_right (2 ^ (52 - n.log2)) hlo
      rw [hp] at this
      exact this
    have k2 : n <<< (52 - n.log2) < 9007199254740992 := by
      rw [Nat.shiftLeft_eq]
      have := Nat.mul_lt_mul_of_pos_right hhi (Nat.two_pow_pos (52 - n.log2))
      rw [hp'] at this
      exact this
    generalize hk : n <<< (52 - n.log2) = kept at *
    rw [Nat.min_eq_left (by omega)] at hfw
    have hr := read_rung (fw n) (by omega) (by omega)
    rw [hr]
    have hm : 4503599627370496 + fw n % 4503599627370496 = kept := by omega
    have hE : (-1074 + ((fw n / 4503599627370496 - 1 : Nat) : Int)) = (n.log2 : Int) - 52 := by omega
    rw [hm, hE]
    refine ⟨_, _, n, rfl, ⟨n.log2, 52, ?_, by omega⟩, fun _ => rfl, fun h => h, by omega⟩
    rw [← hk, Nat.shiftLeft_eq, Nat.mul_assoc, ← Nat.pow_add]
    congr 2
    omega
/-- a word that stands for a whole number -/
def For (x n : Nat) : Prop := ∃ m e, double.read x = .number false m e ∧ Is m e n
theorem For.fw {n : Nat} (h : n ≤ 9007199254740992) : For (fw n) n := by
  obtain ⟨m, e, N, h1, h2, h3, _⟩ := read_fw n (Nat.lt_of_le_of_lt h (by decide))
  rw [h3 h] at h2
  exact ⟨m, e, h1, h2⟩
theorem For.some {n : Nat} (h : n < 2 ^ 200) : ∃ N, For (Fl.fw n) N ∧ (n ≤ 9007199254740992 → N = n) ∧ (9007199254740992 ≤ n → 9007199254740992 ≤ N) ∧ N ≤ 2 * n := by
  obtain ⟨m, e, N, h1, h2, h3, h4, h5⟩ := read_fw n h
  exact ⟨N, ⟨m, e, h1, h2⟩, h3, h4, h5⟩
theorem For.mul {x y n k : Nat} (h : For x n) (h' : For y k) : double.mul x y = Option.some (Fl.fw (n * k)) := by
  obtain ⟨m, e, r, i⟩ := h
  obtain ⟨m', e', r', i'⟩ := h'
  unfold Format.mul
  rw [r, r']
  show Option.some (double.nearest (false ^^ false) (m * m') (e + e')) = _
  rw [Bool.xor_false, near_is (i.mul i')]
theorem For.add {x y n k : Nat} (h : For x n) (h' : For y k) : double.add x y = Option.some (Fl.fw (n + k)) := by
  obtain ⟨m, e, r, i⟩ := h
  obtain ⟨m', e', r', i'⟩ := h'
  unfold Format.add
  rw [r, r']
  obtain ⟨q, h1, h2⟩ := i.sum i'
  rw [h1]
  show Option.some (double.nearest false q (min e e')) = _
  rw [near_is h2]
theorem For.order {x y n k : Nat} (h : For x n) (h' : For y k) : double.order x y = Option.some (compare n k) := by
  obtain ⟨m, e, r, i⟩ := h
  obtain ⟨m', e', r', i'⟩ := h'
  unfold Format.order
  rw [r, r']
  exact i.order i'
theorem For.neg {x n : Nat} (h : For x n) : (double.read x).neg = false := by
  obtain ⟨m, e, r, i⟩ := h
  rw [r]
  rfl
theorem cmp_lt {a b : Nat} (h : a < b) : compare a b = .lt := Nat.compare_eq_lt.2 h
theorem cmp_gt {a b : Nat} (h : b < a) : compare a b = .gt := Nat.compare_eq_gt.2 h
theorem cmp_eq (a : Nat) : compare a a = .eq := Nat.compare_eq_eq.2 rfl
/-- 2^53 -/
def ex : Nat := 4845873199050653696
theorem ex_for : For ex 9007199254740992 := ⟨4503599627370496, 1, by kernel_rfl, ⟨1, 0, by decide, by decide⟩⟩
theorem ex_fw : fw 9007199254740992 = ex := by kernel_rfl
/-- the less of two, as the language's min tells it -/
def least (x y : Nat) : Nat := match double.order x y with
  | some .lt => x
  | some .gt => y
  | _ => if (double.read x).neg then x else y
theorem least_ex {x n : Nat} (h : For x n) : least x ex = if n < 9007199254740992 then x else ex := by
  unfold least
  rw [h.order ex_for]
  rcases Nat.lt_trichotomy n 9007199254740992 with h1 | h1 | h1
  · rw [cmp_lt h1, if_pos h1]
  · subst h1; rw [cmp_eq, h.neg]; simp
  · have h2 : ¬ n < 9007199254740992 := by omega
    rw [cmp_gt h1, if_neg h2]
theorem least_fw (n : Nat) (h : n < 2 ^ 200) : double.order (fw n) ex ≠ none ∧ least (fw n) ex = fw (min n 9007199254740992) := by
  obtain ⟨N, f1, f2, f3, _⟩ := For.some h
  refine ⟨by rw [f1.order ex_for]; simp, ?_⟩
  rw [least_ex f1]
  rcases Nat.lt_or_ge n 9007199254740993 with h1 | h1
  · rw [f2 (by omega)]
    by_cases h3 : n < 9007199254740992
    · rw [if_pos h3, Nat.min_eq_left (by omega)]
    · rw [if_neg h3, Nat.min_eq_right (by omega), ex_fw]
  · have := f3 (by omega)
    rw [if_neg (by omega), Nat.min_eq_right (by omega), ex_fw]
/-- a + n * b, at most 2^53: what floats give -/
theorem scaled_of (a n b : Nat) (ha : a ≤ 9007199254740992) (hn : n < 2 ^ 64) (hb : b ≤ 9007199254740992) :
    ∃ p, double.mul (fw n) (fw b) = some p ∧ double.order p ex ≠ none ∧ ∃ s, double.add (fw a) (least p ex) = some s ∧ double.order s ex ≠ none ∧ least s ex = fw (min (a + n * b) 9007199254740992) := by
  obtain ⟨N, f1, f2, f3, f4⟩ := For.some (Nat.lt_trans hn (by decide : 2 ^ 64 < 2 ^ 200))
  have g := For.fw hb
  have hNb : N * b < 2 ^ 200 := by
    have h1 : N < 2 ^ 65 := by omega
    have h2 : b < 2 ^ 60 := by omega
    exact Nat.lt_trans (Nat.mul_lt_mul_of_lt_of_lt h1 h2) (by decide)
  obtain ⟨l1, l2⟩ := least_fw (N * b) hNb
  have hm : min (N * b) 9007199254740992 = min (n * b) 9007199254740992 := by
    rcases Nat.eq_zero_or_pos b with hb0 | hb0
    · subst hb0; simp
    rcases Nat.lt_or_ge n 9007199254740993 with h1 | h1
    · rw [f2 (by omega)]
    · have h2 : 9007199254740992 * 1 ≤ N * b := Nat.mul_le_mul (f3 (by omega)) hb0
      have h3 : 9007199254740992 * 1 ≤ n * b := Nat.mul_le_mul (by omega) hb0
      omega
  refine ⟨_, f1.mul g, l1, ?_⟩
  rw [l2, hm]
  have hs := (For.fw ha).add (For.fw (Nat.min_le_right (n * b) 9007199254740992))
  obtain ⟨s1, s2⟩ := least_fw (a + min (n * b) 9007199254740992) (by have : (2 : Nat) ^ 200 > 2 ^ 60 := by decide
                                                                     omega)
  refine ⟨_, hs, s1, ?_⟩
  rw [s2]
  congr 1
  omega
theorem order_swap (x y : Nat) : (double.order x y == some .eq) = (double.order y x == some .eq) := by
  have key : ∀ a b : Datum, (a.order b == some .eq) = (b.order a == some .eq) := by
    intro a b
    have hc : ∀ p q : Nat, (some (compare p q) == some Ordering.eq) = (some (compare q p) == some Ordering.eq) := fun p q => by
      rw [Nat.compare_swap q p |>.symm]
      cases compare q p <;> rfl
    have hi : ∀ p q : Int, (some (compare p q) == some Ordering.eq) = (some (compare q p) == some Ordering.eq) := fun p q => by
      rw [Int.compare_swap q p |>.symm]
      cases compare q p <;> rfl
    cases a with
    | nan s f => cases b <;> rfl
    | infinity s =>
      cases b with
      | nan t g => rfl
      | infinity t => exact hc _ _
      | number t n j => cases s <;> rfl
    | number s m i =>
      cases b with
      | nan t g => rfl
      | infinity t => cases t <;> rfl
      | number t n j =>
        simp only [Datum.order]
        rw [Int.min_comm i j]
        exact hi _ _
  exact key _ _
/-- between 0 and 2^53 -/
def inB (x : Nat) : Bool := (double.order x 0 == some .gt || double.order x 0 == some .eq) && (double.order x ex == some .lt || double.order x ex == some .eq)
theorem read_ex : double.read ex = .number false 4503599627370496 1 := by kernel_rfl
theorem int_of (x : Nat) (h : inB x = true) : ∃ n : Nat, (double.read x).toInt .zero = some (n : Int) ∧ n ≤ 9007199254740992 := by
  unfold inB Format.order at h
  rw [read_zero, read_ex] at h
  cases hd : double.read x with
  | nan s f => rw [hd] at h; simp [Datum.order] at h
  | infinity s => rw [hd] at h; cases s <;> simp [Datum.order] at h
  | number s m e =>
    rw [hd] at h
    simp only [Datum.order, Bool.and_eq_true, Bool.or_eq_true, beq_iff_eq, Option.some.injEq, Int.compare_eq_gt, Int.compare_eq_eq, Int.compare_eq_lt] at h
    obtain ⟨h0, h1⟩ := h
    have z : ∀ k, signed false 0 k = 0 := fun k => by simp [signed]
    rw [z] at h0
    cases s with
    | true =>
      have hm : m = 0 := by
        simp only [signed, if_true, Nat.shiftLeft_eq] at h0
        have hp := Nat.two_pow_pos (e - min e (-1074)).toNat
        generalize 2 ^ (e - min e (-1074)).toNat = K at *
        have : m * K = 0 := by omega
        rcases Nat.mul_eq_zero.1 this with h | h <;> omega
      subst hm
      refine ⟨0, ?_, by omega⟩
      simp [Datum.toInt, Datum.integral, Toward.cut, signed]
    | false =>
      refine ⟨Toward.zero.cut false (m <<< e.toNat) (-e).toNat, ?_, ?_⟩
      · simp [Datum.toInt, Datum.integral, signed]
      · simp only [signed, Bool.false_eq_true, if_false] at h1
        have h1' : m <<< (e - min e 1).toNat ≤ 4503599627370496 <<< (1 - min e 1).toNat := by omega
        have hcut : ∀ n d, Toward.zero.cut false n d = n / 2 ^ (min d (n.log2 + 2)) := fun n d => by
          simp [Toward.cut, Nat.one_shiftLeft]
        rw [hcut]
        rcases Int.lt_or_le 0 e with he | he
        · have e1 : min e 1 = 1 := by omega
          rw [e1] at h1'
          have e2 : (1 - (1 : Int)).toNat = 0 := by decide
          rw [e2, Nat.shiftLeft_zero] at h1'
          have e3 : (-e).toNat = 0 := by omega
          rw [e3, Nat.zero_min, Nat.pow_zero, Nat.div_one]
          have e4 : e.toNat = (e - 1).toNat + 1 := by omega
          rw [e4, Nat.shiftLeft_succ]
          omega
        · have e1 : min e 1 = e := by omega
          rw [e1] at h1'
          have e2 : (e - e).toNat = 0 := by omega
          have e3 : e.toNat = 0 := by omega
          rw [e2, Nat.shiftLeft_zero] at h1'
          rw [e3, Nat.shiftLeft_zero]
          rcases Nat.le_total (-e).toNat (m.log2 + 2) with hq | hq
          · rw [Nat.min_eq_left hq]
            refine Nat.div_le_of_le_mul ?_
            have e5 : (1 - e).toNat = (-e).toNat + 1 := by omega
            rw [e5, Nat.shiftLeft_eq, Nat.pow_succ] at h1'
            generalize 2 ^ (-e).toNat = K at *
            rw [Nat.mul_comm K]
            omega
          · rw [Nat.min_eq_right hq, Nat.div_eq_of_lt]
            · omega
            · have : m < 2 ^ (m.log2 + 1) := Nat.lt_log2_self
              have h3 : 2 ^ (m.log2 + 1) ≤ 2 ^ (m.log2 + 2) := Nat.pow_le_pow_right (by decide) (by omega)
              omega
/-- a whole number's int is itself -/
theorem For.int {x n : Nat} (h : For x n) : (double.read x).toInt .zero = Option.some (n : Int) := by
  obtain ⟨m, e, r, a, b, h1, rfl⟩ := h
  rw [r]
  have hcut : ∀ n d, Toward.zero.cut false n d = n / 2 ^ (min d (n.log2 + 2)) := fun n d => by
    simp [Toward.cut, Nat.one_shiftLeft]
  simp only [Datum.toInt, Datum.integral, hcut, signed, Bool.false_eq_true, if_false, Nat.shiftLeft_zero]
  congr 2
  rcases Nat.le_total b a with hb | hb
  · have e1 : (-((a : Int) - b)).toNat = 0 := by omega
    have e2 : ((a : Int) - b).toNat = a - b := by omega
    rw [e1, e2, Nat.zero_min, Nat.pow_zero, Nat.div_one, Nat.shiftLeft_eq]
    refine Nat.eq_of_mul_eq_mul_right (Nat.two_pow_pos b) ?_
    rw [Nat.mul_assoc, ← Nat.pow_add, Nat.sub_add_cancel hb, h1]
  · have e1 : (-((a : Int) - b)).toNat = b - a := by omega
    have e2 : ((a : Int) - b).toNat = 0 := by omega
    rw [e1, e2, Nat.shiftLeft_zero]
    have hm : m = n * 2 ^ (b - a) := by
      refine Nat.eq_of_mul_eq_mul_right (Nat.two_pow_pos a) ?_
      rw [Nat.mul_assoc, ← Nat.pow_add, Nat.sub_add_cancel hb, h1]
    rcases Nat.le_total (b - a) (m.log2 + 2) with hq | hq
    · rw [Nat.min_eq_left hq, hm, Nat.mul_div_cancel _ (Nat.two_pow_pos _)]
    · rw [Nat.min_eq_right hq]
      have h3 : m < 2 ^ (m.log2 + 1) := Nat.lt_log2_self
      have h4 : 2 ^ (m.log2 + 1) ≤ 2 ^ (m.log2 + 2) := Nat.pow_le_pow_right (by decide) (by omega)
      have h5 : 2 ^ (m.log2 + 2) ≤ 2 ^ (b - a) := Nat.pow_le_pow_right (by decide) hq
      have hn : n = 0 := by
        rcases Nat.eq_zero_or_pos n with h | h
        · exact h
        · have := Nat.mul_le_mul_right (2 ^ (b - a)) h
          rw [← hm] at this
          omega
      rw [Nat.div_eq_of_lt (by omega), hn]
theorem For.inB {x n : Nat} (h : For x n) : Fl.inB x = decide (n ≤ 9007199254740992) := by
  unfold Fl.inB
  have z : For 0 0 := ⟨0, -1074, read_zero, is_zero _⟩
  rw [h.order z, h.order ex_for]
  have h0 : (Option.some (compare n 0) == Option.some Ordering.gt || Option.some (compare n 0) == Option.some Ordering.eq) = true := by
    rcases Nat.eq_zero_or_pos n with rfl | hp
    · rfl
    · rw [cmp_gt hp]; rfl
  rw [h0, Bool.true_and]
  rcases Nat.lt_trichotomy n 9007199254740992 with h1 | h1 | h1
  · rw [cmp_lt h1]; simp; omega
  · subst h1; rw [cmp_eq]; simp
  · rw [cmp_gt h1]; simp; omega
end Fl
