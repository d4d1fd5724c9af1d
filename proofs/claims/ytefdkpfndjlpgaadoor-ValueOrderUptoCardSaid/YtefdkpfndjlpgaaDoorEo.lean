/- ValueOrder: values as bytes stand as the values, in plain Lean. -/
import Derived.Test.YtefdkpfndjlpgaaDoorPlain
import GoSem.Op.String
import Derived.Laws.Bits64
namespace Eo
open Go.Op
/-- k digits of a number, the highest first -/
def be : Nat → Nat → List UInt8
  | 0, _ => []
  | k + 1, n => UInt8.ofNat (n / 256 ^ k % 256) :: be k (n % 256 ^ k)
theorem be_len : ∀ k n, (be k n).length = k
  | 0, _ => rfl
  | k + 1, n => by simp [be, be_len k]
theorem u8_lt (a b : Nat) (ha : a < 256) (hb : b < 256) : (UInt8.ofNat a < UInt8.ofNat b) ↔ a < b := by
  rw [UInt8.lt_iff_toNat_lt, UInt8.toNat_ofNat', UInt8.toNat_ofNat', Nat.mod_eq_of_lt ha, Nat.mod_eq_of_lt hb]
theorem u8_eq (a b : Nat) (ha : a < 256) (hb : b < 256) : (UInt8.ofNat a == UInt8.ofNat b) = decide (a = b) := by
  rw [Bool.eq_iff_iff, beq_iff_eq, decide_eq_true_eq]
  constructor
  · intro h
    have := congrArg UInt8.toNat h
    rwa [UInt8.toNat_ofNat', UInt8.toNat_ofNat', Nat.mod_eq_of_lt ha, Nat.mod_eq_of_lt hb] at this
  · intro h; rw [h]
theorem be_less : ∀ (k n m : Nat), n < 256 ^ k → m < 256 ^ k → bytesLess (be k n) (be k m) = decide (n < m)
  | 0, n, m, hn, hm => by
    have : n = 0 := by simpa using hn
    have : m = 0 := by simpa using hm
    simp [be, bytesLess, *]
  | k + 1, n, m, hn, hm => by
    have hp : 0 < 256 ^ k := Nat.pow_pos (by omega)
    have hqn : n / 256 ^ k < 256 := by rw [Nat.div_lt_iff_lt_mul hp, Nat.mul_comm, ← Nat.pow_succ]; exact hn
    have hqm : m / 256 ^ k < 256 := by rw [Nat.div_lt_iff_lt_mul hp, Nat.mul_comm, ← Nat.pow_succ]; exact hm
    have hrn := Nat.mod_lt n hp
    have hrm := Nat.mod_lt m hp
    have dn := Nat.div_add_mod n (256 ^ k)
    have dm := Nat.div_add_mod m (256 ^ k)
    simp only [be, bytesLess, Nat.mod_eq_of_lt hqn, Nat.mod_eq_of_lt hqm]
    rw [be_less k _ _ hrn hrm, u8_eq _ _ hqn hqm]
    have h1 : decide (UInt8.ofNat (n / 256 ^ k) < UInt8.ofNat (m / 256 ^ k)) = decide (n / 256 ^ k < m / 256 ^ k) := decide_eq_decide.2 (u8_lt _ _ hqn hqm)
    rw [h1]
    generalize n / 256 ^ k = a at *
    generalize m / 256 ^ k = b at *
    generalize n % 256 ^ k = c at *
    generalize m % 256 ^ k = d at *
    generalize 256 ^ k = Q at *
    rw [Bool.eq_iff_iff]
    simp only [Bool.or_eq_true, Bool.and_eq_true, decide_eq_true_eq]
    rcases Nat.lt_trichotomy a b with h | h | h
    · have : Q * (a + 1) ≤ Q * b := Nat.mul_le_mul_left _ h
      rw [Nat.mul_add] at this
      constructor
      · intro _; omega
      · intro _; exact .inl h
    · subst h
      constructor
      · rintro (h | ⟨_, h⟩) <;> omega
      · intro h; exact .inr ⟨rfl, by omega⟩
    · have : Q * (b + 1) ≤ Q * a := Nat.mul_le_mul_left _ h
      rw [Nat.mul_add] at this
      constructor
      · rintro (h' | ⟨h', _⟩) <;> omega
      · intro h'; omega
/-- a text's bytes, each 0 marked -/
def esc : List UInt8 → List UInt8
  | [] => []
  | c :: r => if c = 0 then 0 :: 255 :: esc r else c :: esc r
theorem esc_snoc (l : List UInt8) (c : UInt8) : esc (l ++ [c]) = esc l ++ (if c = 0 then [0, 255] else [c]) := by
  induction l with
  | nil => simp only [List.nil_append, esc]
  | cons x r ih =>
    simp only [List.cons_append, esc]
    split <;> simp [ih]
theorem esc_len : ∀ l, (esc l).length ≤ 2 * l.length
  | [] => by simp [esc]
  | c :: r => by
    have := esc_len r
    unfold esc
    split <;> simp <;> omega
theorem esc_less : ∀ (s t : List UInt8), bytesLess (esc s ++ [0, 0]) (esc t ++ [0, 0]) = bytesLess s t
  | [], [] => by decide
  | [], c :: r => by
    simp only [esc, List.nil_append, bytesLess]
    split
    · rfl
    · rename_i h
      have : (0 : UInt8) < c := by
        rw [UInt8.lt_iff_toNat_lt]
        have h2 : c.toNat ≠ 0 := fun e => h (by apply UInt8.toNat_inj.1; simpa using e)
        show 0 < c.toNat
        omega
      simp [bytesLess, this]
  | c :: r, [] => by
    simp only [esc, List.nil_append, bytesLess]
    split
    · rename_i h
      show bytesLess (0 :: 255 :: (esc r ++ [0, 0])) [0, 0] = false
      simp [bytesLess]
    · rename_i h
      have h1 : ¬ c < (0 : UInt8) := by rw [UInt8.lt_iff_toNat_lt]; simp
      have h2 : (c == (0 : UInt8)) = false := by simpa using h
      simp [bytesLess, h1, h2]
  | c :: r, d :: q => by
    have ih := esc_less r q
    by_cases hc : c = 0
    · subst hc
      by_cases hd : d = 0
      · subst hd
        simp only [esc, if_true, List.cons_append, bytesLess]
        simpa using ih
      · have h1 : (0 : UInt8) < d := by
          rw [UInt8.lt_iff_toNat_lt]
          have h2 : d.toNat ≠ 0 := fun e => hd (by apply UInt8.toNat_inj.1; simpa using e)
          show 0 < d.toNat
          omega
        simp only [esc, if_true, if_neg hd, List.cons_append, bytesLess, h1, decide_true, Bool.true_or]
    · by_cases hd : d = 0
      · subst hd
        have h1 : ¬ c < (0 : UInt8) := by rw [UInt8.lt_iff_toNat_lt]; simp
        have h2 : (c == (0 : UInt8)) = false := by simpa using hc
        simp only [esc, if_true, if_neg hc, List.cons_append, bytesLess, h1, h2, decide_false, Bool.false_and, Bool.or_self]
      · simp only [esc, if_neg hc, if_neg hd, List.cons_append, bytesLess]
        rw [ih]
theorem xor_top (n : Nat) (h : n < 18446744073709551616) : n ^^^ 9223372036854775808 = (n + 9223372036854775808) % 18446744073709551616 := by
  have h1 := Nat.xor_mod_two_pow (a := n) (b := 9223372036854775808) (n := 63)
  have h2 := Nat.xor_div_two_pow (a := n) (b := 9223372036854775808) (n := 63)
  have e : (2 : Nat) ^ 63 = 9223372036854775808 := by decide
  rw [e] at h1 h2
  rw [Nat.mod_self, Nat.xor_zero] at h1
  rw [Nat.div_self (by decide)] at h2
  have h3 := Nat.div_add_mod (n ^^^ 9223372036854775808) 9223372036854775808
  rw [h1, h2] at h3
  have hq : n / 9223372036854775808 = 0 ∨ n / 9223372036854775808 = 1 := by omega
  rcases hq with hq | hq <;> rw [hq] at h3 <;> simp at h3 <;> omega
theorem xor_bits (x : Int) (h1 : -9223372036854775808 ≤ x) (h2 : x ≤ 9223372036854775807) : Go.bits .xor .u64 (x % 18446744073709551616) 9223372036854775808 = x + 9223372036854775808 := by
  obtain ⟨n, hn⟩ : ∃ n : Nat, x % 18446744073709551616 = n := ⟨(x % 18446744073709551616).toNat, by omega⟩
  rw [hn]
  have := Go.bits_xor_u64_nat n 9223372036854775808 (by omega) (by omega)
  rw [show ((9223372036854775808 : Nat) : Int) = 9223372036854775808 from rfl] at this
  rw [this, xor_top n (by omega)]
  omega
/-- an int's bytes -/
def encI (x : Int) : List UInt8 := 1 :: be 8 (x + 9223372036854775808).toNat
theorem encI_less (x y : Int) (hx : Vl.fitsB x = true) (hy : Vl.fitsB y = true) : bytesLess (encI x) (encI y) = decide (x < y) := by
  rw [Vl.fits_iff] at hx hy
  have h1 : (1 : UInt8) == 1 := rfl
  simp only [encI, bytesLess]
  rw [be_less 8 _ _ (by omega) (by omega)]
  have : decide ((x + 9223372036854775808).toNat < (y + 9223372036854775808).toNat) = decide (x < y) := decide_eq_decide.2 (by omega)
  rw [this]
  simp
def encT (s : List UInt8) : List UInt8 := 2 :: (esc s ++ [0, 0])
theorem encT_less (s t : List UInt8) : bytesLess (encT s) (encT t) = bytesLess s t := by
  simp only [encT, bytesLess, esc_less]
  simp
def encB (b : Bool) : List UInt8 := [3, if b then 1 else 0]
theorem encB_less (a b : Bool) : bytesLess (encB a) (encB b) = (!a && b) := by cases a <;> cases b <;> decide
end Eo
