/- ValueSums: what the law reckons by itself, in plain Lean. -/
import Derived.Test.YtefdkpfndjlpgaaDoorPlain
import Derived.Laws.Bits64
import Derived.IntWalk
namespace Vl
open Go
/-- the sum of a list's values -/
def sumF (f : Int → Int) : List Int → Int
  | [] => 0
  | x :: r => f x + sumF f r
theorem sumF_app (f : Int → Int) (l m : List Int) : sumF f (l ++ m) = sumF f l + sumF f m := by
  induction l with
  | nil => simp [sumF]
  | cons x r ih => simp only [List.cons_append, sumF, ih]; omega
theorem sumF_take (f : Int → Int) (l : List Int) (k : Nat) (h : k < l.length) : sumF f (l.take (k + 1)) = sumF f (l.take k) + f l[k] := by
  rw [List.take_succ_eq_append_getElem h, sumF_app]; simp [sumF]
theorem sumF_set (f : Int → Int) : ∀ (l : List Int) (k : Nat) (v : Int) (h : k < l.length), sumF f (l.set k v) = sumF f l - f l[k] + f v
  | [], _, _, h => by simp at h
  | x :: r, 0, v, _ => by simp only [List.set_cons_zero, sumF, List.getElem_cons_zero]; omega
  | x :: r, k + 1, v, h => by
    simp only [List.set_cons_succ, sumF, List.getElem_cons_succ]
    rw [sumF_set f r k v (by simpa using h)]; omega
theorem sumF_swap (f : Int → Int) (l : List Int) (i k : Nat) (hi : i < l.length) (hk : k < l.length) :
    sumF f ((l.set i l[k]).set k l[i]) = sumF f l := by
  rw [sumF_set f _ k _ (by simpa using hk), sumF_set f l i _ hi]
  by_cases h : i = k
  · subst h; simp
  · rw [List.getElem_set_ne (by omega)]; omega
def hiF (x : Int) : Int := x / 4294967296
def loF (x : Int) : Int := x % 4294967296
theorem parts : ∀ l : List Int, sumF (fun x => x) l = sumF hiF l * 4294967296 + sumF loF l
  | [] => rfl
  | x :: r => by
    have := parts r
    simp only [sumF, hiF, loF] at *
    omega
theorem hi_bd : ∀ l : List Int, (∀ x ∈ l, fitsB x = true) → -(2147483648 * (l.length : Int)) ≤ sumF hiF l ∧ sumF hiF l ≤ 2147483648 * (l.length : Int)
  | [], _ => by simp [sumF]
  | x :: r, h => by
    have h1 := (fits_iff x).1 (h x (by simp))
    have h2 := hi_bd r fun u hu => h u (by simp [hu])
    simp only [sumF, hiF, List.length_cons] at *
    omega
theorem lo_bd : ∀ l : List Int, 0 ≤ sumF loF l ∧ sumF loF l ≤ 4294967296 * (l.length : Int)
  | [] => by simp [sumF]
  | x :: r => by
    have h2 := lo_bd r
    simp only [sumF, loF, List.length_cons] at *
    omega
theorem and_low (x : Int) : bits .and .i64 x 4294967295 = x % 4294967296 := by
  have h : (BitVec.ofInt 64 x &&& BitVec.ofInt 64 4294967295).toNat = (BitVec.ofInt 64 x).toNat % 4294967296 := by
    rw [BitVec.toNat_and]
    exact Nat.and_two_pow_sub_one_eq_mod _ 32
  show IntKind.i64.wrap ((BitVec.ofInt 64 x &&& BitVec.ofInt 64 4294967295).toNat : Int) = _
  rw [h, BitVec.toNat_ofInt, IntKind.wrap_i64]
  omega
theorem or_parts (h l : Int) (h1 : -2147483648 ≤ h) (h2 : h < 2147483648) (l1 : 0 ≤ l) (l2 : l < 4294967296) : bits .or .i64 (h * 4294967296) l = h * 4294967296 + l := by
  have e : (BitVec.ofInt 64 (h * 4294967296) ||| BitVec.ofInt 64 l).toNat = (h % 4294967296).toNat * 4294967296 + l.toNat := by
    rw [BitVec.toNat_or, BitVec.toNat_ofInt, BitVec.toNat_ofInt]
    have e1 : (h * 4294967296 % ((2 ^ 64 : Nat) : Int)).toNat = (h % 4294967296).toNat <<< 32 := by rw [Nat.shiftLeft_eq]; omega
    have e2 : (l % ((2 ^ 64 : Nat) : Int)).toNat = l.toNat := by omega
    rw [e1, e2, ← Nat.shiftLeft_add_eq_or_of_lt (show l.toNat < 2 ^ 32 by omega), Nat.shiftLeft_eq]
  show IntKind.i64.wrap ((BitVec.ofInt 64 (h * 4294967296) ||| BitVec.ofInt 64 l).toNat : Int) = _
  rw [e, IntKind.wrap_i64]
  omega
end Vl
