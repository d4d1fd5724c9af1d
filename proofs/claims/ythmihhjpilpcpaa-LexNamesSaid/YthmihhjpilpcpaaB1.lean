/- plain: what tokens are, and how they are written. -/
import Derived.Test.YthmihhjpilpcpaaL2
namespace Go.Proofs.Ythmihhjpilpcpaa
namespace Lx
/-- a number's digits, the last one last; by fuel -/
def digsF : Nat → Nat → Bytes
  | 0, n => [UInt8.ofNat (48 + n % 10)]
  | f + 1, n => if n < 10 then [UInt8.ofNat (48 + n % 10)] else digsF f (n / 10) ++ [UInt8.ofNat (48 + n % 10)]
def digs (n : Nat) : Bytes := digsF 20 n
def dbl : Bytes → Bytes
  | [] => []
  | c :: r => if c.toNat = 39 then 39 :: 39 :: dbl r else c :: dbl r
def toldL (t : Tk) : Bytes := if t.kind = 2 then digs t.num else if t.kind = 3 then 39 :: (dbl t.text ++ [39]) else t.text
inductive TokOK : Tk → Prop where
  | word (c : UInt8) (r : Bytes) (h1 : letterB c = true) (h2 : ∀ d ∈ c :: r, innerB d = true ∧ low d = d) (h3 : r.length + 1 ≤ 32) : TokOK ⟨1, c :: r, 0⟩
  | number (n : Nat) (h : n < 9223372036854775808) : TokOK ⟨2, [], n⟩
  | text (x : Bytes) : TokOK ⟨3, x, 0⟩
  | two (c d : UInt8) (h : twoSign c d = true) : TokOK ⟨4, [c, d], 0⟩
  | one (c : UInt8) (h : oneSign c = true) : TokOK ⟨4, [c], 0⟩
end Lx
open Lx
theorem low_inner (c : UInt8) (h : innerB c = true) : innerB (low c) = true ∧ low (low c) = low c := by
  have key : ∀ c : UInt8, innerB c = true → innerB (low c) = true ∧ low (low c) = low c := by
    intro c
    have : ∀ n : Fin 256, innerB (UInt8.ofNat n.val) = true → innerB (low (UInt8.ofNat n.val)) = true ∧ low (low (UInt8.ofNat n.val)) = low (UInt8.ofNat n.val) := by decide +kernel
    have h := this ⟨c.toNat, c.toNat_lt⟩
    simpa using h
  exact key c h
theorem low_letter (c : UInt8) (h : letterB c = true) : letterB (low c) = true := by
  have : ∀ n : Fin 256, letterB (UInt8.ofNat n.val) = true → letterB (low (UInt8.ofNat n.val)) = true := by decide +kernel
  have h' := this ⟨c.toNat, c.toNat_lt⟩
  simp at h'
  exact h' h
theorem oneTok_ok (r : Bytes) (t : Tk) (n : Nat) (h : oneTok r = some (t, n)) : TokOK t := by
  match r, h with
  | [], h => cases h
  | c :: r, h =>
    simp only [oneTok] at h
    split at h
    · rename_i hl
      unfold wordL at h
      dsimp only at h
      split at h
      · rename_i h32
        injection h with h
        injection h with h _
        subst h
        have hin : innerB c = true := by simp [innerB, hl]
        have ht := runL_take innerB (c :: r)
        have hn : runL innerB (c :: r) = runL innerB r + 1 := by simp [runL, hin]
        rw [hn] at ht h32 ⊢
        rw [List.take_succ_cons] at ht ⊢
        rw [List.map_cons]
        refine .word _ _ (low_letter c hl) ?_ (by simp; omega)
        intro d hd
        rw [← List.map_cons, List.mem_map] at hd
        obtain ⟨x, hx, rfl⟩ := hd
        exact low_inner x (ht x hx)
      · cases h
    · split at h
      · unfold numberL at h
        dsimp only at h
        split at h
        · rename_i h3
          injection h with h
          injection h with h _
          subst h
          exact .number _ h3.2.2
        · cases h
      · split at h
        · obtain ⟨y, hy, he⟩ := Option.map_eq_some_iff.1 h
          injection he with he _
          subst he
          exact .text _
        · match r, h with
          | [], h =>
            simp only [signL] at h
            split at h
            · rename_i ho
              injection h with h
              injection h with h _
              subst h
              exact .one c ho
            · cases h
          | d :: r, h =>
            simp only [signL] at h
            split at h
            · rename_i ht
              injection h with h
              injection h with h _
              subst h
              exact .two c d ht
            · split at h
              · rename_i ho
                injection h with h
                injection h with h _
                subst h
                exact .one c ho
              · cases h
theorem runL_app (p : UInt8 → Bool) (a r : Bytes) (h : ∀ d ∈ a, p d = true) (hr : runL p r = 0) : runL p (a ++ r) = a.length := by
  induction a with
  | nil => simpa using hr
  | cons c a ih => simp [runL, h c (by simp), ih (fun d hd => h d (by simp [hd]))]
theorem digit_of (n : Nat) : digitB (UInt8.ofNat (48 + n % 10)) = true ∧ (UInt8.ofNat (48 + n % 10)).toNat = 48 + n % 10 := by
  have hm : n % 10 < 10 := Nat.mod_lt _ (by omega)
  have ht : (UInt8.ofNat (48 + n % 10)).toNat = 48 + n % 10 := by simp; omega
  refine ⟨?_, ht⟩
  unfold digitB
  rw [ht]
  simp; omega
theorem digsF_all : ∀ f n, ∀ d ∈ digsF f n, digitB d = true := by
  intro f
  induction f with
  | zero => intro n d hd; simp only [digsF, List.mem_singleton] at hd; subst hd; exact (digit_of n).1
  | succ f ih =>
    intro n d hd
    simp only [digsF] at hd
    split at hd
    · simp only [List.mem_singleton] at hd; subst hd; exact (digit_of n).1
    · rw [List.mem_append] at hd
      rcases hd with hd | hd
      · exact ih _ d hd
      · simp only [List.mem_singleton] at hd; subst hd; exact (digit_of n).1
theorem digsF_val : ∀ f n, n < 10 ^ (f + 1) → Lx.valOf 0 (digsF f n) = n := by
  intro f
  induction f with
  | zero =>
    intro n hn
    have h := (digit_of n).2
    show Lx.dig 0 _ = n
    unfold Lx.dig
    rw [h]
    simp at hn; omega
  | succ f ih =>
    intro n hn
    simp only [digsF]
    split
    · have h := (digit_of n).2
      show Lx.dig 0 _ = n
      unfold Lx.dig
      rw [h]; omega
    · rw [valOf_snoc, ih (n / 10) (by rw [Nat.pow_succ] at hn; omega), (digit_of n).2]
      omega
theorem digsF_len : ∀ f k n, 1 ≤ k → n < 10 ^ k → (digsF f n).length ≤ k := by
  intro f
  induction f with
  | zero => intro k n h1 _; simpa [digsF] using h1
  | succ f ih =>
    intro k n h1 hn
    simp only [digsF]
    split
    · simpa using h1
    · rename_i h10
      obtain ⟨m, rfl⟩ : ∃ m, k = m + 1 := ⟨k - 1, by omega⟩
      have hm : 1 ≤ m := by
        rcases Nat.eq_zero_or_pos m with h | h
        · subst h; simp at hn; omega
        · exact h
      have := ih m (n / 10) hm (by rw [Nat.pow_succ] at hn; omega)
      simp; omega
theorem digsF_cons : ∀ f n, ∃ c r, digsF f n = c :: r := by
  intro f
  induction f with
  | zero => intro n; exact ⟨_, _, rfl⟩
  | succ f ih =>
    intro n
    simp only [digsF]
    split
    · exact ⟨_, _, rfl⟩
    · obtain ⟨c, r, h⟩ := ih (n / 10)
      exact ⟨c, r ++ [_], by rw [h]; rfl⟩
theorem quoteL_dbl (x : Bytes) (w : UInt8) (rest : Bytes) (hw : w.toNat ≠ 39) : quoteL (dbl x ++ 39 :: w :: rest) = some (x, (dbl x).length + 1) := by
  induction x with
  | nil => simp [dbl, quoteL, hw]
  | cons c r ih =>
    unfold dbl
    by_cases hc : c.toNat = 39
    · have hc' : c = 39 := UInt8.toNat_inj.1 hc
      rw [if_pos hc]
      simp only [List.cons_append]
      rw [quoteL]
      simp only [show (39 : UInt8).toNat = 39 from rfl, if_true, ih, Option.map_some, hc', List.length_cons]
    · rw [if_neg hc]
      simp only [List.cons_append]
      have : quoteL (c :: (dbl r ++ 39 :: w :: rest)) = (quoteL (dbl r ++ 39 :: w :: rest)).map fun x => (c :: x.1, x.2 + 1) := by
        cases hd : dbl r ++ 39 :: w :: rest with
        | nil => simp at hd
        | cons a b => simp only [quoteL, if_neg hc]
      rw [this, ih]
      simp
end Go.Proofs.Ythmihhjpilpcpaa
