/- lex.Words: a pass from the first label, every case. -/
import Derived.Test.YthmihhjpilpcpaaL5
import Derived.Test.YthmihhjpilpcpaaL6
import Derived.Test.YthmihhjpilpcpaaL7
import Derived.Test.YthmihhjpilpcpaaL8
import Derived.Test.YthmihhjpilpcpaaL9
namespace Go.Proofs.Ythmihhjpilpcpaa
open Go.RowKit
set_option linter.unusedVariables false
theorem quoteL_size : ∀ (r : List UInt8) (x : List UInt8 × Nat), Lx.quoteL r = some x → 1 ≤ x.2 ∧ x.2 ≤ r.length
  | [], x, h => by simp [Lx.quoteL] at h
  | [c], x, h => by
    simp only [Lx.quoteL] at h
    split at h
    · injection h with h; subst h; simp
    · simp at h
  | c :: d :: r, x, h => by
    have i1 := quoteL_size r
    have i2 := quoteL_size (d :: r)
    unfold Lx.quoteL at h
    split at h
    · dsimp only at h
      split at h
      · obtain ⟨y, hy, rfl⟩ := Option.map_eq_some_iff.1 h
        have := i1 y hy; simp; omega
      · injection h with h; subst h; simp
    · obtain ⟨y, hy, rfl⟩ := Option.map_eq_some_iff.1 h
      have := i2 y hy; simp at this ⊢; omega
theorem runL_pos (p : UInt8 → Bool) (c : UInt8) (r : List UInt8) (h : p c = true) : 1 ≤ Lx.runL p (c :: r) := by simp [Lx.runL, h]
theorem signL_size (r : List UInt8) (t : Lx.Tk) (n : Nat) (h : Lx.signL r = some (t, n)) : 1 ≤ n ∧ n ≤ r.length := by
  match r, h with
  | [], h => simp [Lx.signL] at h
  | [c], h => simp [Lx.signL] at h; obtain ⟨_, _, rfl⟩ := h; simp
  | c :: d :: r, h =>
    simp only [Lx.signL] at h
    split at h
    · injection h with h; injection h with _ h; subst h; simp
    · split at h
      · injection h with h; injection h with _ h; subst h; simp
      · cases h
theorem prefix_remark (l : List UInt8) : Lib.hasPrefix l [45, 45] = Lx.remarkB l := by
  match l with
  | [] => rfl
  | [c] => simp [Lib.hasPrefix, Lx.remarkB, List.isPrefixOf]
  | c :: d :: r =>
    have e : ∀ x : UInt8, (x.toNat == 45) = ((45 : UInt8) == x) := by
      intro x
      rw [Bool.eq_iff_iff, beq_iff_eq, beq_iff_eq]
      constructor
      · intro h; have : x = UInt8.ofNat 45 := by rw [← h]; simp
        rw [this]; rfl
      · intro h; rw [← h]; rfl
    simp only [Lib.hasPrefix, List.isPrefixOf, Lx.remarkB, e, Bool.and_true]
theorem ibeq (a : Nat) (b : Nat) : ((a : Int) == (b : Int)) = (a == b) := by
  rw [Bool.eq_iff_iff]; simp; omega
section
variable (s : ByteArray) (w wr : World) (f : Nat → Value) (out : Value) (acc : List Lx.Tok) (k : Nat)
theorem ext_list (hk : k ≤ s.size) : (s.extract k s.size).data.toList = s.data.toList.drop k := Lib.extract_to_end s k
theorem ext_size (hk : k ≤ s.size) : (s.extract k s.size).size = s.size - k := by
  rw [Lib.size_eq, Lib.extract_to_end]; simp
theorem pass_white (hs : s.size ≤ 4096) (hk : k < s.size) (hI : WInv w wr out acc) (hC : Came s.data.toList k acc) (hw : Lx.whiteB s[k] = true) :
    Code.wp Try.prog (restB 1) (LQ s w 1 k) (LFrame s w.heap.size out k f) wr := by
  have hC' : Came s.data.toList (k + 1) acc := hC.skip (by simpa using hk) 1 (blank_white s k hk hw) (Nat.le_refl 1)
  cases h32 : (s[k].toNat == 32) with
  | true => exact pass_whitea s w wr hs f out acc k hk hI hC' (by rw [← h32]; exact ibeq _ 32)
  | false =>
  cases h9 : (s[k].toNat == 9) with
  | true => exact pass_whiteb s w wr hs f out acc k hk hI hC' (by rw [← h32]; exact ibeq _ 32) (by rw [← h9]; exact ibeq _ 9)
  | false =>
  cases h10 : (s[k].toNat == 10) with
  | true => exact pass_whitec s w wr hs f out acc k hk hI hC' (by rw [← h32]; exact ibeq _ 32) (by rw [← h9]; exact ibeq _ 9) (by rw [← h10]; exact ibeq _ 10)
  | false =>
  have h13 : (s[k].toNat == 13) = true := by simpa [Lx.whiteB, h32, h9, h10] using hw
  exact pass_whited s w wr hs f out acc k hk hI hC' (by rw [← h32]; exact ibeq _ 32) (by rw [← h9]; exact ibeq _ 9) (by rw [← h10]; exact ibeq _ 10) (by rw [← h13]; exact ibeq _ 13)
theorem pass_tok (hs : s.size ≤ 4096) (hk : k < s.size) (hI : WInv w wr out acc) (hC : Came s.data.toList k acc) (hw : Lx.whiteB s[k] = false) (hr : Lx.remarkB (s.data.toList.drop k) = false) :
    Code.wp Try.prog (restB 1) (LQ s w 1 k) (LFrame s w.heap.size out k f) wr := by
  have hl : k < s.data.toList.length := by simpa using hk
  have hdrop := drop_at s k hk
  have hlen : (s.data.toList.drop k).length = s.size - k := by simp
  have hacc : acc.length ≤ k := by obtain ⟨_, _, _, h⟩ := hC; exact h
  have hb0 : Lx.blank1 (s.data.toList.drop k) = 0 := by rw [hdrop] at hr ⊢; simp [Lx.blank1, hw, hr]
  simp only [Lx.whiteB, Bool.or_eq_false_iff] at hw
  obtain ⟨⟨⟨h32, h9⟩, h10⟩, h13⟩ := hw
  have t32 : ((s[k].toNat : Int) == 32) = false := by rw [← h32]; exact ibeq _ 32
  have t9 : ((s[k].toNat : Int) == 9) = false := by rw [← h9]; exact ibeq _ 9
  have t10 : ((s[k].toNat : Int) == 10) = false := by rw [← h10]; exact ibeq _ 10
  have t13 : ((s[k].toNat : Int) == 13) = false := by rw [← h13]; exact ibeq _ 13
  have hpre : ∀ W, Calls Try.prog 16 #[.string (s.extract k s.size), .string ⟨#[45, 45]⟩] W fun e w' => e = .returned (.bool false) ∧ W = w' := fun W =>
    (Try.strings_HasPrefix (s.extract k s.size) ⟨#[45, 45]⟩ W).mono fun e w' ⟨he, hw'⟩ => ⟨by
      rw [he, ext_list s k (by omega)]
      have := prefix_remark (s.data.toList.drop k)
      rw [hr] at this
      exact ret_bool this, hw'.symm⟩
  have hxs := ext_size s k (by omega)
  have hxl := ext_list s k (by omega)
  have hot : Lx.oneTok (s.data.toList.drop k) = if Lx.letterB s[k] then Lx.wordL (s.data.toList.drop k) else if Lx.digitB s[k] then Lx.numberL (s.data.toList.drop k) else if s[k].toNat = 39 then Lx.textL (s.data.toList.drop (k + 1)) else Lx.signL (s.data.toList.drop k) := by
    rw [hdrop]; rfl
  cases hlt : Lx.letterB s[k] with
  | true =>
    rw [hlt, if_pos rfl] at hot
    obtain ⟨n, hn⟩ : ∃ n, n = Lx.runL Lx.innerB (s.data.toList.drop k) := ⟨_, rfl⟩
    have hn1 : 1 ≤ n := by rw [hn, hdrop]; exact runL_pos _ _ _ (by simp [Lx.innerB, hlt])
    have hn2 : n ≤ s.size - k := by rw [hn, ← hlen]; exact runL_le _ _
    have hrun : ∀ W, Calls Try.prog 18 #[.string (s.extract k s.size), .func (.func 19) #[] #[]] W fun e w' => e = .returned (.int .i64 (n : Int)) ∧ W = w' := fun W => by
      rw [hn, ← hxl]
      exact run_inner (s.extract k s.size) W (by rw [hxs]; unfold maxLen; omega)
    have hsx : (s.extract k (k + n)).data.toList = (s.data.toList.drop k).take n := by rw [Lib.extract_data]; congr 1; omega
    have hsm : ∀ W, Calls Try.prog 20 #[.string (s.extract k (k + n))] W fun e w' => e = .returned (.string ⟨(((s.data.toList.drop k).take n).map Lx.low).toArray⟩) ∧ Below W.heap.size W w' := fun W => by
      rw [← hsx]
      exact small_any _ W (by rw [Lib.size_eq, hsx]; simp only [List.length_take]; unfold maxLen; omega)
    unfold Lx.wordL at hot
    rw [← hn] at hot
    by_cases h32' : n ≤ 32
    · simp only [if_pos h32'] at hot
      exact pass_word_ok s w wr hs f out acc k hk hI ⟨1, ((s.data.toList.drop k).take n).map Lx.low, 0⟩ hacc t32 t9 t10 t13 hpre hlt n (by omega) _ hn1 (by simp; omega)
        (hC.tok hl hb0 _ n hot hn1) rfl hrun hsm
    · simp only [if_neg h32'] at hot
      exact pass_word_bad s w wr hs f out acc k hk hI (hC.wrong hl hb0 hot) t32 t9 t10 t13 hpre hlt n (by omega) _ (by simp; omega) hrun hsm
  | false =>
    rw [hlt] at hot
    simp only [Bool.false_eq_true, if_false] at hot
    cases hdg : Lx.digitB s[k] with
    | true =>
      rw [hdg, if_pos rfl] at hot
      have hcall := fun W => number_any (s.extract k s.size) W (by rw [hxs]; unfold maxLen; omega)
      rw [hxl, ← hot] at hcall
      cases ho : Lx.oneTok (s.data.toList.drop k) with
      | none =>
        rw [ho] at hcall
        exact pass_number_bad s w wr hs f out acc k hk hI (hC.wrong hl hb0 ho) t32 t9 t10 t13 hpre hlt hdg hcall
      | some x =>
        obtain ⟨t, n⟩ := x
        rw [ho] at hcall
        have hnn : n = Lx.runL Lx.digitB (s.data.toList.drop k) := by
          rw [hot] at ho; simp only [Lx.numberL] at ho; split at ho
          · injection ho with ho; injection ho with _ ho; exact ho.symm
          · cases ho
        have hn1 : 1 ≤ n := by rw [hnn, hdrop]; exact runL_pos _ _ _ hdg
        have hn2 : n ≤ s.size - k := by rw [hnn, ← hlen]; exact runL_le _ _
        exact pass_number_ok s w wr hs f out acc k hk hI t n (by omega) hn1 (hC.tok hl hb0 t n ho hn1) hacc t32 t9 t10 t13 hpre hlt hdg _ _ _ rfl hcall
    | false =>
      rw [hdg] at hot
      simp only [Bool.false_eq_true, if_false] at hot
      by_cases h39 : s[k].toNat = 39
      · rw [if_pos h39] at hot
        have t39 : ((s[k].toNat : Int) == 39) = true := by simp [h39]
        have hcall := fun W => quoted_any (s.extract k s.size) W (by rw [hxs]; omega)
        rw [hxl, List.drop_drop, ← hot] at hcall
        cases ho : Lx.oneTok (s.data.toList.drop k) with
        | none =>
          rw [ho] at hcall
          exact pass_text_bad s w wr hs f out acc k hk hI (hC.wrong hl hb0 ho) t32 t9 t10 t13 hpre hlt hdg t39 hcall
        | some x =>
          obtain ⟨t, n⟩ := x
          rw [ho] at hcall
          have hnn : 1 ≤ n ∧ n ≤ s.size - k := by
            rw [hot] at ho
            obtain ⟨y, hy, he⟩ := Option.map_eq_some_iff.1 ho
            injection he with _ he
            have := quoteL_size _ y hy
            simp at this; omega
          exact pass_text_ok s w wr hs f out acc k hk hI t n (by omega) hnn.1 (hC.tok hl hb0 t n ho hnn.1) hacc t32 t9 t10 t13 hpre hlt hdg t39 _ _ _ rfl hcall
      · rw [if_neg h39] at hot
        have t39 : ((s[k].toNat : Int) == 39) = false := by rw [beq_eq_false_iff_ne]; omega
        have hcall := fun W => sign_any (s.extract k s.size) W (by rw [hxs]; omega)
        rw [hxl, ← hot] at hcall
        cases ho : Lx.oneTok (s.data.toList.drop k) with
        | none =>
          rw [ho] at hcall
          exact pass_sign_bad s w wr hs f out acc k hk hI (hC.wrong hl hb0 ho) t32 t9 t10 t13 hpre hlt hdg t39 hcall
        | some x =>
          obtain ⟨t, n⟩ := x
          rw [ho] at hcall
          have hnn := signL_size _ t n (by rw [← hot]; exact ho)
          rw [hlen] at hnn
          exact pass_sign_ok s w wr hs f out acc k hk hI t n (by omega) hnn.1 (hC.tok hl hb0 t n ho hnn.1) hacc t32 t9 t10 t13 hpre hlt hdg t39 _ _ _ rfl hcall
theorem pass_rem (hs : s.size ≤ 4096) (hk : k < s.size) (hI : WInv w wr out acc) (hC : Came s.data.toList k acc) (hw : Lx.whiteB s[k] = false) (hr : Lx.remarkB (s.data.toList.drop k) = true) :
    Code.wp Try.prog (restB 1) (LQ s w 1 k) (LFrame s w.heap.size out k f) wr := by
  have hdrop := drop_at s k hk
  have hb0 : Lx.blank1 (s.data.toList.drop k) = Lx.runL Lx.noLine (s.data.toList.drop k) := by rw [hdrop] at hr ⊢; simp [Lx.blank1, hw, hr]
  have hc45 : s[k].toNat = 45 := by
    rw [hdrop] at hr
    cases hd : s.data.toList.drop (k + 1) with
    | nil => rw [hd] at hr; cases hr
    | cons d r => rw [hd] at hr; simp [Lx.remarkB] at hr; exact hr.1
  have hpos : 1 ≤ Lx.runL Lx.noLine (s.data.toList.drop k) := by rw [hdrop]; exact runL_pos _ _ _ (by simp [Lx.noLine, hc45])
  simp only [Lx.whiteB, Bool.or_eq_false_iff] at hw
  obtain ⟨⟨⟨h32, h9⟩, h10⟩, h13⟩ := hw
  have hpre : ∀ W, Calls Try.prog 16 #[.string (s.extract k s.size), .string ⟨#[45, 45]⟩] W fun e w' => e = .returned (.bool true) ∧ W = w' := fun W =>
    (Try.strings_HasPrefix (s.extract k s.size) ⟨#[45, 45]⟩ W).mono fun e w' ⟨he, hw'⟩ => ⟨by
      rw [he, ext_list s k (by omega)]
      have := prefix_remark (s.data.toList.drop k)
      rw [hr] at this
      exact ret_bool this, hw'.symm⟩
  exact pass_remark s w wr hs f out acc k hk hI hC (by rw [← h32]; exact ibeq _ 32) (by rw [← h9]; exact ibeq _ 9) (by rw [← h10]; exact ibeq _ 10) (by rw [← h13]; exact ibeq _ 13) hpre hb0 hpos
theorem pass1 (hs : s.size ≤ 4096) (hk : k ≤ s.size) (hI : WInv w wr out acc) (hC : Came s.data.toList k acc) :
    Code.wp Try.prog (restB 1) (LQ s w 1 k) (LFrame s w.heap.size out k f) wr := by
  by_cases h : k = s.size
  · subst h; exact pass_end s w wr hs f out acc hI hC
  · have hk' : k < s.size := by omega
    cases hw : Lx.whiteB s[k] with
    | true => exact pass_white s w wr f out acc k hs hk' hI hC hw
    | false =>
      cases hr : Lx.remarkB (s.data.toList.drop k) with
      | true => exact pass_rem s w wr f out acc k hs hk' hI hC hw hr
      | false => exact pass_tok s w wr f out acc k hs hk' hI hC hw hr
end
end Go.Proofs.Ythmihhjpilpcpaa
