/- lex: letters, digits, runs, small letters. -/
import Derived.Test.YthmihhjpilpcpaaKit
namespace Go.Proofs.Ythmihhjpilpcpaa
open Go.RowKit
theorem letter_any (c : UInt8) (w : World) :
    Calls Try.prog 17 #[.int .u8 (c.toNat : Int)] w fun e w' => e = .returned (.bool (Lx.letterB c)) ∧ w = w' := by
  go_enter Try.func17, Try.ntmps17
  go_wp2
  all_goals
    go_ret
    refine ⟨ret_bool ?_, rfl⟩
    rw [Bool.eq_iff_iff]
    simp [Lx.letterB]
    omega
theorem digit_any (c : UInt8) (w : World) :
    Calls Try.prog 21 #[.int .u8 (c.toNat : Int)] w fun e w' => e = .returned (.bool (Lx.digitB c)) ∧ w = w' := by
  go_enter Try.func21, Try.ntmps21
  go_wp2
  all_goals
    go_ret
    refine ⟨ret_bool ?_, rfl⟩
    rw [Bool.eq_iff_iff]
    simp [Lx.digitB]
    omega
theorem inner_any (c : UInt8) (w : World) :
    Calls Try.prog 19 #[.int .u8 (c.toNat : Int)] w fun e w' => e = .returned (.bool (Lx.innerB c)) ∧ w = w' := by
  go_enter Try.func19, Try.ntmps19
  go_wp2_with (first
    | (go_at_call 17; refine (letter_any c _).mono ?_; rintro e w' ⟨rfl, rfl⟩)
    | (go_at_call 21; refine (digit_any c _).mono ?_; rintro e w' ⟨rfl, rfl⟩))
  all_goals
    go_ret
    refine ⟨ret_bool ?_, rfl⟩
    rw [Bool.eq_iff_iff]
    simp_all [Lx.innerB]
theorem noLine_any (c : UInt8) (w : World) :
    Calls Try.prog 25 #[.int .u8 (c.toNat : Int)] w fun e w' => e = .returned (.bool (Lx.noLine c)) ∧ w = w' := by
  go_enter Try.func25, Try.ntmps25
  go_wp2
  all_goals
    go_ret
    refine ⟨ret_bool ?_, rfl⟩
    rw [Bool.eq_iff_iff]
    simp [Lx.noLine]
    omega
theorem runL_at (p : UInt8 → Bool) (s : ByteArray) (k : Nat) (h : k < s.size) :
    Lx.runL p (s.data.toList.drop k) = if p s[k] then Lx.runL p (s.data.toList.drop (k + 1)) + 1 else 0 := by
  have hl : k < s.data.toList.length := by simpa using h
  rw [List.drop_eq_getElem_cons hl]
  simp only [Lx.runL]
  rfl
set_option maxHeartbeats 400000 in
theorem run_digit (s : ByteArray) (w : World) (hs : s.size ≤ maxLen) :
    Calls Try.prog 18 #[.string s, .func (.func 21) #[] #[]] w fun e w' => e = .returned (.int .i64 (Lx.runL Lx.digitB s.data.toList)) ∧ w = w' := by
  unfold maxLen at hs
  go_enter Try.func18, Try.ntmps18
  go_wp2
  go_loop [5] (fun n => ∃ k : Nat, k ≤ s.size ∧ n = .int .i64 k ∧ Hid (Lx.runL Lx.digitB s.data.toList = k + Lx.runL Lx.digitB (s.data.toList.drop k))) (fun n => s.size - (intOf n).toNat)
  case atStart => exact ⟨0, Nat.zero_le _, rfl, by simp [Hid]⟩
  case round =>
    obtain ⟨k, hk, rfl, H⟩ := hrel
    by_cases hlt : k < s.size
    · have h1 := runL_at Lx.digitB s k hlt
      have H1 := hid h1; clear h1
      go_wp2_with (first
        | (go_at_call 21; refine (digit_any _ _).mono ?_; rintro e w' ⟨rfl, rfl⟩))
      · have hp : Lx.digitB s[k] = true := by assumption
        go_round
        case rel => exact ⟨k + 1, by omega, by go_num, by have := H.out; rw [H1.out, if_pos hp] at this; show _ = _; omega⟩
        case measure => simp [intOf]; omega
      · have hp : ¬ Lx.digitB s[k] = true := by first | assumption | (rw [Bool.not_eq_true]; assumption)
        go_ret
        refine ⟨ret_int ?_, rfl⟩
        have := H.out; rw [H1.out, if_neg hp] at this; omega
    · obtain rfl : k = s.size := by omega
      go_wp2
      go_ret
      refine ⟨ret_int ?_, rfl⟩
      have := H.out
      rw [List.drop_eq_nil_of_le (by simp)] at this
      simp only [Lx.runL] at this
      omega
set_option maxHeartbeats 400000 in
theorem run_inner (s : ByteArray) (w : World) (hs : s.size ≤ maxLen) :
    Calls Try.prog 18 #[.string s, .func (.func 19) #[] #[]] w fun e w' => e = .returned (.int .i64 (Lx.runL Lx.innerB s.data.toList)) ∧ w = w' := by
  unfold maxLen at hs
  go_enter Try.func18, Try.ntmps18
  go_wp2
  go_loop [5] (fun n => ∃ k : Nat, k ≤ s.size ∧ n = .int .i64 k ∧ Hid (Lx.runL Lx.innerB s.data.toList = k + Lx.runL Lx.innerB (s.data.toList.drop k))) (fun n => s.size - (intOf n).toNat)
  case atStart => exact ⟨0, Nat.zero_le _, rfl, by simp [Hid]⟩
  case round =>
    obtain ⟨k, hk, rfl, H⟩ := hrel
    by_cases hlt : k < s.size
    · have h1 := runL_at Lx.innerB s k hlt
      have H1 := hid h1; clear h1
      go_wp2_with (first
        | (go_at_call 19; refine (inner_any _ _).mono ?_; rintro e w' ⟨rfl, rfl⟩))
      · have hp : Lx.innerB s[k] = true := by assumption
        go_round
        case rel => exact ⟨k + 1, by omega, by go_num, by have := H.out; rw [H1.out, if_pos hp] at this; show _ = _; omega⟩
        case measure => simp [intOf]; omega
      · have hp : ¬ Lx.innerB s[k] = true := by first | assumption | (rw [Bool.not_eq_true]; assumption)
        go_ret
        refine ⟨ret_int ?_, rfl⟩
        have := H.out; rw [H1.out, if_neg hp] at this; omega
    · obtain rfl : k = s.size := by omega
      go_wp2
      go_ret
      refine ⟨ret_int ?_, rfl⟩
      have := H.out
      rw [List.drop_eq_nil_of_le (by simp)] at this
      simp only [Lx.runL] at this
      omega
set_option maxHeartbeats 400000 in
theorem run_noLine (s : ByteArray) (w : World) (hs : s.size ≤ maxLen) :
    Calls Try.prog 18 #[.string s, .func (.func 25) #[] #[]] w fun e w' => e = .returned (.int .i64 (Lx.runL Lx.noLine s.data.toList)) ∧ w = w' := by
  unfold maxLen at hs
  go_enter Try.func18, Try.ntmps18
  go_wp2
  go_loop [5] (fun n => ∃ k : Nat, k ≤ s.size ∧ n = .int .i64 k ∧ Hid (Lx.runL Lx.noLine s.data.toList = k + Lx.runL Lx.noLine (s.data.toList.drop k))) (fun n => s.size - (intOf n).toNat)
  case atStart => exact ⟨0, Nat.zero_le _, rfl, by simp [Hid]⟩
  case round =>
    obtain ⟨k, hk, rfl, H⟩ := hrel
    by_cases hlt : k < s.size
    · have h1 := runL_at Lx.noLine s k hlt
      have H1 := hid h1; clear h1
      go_wp2_with (first
        | (go_at_call 25; refine (noLine_any _ _).mono ?_; rintro e w' ⟨rfl, rfl⟩))
      · have hp : Lx.noLine s[k] = true := by assumption
        go_round
        case rel => exact ⟨k + 1, by omega, by go_num, by have := H.out; rw [H1.out, if_pos hp] at this; show _ = _; omega⟩
        case measure => simp [intOf]; omega
      · have hp : ¬ Lx.noLine s[k] = true := by first | assumption | (rw [Bool.not_eq_true]; assumption)
        go_ret
        refine ⟨ret_int ?_, rfl⟩
        have := H.out; rw [H1.out, if_neg hp] at this; omega
    · obtain rfl : k = s.size := by omega
      go_wp2
      go_ret
      refine ⟨ret_int ?_, rfl⟩
      have := H.out
      rw [List.drop_eq_nil_of_le (by simp)] at this
      simp only [Lx.runL] at this
      omega
/-- the first k in small letters -/
def lowK (k : Nat) (l : List UInt8) : List UInt8 := (l.map Lx.low).take k ++ l.drop k
theorem lowK_len (k : Nat) (l : List UInt8) : (lowK k l).length = l.length := by simp [lowK]; omega
theorem lowK_at (k : Nat) (l : List UInt8) (h : k < l.length) : (lowK k l)[k]? = some l[k] := by
  unfold lowK
  rw [List.getElem?_append_right (by simp; omega)]
  simp [Nat.min_eq_left (Nat.le_of_lt h), h]
theorem lowK_set (k : Nat) (l : List UInt8) (h : k < l.length) : (lowK k l).set k (Lx.low l[k]) = lowK (k + 1) l := by
  unfold lowK
  have hm : k < (l.map Lx.low).length := by simpa using h
  rw [List.set_append_right _ _ (by simp; omega), List.take_succ_eq_append_getElem hm, List.drop_eq_getElem_cons h]
  simp only [List.length_take, List.length_map, Nat.min_eq_left (Nat.le_of_lt h), Nat.sub_self, List.getElem_map, List.append_assoc]
  rw [← List.drop_eq_getElem_cons h]
  rw [List.drop_eq_getElem_cons h]
  rfl
theorem lowK_same (k : Nat) (l : List UInt8) (h : k < l.length) (hl : Lx.upperB l[k] = false) : lowK (k + 1) l = lowK k l := by
  unfold lowK
  have hm : k < (l.map Lx.low).length := by simpa using h
  rw [List.take_succ_eq_append_getElem hm, List.drop_eq_getElem_cons h]
  simp [Lx.low, hl]
set_option maxHeartbeats 400000 in
set_option maxRecDepth 100000 in
theorem small_any (s : ByteArray) (w : World) (hs : s.size ≤ maxLen) :
    Calls Try.prog 20 #[.string s] w fun e w' => e = .returned (.string ⟨(s.data.toList.map Lx.low).toArray⟩) ∧ Below w.heap.size w w' := by
  have hs : s.size ≤ 9223372036854775807 := hs
  have hb := fun W => u8map W s
  go_enter Try.func20, Try.ntmps20
  go_wp2
  generalize hcap : grownCap w s.size 0 5 = cap
  go_loopw [10] (fun n wr => ∃ k : Nat, k ≤ s.size ∧ n = .int .i64 k ∧ BRow wr w.heap.size (lowK k s.data.toList) ∧ Below w.heap.size w wr) (fun n _ => s.size - (intOf n).toNat)
  case atStart => exact ⟨0, Nat.zero_le _, rfl, (BRow.made w s _).drew, ((Below.refl _ _).alloc (Nat.le_refl _) _).drew⟩
  case round =>
    obtain ⟨k, hk, rfl, hrow, hbel⟩ := hrel
    clear hb hcap
    by_cases hlt : k < s.size
    · have hl : k < s.data.toList.length := by simpa using hlt
      have hl2 : k < (lowK k s.data.toList).length := by rw [lowK_len]; exact hl
      have hc := hrow.cell k _ (lowK_at k _ hl)
      have hf := hrow.free k hl2
      obtain ⟨c, hcc⟩ : ∃ c, c = s.data.toList[k] := ⟨_, rfl⟩
      rw [← hcc] at hc
      have Hcc := hid hcc; clear hcc
      have h255 : (c.toNat : Int) < 256 := by have := c.toNat_lt; omega
      go_wp2
      · have hu : Lx.upperB c = true := by simp [Lx.upperB]; omega
        have hlow : (((Lx.low c).toNat : Nat) : Int) = (c.toNat : Int) + 97 - 65 := by
          simp only [Lx.low, hu, if_true, UInt8.toNat_add]
          have : (32 : UInt8).toNat = 32 := rfl
          omega
        have hset := hrow.set k hl2 (Lx.low c)
        rw [Hcc.out, lowK_set k _ hl, ← Hcc.out, hlow] at hset
        go_roundw
        case rel => exact ⟨k + 1, by omega, by go_num, hset, hbel.setCell (Nat.le_refl _) _⟩
        case measure => simp [intOf]; omega
      all_goals
        have hu : Lx.upperB c = false := by rw [← Bool.not_eq_true]; simp [Lx.upperB]; omega
        have hsame := lowK_same k _ hl (by rw [← Hcc.out]; exact hu)
        rw [← hsame] at hrow
        go_roundw
        case rel => exact ⟨k + 1, by omega, by go_num, hrow, hbel⟩
        case measure => simp [intOf]; omega
    · obtain rfl : k = s.size := by omega
      have hbk := hrow.back cap
      rw [lowK_len] at hbk
      simp only [Array.length_toList, ByteArray.size_data] at hbk
      go_wp2
      go_ret
      refine ⟨?_, hbel⟩
      have : lowK s.size s.data.toList = s.data.toList.map Lx.low := by
        unfold lowK
        rw [List.take_of_length_le (by simp), List.drop_eq_nil_of_le (by simp), List.append_nil]
      exact congrArg (fun l : List UInt8 => Ending.returned (.string ⟨l.toArray⟩)) this
end Go.Proofs.Ythmihhjpilpcpaa
