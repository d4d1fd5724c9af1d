/- lex.sign -/
import Derived.Test.YthmihhjpilpcpaaW3
namespace Go.Proofs.Ythmihhjpilpcpaa
open Go.RowKit
set_option linter.unusedVariables false
theorem sg2 (c d : UInt8) (l : List UInt8) (h : Lib.hasPrefix l [c, d] = true) (ht : Lx.twoSign c d = true) : Lx.signL l = some (⟨4, [c, d], 0⟩, 2) := by
  match l, h with
  | [], h => simp [Lib.hasPrefix] at h
  | [a], h => simp [Lib.hasPrefix] at h
  | a :: b :: r, h =>
    simp [Lib.hasPrefix] at h
    obtain ⟨rfl, rfl⟩ := h
    simp [Lx.signL, ht]
theorem two_pre (a b : UInt8) (r : List UInt8) (h1 : Lib.hasPrefix (a :: b :: r) [60, 62] = false) (h2 : Lib.hasPrefix (a :: b :: r) [60, 61] = false) (h3 : Lib.hasPrefix (a :: b :: r) [62, 61] = false) (h4 : Lib.hasPrefix (a :: b :: r) [124, 124] = false) : Lx.twoSign a b = false := by
  have e : ∀ (x : UInt8) (n : Nat) (_ : n < 256), (x.toNat == n) = (UInt8.ofNat n == x) := by
    intro x n hn
    rw [Bool.eq_iff_iff, beq_iff_eq, beq_iff_eq]
    constructor
    · intro h; rw [← h]; simp
    · intro h; rw [← h]; simp; omega
  simp only [Lib.hasPrefix, List.isPrefixOf, Bool.and_true] at h1 h2 h3 h4
  unfold Lx.twoSign
  rw [e a 60 (by omega), e b 62 (by omega), e b 61 (by omega), e a 62 (by omega), e a 124 (by omega), e b 124 (by omega)]
  show ((((60 : UInt8) == a) && ((62 : UInt8) == b)) || (((60 : UInt8) == a) && ((61 : UInt8) == b)) || (((62 : UInt8) == a) && ((61 : UInt8) == b)) || (((124 : UInt8) == a) && ((124 : UInt8) == b))) = false
  rw [h1, h2, h3, h4]; rfl
theorem idx_neg (l : List UInt8) (c : UInt8) : Lib.indexByte l c < 0 ↔ ¬ c ∈ l := by
  induction l with
  | nil => simp [Lib.indexByte]
  | cons b r ih =>
    simp only [Lib.indexByte]
    have hge : -1 ≤ Lib.indexByte r c := by
      clear ih
      induction r with
      | nil => simp [Lib.indexByte]
      | cons b r ih => simp only [Lib.indexByte]; split <;> (try split) <;> simp_all <;> omega
    by_cases hb : (b == c) = true
    · simp at hb; subst hb; simp
    · rw [if_neg hb]
      have hne : c ≠ b := by intro h; subst h; simp at hb
      split
      · rename_i h; simp at h; simp [hne]; rw [← ih]; omega
      · rename_i h; simp at h; simp [hne]; rw [← ih]; omega
theorem one_idx (c : UInt8) : Lx.oneSign c = !decide (Lib.indexByte [40, 41, 44, 46, 42, 43, 45, 47, 37, 61, 60, 62, 59] c < 0) := by
  rw [Bool.eq_iff_iff]
  simp only [Bool.not_eq_true', decide_eq_false_iff_not, idx_neg, Classical.not_not]
  have : ∀ (n : Nat) (_ : n < 256), c.toNat = n ↔ c = UInt8.ofNat n := by
    intro n hn
    constructor
    · intro h; rw [← h]; simp
    · intro h; rw [h]; simp; omega
  simp only [Lx.oneSign, List.contains_eq_mem, decide_eq_true_eq, List.mem_cons, List.not_mem_nil, or_false]
  rw [this 40 (by omega), this 41 (by omega), this 44 (by omega), this 46 (by omega), this 42 (by omega), this 43 (by omega), this 45 (by omega), this 47 (by omega), this 37 (by omega), this 61 (by omega), this 60 (by omega), this 62 (by omega), this 59 (by omega)]
  exact Iff.rfl
theorem sg1 (c : UInt8) (r : List UInt8) (h1 : Lib.hasPrefix (c :: r) [60, 62] = false) (h2 : Lib.hasPrefix (c :: r) [60, 61] = false) (h3 : Lib.hasPrefix (c :: r) [62, 61] = false) (h4 : Lib.hasPrefix (c :: r) [124, 124] = false) :
    Lx.signL (c :: r) = if Lib.indexByte [40, 41, 44, 46, 42, 43, 45, 47, 37, 61, 60, 62, 59] c < 0 then none else some (⟨4, [c], 0⟩, 1) := by
  have ho := one_idx c
  match r, h1, h2, h3, h4 with
  | [], _, _, _, _ =>
    simp only [Lx.signL, ho]
    by_cases h : Lib.indexByte [40, 41, 44, 46, 42, 43, 45, 47, 37, 61, 60, 62, 59] c < 0 <;> simp only [h, decide_true, decide_false, Bool.not_true, Bool.not_false, if_true, if_false, Bool.false_eq_true]
  | b :: r, h1, h2, h3, h4 =>
    simp only [Lx.signL, ho, two_pre c b r h1 h2 h3 h4]
    by_cases h : Lib.indexByte [40, 41, 44, 46, 42, 43, 45, 47, 37, 61, 60, 62, 59] c < 0 <;> simp only [h, decide_true, decide_false, Bool.not_true, Bool.not_false, if_true, if_false, Bool.false_eq_true]
set_option maxHeartbeats 1000000 in
set_option maxRecDepth 100000 in
theorem sign_0 (s : ByteArray) (w : World) (h0 : 0 < s.size) (h1 : Lib.hasPrefix s.data.toList [60, 62] = true) :
    Calls Try.prog 24 #[.string s] w fun e w' => e = .returned (tokRes (some (⟨4, [60, 62], 0⟩, 2))) ∧ Below w.heap.size w w' := by
  have i0 : ∀ w, (Instr.index 55 (.agg #[.string ⟨#[60, 62]⟩, .string ⟨#[60, 61]⟩, .string ⟨#[62, 61]⟩, .string ⟨#[124, 124]⟩]) (.int .i64 0)).run Try.prog w = .ok (.string ⟨#[60, 62]⟩) w := fun _ => by kernel_rfl
  have i1 : ∀ w, (Instr.index 55 (.agg #[.string ⟨#[60, 62]⟩, .string ⟨#[60, 61]⟩, .string ⟨#[62, 61]⟩, .string ⟨#[124, 124]⟩]) (.int .i64 1)).run Try.prog w = .ok (.string ⟨#[60, 61]⟩) w := fun _ => by kernel_rfl
  have i2 : ∀ w, (Instr.index 55 (.agg #[.string ⟨#[60, 62]⟩, .string ⟨#[60, 61]⟩, .string ⟨#[62, 61]⟩, .string ⟨#[124, 124]⟩]) (.int .i64 2)).run Try.prog w = .ok (.string ⟨#[62, 61]⟩) w := fun _ => by kernel_rfl
  have i3 : ∀ w, (Instr.index 55 (.agg #[.string ⟨#[60, 62]⟩, .string ⟨#[60, 61]⟩, .string ⟨#[62, 61]⟩, .string ⟨#[124, 124]⟩]) (.int .i64 3)).run Try.prog w = .ok (.string ⟨#[124, 124]⟩) w := fun _ => by kernel_rfl
  go_enter Try.func24, Try.ntmps24
  go_wp2_with fail
  refine wp_loop_rounds 5 ?_
  rw [rounds_succ]
  go_wp2_with (first | (go_at_call 16; refine (Try.strings_HasPrefix _ _ _).mono ?_; rintro e w' ⟨rfl, rfl⟩) | (go_at_call 37; refine (Try.strings_IndexByte _ _ _).mono ?_; rintro e w' ⟨rfl, rfl⟩))
  refine bodyPost_ret (v := tokRes (some (⟨4, [60, 62], 0⟩, 2))) (by simp [results, Try.results24, go_sem, tokRes, tkCells]) rfl ⟨rfl, ?_⟩
  exact (Below.refl _ _).alloc (Nat.le_refl _) _
set_option maxHeartbeats 1000000 in
set_option maxRecDepth 100000 in
theorem sign_1 (s : ByteArray) (w : World) (h0 : 0 < s.size) (h1 : Lib.hasPrefix s.data.toList [60, 62] = false) (h2 : Lib.hasPrefix s.data.toList [60, 61] = true) :
    Calls Try.prog 24 #[.string s] w fun e w' => e = .returned (tokRes (some (⟨4, [60, 61], 0⟩, 2))) ∧ Below w.heap.size w w' := by
  have i0 : ∀ w, (Instr.index 55 (.agg #[.string ⟨#[60, 62]⟩, .string ⟨#[60, 61]⟩, .string ⟨#[62, 61]⟩, .string ⟨#[124, 124]⟩]) (.int .i64 0)).run Try.prog w = .ok (.string ⟨#[60, 62]⟩) w := fun _ => by kernel_rfl
  have i1 : ∀ w, (Instr.index 55 (.agg #[.string ⟨#[60, 62]⟩, .string ⟨#[60, 61]⟩, .string ⟨#[62, 61]⟩, .string ⟨#[124, 124]⟩]) (.int .i64 1)).run Try.prog w = .ok (.string ⟨#[60, 61]⟩) w := fun _ => by kernel_rfl
  have i2 : ∀ w, (Instr.index 55 (.agg #[.string ⟨#[60, 62]⟩, .string ⟨#[60, 61]⟩, .string ⟨#[62, 61]⟩, .string ⟨#[124, 124]⟩]) (.int .i64 2)).run Try.prog w = .ok (.string ⟨#[62, 61]⟩) w := fun _ => by kernel_rfl
  have i3 : ∀ w, (Instr.index 55 (.agg #[.string ⟨#[60, 62]⟩, .string ⟨#[60, 61]⟩, .string ⟨#[62, 61]⟩, .string ⟨#[124, 124]⟩]) (.int .i64 3)).run Try.prog w = .ok (.string ⟨#[124, 124]⟩) w := fun _ => by kernel_rfl
  go_enter Try.func24, Try.ntmps24
  go_wp2_with fail
  refine wp_loop_rounds 5 ?_
  rw [rounds_succ]
  go_wp2_with (first | (go_at_call 16; refine (Try.strings_HasPrefix _ _ _).mono ?_; rintro e w' ⟨rfl, rfl⟩) | (go_at_call 37; refine (Try.strings_IndexByte _ _ _).mono ?_; rintro e w' ⟨rfl, rfl⟩))
  rw [rounds_succ]
  go_wp2_with (first | (go_at_call 16; refine (Try.strings_HasPrefix _ _ _).mono ?_; rintro e w' ⟨rfl, rfl⟩) | (go_at_call 37; refine (Try.strings_IndexByte _ _ _).mono ?_; rintro e w' ⟨rfl, rfl⟩))
  refine bodyPost_ret (v := tokRes (some (⟨4, [60, 61], 0⟩, 2))) (by simp [results, Try.results24, go_sem, tokRes, tkCells]) rfl ⟨rfl, ?_⟩
  exact (Below.refl _ _).alloc (Nat.le_refl _) _
set_option maxHeartbeats 1000000 in
set_option maxRecDepth 100000 in
theorem sign_2 (s : ByteArray) (w : World) (h0 : 0 < s.size) (h1 : Lib.hasPrefix s.data.toList [60, 62] = false) (h2 : Lib.hasPrefix s.data.toList [60, 61] = false) (h3 : Lib.hasPrefix s.data.toList [62, 61] = true) :
    Calls Try.prog 24 #[.string s] w fun e w' => e = .returned (tokRes (some (⟨4, [62, 61], 0⟩, 2))) ∧ Below w.heap.size w w' := by
  have i0 : ∀ w, (Instr.index 55 (.agg #[.string ⟨#[60, 62]⟩, .string ⟨#[60, 61]⟩, .string ⟨#[62, 61]⟩, .string ⟨#[124, 124]⟩]) (.int .i64 0)).run Try.prog w = .ok (.string ⟨#[60, 62]⟩) w := fun _ => by kernel_rfl
  have i1 : ∀ w, (Instr.index 55 (.agg #[.string ⟨#[60, 62]⟩, .string ⟨#[60, 61]⟩, .string ⟨#[62, 61]⟩, .string ⟨#[124, 124]⟩]) (.int .i64 1)).run Try.prog w = .ok (.string ⟨#[60, 61]⟩) w := fun _ => by kernel_rfl
  have i2 : ∀ w, (Instr.index 55 (.agg #[.string ⟨#[60, 62]⟩, .string ⟨#[60, 61]⟩, .string ⟨#[62, 61]⟩, .string ⟨#[124, 124]⟩]) (.int .i64 2)).run Try.prog w = .ok (.string ⟨#[62, 61]⟩) w := fun _ => by kernel_rfl
  have i3 : ∀ w, (Instr.index 55 (.agg #[.string ⟨#[60, 62]⟩, .string ⟨#[60, 61]⟩, .string ⟨#[62, 61]⟩, .string ⟨#[124, 124]⟩]) (.int .i64 3)).run Try.prog w = .ok (.string ⟨#[124, 124]⟩) w := fun _ => by kernel_rfl
  go_enter Try.func24, Try.ntmps24
  go_wp2_with fail
  refine wp_loop_rounds 5 ?_
  rw [rounds_succ]
  go_wp2_with (first | (go_at_call 16; refine (Try.strings_HasPrefix _ _ _).mono ?_; rintro e w' ⟨rfl, rfl⟩) | (go_at_call 37; refine (Try.strings_IndexByte _ _ _).mono ?_; rintro e w' ⟨rfl, rfl⟩))
  rw [rounds_succ]
  go_wp2_with (first | (go_at_call 16; refine (Try.strings_HasPrefix _ _ _).mono ?_; rintro e w' ⟨rfl, rfl⟩) | (go_at_call 37; refine (Try.strings_IndexByte _ _ _).mono ?_; rintro e w' ⟨rfl, rfl⟩))
  rw [rounds_succ]
  go_wp2_with (first | (go_at_call 16; refine (Try.strings_HasPrefix _ _ _).mono ?_; rintro e w' ⟨rfl, rfl⟩) | (go_at_call 37; refine (Try.strings_IndexByte _ _ _).mono ?_; rintro e w' ⟨rfl, rfl⟩))
  refine bodyPost_ret (v := tokRes (some (⟨4, [62, 61], 0⟩, 2))) (by simp [results, Try.results24, go_sem, tokRes, tkCells]) rfl ⟨rfl, ?_⟩
  exact (Below.refl _ _).alloc (Nat.le_refl _) _
set_option maxHeartbeats 1000000 in
set_option maxRecDepth 100000 in
theorem sign_3 (s : ByteArray) (w : World) (h0 : 0 < s.size) (h1 : Lib.hasPrefix s.data.toList [60, 62] = false) (h2 : Lib.hasPrefix s.data.toList [60, 61] = false) (h3 : Lib.hasPrefix s.data.toList [62, 61] = false) (h4 : Lib.hasPrefix s.data.toList [124, 124] = true) :
    Calls Try.prog 24 #[.string s] w fun e w' => e = .returned (tokRes (some (⟨4, [124, 124], 0⟩, 2))) ∧ Below w.heap.size w w' := by
  have i0 : ∀ w, (Instr.index 55 (.agg #[.string ⟨#[60, 62]⟩, .string ⟨#[60, 61]⟩, .string ⟨#[62, 61]⟩, .string ⟨#[124, 124]⟩]) (.int .i64 0)).run Try.prog w = .ok (.string ⟨#[60, 62]⟩) w := fun _ => by kernel_rfl
  have i1 : ∀ w, (Instr.index 55 (.agg #[.string ⟨#[60, 62]⟩, .string ⟨#[60, 61]⟩, .string ⟨#[62, 61]⟩, .string ⟨#[124, 124]⟩]) (.int .i64 1)).run Try.prog w = .ok (.string ⟨#[60, 61]⟩) w := fun _ => by kernel_rfl
  have i2 : ∀ w, (Instr.index 55 (.agg #[.string ⟨#[60, 62]⟩, .string ⟨#[60, 61]⟩, .string ⟨#[62, 61]⟩, .string ⟨#[124, 124]⟩]) (.int .i64 2)).run Try.prog w = .ok (.string ⟨#[62, 61]⟩) w := fun _ => by kernel_rfl
  have i3 : ∀ w, (Instr.index 55 (.agg #[.string ⟨#[60, 62]⟩, .string ⟨#[60, 61]⟩, .string ⟨#[62, 61]⟩, .string ⟨#[124, 124]⟩]) (.int .i64 3)).run Try.prog w = .ok (.string ⟨#[124, 124]⟩) w := fun _ => by kernel_rfl
  go_enter Try.func24, Try.ntmps24
  go_wp2_with fail
  refine wp_loop_rounds 5 ?_
  rw [rounds_succ]
  go_wp2_with (first | (go_at_call 16; refine (Try.strings_HasPrefix _ _ _).mono ?_; rintro e w' ⟨rfl, rfl⟩) | (go_at_call 37; refine (Try.strings_IndexByte _ _ _).mono ?_; rintro e w' ⟨rfl, rfl⟩))
  rw [rounds_succ]
  go_wp2_with (first | (go_at_call 16; refine (Try.strings_HasPrefix _ _ _).mono ?_; rintro e w' ⟨rfl, rfl⟩) | (go_at_call 37; refine (Try.strings_IndexByte _ _ _).mono ?_; rintro e w' ⟨rfl, rfl⟩))
  rw [rounds_succ]
  go_wp2_with (first | (go_at_call 16; refine (Try.strings_HasPrefix _ _ _).mono ?_; rintro e w' ⟨rfl, rfl⟩) | (go_at_call 37; refine (Try.strings_IndexByte _ _ _).mono ?_; rintro e w' ⟨rfl, rfl⟩))
  rw [rounds_succ]
  go_wp2_with (first | (go_at_call 16; refine (Try.strings_HasPrefix _ _ _).mono ?_; rintro e w' ⟨rfl, rfl⟩) | (go_at_call 37; refine (Try.strings_IndexByte _ _ _).mono ?_; rintro e w' ⟨rfl, rfl⟩))
  refine bodyPost_ret (v := tokRes (some (⟨4, [124, 124], 0⟩, 2))) (by simp [results, Try.results24, go_sem, tokRes, tkCells]) rfl ⟨rfl, ?_⟩
  exact (Below.refl _ _).alloc (Nat.le_refl _) _
set_option maxHeartbeats 1000000 in
set_option maxRecDepth 100000 in
theorem sign_no (s : ByteArray) (w : World) (h0 : 0 < s.size) (h1 : Lib.hasPrefix s.data.toList [60, 62] = false) (h2 : Lib.hasPrefix s.data.toList [60, 61] = false) (h3 : Lib.hasPrefix s.data.toList [62, 61] = false) (h4 : Lib.hasPrefix s.data.toList [124, 124] = false) (h5 : Lib.indexByte [40, 41, 44, 46, 42, 43, 45, 47, 37, 61, 60, 62, 59] s[0] < 0) :
    Calls Try.prog 24 #[.string s] w fun e w' => e = .returned (tokRes (none)) ∧ Below w.heap.size w w' := by
  have i0 : ∀ w, (Instr.index 55 (.agg #[.string ⟨#[60, 62]⟩, .string ⟨#[60, 61]⟩, .string ⟨#[62, 61]⟩, .string ⟨#[124, 124]⟩]) (.int .i64 0)).run Try.prog w = .ok (.string ⟨#[60, 62]⟩) w := fun _ => by kernel_rfl
  have i1 : ∀ w, (Instr.index 55 (.agg #[.string ⟨#[60, 62]⟩, .string ⟨#[60, 61]⟩, .string ⟨#[62, 61]⟩, .string ⟨#[124, 124]⟩]) (.int .i64 1)).run Try.prog w = .ok (.string ⟨#[60, 61]⟩) w := fun _ => by kernel_rfl
  have i2 : ∀ w, (Instr.index 55 (.agg #[.string ⟨#[60, 62]⟩, .string ⟨#[60, 61]⟩, .string ⟨#[62, 61]⟩, .string ⟨#[124, 124]⟩]) (.int .i64 2)).run Try.prog w = .ok (.string ⟨#[62, 61]⟩) w := fun _ => by kernel_rfl
  have i3 : ∀ w, (Instr.index 55 (.agg #[.string ⟨#[60, 62]⟩, .string ⟨#[60, 61]⟩, .string ⟨#[62, 61]⟩, .string ⟨#[124, 124]⟩]) (.int .i64 3)).run Try.prog w = .ok (.string ⟨#[124, 124]⟩) w := fun _ => by kernel_rfl
  have hb : (s[0].toNat : Int).toNat.toUInt8 = s[0] := by simp
  go_enter Try.func24, Try.ntmps24
  go_wp2_with fail
  refine wp_loop_rounds 5 ?_
  rw [rounds_succ]
  go_wp2_with (first | (go_at_call 16; refine (Try.strings_HasPrefix _ _ _).mono ?_; rintro e w' ⟨rfl, rfl⟩) | (go_at_call 37; refine (Try.strings_IndexByte _ _ _).mono ?_; rintro e w' ⟨rfl, rfl⟩))
  rw [rounds_succ]
  go_wp2_with (first | (go_at_call 16; refine (Try.strings_HasPrefix _ _ _).mono ?_; rintro e w' ⟨rfl, rfl⟩) | (go_at_call 37; refine (Try.strings_IndexByte _ _ _).mono ?_; rintro e w' ⟨rfl, rfl⟩))
  rw [rounds_succ]
  go_wp2_with (first | (go_at_call 16; refine (Try.strings_HasPrefix _ _ _).mono ?_; rintro e w' ⟨rfl, rfl⟩) | (go_at_call 37; refine (Try.strings_IndexByte _ _ _).mono ?_; rintro e w' ⟨rfl, rfl⟩))
  rw [rounds_succ]
  go_wp2_with (first | (go_at_call 16; refine (Try.strings_HasPrefix _ _ _).mono ?_; rintro e w' ⟨rfl, rfl⟩) | (go_at_call 37; refine (Try.strings_IndexByte _ _ _).mono ?_; rintro e w' ⟨rfl, rfl⟩))
  rw [rounds_succ]
  go_wp2_with (first | (go_at_call 16; refine (Try.strings_HasPrefix _ _ _).mono ?_; rintro e w' ⟨rfl, rfl⟩) | (go_at_call 37; refine (Try.strings_IndexByte _ _ _).mono ?_; rintro e w' ⟨rfl, rfl⟩))
  refine bodyPost_ret (v := tokRes none) (by simp [results, Try.results24, go_sem, tokRes, noCells]) rfl ⟨rfl, ?_⟩
  exact (Below.refl _ _).alloc (Nat.le_refl _) _
set_option maxHeartbeats 1000000 in
set_option maxRecDepth 100000 in
theorem sign_yes (s : ByteArray) (w : World) (h0 : 0 < s.size) (h1 : Lib.hasPrefix s.data.toList [60, 62] = false) (h2 : Lib.hasPrefix s.data.toList [60, 61] = false) (h3 : Lib.hasPrefix s.data.toList [62, 61] = false) (h4 : Lib.hasPrefix s.data.toList [124, 124] = false) (h5 : ¬ Lib.indexByte [40, 41, 44, 46, 42, 43, 45, 47, 37, 61, 60, 62, 59] s[0] < 0) :
    Calls Try.prog 24 #[.string s] w fun e w' => e = .returned (tokRes (some (⟨4, [s[0]], 0⟩, 1))) ∧ Below w.heap.size w w' := by
  have i0 : ∀ w, (Instr.index 55 (.agg #[.string ⟨#[60, 62]⟩, .string ⟨#[60, 61]⟩, .string ⟨#[62, 61]⟩, .string ⟨#[124, 124]⟩]) (.int .i64 0)).run Try.prog w = .ok (.string ⟨#[60, 62]⟩) w := fun _ => by kernel_rfl
  have i1 : ∀ w, (Instr.index 55 (.agg #[.string ⟨#[60, 62]⟩, .string ⟨#[60, 61]⟩, .string ⟨#[62, 61]⟩, .string ⟨#[124, 124]⟩]) (.int .i64 1)).run Try.prog w = .ok (.string ⟨#[60, 61]⟩) w := fun _ => by kernel_rfl
  have i2 : ∀ w, (Instr.index 55 (.agg #[.string ⟨#[60, 62]⟩, .string ⟨#[60, 61]⟩, .string ⟨#[62, 61]⟩, .string ⟨#[124, 124]⟩]) (.int .i64 2)).run Try.prog w = .ok (.string ⟨#[62, 61]⟩) w := fun _ => by kernel_rfl
  have i3 : ∀ w, (Instr.index 55 (.agg #[.string ⟨#[60, 62]⟩, .string ⟨#[60, 61]⟩, .string ⟨#[62, 61]⟩, .string ⟨#[124, 124]⟩]) (.int .i64 3)).run Try.prog w = .ok (.string ⟨#[124, 124]⟩) w := fun _ => by kernel_rfl
  have hb : (s[0].toNat : Int).toNat.toUInt8 = s[0] := by simp
  go_enter Try.func24, Try.ntmps24
  go_wp2_with fail
  refine wp_loop_rounds 5 ?_
  rw [rounds_succ]
  go_wp2_with (first | (go_at_call 16; refine (Try.strings_HasPrefix _ _ _).mono ?_; rintro e w' ⟨rfl, rfl⟩) | (go_at_call 37; refine (Try.strings_IndexByte _ _ _).mono ?_; rintro e w' ⟨rfl, rfl⟩))
  rw [rounds_succ]
  go_wp2_with (first | (go_at_call 16; refine (Try.strings_HasPrefix _ _ _).mono ?_; rintro e w' ⟨rfl, rfl⟩) | (go_at_call 37; refine (Try.strings_IndexByte _ _ _).mono ?_; rintro e w' ⟨rfl, rfl⟩))
  rw [rounds_succ]
  go_wp2_with (first | (go_at_call 16; refine (Try.strings_HasPrefix _ _ _).mono ?_; rintro e w' ⟨rfl, rfl⟩) | (go_at_call 37; refine (Try.strings_IndexByte _ _ _).mono ?_; rintro e w' ⟨rfl, rfl⟩))
  rw [rounds_succ]
  go_wp2_with (first | (go_at_call 16; refine (Try.strings_HasPrefix _ _ _).mono ?_; rintro e w' ⟨rfl, rfl⟩) | (go_at_call 37; refine (Try.strings_IndexByte _ _ _).mono ?_; rintro e w' ⟨rfl, rfl⟩))
  rw [rounds_succ]
  go_wp2_with (first | (go_at_call 16; refine (Try.strings_HasPrefix _ _ _).mono ?_; rintro e w' ⟨rfl, rfl⟩) | (go_at_call 37; refine (Try.strings_IndexByte _ _ _).mono ?_; rintro e w' ⟨rfl, rfl⟩))
  have he : s.extract 0 1 = ⟨[s[0]].toArray⟩ := by
    apply ByteArray.ext
    apply Array.ext'
    rw [Lib.extract_data]
    have hl : 0 < s.data.toList.length := by simpa using h0
    rw [List.drop_zero, List.take_succ_eq_append_getElem hl]
    rfl
  refine bodyPost_ret (v := tokRes (some (⟨4, [s[0]], 0⟩, 1))) (by simp [results, Try.results24, go_sem, tokRes, tkCells, he]) rfl ⟨rfl, ?_⟩
  exact (Below.refl _ _).alloc (Nat.le_refl _) _
theorem sign_any (s : ByteArray) (w : World) (h0 : 0 < s.size) :
    Calls Try.prog 24 #[.string s] w fun e w' => e = .returned (tokRes (Lx.signL s.data.toList)) ∧ Below w.heap.size w w' := by
  cases h1 : Lib.hasPrefix s.data.toList [60, 62] with
  | true => rw [sg2 _ _ _ h1 (by decide)]; exact sign_0 s w h0 h1
  | false =>
  cases h2 : Lib.hasPrefix s.data.toList [60, 61] with
  | true => rw [sg2 _ _ _ h2 (by decide)]; exact sign_1 s w h0 h1 h2
  | false =>
  cases h3 : Lib.hasPrefix s.data.toList [62, 61] with
  | true => rw [sg2 _ _ _ h3 (by decide)]; exact sign_2 s w h0 h1 h2 h3
  | false =>
  cases h4 : Lib.hasPrefix s.data.toList [124, 124] with
  | true => rw [sg2 _ _ _ h4 (by decide)]; exact sign_3 s w h0 h1 h2 h3 h4
  | false =>
    have hl : 0 < s.data.toList.length := by simpa using h0
    have hs : s.data.toList = s[0] :: s.data.toList.drop 1 := (List.drop_eq_getElem_cons hl)
    have h5 : Lx.signL s.data.toList = if Lib.indexByte [40, 41, 44, 46, 42, 43, 45, 47, 37, 61, 60, 62, 59] s[0] < 0 then none else some (⟨4, [s[0]], 0⟩, 1) := by
      rw [hs] at h1 h2 h3 h4 ⊢
      exact sg1 _ _ h1 h2 h3 h4
    rw [h5]
    split
    · exact sign_no s w h0 h1 h2 h3 h4 ‹_›
    · exact sign_yes s w h0 h1 h2 h3 h4 ‹_›
end Go.Proofs.Ythmihhjpilpcpaa
