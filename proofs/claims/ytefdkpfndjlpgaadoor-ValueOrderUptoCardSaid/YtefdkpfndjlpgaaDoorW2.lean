/- value: whole, signed. -/

import Derived.Test.YtefdkpfndjlpgaaDoorW1
namespace Go.Proofs.YtefdkpfndjlpgaaDoor
open Go.RowKit
set_option linter.unusedSimpArgs false
/-- the number of two words -/
def wholeR (h l : Nat) : V × Int := if Vl.wholeB h l then (numV (Vl.sgn l), 0) else (nul, 161)
set_option maxRecDepth 100000 in
theorem whole_any (h l : Nat) (w : World) (hh : h < 18446744073709551616) (hl : l < 18446744073709551616) : Calls Tryd.prog 46 #[.int .u64 h, .int .u64 l] w fun e w' => e = pairR (wholeR h l) ∧ Gr w w' := by
  have hW := Vl.whole_iff h l
  have hS : Hid (wrap64 (l : Int) = Vl.sgn l) := by
    refine hid ?_
    unfold Vl.sgn; unfold wrap64; split <;> omega
  obtain ⟨b1, t1⟩ : ∃ b, ((h : Int) == 0) = b := ⟨_, rfl⟩
  obtain ⟨b2, t2⟩ : ∃ b, decide ((l : Int) < 9223372036854775808) = b := ⟨_, rfl⟩
  obtain ⟨b3, t3⟩ : ∃ b, ((h : Int) == 18446744073709551615) = b := ⟨_, rfl⟩
  obtain ⟨b4, t4⟩ : ∃ b, decide (9223372036854775808 ≤ (l : Int)) = b := ⟨_, rfl⟩
  have hb : Vl.wholeB h l = ((b1 && b2) || (b3 && b4)) := by
    rw [← t1, ← t2, ← t3, ← t4, Bool.eq_iff_iff, hW]
    simp only [Bool.or_eq_true, Bool.and_eq_true, beq_iff_eq, decide_eq_true_eq]
    omega
  have hr : Hid (pairR (wholeR h l) = .returned (.tuple #[.agg #[.int .i64 (if ((b1 && b2) || (b3 && b4)) then 1 else 0), .int .i64 (if ((b1 && b2) || (b3 && b4)) then wrap64 (l : Int) else 0), .string ⟨#[]⟩, .bool false], .int .i64 (if ((b1 && b2) || (b3 && b4)) then 0 else 161)])) := by
    refine hid ?_
    unfold wholeR
    rw [hb, hS.out]
    cases ((b1 && b2) || (b3 && b4)) <;> rfl
  clear hW hh hl hb hS
  generalize pairR (wholeR h l) = R at *
  cases b1 <;> cases b2 <;> cases b3 <;> cases b4
  all_goals simp only [Bool.and_self, Bool.and_false, Bool.false_and, Bool.or_self, Bool.or_false, Bool.false_or, Bool.or_true, Bool.true_or, Bool.and_true, Bool.true_and, if_true, Bool.false_eq_true, if_false] at hr
  all_goals
    go_enter Tryd.func46, Tryd.ntmps46
    go_wp2_with (first | (go_at_call 40; refine (number_any _ _).mono ?_; rintro e w' ⟨rfl, hg⟩; have hc := hg.cells; have hf := hg.frees))
    all_goals first
      | (refine bodyPost_ret (by simp [results, Tryd.results46, go_sem, hc]; try rfl) rfl ⟨?_, hg.own.set4 (Nat.le_refl _) _ _ _ _⟩; rw [hr.out])
      | (go_returns; exact ⟨by rw [hr.out], (Gr.refl _).alloc _⟩)
/-- the number of a magnitude and a sign -/
def signedR (n : Nat) (b : Bool) : V × Int := if Vl.signedOk n b then (numV (Vl.signedV n b), 0) else (nul, 161)
set_option maxRecDepth 100000 in
theorem signed_above (n : Nat) (w : World) (hl : n < 18446744073709551616) : Calls Tryd.prog 56 #[.int .u64 n, .bool false] w fun e w' => e = pairR (signedR n false) ∧ Gr w w' := by
  obtain ⟨b1, t1⟩ : ∃ b, decide (9223372036854775807 < (n : Int)) = b := ⟨_, rfl⟩
  have hr : Hid (pairR (signedR n false) = .returned (.tuple #[.agg #[.int .i64 (if b1 then 0 else 1), .int .i64 (if b1 then 0 else n), .string ⟨#[]⟩, .bool false], .int .i64 (if b1 then 161 else 0)])) := by
    refine hid ?_
    have h1 : Vl.signedOk n false = !b1 := by
      rw [← t1]
      simp only [Vl.signedOk, Bool.false_eq_true, if_false]
      by_cases h : n ≤ 9223372036854775807 <;> simp [h] <;> omega
    unfold signedR
    rw [h1]
    cases b1 <;> rfl
  have hw : b1 = false → wrap64 (n : Int) = n := fun h => by subst h; simp at t1; unfold wrap64; omega
  generalize pairR (signedR n false) = R at *
  cases b1
  all_goals simp only [Bool.false_eq_true, if_false, if_true] at hr
  · have hx := hw rfl
    clear hw hl
    go_enter Tryd.func56, Tryd.ntmps56
    go_wp2_with (first | (go_at_call 40; refine (number_any _ _).mono ?_; rintro e w' ⟨rfl, hg⟩; have hc := hg.cells; have hf := hg.frees))
    refine bodyPost_ret (by simp [results, Tryd.results56, go_sem, hc]; try rfl) rfl ⟨?_, hg.own.set4 (Nat.le_refl _) _ _ _ _⟩; rw [hr.out]
  · clear hw hl
    go_enter Tryd.func56, Tryd.ntmps56
    go_wp2
    go_returns; exact ⟨by rw [hr.out], (Gr.refl _).alloc _⟩
set_option maxRecDepth 100000 in
theorem signed_below (n : Nat) (w : World) (h0 : 0 < n) (hl : n < 18446744073709551616) : Calls Tryd.prog 56 #[.int .u64 n, .bool true] w fun e w' => e = pairR (signedR n true) ∧ Gr w w' := by
  obtain ⟨b1, t1⟩ : ∃ b, decide (9223372036854775808 < (n : Int)) = b := ⟨_, rfl⟩
  have hr : Hid (pairR (signedR n true) = .returned (.tuple #[.agg #[.int .i64 (if b1 then 0 else 1), .int .i64 (if b1 then 0 else -n), .string ⟨#[]⟩, .bool false], .int .i64 (if b1 then 161 else 0)])) := by
    refine hid ?_
    have h1 : Vl.signedOk n true = !b1 := by
      rw [← t1]
      simp only [Vl.signedOk, if_true]
      by_cases h : n ≤ 9223372036854775808 <;> simp [h] <;> omega
    unfold signedR
    rw [h1]
    cases b1 <;> rfl
  have hw : b1 = false → wrap64 (IntKind.u64.wrap (-(n : Int))) = -n := fun h => by subst h; simp at t1; rw [uwrap]; unfold wrap64; omega
  generalize pairR (signedR n true) = R at *
  cases b1
  all_goals simp only [Bool.false_eq_true, if_false, if_true] at hr
  · have hx := hw rfl
    clear hw hl h0
    go_enter Tryd.func56, Tryd.ntmps56
    go_wp2_with (first | (go_at_call 40; refine (number_any _ _).mono ?_; rintro e w' ⟨rfl, hg⟩; have hc := hg.cells; have hf := hg.frees))
    refine bodyPost_ret (by simp [results, Tryd.results56, go_sem, hc]; try rfl) rfl ⟨?_, hg.own.set4 (Nat.le_refl _) _ _ _ _⟩; rw [hr.out]
  · clear hw hl h0
    go_enter Tryd.func56, Tryd.ntmps56
    go_wp2
    go_returns; exact ⟨by rw [hr.out], (Gr.refl _).alloc _⟩
end Go.Proofs.YtefdkpfndjlpgaaDoor
