/- value.arith: quotients, rests; all of them. -/
import Derived.Test.YtefdkpfndjlpgaaDoorW5
import Derived.Test.YtefdkpfndjlpgaaDoorGrow
namespace Go.Proofs.YtefdkpfndjlpgaaDoor
open Go.RowKit
set_option linter.unusedSimpArgs false
set_option linter.unusedVariables false
attribute [local go_sem] Rg.leads_value Rg.leads_skip Rg.leads_enter
set_option maxHeartbeats 1000000 in
set_option maxRecDepth 100000 in
theorem arith_div (a b : Int) (w : World) (ha : Vl.fitsB a = true) (hb : Vl.fitsB b = true) (hb0 : (b == 0) = false) :
    Calls Tryd.prog 34 #[.int .i64 21, .int .i64 a, .int .i64 b] w fun e w' => e = pairR (fitR (a.tdiv b)) ∧ Gr w w' := by
  have h1 := Vl.div_signed a b
  have M1 := fun W => magnitude_any a W ha
  have M2 := fun W => magnitude_any b W hb
  have W1 := fun W => wide_any a W ha
  have W2 := fun W => wide_any b W hb
  have la : a.natAbs < 18446744073709551616 := by rw [Vl.fits_iff] at ha; omega
  have hy0 : ¬ b.natAbs = 0 := by simp at hb0; omega
  clear ha hb
  generalize a.tdiv b = n at *
  generalize Vl.hi a = xh at *
  generalize Vl.lo a = xl at *
  generalize Vl.hi b = yh at *
  generalize Vl.lo b = yl at *
  generalize a.natAbs = am at *
  generalize b.natAbs = bm at *
  generalize Vl.neg a = an at *
  generalize Vl.neg b = bn at *
  have lm : am / bm < 18446744073709551616 := Nat.lt_of_le_of_lt (Nat.div_le_self _ _) la
  have hz : IntKind.u64.wrap ((am : Int) / (bm : Int)) = ((am / bm : Nat) : Int) := by
    rw [uwrap]
    exact Int.emod_eq_of_lt (Int.natCast_nonneg (am / bm)) (show ((am / bm : Nat) : Int) < ((18446744073709551616 : Nat) : Int) from Int.ofNat_lt.2 lm)
  generalize am / bm = m at *
  obtain ⟨b1, t1⟩ : ∃ b, decide (0 < m) = b := ⟨_, rfl⟩
  rw [t1] at h1
  have hq : ((an != bn) && b1) = true → 0 < m := fun h => by
    rw [Bool.and_eq_true] at h; rw [h.2] at t1; exact of_decide_eq_true t1
  have S := fun W => signed_any m ((an != bn) && b1) W hq lm
  rw [signed_fit m _ n h1 hq] at S
  clear hq lm h1 la
  generalize fitR n = R at *
  obtain ⟨⟨rt, rn, rs, rb⟩, re⟩ := R
  unfold pairR at S ⊢
  cases an <;> cases bn <;> cases b1
  all_goals simp only [bne_self_eq_false, Bool.true_bne, Bool.false_bne, Bool.not_true, Bool.not_false, Bool.and_self, Bool.and_false, Bool.false_and, Bool.true_and] at S
  all_goals
    go_enter Tryd.func34, Tryd.ntmps34
    go_wp2_with fail
    refine (M1 _).mono ?_
    rintro e w' ⟨rfl, rfl⟩
    go_wp2_with fail
    refine (M2 _).mono ?_
    rintro e w' ⟨rfl, rfl⟩
    go_wp2_with fail
    refine (W1 _).mono ?_
    rintro e w' ⟨rfl, rfl⟩
    go_wp2_with fail
    refine (W2 _).mono ?_
    rintro e w' ⟨rfl, rfl⟩
    clear M1 M2 W1 W2
    go_wp2_with fail
    refine Rg.region_tail (fun w' => Gr (w.alloc (.cells #[.int .i64 0, .int .i64 0, .string ⟨#[]⟩, .bool false] 23)) w') 15 (Gr.drew (Gr.refl _)) (by kernel_rfl) (by kernel_rfl) ?_
    simp only [List.take_succ_cons, List.take_zero, List.drop_succ_cons, List.drop_zero]
    repeat (first
        | (refine Rg.wpG_skip (by rfl) ?_; simp only [Act.put, List.setIfInBounds_toArray, List.set_cons_zero, List.set_cons_succ])
        | (refine Rg.wpG_step ?_ (by rfl) (fun w hS => ?_) ?_
           rotate_left
           · have hc := hS.cells
             have hf := hS.frees
             go_simp
             first
             | (refine ⟨?_, hS⟩; with_reducible rfl)
             | with_reducible rfl
             | (refine (S _).mono ?_; rintro e w' ⟨rfl, hg⟩; refine ⟨?_, hS.trans hg⟩; with_reducible rfl)
           simp only [Act.put, List.setIfInBounds_toArray, List.set_cons_zero, List.set_cons_succ]))
    refine Rg.wpG_nil ?_
    intro w' hg
    have hc := hg.cells
    have hf := hg.frees
    go_wp2_with fail
    refine bodyPost_ret (by simp [results, Tryd.results34, go_sem, hc]; try rfl) rfl ?_
    exact ⟨rfl, hg.own.set4 (Nat.le_refl _) _ _ _ _⟩
set_option maxHeartbeats 1000000 in
set_option maxRecDepth 100000 in
theorem arith_mod (a b : Int) (w : World) (ha : Vl.fitsB a = true) (hb : Vl.fitsB b = true) (hb0 : (b == 0) = false) :
    Calls Tryd.prog 34 #[.int .i64 22, .int .i64 a, .int .i64 b] w fun e w' => e = pairR (fitR (a.tmod b)) ∧ Gr w w' := by
  have h1 := Vl.mod_signed a b
  have M1 := fun W => magnitude_any a W ha
  have M2 := fun W => magnitude_any b W hb
  have W1 := fun W => wide_any a W ha
  have W2 := fun W => wide_any b W hb
  have la : a.natAbs < 18446744073709551616 := by rw [Vl.fits_iff] at ha; omega
  have hy0 : ¬ b.natAbs = 0 := by simp at hb0; omega
  clear ha hb
  generalize a.tmod b = n at *
  generalize Vl.hi a = xh at *
  generalize Vl.lo a = xl at *
  generalize Vl.hi b = yh at *
  generalize Vl.lo b = yl at *
  generalize a.natAbs = am at *
  generalize b.natAbs = bm at *
  generalize Vl.neg a = an at *
  generalize Vl.neg b = bn at *
  have lm : am % bm < 18446744073709551616 := Nat.lt_of_le_of_lt (Nat.mod_le _ _) la
  have hz : ((am : Int).tmod (bm : Int)) = ((am % bm : Nat) : Int) := rfl
  generalize am % bm = m at *
  obtain ⟨b1, t1⟩ : ∃ b, decide (0 < m) = b := ⟨_, rfl⟩
  rw [t1] at h1
  have hq : (an && b1) = true → 0 < m := fun h => by
    rw [Bool.and_eq_true] at h; rw [h.2] at t1; exact of_decide_eq_true t1
  have S := fun W => signed_any m (an && b1) W hq lm
  rw [signed_fit m _ n h1 hq] at S
  clear hq lm h1 la
  generalize fitR n = R at *
  obtain ⟨⟨rt, rn, rs, rb⟩, re⟩ := R
  unfold pairR at S ⊢
  cases an <;> cases b1
  all_goals simp only [Bool.and_self, Bool.and_false, Bool.false_and, Bool.true_and] at S
  all_goals
    go_enter Tryd.func34, Tryd.ntmps34
    go_wp2_with fail
    refine (M1 _).mono ?_
    rintro e w' ⟨rfl, rfl⟩
    go_wp2_with fail
    refine (M2 _).mono ?_
    rintro e w' ⟨rfl, rfl⟩
    go_wp2_with fail
    refine (W1 _).mono ?_
    rintro e w' ⟨rfl, rfl⟩
    go_wp2_with fail
    refine (W2 _).mono ?_
    rintro e w' ⟨rfl, rfl⟩
    clear M1 M2 W1 W2
    go_wp2_with fail
    refine Rg.region_tail (fun w' => Gr (w.alloc (.cells #[.int .i64 0, .int .i64 0, .string ⟨#[]⟩, .bool false] 23)) w') 13 (Gr.drew (Gr.refl _)) (by kernel_rfl) (by kernel_rfl) ?_
    simp only [List.take_succ_cons, List.take_zero, List.drop_succ_cons, List.drop_zero]
    repeat (first
        | (refine Rg.wpG_skip (by rfl) ?_; simp only [Act.put, List.setIfInBounds_toArray, List.set_cons_zero, List.set_cons_succ])
        | (refine Rg.wpG_step ?_ (by rfl) (fun w hS => ?_) ?_
           rotate_left
           · have hc := hS.cells
             have hf := hS.frees
             go_simp
             first
             | (refine ⟨?_, hS⟩; with_reducible rfl)
             | with_reducible rfl
             | (refine (S _).mono ?_; rintro e w' ⟨rfl, hg⟩; refine ⟨?_, hS.trans hg⟩; with_reducible rfl)
           simp only [Act.put, List.setIfInBounds_toArray, List.set_cons_zero, List.set_cons_succ]))
    refine Rg.wpG_nil ?_
    intro w' hg
    have hc := hg.cells
    have hf := hg.frees
    go_wp2_with fail
    refine bodyPost_ret (by simp [results, Tryd.results34, go_sem, hc]; try rfl) rfl ?_
    exact ⟨rfl, hg.own.set4 (Nat.le_refl _) _ _ _ _⟩
set_option maxHeartbeats 1000000 in
set_option maxRecDepth 100000 in
theorem arith_zero (op a b : Int) (w : World) (ha : Vl.fitsB a = true) (hb : Vl.fitsB b = true) (hop : 21 ≤ op) (hb0 : (b == 0) = true) :
    Calls Tryd.prog 34 #[.int .i64 op, .int .i64 a, .int .i64 b] w fun e w' => e = pairR (nul, 162) ∧ Gr w w' := by
  have M1 := fun W => magnitude_any a W ha
  have M2 := fun W => magnitude_any b W hb
  have W1 := fun W => wide_any a W ha
  have W2 := fun W => wide_any b W hb
  have o1 : (op == 18) = false := by simp; omega
  have o2 : (op == 19) = false := by simp; omega
  have o3 : (op == 20) = false := by simp; omega
  clear ha hb
  go_enter Tryd.func34, Tryd.ntmps34
  go_wp2_with fail
  refine (M1 _).mono ?_
  rintro e w' ⟨rfl, rfl⟩
  go_wp2_with fail
  refine (M2 _).mono ?_
  rintro e w' ⟨rfl, rfl⟩
  go_wp2_with fail
  refine (W1 _).mono ?_
  rintro e w' ⟨rfl, rfl⟩
  go_wp2_with fail
  refine (W2 _).mono ?_
  rintro e w' ⟨rfl, rfl⟩
  clear M1 M2 W1 W2
  go_wp2
  go_returns
  exact ⟨rfl, (Gr.refl _).alloc _⟩
def arithR (op a b : Int) : V × Int :=
  if op == 18 then fitR (a + b) else if op == 19 then fitR (a - b) else if op == 20 then fitR (a * b) else if b == 0 then (nul, 162) else if op == 21 then fitR (a.tdiv b) else fitR (a.tmod b)
theorem arith_any (op a b : Int) (w : World) (ha : Vl.fitsB a = true) (hb : Vl.fitsB b = true) (h1 : 18 ≤ op) (h2 : op ≤ 22) :
    Calls Tryd.prog 34 #[.int .i64 op, .int .i64 a, .int .i64 b] w fun e w' => e = pairR (arithR op a b) ∧ Gr w w' := by
  have h : op = 18 ∨ op = 19 ∨ op = 20 ∨ op = 21 ∨ op = 22 := by omega
  rcases h with rfl | rfl | rfl | rfl | rfl
  · exact arith_add a b w ha hb
  · exact arith_sub a b w ha hb
  · exact arith_mul a b w ha hb
  · cases hb0 : (b == 0)
    · have := arith_div a b w ha hb hb0
      unfold arithR; rw [hb0]; exact this
    · have := arith_zero 21 a b w ha hb (by omega) hb0
      unfold arithR; rw [hb0]; exact this
  · cases hb0 : (b == 0)
    · have := arith_mod a b w ha hb hb0
      unfold arithR; rw [hb0]; exact this
    · have := arith_zero 22 a b w ha hb (by omega) hb0
      unfold arithR; rw [hb0]; exact this
end Go.Proofs.YtefdkpfndjlpgaaDoor
