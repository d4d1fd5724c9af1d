/- The document's sums, comparisons and connectives. -/
import Derived.Test.YtefdkpfndjlpgaaDoorW10
namespace Go.Proofs.YtefdkpfndjlpgaaDoor
open Go.RowKit
set_option linter.unusedSimpArgs false
set_option linter.unusedVariables false
attribute [local go_sem] Rg.once_normal Rg.once_exit Rg.once_ret Rg.once_panic Rg.once_goto Rg.leads_value Rg.leads_skip Rg.leads_enter
theorem typed_ok (k : Int) (a b : V) : (typedB k [a, b]).1 = (isB a k && isB b k) := by
  unfold typedB isB
  simp only [typedFrom]
  cases (a.t == k) <;> cases (a.t == 0) <;> cases (b.t == k) <;> cases (b.t == 0) <;> rfl
theorem typed_null (k : Int) (a b : V) (h : (typedB k [a, b]).1 = true) : (typedB k [a, b]).2 = (a.t == 0 || b.t == 0) := by
  unfold typedB at *
  simp only [typedFrom] at *
  revert h
  cases (a.t == k) <;> cases (a.t == 0) <;> cases (b.t == k) <;> cases (b.t == 0) <;> simp
theorem fit_shape (n : Int) : fitR n = if (fitR n).2 == 0 then (numV (fitR n).1.n, 0) else (nul, (fitR n).2) := by
  unfold fitR
  cases Vl.fitsB n <;> rfl
theorem arith_shape (op a b : Int) : arithR op a b = if (arithR op a b).2 == 0 then (numV (arithR op a b).1.n, 0) else (nul, (arithR op a b).2) := by
  unfold arithR
  split
  · exact fit_shape _
  split
  · exact fit_shape _
  split
  · exact fit_shape _
  split
  · rfl
  split <;> exact fit_shape _
def mathIn' (op : Int) (a b : V) (k : Int) : V × Int :=
  if isB a k then (if isB b k then (if a.t == 0 then (nul, 0) else if b.t == 0 then (nul, 0) else if op == 23 then (textV (a.s ++ b.s), 0) else arithR op a.n b.n) else (nul, 160)) else (nul, 160)
theorem math_same (op : Int) (a b : V) (k : Int) : mathIn op a b k = mathIn' op a b k := by
  unfold mathIn mathIn'
  rw [typed_ok]
  cases ha : isB a k
  · rfl
  · cases hb : isB b k
    · rfl
    · rw [typed_null k a b (by rw [typed_ok, ha, hb]; rfl)]
      cases (a.t == 0) <;> cases (b.t == 0) <;> rfl
set_option maxHeartbeats 1000000 in
set_option maxRecDepth 100000 in
theorem rmath_out (op : Int) (a b : V) (w : World) (h : op < 18 ∨ 23 < op) : Calls Tryd.prog 13 #[.int .i64 op, a.val, b.val] w fun e w' => e = pairR (nul, 1) ∧ Gr w w' := by
  obtain ⟨t, n, s, b'⟩ := a
  obtain ⟨t2, n2, s2, b2'⟩ := b
  unfold V.val
  have o3 : (op == 23) = false := by simp; omega
  rcases h with h | h
  · have o1 : decide (op < 18) = true := by simpa using h
    go_enter Tryd.func13, Tryd.ntmps13
    go_wp2_with (first | (go_at_call 36; ((with_reducible refine (rnull_any _).mono ?_)); rintro e w' ⟨rfl, hg⟩; have hc := hg.cells; have hf := hg.frees; have hz := hg.size; (try simp only [World.size_alloc, World.size_setCell, World.size_drew] at hz); (try have : w.heap.size < w'.heap.size := by omega); (try have : w.heap.size + 1 < w'.heap.size := by omega); (try have : w.heap.size + 1 + 1 < w'.heap.size := by omega); (try have : w.heap.size + 1 + 1 + 1 < w'.heap.size := by omega)))
    all_goals
      (try (go_step3; (try simp only [Exit.then]); (try change Rg.once _ _ _ _ _ _); rw [Rg.once_goto]; go_wp2))
      (try rw [Rg.once_ret])
      (try rw [Exit.noGoto_ret])
      (try change bodyPost _ _ _ _ _ _)
      first
      | (go_returns; refine ⟨?_, ?_⟩)
      | (refine bodyPost_ret (by simp [results, Tryd.results13, go_sem, *]; try rfl) rfl ⟨?_, ?_⟩)
      rotate_left
      · repeat' (first | exact Gr.refl _ | exact Nat.le_refl _ | exact Nat.le_add_right _ _ | refine Gr.setCell ?_ ?_ _ | refine Gr.alloc ?_ _ | refine Gr.drew ?_ | refine Gr.trans ?_ (by assumption) | omega | (dsimp only; omega))
    all_goals rfl
  · have o1 : decide (op < 18) = false := by simp; omega
    have o2 : decide (22 < op) = true := by simp; omega
    go_enter Tryd.func13, Tryd.ntmps13
    go_wp2_with (first | (go_at_call 36; ((with_reducible refine (rnull_any _).mono ?_)); rintro e w' ⟨rfl, hg⟩; have hc := hg.cells; have hf := hg.frees; have hz := hg.size; (try simp only [World.size_alloc, World.size_setCell, World.size_drew] at hz); (try have : w.heap.size < w'.heap.size := by omega); (try have : w.heap.size + 1 < w'.heap.size := by omega); (try have : w.heap.size + 1 + 1 < w'.heap.size := by omega); (try have : w.heap.size + 1 + 1 + 1 < w'.heap.size := by omega)))
    all_goals
      (try (go_step3; (try simp only [Exit.then]); (try change Rg.once _ _ _ _ _ _); rw [Rg.once_goto]; go_wp2))
      (try rw [Rg.once_ret])
      (try rw [Exit.noGoto_ret])
      (try change bodyPost _ _ _ _ _ _)
      first
      | (go_returns; refine ⟨?_, ?_⟩)
      | (refine bodyPost_ret (by simp [results, Tryd.results13, go_sem, *]; try rfl) rfl ⟨?_, ?_⟩)
      rotate_left
      · repeat' (first | exact Gr.refl _ | exact Nat.le_refl _ | exact Nat.le_add_right _ _ | refine Gr.setCell ?_ ?_ _ | refine Gr.alloc ?_ _ | refine Gr.drew ?_ | refine Gr.trans ?_ (by assumption) | omega | (dsimp only; omega))
    all_goals rfl
set_option maxHeartbeats 2000000 in
set_option maxRecDepth 100000 in
theorem rmath_num (op : Int) (a b : V) (w : World) (h1 : 18 ≤ op) (h2 : op ≤ 22) (ha : Bd a.n) (hb : Bd b.n) : Calls Tryd.prog 13 #[.int .i64 op, a.val, b.val] w fun e w' => e = pairR (mathIn' op a b 1) ∧ Gr w w' := by
  have I1 := fun W => ris_any a 1 W
  have I2 := fun W => ris_any b 1 W
  obtain ⟨t, n, s, b'⟩ := a
  obtain ⟨t2, n2, s2, b2'⟩ := b
  have M := fun W => rnum_any op n n2 W ha hb h1 h2
  have o1 : decide (op < 18) = false := by simp; omega
  have o2 : decide (22 < op) = false := by simp; omega
  have o3 : (op == 23) = false := by simp; omega
  unfold mathIn'
  simp only at I1 I2 ⊢
  rw [o3, arith_shape]
  clear ha hb h1 h2
  generalize isB ⟨t, n, s, b'⟩ 1 = i1 at *
  generalize isB ⟨t2, n2, s2, b2'⟩ 1 = i2 at *
  unfold numE at M
  generalize (arithR op n n2).2 = re at *
  generalize (arithR op n n2).1.n = rn at *
  obtain ⟨c1, t1⟩ : ∃ c, (t == 0) = c := ⟨_, rfl⟩
  obtain ⟨c2, t2'⟩ : ∃ c, (t2 == 0) = c := ⟨_, rfl⟩
  obtain ⟨c3, t3⟩ : ∃ c, (re == 0) = c := ⟨_, rfl⟩
  have t4 : (re != 0) = !c3 := by rw [← t3]; rfl
  rw [t1, t2', t3]
  unfold V.val
  cases i1
  · simp only [Bool.false_eq_true, if_false]
    go_enter Tryd.func13, Tryd.ntmps13
    go_wp2_with (first | (go_at_call 36; ((with_reducible refine (rnull_any _).mono ?_)); rintro e w' ⟨rfl, hg⟩; have hc := hg.cells; have hf := hg.frees; have hz := hg.size; (try simp only [World.size_alloc, World.size_setCell, World.size_drew] at hz); (try have : w.heap.size < w'.heap.size := by omega); (try have : w.heap.size + 1 < w'.heap.size := by omega); (try have : w.heap.size + 1 + 1 < w'.heap.size := by omega); (try have : w.heap.size + 1 + 1 + 1 < w'.heap.size := by omega)) | (go_at_call 37; ((with_reducible refine (I1 _).mono ?_)); rintro e w' ⟨rfl, hg⟩; have hc := hg.cells; have hf := hg.frees; have hz := hg.size; (try simp only [World.size_alloc, World.size_setCell, World.size_drew] at hz); (try have : w.heap.size < w'.heap.size := by omega); (try have : w.heap.size + 1 < w'.heap.size := by omega); (try have : w.heap.size + 1 + 1 < w'.heap.size := by omega); (try have : w.heap.size + 1 + 1 + 1 < w'.heap.size := by omega)))
    all_goals
      (try (go_step3; (try simp only [Exit.then]); (try change Rg.once _ _ _ _ _ _); rw [Rg.once_goto]; go_wp2))
      (try rw [Rg.once_ret])
      (try rw [Exit.noGoto_ret])
      (try change bodyPost _ _ _ _ _ _)
      first
      | (go_returns; refine ⟨?_, ?_⟩)
      | (refine bodyPost_ret (by simp [results, Tryd.results13, go_sem, *]; try rfl) rfl ⟨?_, ?_⟩)
      rotate_left
      · repeat' (first | exact Gr.refl _ | exact Nat.le_refl _ | exact Nat.le_add_right _ _ | refine Gr.setCell ?_ ?_ _ | refine Gr.alloc ?_ _ | refine Gr.drew ?_ | refine Gr.trans ?_ (by assumption) | omega | (dsimp only; omega))
    all_goals rfl
  cases i2
  · simp only [Bool.false_eq_true, if_false, if_true]
    go_enter Tryd.func13, Tryd.ntmps13
    go_wp2_with (first | (go_at_call 36; ((with_reducible refine (rnull_any _).mono ?_)); rintro e w' ⟨rfl, hg⟩; have hc := hg.cells; have hf := hg.frees; have hz := hg.size; (try simp only [World.size_alloc, World.size_setCell, World.size_drew] at hz); (try have : w.heap.size < w'.heap.size := by omega); (try have : w.heap.size + 1 < w'.heap.size := by omega); (try have : w.heap.size + 1 + 1 < w'.heap.size := by omega); (try have : w.heap.size + 1 + 1 + 1 < w'.heap.size := by omega)) | (go_at_call 37; ((with_reducible refine (I1 _).mono ?_)); rintro e w' ⟨rfl, hg⟩; have hc := hg.cells; have hf := hg.frees; have hz := hg.size; (try simp only [World.size_alloc, World.size_setCell, World.size_drew] at hz); (try have : w.heap.size < w'.heap.size := by omega); (try have : w.heap.size + 1 < w'.heap.size := by omega); (try have : w.heap.size + 1 + 1 < w'.heap.size := by omega); (try have : w.heap.size + 1 + 1 + 1 < w'.heap.size := by omega)) | (go_at_call 37; ((with_reducible refine (I2 _).mono ?_)); rintro e w' ⟨rfl, hg⟩; have hc := hg.cells; have hf := hg.frees; have hz := hg.size; (try simp only [World.size_alloc, World.size_setCell, World.size_drew] at hz); (try have : w.heap.size < w'.heap.size := by omega); (try have : w.heap.size + 1 < w'.heap.size := by omega); (try have : w.heap.size + 1 + 1 < w'.heap.size := by omega); (try have : w.heap.size + 1 + 1 + 1 < w'.heap.size := by omega)))
    all_goals
      (try (go_step3; (try simp only [Exit.then]); (try change Rg.once _ _ _ _ _ _); rw [Rg.once_goto]; go_wp2))
      (try rw [Rg.once_ret])
      (try rw [Exit.noGoto_ret])
      (try change bodyPost _ _ _ _ _ _)
      first
      | (go_returns; refine ⟨?_, ?_⟩)
      | (refine bodyPost_ret (by simp [results, Tryd.results13, go_sem, *]; try rfl) rfl ⟨?_, ?_⟩)
      rotate_left
      · repeat' (first | exact Gr.refl _ | exact Nat.le_refl _ | exact Nat.le_add_right _ _ | refine Gr.setCell ?_ ?_ _ | refine Gr.alloc ?_ _ | refine Gr.drew ?_ | refine Gr.trans ?_ (by assumption) | omega | (dsimp only; omega))
    all_goals rfl
  cases c1
  · cases c2
    · cases c3
      all_goals
        simp only [Bool.false_eq_true, if_false, if_true, Bool.not_true, Bool.not_false] at *
        go_enter Tryd.func13, Tryd.ntmps13
        go_wp2_with (first | (go_at_call 36; ((with_reducible refine (rnull_any _).mono ?_)); rintro e w' ⟨rfl, hg⟩; have hc := hg.cells; have hf := hg.frees; have hz := hg.size; (try simp only [World.size_alloc, World.size_setCell, World.size_drew] at hz); (try have : w.heap.size < w'.heap.size := by omega); (try have : w.heap.size + 1 < w'.heap.size := by omega); (try have : w.heap.size + 1 + 1 < w'.heap.size := by omega); (try have : w.heap.size + 1 + 1 + 1 < w'.heap.size := by omega)) | (go_at_call 37; ((with_reducible refine (I1 _).mono ?_)); rintro e w' ⟨rfl, hg⟩; have hc := hg.cells; have hf := hg.frees; have hz := hg.size; (try simp only [World.size_alloc, World.size_setCell, World.size_drew] at hz); (try have : w.heap.size < w'.heap.size := by omega); (try have : w.heap.size + 1 < w'.heap.size := by omega); (try have : w.heap.size + 1 + 1 < w'.heap.size := by omega); (try have : w.heap.size + 1 + 1 + 1 < w'.heap.size := by omega)) | (go_at_call 37; ((with_reducible refine (I2 _).mono ?_)); rintro e w' ⟨rfl, hg⟩; have hc := hg.cells; have hf := hg.frees; have hz := hg.size; (try simp only [World.size_alloc, World.size_setCell, World.size_drew] at hz); (try have : w.heap.size < w'.heap.size := by omega); (try have : w.heap.size + 1 < w'.heap.size := by omega); (try have : w.heap.size + 1 + 1 < w'.heap.size := by omega); (try have : w.heap.size + 1 + 1 + 1 < w'.heap.size := by omega)) | (go_at_call 39; ((with_reducible refine (M _).mono ?_)); rintro e w' ⟨rfl, hg⟩; have hc := hg.cells; have hf := hg.frees; have hz := hg.size; (try simp only [World.size_alloc, World.size_setCell, World.size_drew] at hz); (try have : w.heap.size < w'.heap.size := by omega); (try have : w.heap.size + 1 < w'.heap.size := by omega); (try have : w.heap.size + 1 + 1 < w'.heap.size := by omega); (try have : w.heap.size + 1 + 1 + 1 < w'.heap.size := by omega)) | (go_at_call 15; ((with_reducible refine (rint_any _ _).mono ?_)); rintro e w' ⟨rfl, hg⟩; have hc := hg.cells; have hf := hg.frees; have hz := hg.size; (try simp only [World.size_alloc, World.size_setCell, World.size_drew] at hz); (try have : w.heap.size < w'.heap.size := by omega); (try have : w.heap.size + 1 < w'.heap.size := by omega); (try have : w.heap.size + 1 + 1 < w'.heap.size := by omega); (try have : w.heap.size + 1 + 1 + 1 < w'.heap.size := by omega)))
        all_goals
          (try (go_step3; (try simp only [Exit.then]); (try change Rg.once _ _ _ _ _ _); rw [Rg.once_goto]; go_wp2))
          (try rw [Rg.once_ret])
          (try rw [Exit.noGoto_ret])
          (try change bodyPost _ _ _ _ _ _)
          first
          | (go_returns; refine ⟨?_, ?_⟩)
          | (refine bodyPost_ret (by simp [results, Tryd.results13, go_sem, *]; try rfl) rfl ⟨?_, ?_⟩)
          rotate_left
          · repeat' (first | exact Gr.refl _ | exact Nat.le_refl _ | exact Nat.le_add_right _ _ | refine Gr.setCell ?_ ?_ _ | refine Gr.alloc ?_ _ | refine Gr.drew ?_ | refine Gr.trans ?_ (by assumption) | omega | (dsimp only; omega))
        all_goals rfl
    · simp only [Bool.false_eq_true, if_false, if_true]
      go_enter Tryd.func13, Tryd.ntmps13
      go_wp2_with (first | (go_at_call 36; ((with_reducible refine (rnull_any _).mono ?_)); rintro e w' ⟨rfl, hg⟩; have hc := hg.cells; have hf := hg.frees; have hz := hg.size; (try simp only [World.size_alloc, World.size_setCell, World.size_drew] at hz); (try have : w.heap.size < w'.heap.size := by omega); (try have : w.heap.size + 1 < w'.heap.size := by omega); (try have : w.heap.size + 1 + 1 < w'.heap.size := by omega); (try have : w.heap.size + 1 + 1 + 1 < w'.heap.size := by omega)) | (go_at_call 37; ((with_reducible refine (I1 _).mono ?_)); rintro e w' ⟨rfl, hg⟩; have hc := hg.cells; have hf := hg.frees; have hz := hg.size; (try simp only [World.size_alloc, World.size_setCell, World.size_drew] at hz); (try have : w.heap.size < w'.heap.size := by omega); (try have : w.heap.size + 1 < w'.heap.size := by omega); (try have : w.heap.size + 1 + 1 < w'.heap.size := by omega); (try have : w.heap.size + 1 + 1 + 1 < w'.heap.size := by omega)) | (go_at_call 37; ((with_reducible refine (I2 _).mono ?_)); rintro e w' ⟨rfl, hg⟩; have hc := hg.cells; have hf := hg.frees; have hz := hg.size; (try simp only [World.size_alloc, World.size_setCell, World.size_drew] at hz); (try have : w.heap.size < w'.heap.size := by omega); (try have : w.heap.size + 1 < w'.heap.size := by omega); (try have : w.heap.size + 1 + 1 < w'.heap.size := by omega); (try have : w.heap.size + 1 + 1 + 1 < w'.heap.size := by omega)))
      all_goals
        (try (go_step3; (try simp only [Exit.then]); (try change Rg.once _ _ _ _ _ _); rw [Rg.once_goto]; go_wp2))
        (try rw [Rg.once_ret])
        (try rw [Exit.noGoto_ret])
        (try change bodyPost _ _ _ _ _ _)
        first
        | (go_returns; refine ⟨?_, ?_⟩)
        | (refine bodyPost_ret (by simp [results, Tryd.results13, go_sem, *]; try rfl) rfl ⟨?_, ?_⟩)
        rotate_left
        · repeat' (first | exact Gr.refl _ | exact Nat.le_refl _ | exact Nat.le_add_right _ _ | refine Gr.setCell ?_ ?_ _ | refine Gr.alloc ?_ _ | refine Gr.drew ?_ | refine Gr.trans ?_ (by assumption) | omega | (dsimp only; omega))
      all_goals rfl
  · simp only [Bool.false_eq_true, if_false, if_true]
    go_enter Tryd.func13, Tryd.ntmps13
    go_wp2_with (first | (go_at_call 36; ((with_reducible refine (rnull_any _).mono ?_)); rintro e w' ⟨rfl, hg⟩; have hc := hg.cells; have hf := hg.frees; have hz := hg.size; (try simp only [World.size_alloc, World.size_setCell, World.size_drew] at hz); (try have : w.heap.size < w'.heap.size := by omega); (try have : w.heap.size + 1 < w'.heap.size := by omega); (try have : w.heap.size + 1 + 1 < w'.heap.size := by omega); (try have : w.heap.size + 1 + 1 + 1 < w'.heap.size := by omega)) | (go_at_call 37; ((with_reducible refine (I1 _).mono ?_)); rintro e w' ⟨rfl, hg⟩; have hc := hg.cells; have hf := hg.frees; have hz := hg.size; (try simp only [World.size_alloc, World.size_setCell, World.size_drew] at hz); (try have : w.heap.size < w'.heap.size := by omega); (try have : w.heap.size + 1 < w'.heap.size := by omega); (try have : w.heap.size + 1 + 1 < w'.heap.size := by omega); (try have : w.heap.size + 1 + 1 + 1 < w'.heap.size := by omega)) | (go_at_call 37; ((with_reducible refine (I2 _).mono ?_)); rintro e w' ⟨rfl, hg⟩; have hc := hg.cells; have hf := hg.frees; have hz := hg.size; (try simp only [World.size_alloc, World.size_setCell, World.size_drew] at hz); (try have : w.heap.size < w'.heap.size := by omega); (try have : w.heap.size + 1 < w'.heap.size := by omega); (try have : w.heap.size + 1 + 1 < w'.heap.size := by omega); (try have : w.heap.size + 1 + 1 + 1 < w'.heap.size := by omega)))
    all_goals
      (try (go_step3; (try simp only [Exit.then]); (try change Rg.once _ _ _ _ _ _); rw [Rg.once_goto]; go_wp2))
      (try rw [Rg.once_ret])
      (try rw [Exit.noGoto_ret])
      (try change bodyPost _ _ _ _ _ _)
      first
      | (go_returns; refine ⟨?_, ?_⟩)
      | (refine bodyPost_ret (by simp [results, Tryd.results13, go_sem, *]; try rfl) rfl ⟨?_, ?_⟩)
      rotate_left
      · repeat' (first | exact Gr.refl _ | exact Nat.le_refl _ | exact Nat.le_add_right _ _ | refine Gr.setCell ?_ ?_ _ | refine Gr.alloc ?_ _ | refine Gr.drew ?_ | refine Gr.trans ?_ (by assumption) | omega | (dsimp only; omega))
    all_goals rfl
set_option maxHeartbeats 2000000 in
set_option maxRecDepth 100000 in
theorem rmath_cat (a b : V) (w : World) (hs : a.s.size + b.s.size ≤ 9223372036854775807) : Calls Tryd.prog 13 #[.int .i64 23, a.val, b.val] w fun e w' => e = pairR (mathIn' 23 a b 2) ∧ Gr w w' := by
  have I1 := fun W => ris_any a 2 W
  have I2 := fun W => ris_any b 2 W
  obtain ⟨t, n, s, b'⟩ := a
  obtain ⟨t2, n2, s2, b2'⟩ := b
  have hs' : s.size + s2.size ≤ 9223372036854775807 := hs
  clear hs
  unfold mathIn'
  simp only at I1 I2 ⊢
  generalize isB ⟨t, n, s, b'⟩ 2 = i1 at *
  generalize isB ⟨t2, n2, s2, b2'⟩ 2 = i2 at *
  obtain ⟨c1, t1⟩ : ∃ c, (t == 0) = c := ⟨_, rfl⟩
  obtain ⟨c2, t2'⟩ : ∃ c, (t2 == 0) = c := ⟨_, rfl⟩
  rw [t1, t2']
  unfold V.val
  cases i1
  · simp only [Bool.false_eq_true, if_false]
    go_enter Tryd.func13, Tryd.ntmps13
    go_wp2_with (first | (go_at_call 36; ((with_reducible refine (rnull_any _).mono ?_)); rintro e w' ⟨rfl, hg⟩; have hc := hg.cells; have hf := hg.frees; have hz := hg.size; (try simp only [World.size_alloc, World.size_setCell, World.size_drew] at hz); (try have : w.heap.size < w'.heap.size := by omega); (try have : w.heap.size + 1 < w'.heap.size := by omega); (try have : w.heap.size + 1 + 1 < w'.heap.size := by omega); (try have : w.heap.size + 1 + 1 + 1 < w'.heap.size := by omega)) | (go_at_call 37; ((with_reducible refine (I1 _).mono ?_)); rintro e w' ⟨rfl, hg⟩; have hc := hg.cells; have hf := hg.frees; have hz := hg.size; (try simp only [World.size_alloc, World.size_setCell, World.size_drew] at hz); (try have : w.heap.size < w'.heap.size := by omega); (try have : w.heap.size + 1 < w'.heap.size := by omega); (try have : w.heap.size + 1 + 1 < w'.heap.size := by omega); (try have : w.heap.size + 1 + 1 + 1 < w'.heap.size := by omega)))
    all_goals
      (try (go_step3; (try simp only [Exit.then]); (try change Rg.once _ _ _ _ _ _); rw [Rg.once_goto]; go_wp2))
      (try rw [Rg.once_ret])
      (try rw [Exit.noGoto_ret])
      (try change bodyPost _ _ _ _ _ _)
      first
      | (go_returns; refine ⟨?_, ?_⟩)
      | (refine bodyPost_ret (by simp [results, Tryd.results13, go_sem, *]; try rfl) rfl ⟨?_, ?_⟩)
      rotate_left
      · repeat' (first | exact Gr.refl _ | exact Nat.le_refl _ | exact Nat.le_add_right _ _ | refine Gr.setCell ?_ ?_ _ | refine Gr.alloc ?_ _ | refine Gr.drew ?_ | refine Gr.trans ?_ (by assumption) | omega | (dsimp only; omega))
    all_goals rfl
  cases i2
  · simp only [Bool.false_eq_true, if_false, if_true]
    go_enter Tryd.func13, Tryd.ntmps13
    go_wp2_with (first | (go_at_call 36; ((with_reducible refine (rnull_any _).mono ?_)); rintro e w' ⟨rfl, hg⟩; have hc := hg.cells; have hf := hg.frees; have hz := hg.size; (try simp only [World.size_alloc, World.size_setCell, World.size_drew] at hz); (try have : w.heap.size < w'.heap.size := by omega); (try have : w.heap.size + 1 < w'.heap.size := by omega); (try have : w.heap.size + 1 + 1 < w'.heap.size := by omega); (try have : w.heap.size + 1 + 1 + 1 < w'.heap.size := by omega)) | (go_at_call 37; ((with_reducible refine (I1 _).mono ?_)); rintro e w' ⟨rfl, hg⟩; have hc := hg.cells; have hf := hg.frees; have hz := hg.size; (try simp only [World.size_alloc, World.size_setCell, World.size_drew] at hz); (try have : w.heap.size < w'.heap.size := by omega); (try have : w.heap.size + 1 < w'.heap.size := by omega); (try have : w.heap.size + 1 + 1 < w'.heap.size := by omega); (try have : w.heap.size + 1 + 1 + 1 < w'.heap.size := by omega)) | (go_at_call 37; ((with_reducible refine (I2 _).mono ?_)); rintro e w' ⟨rfl, hg⟩; have hc := hg.cells; have hf := hg.frees; have hz := hg.size; (try simp only [World.size_alloc, World.size_setCell, World.size_drew] at hz); (try have : w.heap.size < w'.heap.size := by omega); (try have : w.heap.size + 1 < w'.heap.size := by omega); (try have : w.heap.size + 1 + 1 < w'.heap.size := by omega); (try have : w.heap.size + 1 + 1 + 1 < w'.heap.size := by omega)))
    all_goals
      (try (go_step3; (try simp only [Exit.then]); (try change Rg.once _ _ _ _ _ _); rw [Rg.once_goto]; go_wp2))
      (try rw [Rg.once_ret])
      (try rw [Exit.noGoto_ret])
      (try change bodyPost _ _ _ _ _ _)
      first
      | (go_returns; refine ⟨?_, ?_⟩)
      | (refine bodyPost_ret (by simp [results, Tryd.results13, go_sem, *]; try rfl) rfl ⟨?_, ?_⟩)
      rotate_left
      · repeat' (first | exact Gr.refl _ | exact Nat.le_refl _ | exact Nat.le_add_right _ _ | refine Gr.setCell ?_ ?_ _ | refine Gr.alloc ?_ _ | refine Gr.drew ?_ | refine Gr.trans ?_ (by assumption) | omega | (dsimp only; omega))
    all_goals rfl
  cases c1
  · cases c2
    · simp only [Bool.false_eq_true, if_false, if_true]
      go_enter Tryd.func13, Tryd.ntmps13
      go_wp2_with (first | (go_at_call 36; ((with_reducible refine (rnull_any _).mono ?_)); rintro e w' ⟨rfl, hg⟩; have hc := hg.cells; have hf := hg.frees; have hz := hg.size; (try simp only [World.size_alloc, World.size_setCell, World.size_drew] at hz); (try have : w.heap.size < w'.heap.size := by omega); (try have : w.heap.size + 1 < w'.heap.size := by omega); (try have : w.heap.size + 1 + 1 < w'.heap.size := by omega); (try have : w.heap.size + 1 + 1 + 1 < w'.heap.size := by omega)) | (go_at_call 37; ((with_reducible refine (I1 _).mono ?_)); rintro e w' ⟨rfl, hg⟩; have hc := hg.cells; have hf := hg.frees; have hz := hg.size; (try simp only [World.size_alloc, World.size_setCell, World.size_drew] at hz); (try have : w.heap.size < w'.heap.size := by omega); (try have : w.heap.size + 1 < w'.heap.size := by omega); (try have : w.heap.size + 1 + 1 < w'.heap.size := by omega); (try have : w.heap.size + 1 + 1 + 1 < w'.heap.size := by omega)) | (go_at_call 37; ((with_reducible refine (I2 _).mono ?_)); rintro e w' ⟨rfl, hg⟩; have hc := hg.cells; have hf := hg.frees; have hz := hg.size; (try simp only [World.size_alloc, World.size_setCell, World.size_drew] at hz); (try have : w.heap.size < w'.heap.size := by omega); (try have : w.heap.size + 1 < w'.heap.size := by omega); (try have : w.heap.size + 1 + 1 < w'.heap.size := by omega); (try have : w.heap.size + 1 + 1 + 1 < w'.heap.size := by omega)) | (go_at_call 38; ((with_reducible refine (rtext_any _ _).mono ?_)); rintro e w' ⟨rfl, hg⟩; have hc := hg.cells; have hf := hg.frees; have hz := hg.size; (try simp only [World.size_alloc, World.size_setCell, World.size_drew] at hz); (try have : w.heap.size < w'.heap.size := by omega); (try have : w.heap.size + 1 < w'.heap.size := by omega); (try have : w.heap.size + 1 + 1 < w'.heap.size := by omega); (try have : w.heap.size + 1 + 1 + 1 < w'.heap.size := by omega)))
      all_goals
        (try (go_step3; (try simp only [Exit.then]); (try change Rg.once _ _ _ _ _ _); rw [Rg.once_goto]; go_wp2))
        (try rw [Rg.once_ret])
        (try rw [Exit.noGoto_ret])
        (try change bodyPost _ _ _ _ _ _)
        first
        | (go_returns; refine ⟨?_, ?_⟩)
        | (refine bodyPost_ret (by simp [results, Tryd.results13, go_sem, *]; try rfl) rfl ⟨?_, ?_⟩)
        rotate_left
        · repeat' (first | exact Gr.refl _ | exact Nat.le_refl _ | exact Nat.le_add_right _ _ | refine Gr.setCell ?_ ?_ _ | refine Gr.alloc ?_ _ | refine Gr.drew ?_ | refine Gr.trans ?_ (by assumption) | omega | (dsimp only; omega))
      all_goals rfl
    · simp only [Bool.false_eq_true, if_false, if_true]
      go_enter Tryd.func13, Tryd.ntmps13
      go_wp2_with (first | (go_at_call 36; ((with_reducible refine (rnull_any _).mono ?_)); rintro e w' ⟨rfl, hg⟩; have hc := hg.cells; have hf := hg.frees; have hz := hg.size; (try simp only [World.size_alloc, World.size_setCell, World.size_drew] at hz); (try have : w.heap.size < w'.heap.size := by omega); (try have : w.heap.size + 1 < w'.heap.size := by omega); (try have : w.heap.size + 1 + 1 < w'.heap.size := by omega); (try have : w.heap.size + 1 + 1 + 1 < w'.heap.size := by omega)) | (go_at_call 37; ((with_reducible refine (I1 _).mono ?_)); rintro e w' ⟨rfl, hg⟩; have hc := hg.cells; have hf := hg.frees; have hz := hg.size; (try simp only [World.size_alloc, World.size_setCell, World.size_drew] at hz); (try have : w.heap.size < w'.heap.size := by omega); (try have : w.heap.size + 1 < w'.heap.size := by omega); (try have : w.heap.size + 1 + 1 < w'.heap.size := by omega); (try have : w.heap.size + 1 + 1 + 1 < w'.heap.size := by omega)) | (go_at_call 37; ((with_reducible refine (I2 _).mono ?_)); rintro e w' ⟨rfl, hg⟩; have hc := hg.cells; have hf := hg.frees; have hz := hg.size; (try simp only [World.size_alloc, World.size_setCell, World.size_drew] at hz); (try have : w.heap.size < w'.heap.size := by omega); (try have : w.heap.size + 1 < w'.heap.size := by omega); (try have : w.heap.size + 1 + 1 < w'.heap.size := by omega); (try have : w.heap.size + 1 + 1 + 1 < w'.heap.size := by omega)))
      all_goals
        (try (go_step3; (try simp only [Exit.then]); (try change Rg.once _ _ _ _ _ _); rw [Rg.once_goto]; go_wp2))
        (try rw [Rg.once_ret])
        (try rw [Exit.noGoto_ret])
        (try change bodyPost _ _ _ _ _ _)
        first
        | (go_returns; refine ⟨?_, ?_⟩)
        | (refine bodyPost_ret (by simp [results, Tryd.results13, go_sem, *]; try rfl) rfl ⟨?_, ?_⟩)
        rotate_left
        · repeat' (first | exact Gr.refl _ | exact Nat.le_refl _ | exact Nat.le_add_right _ _ | refine Gr.setCell ?_ ?_ _ | refine Gr.alloc ?_ _ | refine Gr.drew ?_ | refine Gr.trans ?_ (by assumption) | omega | (dsimp only; omega))
      all_goals rfl
  · simp only [Bool.false_eq_true, if_false, if_true]
    go_enter Tryd.func13, Tryd.ntmps13
    go_wp2_with (first | (go_at_call 36; ((with_reducible refine (rnull_any _).mono ?_)); rintro e w' ⟨rfl, hg⟩; have hc := hg.cells; have hf := hg.frees; have hz := hg.size; (try simp only [World.size_alloc, World.size_setCell, World.size_drew] at hz); (try have : w.heap.size < w'.heap.size := by omega); (try have : w.heap.size + 1 < w'.heap.size := by omega); (try have : w.heap.size + 1 + 1 < w'.heap.size := by omega); (try have : w.heap.size + 1 + 1 + 1 < w'.heap.size := by omega)) | (go_at_call 37; ((with_reducible refine (I1 _).mono ?_)); rintro e w' ⟨rfl, hg⟩; have hc := hg.cells; have hf := hg.frees; have hz := hg.size; (try simp only [World.size_alloc, World.size_setCell, World.size_drew] at hz); (try have : w.heap.size < w'.heap.size := by omega); (try have : w.heap.size + 1 < w'.heap.size := by omega); (try have : w.heap.size + 1 + 1 < w'.heap.size := by omega); (try have : w.heap.size + 1 + 1 + 1 < w'.heap.size := by omega)) | (go_at_call 37; ((with_reducible refine (I2 _).mono ?_)); rintro e w' ⟨rfl, hg⟩; have hc := hg.cells; have hf := hg.frees; have hz := hg.size; (try simp only [World.size_alloc, World.size_setCell, World.size_drew] at hz); (try have : w.heap.size < w'.heap.size := by omega); (try have : w.heap.size + 1 < w'.heap.size := by omega); (try have : w.heap.size + 1 + 1 < w'.heap.size := by omega); (try have : w.heap.size + 1 + 1 + 1 < w'.heap.size := by omega)))
    all_goals
      (try (go_step3; (try simp only [Exit.then]); (try change Rg.once _ _ _ _ _ _); rw [Rg.once_goto]; go_wp2))
      (try rw [Rg.once_ret])
      (try rw [Exit.noGoto_ret])
      (try change bodyPost _ _ _ _ _ _)
      first
      | (go_returns; refine ⟨?_, ?_⟩)
      | (refine bodyPost_ret (by simp [results, Tryd.results13, go_sem, *]; try rfl) rfl ⟨?_, ?_⟩)
      rotate_left
      · repeat' (first | exact Gr.refl _ | exact Nat.le_refl _ | exact Nat.le_add_right _ _ | refine Gr.setCell ?_ ?_ _ | refine Gr.alloc ?_ _ | refine Gr.drew ?_ | refine Gr.trans ?_ (by assumption) | omega | (dsimp only; omega))
    all_goals rfl
end Go.Proofs.YtefdkpfndjlpgaaDoor
