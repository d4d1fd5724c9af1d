/- the reference: To and Text. -/
import Derived.Test.YtemhfaknmagebaaDoorT1
import Derived.Test.YtemhfaknmagebaaDoorGrow
import Derived.Test.YtemhfaknmagebaaDoorRt
namespace Go.Proofs.YtemhfaknmagebaaDoor
open Go.RowKit
set_option linter.unusedSimpArgs false
set_option linter.unusedVariables false
/-- a cost as two numbers, and whether it is one -/
def toV (x y : Nat) : Value := if Fl.inB x && Fl.inB y then .tuple #[.agg #[.int .i64 (intN x), .int .i64 (intN y)], .bool (eqB x && eqB y)] else .tuple #[.agg #[.int .i64 0, .int .i64 0], .bool false]
set_option maxHeartbeats 2000000 in
set_option maxRecDepth 100000 in
theorem to_any (x y : Nat) (w : World) : Calls Tryd.prog 22 #[.complex .f64 x y] w fun e w' => e = .returned (toV x y) ∧ Gr w w' := by
  obtain ⟨RV, hRV⟩ : ∃ P, P = toV x y := ⟨_, rfl⟩
  rw [← hRV]
  have HP := hid hRV
  clear hRV
  obtain ⟨b1, t1⟩ : ∃ b, (FloatKind.f64.format.order x 0 == some .gt || FloatKind.f64.format.order x 0 == some .eq) = b := ⟨_, rfl⟩
  obtain ⟨b2, t2⟩ : ∃ b, (FloatKind.f64.format.order x 4845873199050653696 == some .lt || FloatKind.f64.format.order x 4845873199050653696 == some .eq) = b := ⟨_, rfl⟩
  obtain ⟨b3, t3⟩ : ∃ b, (FloatKind.f64.format.order y 0 == some .gt || FloatKind.f64.format.order y 0 == some .eq) = b := ⟨_, rfl⟩
  obtain ⟨b4, t4⟩ : ∃ b, (FloatKind.f64.format.order y 4845873199050653696 == some .lt || FloatKind.f64.format.order y 4845873199050653696 == some .eq) = b := ⟨_, rfl⟩
  have hx : Fl.inB x = (b1 && b2) := by rw [← t1, ← t2]; rfl
  have hy : Fl.inB y = (b3 && b4) := by rw [← t3, ← t4]; rfl
  have no : (b1 && b2 && (b3 && b4)) = false → RV = .tuple #[.agg #[.int .i64 0, .int .i64 0], .bool false] := fun h => by
    rw [HP.out]; unfold toV; rw [hx, hy, h]; rfl
  have yes : (b1 && b2 && (b3 && b4)) = true → RV = .tuple #[.agg #[.int .i64 (intN x), .int .i64 (intN y)], .bool (eqB x && eqB y)] := fun h => by
    rw [HP.out]; unfold toV; rw [hx, hy, h]; rfl
  have ix := int_run x
  have iy := int_run y
  rw [hx] at ix
  rw [hy] at iy
  have Hno := hid no
  have Hyes := hid yes
  have Hix := hid ix
  have Hiy := hid iy
  clear no yes ix iy hx hy HP
  cases b1
  · have hr := Hno.out rfl
    subst hr
    go_enter Tryd.func22, Tryd.ntmps22
    go_wp2
    refine bodyPost_ret (by simp [results, Tryd.results22, go_sem]; try rfl) rfl ⟨rfl, ?_⟩
    repeat' (first | exact Gr.refl _ | exact Nat.le_refl _ | exact Nat.le_add_right _ _ | refine Gr.setCell ?_ ?_ _ | refine Gr.alloc ?_ _ | refine Gr.drew ?_ | refine Gr.trans ?_ (by assumption) | omega | (dsimp only; omega))
  cases b2
  · have hr := Hno.out rfl
    subst hr
    go_enter Tryd.func22, Tryd.ntmps22
    go_wp2
    refine bodyPost_ret (by simp [results, Tryd.results22, go_sem]; try rfl) rfl ⟨rfl, ?_⟩
    repeat' (first | exact Gr.refl _ | exact Nat.le_refl _ | exact Nat.le_add_right _ _ | refine Gr.setCell ?_ ?_ _ | refine Gr.alloc ?_ _ | refine Gr.drew ?_ | refine Gr.trans ?_ (by assumption) | omega | (dsimp only; omega))
  cases b3
  · have hr := Hno.out rfl
    subst hr
    go_enter Tryd.func22, Tryd.ntmps22
    go_wp2
    refine bodyPost_ret (by simp [results, Tryd.results22, go_sem]; try rfl) rfl ⟨rfl, ?_⟩
    repeat' (first | exact Gr.refl _ | exact Nat.le_refl _ | exact Nat.le_add_right _ _ | refine Gr.setCell ?_ ?_ _ | refine Gr.alloc ?_ _ | refine Gr.drew ?_ | refine Gr.trans ?_ (by assumption) | omega | (dsimp only; omega))
  cases b4
  · have hr := Hno.out rfl
    subst hr
    go_enter Tryd.func22, Tryd.ntmps22
    go_wp2
    refine bodyPost_ret (by simp [results, Tryd.results22, go_sem]; try rfl) rfl ⟨rfl, ?_⟩
    repeat' (first | exact Gr.refl _ | exact Nat.le_refl _ | exact Nat.le_add_right _ _ | refine Gr.setCell ?_ ?_ _ | refine Gr.alloc ?_ _ | refine Gr.drew ?_ | refine Gr.trans ?_ (by assumption) | omega | (dsimp only; omega))
  have hr := Hyes.out rfl
  obtain ⟨hn, hrun⟩ := Hix.out rfl
  obtain ⟨hm, hrun2⟩ := Hiy.out rfl
  have hfi := fw_int (intN x)
  have hfj := fw_int (intN y)
  obtain ⟨e1, u1'⟩ : ∃ b, eqB x = b := ⟨_, rfl⟩
  obtain ⟨e2, u2'⟩ : ∃ b, eqB y = b := ⟨_, rfl⟩
  have u1 : (FloatKind.f64.format.order (Fl.fw (intN x)) x == some .eq) = e1 := by rw [← u1']; exact (Fl.order_swap _ _)
  have u2 : (FloatKind.f64.format.order (Fl.fw (intN y)) y == some .eq) = e2 := by rw [← u2']; exact (Fl.order_swap _ _)
  rw [u1', u2'] at hr
  clear u1' u2' Hno Hyes Hix Hiy
  generalize intN x = n at *
  generalize intN y = m at *
  subst hr
  cases e1 <;> cases e2
  all_goals
    go_enter Tryd.func22, Tryd.ntmps22
    go_wp2_with fail
    go_region
    go_wp2
    refine bodyPost_ret (by simp [results, Tryd.results22, go_sem]; try rfl) rfl ⟨rfl, ?_⟩
    repeat' (first | exact Gr.refl _ | exact Nat.le_refl _ | exact Nat.le_add_right _ _ | refine Gr.setCell ?_ ?_ _ | refine Gr.alloc ?_ _ | refine Gr.drew ?_ | refine Gr.trans ?_ (by assumption) | omega | (dsimp only; omega))
attribute [local go_sem] Rg.once_normal Rg.once_exit Rg.once_ret Rg.once_panic Rg.once_goto Rg.leads_value Rg.leads_skip Rg.leads_enter Rg.brings_value Rg.brings_skip Rg.brings_enter
theorem intN_zero : intN 0 = 0 := by
  unfold intN
  rw [Fl.read_zero]
  decide
theorem zero_ok : Fl.inB 0 = true ∧ eqB 0 = true := by
  have z : Fl.For 0 0 := ⟨0, -1074, Fl.read_zero, Fl.is_zero _⟩
  refine ⟨?_, ?_⟩
  · rw [z.inB]; decide
  · unfold eqB
    rw [intN_zero, Fl.fw_zero, z.order z, Fl.cmp_eq]
    rfl
set_option maxHeartbeats 4000000 in
set_option maxRecDepth 100000 in
theorem rtext_any (x y : Nat) (w : World) : Calls Tryd.prog 7 #[.complex .f64 x y] w fun e w' => e = .returned (.string (partS x ++ ⟨#[43]⟩ ++ partS y ++ ⟨#[105]⟩)) ∧ Gr w w' := by
  have hx := partS_size x
  have hy := partS_size y
  have R1 := fun W => to_any x y W
  have R2 := fun W => to_any x 0 W
  have R3 := fun W => to_any 0 y W
  have ix : whB x = true → intN x ≤ 9007199254740992 := fun h => (int_run x (by unfold whB at h; simp at h; exact h.1)).1
  have iy : whB y = true → intN y ≤ 9007199254740992 := fun h => (int_run y (by unfold whB at h; simp at h; exact h.1)).1
  have px : partS x = if whB x then ⟨(Lib.decDigits (intN x)).toArray⟩ else ⟨#[63]⟩ := rfl
  have py : partS y = if whB y then ⟨(Lib.decDigits (intN y)).toArray⟩ else ⟨#[63]⟩ := rfl
  obtain ⟨z1, z2⟩ := zero_ok
  simp only [toV, z1, z2, intN_zero, Bool.and_true, Bool.true_and] at R1 R2 R3
  unfold whB at ix iy px py
  obtain ⟨b1, t1⟩ : ∃ b, Fl.inB x = b := ⟨_, rfl⟩
  obtain ⟨b2, t2⟩ : ∃ b, Fl.inB y = b := ⟨_, rfl⟩
  obtain ⟨e1, t3⟩ : ∃ b, eqB x = b := ⟨_, rfl⟩
  obtain ⟨e2, t4⟩ : ∃ b, eqB y = b := ⟨_, rfl⟩
  rw [t1] at R1 R2 px ix
  rw [t2] at R1 R3 py iy
  rw [t3] at R1 R2 px ix
  rw [t4] at R1 R3 py iy
  clear t1 t2 t3 t4 z1 z2
  generalize partS x = sx at *
  generalize partS y = sy at *
  generalize intN x = n at *
  generalize intN y = m at *
  have W1 : n ≤ 9007199254740992 → ∀ W, _ := fun h W => whole_any n W (by omega)
  have W2 : m ≤ 9007199254740992 → ∀ W, _ := fun h W => whole_any m W (by omega)
  have HW1 := hid W1
  have HW2 := hid W2
  have Hix := hid ix
  have Hiy := hid iy
  have Hpx := hid px
  have Hpy := hid py
  clear W1 W2 ix iy px py
  cases b1 <;> cases b2 <;> cases e1 <;> cases e2
  all_goals
    simp only [Bool.and_self, Bool.and_false, Bool.and_true, Bool.false_and, Bool.true_and, if_true, Bool.false_eq_true, if_false] at R1 R2 R3
  all_goals
    have sx' := Hpx.out
    have sy' := Hpy.out
    simp only [Bool.and_self, Bool.and_false, Bool.and_true, Bool.false_and, Bool.true_and, if_true, Bool.false_eq_true, if_false] at sx' sy'
    (first | (have W1 := HW1.out (Hix.out rfl); rw [← sx'] at W1; clear sx') | subst sx')
    (first | (have W2 := HW2.out (Hiy.out rfl); rw [← sy'] at W2; clear sy') | subst sy')
    clear HW1 HW2 Hix Hiy Hpx Hpy
  case true.true.true.true =>
    have c1 : ¬ (9223372036854775807 < sx.size + 1) := by omega
    have c2 : ¬ (9223372036854775807 < sx.size + 1 + sy.size) := by omega
    have c3 : ¬ (9223372036854775807 < sx.size + 1 + sy.size + 1) := by omega
    go_enter Tryd.func7, Tryd.ntmps7
    go_wp2_with (first | (go_at_call 22; ((with_reducible refine (R1 _).mono ?_)); rintro e w' ⟨rfl, hg⟩; have hc := hg.cells; have hf := hg.frees; have hz := hg.size; (try simp only [World.size_alloc, World.size_setCell, World.size_drew] at hz); (try have : 0 < w'.heap.size := by omega); (try have : w.heap.size < w'.heap.size := by omega); (try have : w.heap.size + 1 < w'.heap.size := by omega); (try have : w.heap.size + 1 + 1 < w'.heap.size := by omega); (try have : w.heap.size + 1 + 1 + 1 < w'.heap.size := by omega)))
    refine Rg.region_text 9 (Below.drew (Below.refl _ _)) (by kernel_rfl) (by kernel_rfl) (fun _ _ d _ _ h => by cases d <;> exact h) ?_
    simp only [List.append_eq, List.cons_append, List.nil_append, List.take_succ_cons, List.take_zero, List.drop_succ_cons, List.drop_zero]
    repeat (first
        | (refine Rg.wpDets_skip (by rfl) ?_; simp only [Act.put, List.setIfInBounds_toArray, List.set_cons_zero, List.set_cons_succ])
        | (refine Rg.wpDets_step ?_ (by rfl) (fun w hS => ?_) ?_
           rotate_left
           · have hc := Gr.cells hS
             have hf := Gr.frees hS
             go_simp
             first
             | (refine ⟨?_, Below.refl _ _⟩; with_reducible rfl)
             | ((with_reducible refine (W1 _).mono ?_); rintro e w' ⟨rfl, hg⟩; refine ⟨?_, hg⟩; with_reducible rfl)
             | ((with_reducible refine (W2 _).mono ?_); rintro e w' ⟨rfl, hg⟩; refine ⟨?_, hg⟩; with_reducible rfl)
           simp only [Act.put, List.setIfInBounds_toArray, List.set_cons_zero, List.set_cons_succ]))
    refine Rg.wpDets_nil ?_
    refine Rg.wpFlts_nil ?_
    refine Rg.wpLays_nil ?_
    intro w' hK
    have hg : Gr _ w' := hK.up
    have hc := hg.cells
    have hf := hg.frees
    have hz := hg.size
    try simp only [World.size_alloc, World.size_setCell, World.size_drew] at hz
    try have : 0 < w'.heap.size := by omega
    try have : w.heap.size < w'.heap.size := by omega
    try have : w.heap.size + 1 < w'.heap.size := by omega
    try have : w.heap.size + 1 + 1 < w'.heap.size := by omega
    try have : w.heap.size + 1 + 1 + 1 < w'.heap.size := by omega
    go_wp2
    all_goals
      (try (go_step3; (try simp only [Exit.then]); (try change Rg.once _ _ _ _ _ _); rw [Rg.once_goto]; go_wp2))
      (try rw [Rg.once_ret])
      (try rw [Exit.noGoto_ret])
      (try change bodyPost _ _ _ _ _ _)
      first
      | (go_returns; refine ⟨?_, ?_⟩)
      | (refine bodyPost_ret (by simp [results, Tryd.results7, go_sem, *]; try rfl) rfl ⟨?_, ?_⟩)
      rotate_left
      · repeat' (first | exact Gr.refl _ | exact Nat.le_refl _ | exact Nat.le_add_right _ _ | refine Gr.setCell ?_ ?_ _ | refine Gr.alloc ?_ _ | refine Gr.drew ?_ | refine Gr.trans ?_ (by assumption) | omega | (dsimp only; omega))
    all_goals rfl
  all_goals
    go_enter Tryd.func7, Tryd.ntmps7
    go_wp2_with (first | (go_at_call 22; ((with_reducible refine (R1 _).mono ?_)); rintro e w' ⟨rfl, hg⟩; have hc := hg.cells; have hf := hg.frees; have hz := hg.size; (try simp only [World.size_alloc, World.size_setCell, World.size_drew] at hz); (try have : 0 < w'.heap.size := by omega); (try have : w.heap.size < w'.heap.size := by omega); (try have : w.heap.size + 1 < w'.heap.size := by omega); (try have : w.heap.size + 1 + 1 < w'.heap.size := by omega); (try have : w.heap.size + 1 + 1 + 1 < w'.heap.size := by omega)) | (go_at_call 22; ((with_reducible refine (R2 _).mono ?_)); rintro e w' ⟨rfl, hg⟩; have hc := hg.cells; have hf := hg.frees; have hz := hg.size; (try simp only [World.size_alloc, World.size_setCell, World.size_drew] at hz); (try have : 0 < w'.heap.size := by omega); (try have : w.heap.size < w'.heap.size := by omega); (try have : w.heap.size + 1 < w'.heap.size := by omega); (try have : w.heap.size + 1 + 1 < w'.heap.size := by omega); (try have : w.heap.size + 1 + 1 + 1 < w'.heap.size := by omega)) | (go_at_call 22; ((with_reducible refine (R3 _).mono ?_)); rintro e w' ⟨rfl, hg⟩; have hc := hg.cells; have hf := hg.frees; have hz := hg.size; (try simp only [World.size_alloc, World.size_setCell, World.size_drew] at hz); (try have : 0 < w'.heap.size := by omega); (try have : w.heap.size < w'.heap.size := by omega); (try have : w.heap.size + 1 < w'.heap.size := by omega); (try have : w.heap.size + 1 + 1 < w'.heap.size := by omega); (try have : w.heap.size + 1 + 1 + 1 < w'.heap.size := by omega)) | (go_at_call 23; ((with_reducible refine (W1 _).mono ?_)); rintro e w' ⟨rfl, hg⟩; have hc := hg.cells; have hf := hg.frees; have hz := hg.size; (try simp only [World.size_alloc, World.size_setCell, World.size_drew] at hz); (try have : 0 < w'.heap.size := by omega); (try have : w.heap.size < w'.heap.size := by omega); (try have : w.heap.size + 1 < w'.heap.size := by omega); (try have : w.heap.size + 1 + 1 < w'.heap.size := by omega); (try have : w.heap.size + 1 + 1 + 1 < w'.heap.size := by omega)) | (go_at_call 23; ((with_reducible refine (W2 _).mono ?_)); rintro e w' ⟨rfl, hg⟩; have hc := hg.cells; have hf := hg.frees; have hz := hg.size; (try simp only [World.size_alloc, World.size_setCell, World.size_drew] at hz); (try have : 0 < w'.heap.size := by omega); (try have : w.heap.size < w'.heap.size := by omega); (try have : w.heap.size + 1 < w'.heap.size := by omega); (try have : w.heap.size + 1 + 1 < w'.heap.size := by omega); (try have : w.heap.size + 1 + 1 + 1 < w'.heap.size := by omega)))
    all_goals
      (try (go_step3; (try simp only [Exit.then]); (try change Rg.once _ _ _ _ _ _); rw [Rg.once_goto]; go_wp2))
      (try rw [Rg.once_ret])
      (try rw [Exit.noGoto_ret])
      (try change bodyPost _ _ _ _ _ _)
      first
      | (go_returns; refine ⟨?_, ?_⟩)
      | (refine bodyPost_ret (by simp [results, Tryd.results7, go_sem, *]; try rfl) rfl ⟨?_, ?_⟩)
      rotate_left
      · repeat' (first | exact Gr.refl _ | exact Nat.le_refl _ | exact Nat.le_add_right _ _ | refine Gr.setCell ?_ ?_ _ | refine Gr.alloc ?_ _ | refine Gr.drew ?_ | refine Gr.trans ?_ (by assumption) | omega | (dsimp only; omega))
    all_goals rfl
end Go.Proofs.YtemhfaknmagebaaDoor
