/- ValueLogic: the law's walk. -/
import Derived.Test.YtefdkpfndjlpgaaDoorDv
import Derived.Deep.DeepCutAuto
import Derived.Deep.RegionHeld3
namespace Go.Proofs.YtefdkpfndjlpgaaDoor
open Go.RowKit
set_option linter.unusedSimpArgs false
set_option linter.unusedVariables false
attribute [local go_sem] Rg.once_normal Rg.once_exit Rg.once_ret Rg.once_panic Rg.once_goto Rg.leads_value Rg.leads_skip Rg.leads_enter Rg.brings_value Rg.brings_skip Rg.brings_enter
set_option maxHeartbeats 2000000 in
set_option maxRecDepth 100000 in
theorem land_any (a b : V) (w : World) : Calls Tryd.prog 17 #[a.val, b.val] w fun e w' => e = .returned (andR a b).1.val ∧ Gr w w' := by
  have S := fun W => and_any a b W
  generalize andR a b = R at *
  obtain ⟨t, n, s, b'⟩ := a
  obtain ⟨t2, n2, s2, b2'⟩ := b
  obtain ⟨⟨rt, rn, rs, rb⟩, re⟩ := R
  simp only [pairR, V.val] at S ⊢
  go_enter Tryd.func17, Tryd.ntmps17
  go_wp2_with fail
  refine (S _).mono ?_
  rintro e w1 ⟨rfl, hg⟩
  have hc := Gr.cells hg
  have hf := Gr.frees hg
  have hz := Gr.size hg
  try simp only [World.size_alloc, World.size_setCell, World.size_drew] at hz
  try have : 0 < w1.heap.size := by omega
  try have : w.heap.size < w1.heap.size := by omega
  try have : w.heap.size + 1 < w1.heap.size := by omega
  try have : w.heap.size + 1 + 1 < w1.heap.size := by omega
  go_wp2
  all_goals
    (try (go_step3; (try simp only [Exit.then]); (try change Rg.once _ _ _ _ _ _); rw [Rg.once_goto]; go_wp2))
    (try rw [Rg.once_ret])
    (try rw [Exit.noGoto_ret])
    (try change bodyPost _ _ _ _ _ _)
    first
    | (go_returns; refine ⟨?_, ?_⟩)
    | (refine bodyPost_ret (by simp [results, Tryd.results17, go_sem, *]; try rfl) rfl ⟨?_, ?_⟩)
    rotate_left
    · repeat' (first | exact Gr.refl _ | exact Nat.le_refl _ | exact Nat.le_add_right _ _ | refine Gr.setCell ?_ ?_ _ | refine Gr.alloc ?_ _ | refine Gr.drew ?_ | refine Gr.trans ?_ (by assumption) | omega | (dsimp only; omega))
  all_goals rfl
set_option maxHeartbeats 2000000 in
set_option maxRecDepth 100000 in
theorem lor_any (a b : V) (w : World) : Calls Tryd.prog 19 #[a.val, b.val] w fun e w' => e = .returned (orR a b).1.val ∧ Gr w w' := by
  have S := fun W => or_any a b W
  generalize orR a b = R at *
  obtain ⟨t, n, s, b'⟩ := a
  obtain ⟨t2, n2, s2, b2'⟩ := b
  obtain ⟨⟨rt, rn, rs, rb⟩, re⟩ := R
  simp only [pairR, V.val] at S ⊢
  go_enter Tryd.func19, Tryd.ntmps19
  go_wp2_with fail
  refine (S _).mono ?_
  rintro e w1 ⟨rfl, hg⟩
  have hc := Gr.cells hg
  have hf := Gr.frees hg
  have hz := Gr.size hg
  try simp only [World.size_alloc, World.size_setCell, World.size_drew] at hz
  try have : 0 < w1.heap.size := by omega
  try have : w.heap.size < w1.heap.size := by omega
  try have : w.heap.size + 1 < w1.heap.size := by omega
  try have : w.heap.size + 1 + 1 < w1.heap.size := by omega
  go_wp2
  all_goals
    (try (go_step3; (try simp only [Exit.then]); (try change Rg.once _ _ _ _ _ _); rw [Rg.once_goto]; go_wp2))
    (try rw [Rg.once_ret])
    (try rw [Exit.noGoto_ret])
    (try change bodyPost _ _ _ _ _ _)
    first
    | (go_returns; refine ⟨?_, ?_⟩)
    | (refine bodyPost_ret (by simp [results, Tryd.results19, go_sem, *]; try rfl) rfl ⟨?_, ?_⟩)
    rotate_left
    · repeat' (first | exact Gr.refl _ | exact Nat.le_refl _ | exact Nat.le_add_right _ _ | refine Gr.setCell ?_ ?_ _ | refine Gr.alloc ?_ _ | refine Gr.drew ?_ | refine Gr.trans ?_ (by assumption) | omega | (dsimp only; omega))
  all_goals rfl
set_option maxHeartbeats 2000000 in
set_option maxRecDepth 100000 in
theorem lnot_any (a : V) (w : World) : Calls Tryd.prog 21 #[a.val] w fun e w' => e = .returned (notR a).1.val ∧ Gr w w' := by
  have S := fun W => not_any a W
  generalize notR a = R at *
  obtain ⟨t, n, s, b'⟩ := a
  obtain ⟨⟨rt, rn, rs, rb⟩, re⟩ := R
  simp only [pairR, V.val] at S ⊢
  go_enter Tryd.func21, Tryd.ntmps21
  go_wp2_with fail
  refine (S _).mono ?_
  rintro e w1 ⟨rfl, hg⟩
  have hc := Gr.cells hg
  have hf := Gr.frees hg
  have hz := Gr.size hg
  try simp only [World.size_alloc, World.size_setCell, World.size_drew] at hz
  try have : 0 < w1.heap.size := by omega
  try have : w.heap.size < w1.heap.size := by omega
  try have : w.heap.size + 1 < w1.heap.size := by omega
  go_wp2
  all_goals
    (try (go_step3; (try simp only [Exit.then]); (try change Rg.once _ _ _ _ _ _); rw [Rg.once_goto]; go_wp2))
    (try rw [Rg.once_ret])
    (try rw [Exit.noGoto_ret])
    (try change bodyPost _ _ _ _ _ _)
    first
    | (go_returns; refine ⟨?_, ?_⟩)
    | (refine bodyPost_ret (by simp [results, Tryd.results21, go_sem, *]; try rfl) rfl ⟨?_, ?_⟩)
    rotate_left
    · repeat' (first | exact Gr.refl _ | exact Nat.le_refl _ | exact Nat.le_add_right _ _ | refine Gr.setCell ?_ ?_ _ | refine Gr.alloc ?_ _ | refine Gr.drew ?_ | refine Gr.trans ?_ (by assumption) | omega | (dsimp only; omega))
  all_goals rfl
end Go.Proofs.YtefdkpfndjlpgaaDoor
