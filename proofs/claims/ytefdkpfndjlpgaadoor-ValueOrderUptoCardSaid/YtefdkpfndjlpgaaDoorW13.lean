/- What the document fixes. -/
import Derived.Test.YtefdkpfndjlpgaaDoorW12
import Derived.Test.YtefdkpfndjlpgaaDoorGrow2
namespace Go.Proofs.YtefdkpfndjlpgaaDoor
open Go.RowKit
set_option linter.unusedSimpArgs false
set_option linter.unusedVariables false
attribute [local go_sem] Rg.once_normal Rg.once_exit Rg.once_ret Rg.once_panic Rg.once_goto Rg.leads_value Rg.leads_skip Rg.leads_enter Rg.brings_value Rg.brings_skip Rg.brings_enter
def itsT : ByteArray := ⟨#[105, 116, 39, 115]⟩
theorem its_replaced : Lib.replaceAll itsT.data.toList [39] [39, 39] = [105, 116, 39, 39, 115] := by decide +kernel
set_option maxHeartbeats 1000000 in
set_option maxRecDepth 100000 in
theorem text_its (m : Int) (w : World) (hm : w.cell? ⟨0, 0, none⟩ = some (.int .i64 m)) :
    Calls Tryd.prog 35 #[.agg #[.int .i64 2, .int .i64 0, .string ⟨#[105, 116, 39, 115]⟩, .bool false]] w fun e w' => e = .returned (.string ⟨#[39, 105, 116, 39, 39, 115, 39]⟩) ∧ Gr w w' := by
  have h0 : 0 < w.heap.size := lt_of_cell hm
  have R := fun W (hW : W.cell? ⟨0, 0, none⟩ = some (.int .i64 m)) => Tryd.strings_ReplaceAll itsT ⟨#[39]⟩ ⟨#[39, 39]⟩ m W (by decide) hW (by decide) (by decide +kernel)
  simp only [its_replaced] at R
  unfold itsT at R
  go_enter Tryd.func35, Tryd.ntmps35
  go_wp2_with fail
  refine (R _ (by go_simp)).mono ?_
  rintro e w' ⟨rfl, hg0⟩
  have hg : Gr _ w' := hg0
  go_wp2
  all_goals
    (try (go_step3; (try simp only [Exit.then]); (try change Rg.once _ _ _ _ _ _); rw [Rg.once_goto]; go_wp2))
    (try rw [Rg.once_ret])
    (try rw [Exit.noGoto_ret])
    (try change bodyPost _ _ _ _ _ _)
    first
    | (go_returns; refine ⟨?_, ?_⟩)
    | (refine bodyPost_ret (by simp [results, Tryd.results35, go_sem, *]; try rfl) rfl ⟨?_, ?_⟩)
    rotate_left
    · repeat' (first | exact Gr.refl _ | exact Nat.le_refl _ | exact Nat.le_add_right _ _ | refine Gr.setCell ?_ ?_ _ | refine Gr.alloc ?_ _ | refine Gr.drew ?_ | refine Gr.trans ?_ (by assumption) | omega | (dsimp only; omega))
  all_goals rfl
set_option maxHeartbeats 2000000 in
set_option maxRecDepth 100000 in
theorem awake_any (m : Int) (w : World) (hm : w.cell? ⟨0, 0, none⟩ = some (.int .i64 m)) :
    Calls Tryd.prog 12 #[] w fun e w' => e = .returned (.bool true) ∧ Gr w w' := by
  have h0 : 0 < w.heap.size := lt_of_cell hm
  have M1 := fun W => math_num 21 (numV (-7)) (numV 2) W (by omega) (by omega) rfl rfl
  have M2 := fun W => and_any nul (boolV false) W
  have M3 := fun W => math_num 21 (numV 1) (numV 0) W (by omega) (by omega) rfl rfl
  have r1 : mathIn 21 (numV (-7)) (numV 2) 1 = (numV (-3), 0) := by kernel_rfl
  have r2 : andR nul (boolV false) = (boolV false, 0) := by kernel_rfl
  have r3 : mathIn 21 (numV 1) (numV 0) 1 = (nul, 162) := by kernel_rfl
  rw [r1] at M1
  rw [r2] at M2
  rw [r3] at M3
  clear r1 r2 r3
  simp only [pairR, V.val, numV, boolV, nul] at M1 M2 M3
  have L := fun n W => lint_any n W
  have T := fun W => ltruth_any false W
  have X := fun W => ltext_any ⟨#[105, 116, 39, 115]⟩ W
  have Y := fun W (hW : W.cell? ⟨0, 0, none⟩ = some (.int .i64 m)) => text_its m W hW
  have E1 := fun W => v_equal (numV (-3)) (numV (-3)) W
  have E2 := fun W => v_equal (boolV false) (boolV false) W
  have e1 : veqB (numV (-3)) (numV (-3)) = true := by decide +kernel
  have e2 : veqB (boolV false) (boolV false) = true := by decide +kernel
  rw [e1] at E1
  rw [e2] at E2
  clear e1 e2
  simp only [V.val, numV, boolV] at E1 E2
  have tg := v_guard
  go_enter Tryd.func12, Tryd.ntmps12
  go_wp2_with fail
  refine (L _ _).mono ?_
  rintro e w1 ⟨rfl, hg⟩
  have hc := Gr.cells hg
  have hf := Gr.frees hg
  have hz := Gr.size hg
  try simp only [World.size_alloc, World.size_setCell, World.size_drew] at hz
  try have : 0 < w1.heap.size := by omega
  try have : w.heap.size < w1.heap.size := by omega
  go_wp2_with fail
  refine (L _ _).mono ?_
  rintro e w2 ⟨rfl, hg⟩
  have hc := Gr.cells hg
  have hf := Gr.frees hg
  have hz := Gr.size hg
  try simp only [World.size_alloc, World.size_setCell, World.size_drew] at hz
  try have : 0 < w2.heap.size := by omega
  try have : w.heap.size < w2.heap.size := by omega
  try have : w1.heap.size < w2.heap.size := by omega
  try have : w1.heap.size + 1 < w2.heap.size := by omega
  go_wp2_with fail
  refine (M1 _).mono ?_
  rintro e w3 ⟨rfl, hg⟩
  have hc := Gr.cells hg
  have hf := Gr.frees hg
  have hz := Gr.size hg
  try simp only [World.size_alloc, World.size_setCell, World.size_drew] at hz
  try have : 0 < w3.heap.size := by omega
  try have : w.heap.size < w3.heap.size := by omega
  try have : w1.heap.size < w3.heap.size := by omega
  try have : w1.heap.size + 1 < w3.heap.size := by omega
  try have : w2.heap.size < w3.heap.size := by omega
  try have : w2.heap.size + 1 < w3.heap.size := by omega
  go_wp2_with fail
  refine (T _).mono ?_
  rintro e w4 ⟨rfl, hg⟩
  have hc := Gr.cells hg
  have hf := Gr.frees hg
  have hz := Gr.size hg
  try simp only [World.size_alloc, World.size_setCell, World.size_drew] at hz
  try have : 0 < w4.heap.size := by omega
  try have : w.heap.size < w4.heap.size := by omega
  try have : w1.heap.size < w4.heap.size := by omega
  try have : w1.heap.size + 1 < w4.heap.size := by omega
  try have : w2.heap.size < w4.heap.size := by omega
  try have : w2.heap.size + 1 < w4.heap.size := by omega
  try have : w3.heap.size < w4.heap.size := by omega
  try have : w3.heap.size + 1 < w4.heap.size := by omega
  go_wp2_with fail
  refine (M2 _).mono ?_
  rintro e w5 ⟨rfl, hg⟩
  have hc := Gr.cells hg
  have hf := Gr.frees hg
  have hz := Gr.size hg
  try simp only [World.size_alloc, World.size_setCell, World.size_drew] at hz
  try have : 0 < w5.heap.size := by omega
  try have : w.heap.size < w5.heap.size := by omega
  try have : w1.heap.size < w5.heap.size := by omega
  try have : w1.heap.size + 1 < w5.heap.size := by omega
  try have : w2.heap.size < w5.heap.size := by omega
  try have : w2.heap.size + 1 < w5.heap.size := by omega
  try have : w3.heap.size < w5.heap.size := by omega
  try have : w3.heap.size + 1 < w5.heap.size := by omega
  try have : w4.heap.size < w5.heap.size := by omega
  try have : w4.heap.size + 1 < w5.heap.size := by omega
  go_wp2_with fail
  refine (L _ _).mono ?_
  rintro e w6 ⟨rfl, hg⟩
  have hc := Gr.cells hg
  have hf := Gr.frees hg
  have hz := Gr.size hg
  try simp only [World.size_alloc, World.size_setCell, World.size_drew] at hz
  try have : 0 < w6.heap.size := by omega
  try have : w.heap.size < w6.heap.size := by omega
  try have : w1.heap.size < w6.heap.size := by omega
  try have : w1.heap.size + 1 < w6.heap.size := by omega
  try have : w2.heap.size < w6.heap.size := by omega
  try have : w2.heap.size + 1 < w6.heap.size := by omega
  try have : w3.heap.size < w6.heap.size := by omega
  try have : w3.heap.size + 1 < w6.heap.size := by omega
  try have : w4.heap.size < w6.heap.size := by omega
  try have : w4.heap.size + 1 < w6.heap.size := by omega
  try have : w5.heap.size < w6.heap.size := by omega
  try have : w5.heap.size + 1 < w6.heap.size := by omega
  go_wp2_with fail
  refine (L _ _).mono ?_
  rintro e w7 ⟨rfl, hg⟩
  have hc := Gr.cells hg
  have hf := Gr.frees hg
  have hz := Gr.size hg
  try simp only [World.size_alloc, World.size_setCell, World.size_drew] at hz
  try have : 0 < w7.heap.size := by omega
  try have : w.heap.size < w7.heap.size := by omega
  try have : w1.heap.size < w7.heap.size := by omega
  try have : w1.heap.size + 1 < w7.heap.size := by omega
  try have : w2.heap.size < w7.heap.size := by omega
  try have : w2.heap.size + 1 < w7.heap.size := by omega
  try have : w3.heap.size < w7.heap.size := by omega
  try have : w3.heap.size + 1 < w7.heap.size := by omega
  try have : w4.heap.size < w7.heap.size := by omega
  try have : w4.heap.size + 1 < w7.heap.size := by omega
  try have : w5.heap.size < w7.heap.size := by omega
  try have : w5.heap.size + 1 < w7.heap.size := by omega
  try have : w6.heap.size < w7.heap.size := by omega
  try have : w6.heap.size + 1 < w7.heap.size := by omega
  go_wp2_with fail
  refine (M3 _).mono ?_
  rintro e w8 ⟨rfl, hg⟩
  have hc := Gr.cells hg
  have hf := Gr.frees hg
  have hz := Gr.size hg
  try simp only [World.size_alloc, World.size_setCell, World.size_drew] at hz
  try have : 0 < w8.heap.size := by omega
  try have : w.heap.size < w8.heap.size := by omega
  try have : w1.heap.size < w8.heap.size := by omega
  try have : w1.heap.size + 1 < w8.heap.size := by omega
  try have : w2.heap.size < w8.heap.size := by omega
  try have : w2.heap.size + 1 < w8.heap.size := by omega
  try have : w3.heap.size < w8.heap.size := by omega
  try have : w3.heap.size + 1 < w8.heap.size := by omega
  try have : w4.heap.size < w8.heap.size := by omega
  try have : w4.heap.size + 1 < w8.heap.size := by omega
  try have : w5.heap.size < w8.heap.size := by omega
  try have : w5.heap.size + 1 < w8.heap.size := by omega
  try have : w6.heap.size < w8.heap.size := by omega
  try have : w6.heap.size + 1 < w8.heap.size := by omega
  try have : w7.heap.size < w8.heap.size := by omega
  try have : w7.heap.size + 1 < w8.heap.size := by omega
  go_wp2_with fail
  have H0 : w8.cell? ⟨0, 0, none⟩ = some (.int .i64 m) := by go_simp
  refine Rg.region_plan 25 [0, 1, 2, 3, 4, 5, 6, 7, 8, 9, 10, 11, 12, 13, 14, 15, 16, 17, 18, 19, 20, 21, 22, 23, 24] [] [] (Below.drew (Below.refl _ _)) (by kernel_rfl) (by kernel_rfl) (fun _ _ d _ _ h => by cases d <;> exact h) ?_
  simp only [Rg.opsAt, List.filterMap_cons, List.filterMap_nil, List.getElem?_toArray, List.getElem?_cons_zero, List.getElem?_cons_succ, List.drop_succ_cons, List.drop_zero]
  repeat (first
      | (refine Rg.wpDets_skip (by rfl) ?_; simp only [Act.put, List.setIfInBounds_toArray, List.set_cons_zero, List.set_cons_succ])
      | (refine Rg.wpDets_step ?_ (by rfl) (fun w hS => ?_) ?_
         rotate_left
         · have hc := Gr.cells hS
           have hf := Gr.frees hS
           go_simp
           first
           | (refine ⟨?_, Below.refl _ _⟩; with_reducible rfl)
           | ((with_reducible refine (L _ _).mono ?_); rintro e w' ⟨rfl, hg⟩; refine ⟨?_, hg⟩; with_reducible rfl)
           | ((with_reducible refine (T _).mono ?_); rintro e w' ⟨rfl, hg⟩; refine ⟨?_, hg⟩; with_reducible rfl)
           | ((with_reducible refine (X _).mono ?_); rintro e w' ⟨rfl, hg⟩; refine ⟨?_, hg⟩; with_reducible rfl)
           | ((with_reducible refine (Y _ (by go_simp)).mono ?_); rintro e w' ⟨rfl, hg⟩; refine ⟨?_, hg⟩; with_reducible rfl)
         simp only [Act.put, List.setIfInBounds_toArray, List.set_cons_zero, List.set_cons_succ]))
  refine Rg.wpDets_nil ?_
  refine Rg.wpFlts_nil ?_
  refine Rg.wpLays_nil ?_
  intro w' hK
  have hg : Gr _ w' := hK.up
  have hc := hg.cells
  have hf := hg.frees
  have hz := hg.size
  try simp only [World.size_alloc, World.size_setCell, World.size_drew] at hz
  try have : 0 < w'.heap.size := by omega
  try have : w.heap.size < w'.heap.size := by omega
  go_wp2
  all_goals
    (try (go_step3; (try simp only [Exit.then]); (try change Rg.once _ _ _ _ _ _); rw [Rg.once_goto]; go_wp2))
    (try rw [Rg.once_ret])
    (try rw [Exit.noGoto_ret])
    (try change bodyPost _ _ _ _ _ _)
    first
    | (go_returns; refine ⟨?_, ?_⟩)
    | (refine bodyPost_ret (by simp [results, Tryd.results12, go_sem, *]; try rfl) rfl ⟨?_, ?_⟩)
    rotate_left
    · repeat' (first | exact Gr.refl _ | exact Nat.le_refl _ | exact Nat.le_add_right _ _ | refine Gr.setCell ?_ ?_ _ | refine Gr.alloc ?_ _ | refine Gr.drew ?_ | refine Gr.trans ?_ (by assumption) | omega | (dsimp only; omega))
  all_goals rfl
end Go.Proofs.YtefdkpfndjlpgaaDoor
