/- ValueDivides: the law's walk. -/
import Derived.Test.YtefdkpfndjlpgaaDoorW13
namespace Go.Proofs.YtefdkpfndjlpgaaDoor
open Go.RowKit
set_option linter.unusedSimpArgs false
set_option linter.unusedVariables false
attribute [local go_sem] Rg.once_normal Rg.once_exit Rg.once_ret Rg.once_panic Rg.once_goto Rg.leads_value Rg.leads_skip Rg.leads_enter Rg.brings_value Rg.brings_skip Rg.brings_enter
theorem math_ints (op a b : Int) (h : (op == 23) = false) : mathIn op (numV a) (numV b) 1 = arithR op a b := by
  unfold mathIn
  have h1 : (typedB 1 [numV a, numV b]) = (true, false) := by unfold typedB typedFrom numV; simp [typedFrom]
  rw [h1, h]
  rfl
/-- the numbers' contract: what a sign says of two ints -/
theorem math_int (op a b : Int) (W : World) (h1 : 18 ≤ op) (h2 : op ≤ 22) (ha : Bd a) (hb : Bd b) :
    Calls Tryd.prog 10 #[.int .i64 op, .agg #[.int .i64 1, .int .i64 a, .string ⟨#[]⟩, .bool false], .agg #[.int .i64 1, .int .i64 b, .string ⟨#[]⟩, .bool false]] W fun e w' => e = pairR (arithR op a b) ∧ Gr W w' := by
  have := math_num op (numV a) (numV b) W h1 h2 ((Vl.fits_iff a).2 ha) ((Vl.fits_iff b).2 hb)
  rw [math_ints op a b (by simp; omega)] at this
  exact this
theorem same_num (a b : Int) (W : World) : (Op.equalIn 10000 23 (.agg #[.int .i64 1, .int .i64 a, .string ⟨#[]⟩, .bool false]) (.agg #[.int .i64 1, .int .i64 b, .string ⟨#[]⟩, .bool false])).run Tryd.prog W = .ok (a == b) W := by
  have := v_equal (numV a) (numV b) W
  have e : veqB (numV a) (numV b) = (a == b) := by unfold veqB numV; simp
  rw [e] at this
  exact this
def Yes (w : World) (e : Ending) (w' : World) : Prop := e = .returned (.bool true) ∧ Gr w w'
set_option maxHeartbeats 2000000 in
set_option maxRecDepth 100000 in
theorem divides_zero (a b m : Int) (w : World) (hm : w.cell? ⟨0, 0, none⟩ = some (.int .i64 m)) (ha : Bd a) (hb : Bd b) (h0 : (b == 0) = true) : Calls Tryd.prog 3 #[.int .i64 a, .int .i64 b] w (Yes w) := by
  have hpos : 0 < w.heap.size := lt_of_cell hm
  have M1 := fun W => math_int 21 a b W (by omega) (by omega) ha hb
  have M2 := fun W => math_int 22 a b W (by omega) (by omega) ha hb
  have r1 : arithR 21 a b = (nul, 162) := by unfold arithR; rw [h0]; rfl
  have r2 : arithR 22 a b = (nul, 162) := by unfold arithR; rw [h0]; rfl
  rw [r1] at M1
  rw [r2] at M2
  clear r1 r2 ha hb
  simp only [pairR, nul] at M1 M2
  have L := fun n W => lint_any n W
  go_enter Tryd.func3, Tryd.ntmps3
  go_wp2_with fail
  refine (L _ _).mono ?_
  rintro e w1 ⟨rfl, hg⟩
  have hc := Gr.cells hg
  have hf := Gr.frees hg
  have hz := Gr.size hg
  try simp only [World.size_alloc, World.size_setCell, World.size_drew] at hz
  try have : 0 < w1.heap.size := by omega
  try have : w.heap.size < w1.heap.size := by omega
  go_wp2_with fail
  refine (L _ _).mono ?_
  rintro e w2 ⟨rfl, hg⟩
  have hc := Gr.cells hg
  have hf := Gr.frees hg
  have hz := Gr.size hg
  try simp only [World.size_alloc, World.size_setCell, World.size_drew] at hz
  try have : 0 < w2.heap.size := by omega
  try have : w.heap.size < w2.heap.size := by omega
  try have : w1.heap.size < w2.heap.size := by omega
  try have : w1.heap.size + 1 < w2.heap.size := by omega
  go_wp2_with fail
  refine (M1 _).mono ?_
  rintro e w3 ⟨rfl, hg⟩
  have hc := Gr.cells hg
  have hf := Gr.frees hg
  have hz := Gr.size hg
  try simp only [World.size_alloc, World.size_setCell, World.size_drew] at hz
  try have : 0 < w3.heap.size := by omega
  try have : w.heap.size < w3.heap.size := by omega
  try have : w1.heap.size < w3.heap.size := by omega
  try have : w1.heap.size + 1 < w3.heap.size := by omega
  try have : w2.heap.size < w3.heap.size := by omega
  try have : w2.heap.size + 1 < w3.heap.size := by omega
  go_wp2_with fail
  refine (L _ _).mono ?_
  rintro e w4 ⟨rfl, hg⟩
  have hc := Gr.cells hg
  have hf := Gr.frees hg
  have hz := Gr.size hg
  try simp only [World.size_alloc, World.size_setCell, World.size_drew] at hz
  try have : 0 < w4.heap.size := by omega
  try have : w.heap.size < w4.heap.size := by omega
  try have : w1.heap.size < w4.heap.size := by omega
  try have : w1.heap.size + 1 < w4.heap.size := by omega
  try have : w2.heap.size < w4.heap.size := by omega
  try have : w2.heap.size + 1 < w4.heap.size := by omega
  try have : w3.heap.size < w4.heap.size := by omega
  try have : w3.heap.size + 1 < w4.heap.size := by omega
  go_wp2_with fail
  refine (L _ _).mono ?_
  rintro e w5 ⟨rfl, hg⟩
  have hc := Gr.cells hg
  have hf := Gr.frees hg
  have hz := Gr.size hg
  try simp only [World.size_alloc, World.size_setCell, World.size_drew] at hz
  try have : 0 < w5.heap.size := by omega
  try have : w.heap.size < w5.heap.size := by omega
  try have : w1.heap.size < w5.heap.size := by omega
  try have : w1.heap.size + 1 < w5.heap.size := by omega
  try have : w2.heap.size < w5.heap.size := by omega
  try have : w2.heap.size + 1 < w5.heap.size := by omega
  try have : w3.heap.size < w5.heap.size := by omega
  try have : w3.heap.size + 1 < w5.heap.size := by omega
  try have : w4.heap.size < w5.heap.size := by omega
  try have : w4.heap.size + 1 < w5.heap.size := by omega
  go_wp2_with fail
  refine (M2 _).mono ?_
  rintro e w6 ⟨rfl, hg⟩
  have hc := Gr.cells hg
  have hf := Gr.frees hg
  have hz := Gr.size hg
  try simp only [World.size_alloc, World.size_setCell, World.size_drew] at hz
  try have : 0 < w6.heap.size := by omega
  try have : w.heap.size < w6.heap.size := by omega
  try have : w1.heap.size < w6.heap.size := by omega
  try have : w1.heap.size + 1 < w6.heap.size := by omega
  try have : w2.heap.size < w6.heap.size := by omega
  try have : w2.heap.size + 1 < w6.heap.size := by omega
  try have : w3.heap.size < w6.heap.size := by omega
  try have : w3.heap.size + 1 < w6.heap.size := by omega
  try have : w4.heap.size < w6.heap.size := by omega
  try have : w4.heap.size + 1 < w6.heap.size := by omega
  try have : w5.heap.size < w6.heap.size := by omega
  try have : w5.heap.size + 1 < w6.heap.size := by omega
  go_wp2_with fail
  refine (awake_any m _ (by go_simp)).mono ?_
  rintro e w7 ⟨rfl, hg⟩
  have hc := Gr.cells hg
  have hf := Gr.frees hg
  have hz := Gr.size hg
  try simp only [World.size_alloc, World.size_setCell, World.size_drew] at hz
  try have : 0 < w7.heap.size := by omega
  try have : w.heap.size < w7.heap.size := by omega
  try have : w1.heap.size < w7.heap.size := by omega
  try have : w1.heap.size + 1 < w7.heap.size := by omega
  try have : w2.heap.size < w7.heap.size := by omega
  try have : w2.heap.size + 1 < w7.heap.size := by omega
  try have : w3.heap.size < w7.heap.size := by omega
  try have : w3.heap.size + 1 < w7.heap.size := by omega
  try have : w4.heap.size < w7.heap.size := by omega
  try have : w4.heap.size + 1 < w7.heap.size := by omega
  try have : w5.heap.size < w7.heap.size := by omega
  try have : w5.heap.size + 1 < w7.heap.size := by omega
  try have : w6.heap.size < w7.heap.size := by omega
  try have : w6.heap.size + 1 < w7.heap.size := by omega
  go_wp2
  all_goals
    (try (go_step3; (try simp only [Exit.then]); (try change Rg.once _ _ _ _ _ _); rw [Rg.once_goto]; go_wp2))
    (try rw [Rg.once_ret])
    (try rw [Exit.noGoto_ret])
    (try change bodyPost _ _ _ _ _ _)
    first
    | (go_returns; refine ⟨?_, ?_⟩)
    | (refine bodyPost_ret (by simp [results, Tryd.results3, go_sem, *]; try rfl) rfl ⟨?_, ?_⟩)
    rotate_left
    · repeat' (first | exact Gr.refl _ | exact Nat.le_refl _ | exact Nat.le_add_right _ _ | refine Gr.setCell ?_ ?_ _ | refine Gr.alloc ?_ _ | refine Gr.drew ?_ | refine Gr.trans ?_ (by assumption) | omega | (dsimp only; omega))
  all_goals rfl
set_option maxHeartbeats 2000000 in
set_option maxRecDepth 100000 in
theorem divides_over (a b m rn : Int) (w : World) (hm : w.cell? ⟨0, 0, none⟩ = some (.int .i64 m)) (h0 : (b == 0) = false) (h1 : (b == -1) = true) (h2 : (rn == 0) = true) (h3 : wrap64 (-a) = a) (h4 : (a == 0) = false)
    (M1 : ∀ W, Calls Tryd.prog 10 #[.int .i64 21, .agg #[.int .i64 1, .int .i64 a, .string ⟨#[]⟩, .bool false], .agg #[.int .i64 1, .int .i64 b, .string ⟨#[]⟩, .bool false]] W fun e w' => e = pairR (nul, 161) ∧ Gr W w')
    (M2 : ∀ W, Calls Tryd.prog 10 #[.int .i64 22, .agg #[.int .i64 1, .int .i64 a, .string ⟨#[]⟩, .bool false], .agg #[.int .i64 1, .int .i64 b, .string ⟨#[]⟩, .bool false]] W fun e w' => e = pairR (numV rn, 0) ∧ Gr W w') :
    Calls Tryd.prog 3 #[.int .i64 a, .int .i64 b] w (Yes w) := by
  have hpos : 0 < w.heap.size := lt_of_cell hm
  simp only [pairR, nul, numV] at M1 M2
  have L := fun n W => lint_any n W
  have E := fun W => same_num rn 0 W
  rw [h2] at E
  clear h2
  have h5 : (a == a) = true := by simp
  have h6 : (a != 0) = true := by simpa using h4
  have tg := v_guard
  go_enter Tryd.func3, Tryd.ntmps3
  go_wp2_with fail
  refine (L _ _).mono ?_
  rintro e w1 ⟨rfl, hg⟩
  have hc := Gr.cells hg
  have hf := Gr.frees hg
  have hz := Gr.size hg
  try simp only [World.size_alloc, World.size_setCell, World.size_drew] at hz
  try have : 0 < w1.heap.size := by omega
  try have : w.heap.size < w1.heap.size := by omega
  go_wp2_with fail
  refine (L _ _).mono ?_
  rintro e w2 ⟨rfl, hg⟩
  have hc := Gr.cells hg
  have hf := Gr.frees hg
  have hz := Gr.size hg
  try simp only [World.size_alloc, World.size_setCell, World.size_drew] at hz
  try have : 0 < w2.heap.size := by omega
  try have : w.heap.size < w2.heap.size := by omega
  try have : w1.heap.size < w2.heap.size := by omega
  try have : w1.heap.size + 1 < w2.heap.size := by omega
  go_wp2_with fail
  refine (M1 _).mono ?_
  rintro e w3 ⟨rfl, hg⟩
  have hc := Gr.cells hg
  have hf := Gr.frees hg
  have hz := Gr.size hg
  try simp only [World.size_alloc, World.size_setCell, World.size_drew] at hz
  try have : 0 < w3.heap.size := by omega
  try have : w.heap.size < w3.heap.size := by omega
  try have : w1.heap.size < w3.heap.size := by omega
  try have : w1.heap.size + 1 < w3.heap.size := by omega
  try have : w2.heap.size < w3.heap.size := by omega
  try have : w2.heap.size + 1 < w3.heap.size := by omega
  go_wp2_with fail
  refine (L _ _).mono ?_
  rintro e w4 ⟨rfl, hg⟩
  have hc := Gr.cells hg
  have hf := Gr.frees hg
  have hz := Gr.size hg
  try simp only [World.size_alloc, World.size_setCell, World.size_drew] at hz
  try have : 0 < w4.heap.size := by omega
  try have : w.heap.size < w4.heap.size := by omega
  try have : w1.heap.size < w4.heap.size := by omega
  try have : w1.heap.size + 1 < w4.heap.size := by omega
  try have : w2.heap.size < w4.heap.size := by omega
  try have : w2.heap.size + 1 < w4.heap.size := by omega
  try have : w3.heap.size < w4.heap.size := by omega
  try have : w3.heap.size + 1 < w4.heap.size := by omega
  go_wp2_with fail
  refine (L _ _).mono ?_
  rintro e w5 ⟨rfl, hg⟩
  have hc := Gr.cells hg
  have hf := Gr.frees hg
  have hz := Gr.size hg
  try simp only [World.size_alloc, World.size_setCell, World.size_drew] at hz
  try have : 0 < w5.heap.size := by omega
  try have : w.heap.size < w5.heap.size := by omega
  try have : w1.heap.size < w5.heap.size := by omega
  try have : w1.heap.size + 1 < w5.heap.size := by omega
  try have : w2.heap.size < w5.heap.size := by omega
  try have : w2.heap.size + 1 < w5.heap.size := by omega
  try have : w3.heap.size < w5.heap.size := by omega
  try have : w3.heap.size + 1 < w5.heap.size := by omega
  try have : w4.heap.size < w5.heap.size := by omega
  try have : w4.heap.size + 1 < w5.heap.size := by omega
  go_wp2_with fail
  refine (M2 _).mono ?_
  rintro e w6 ⟨rfl, hg⟩
  have hc := Gr.cells hg
  have hf := Gr.frees hg
  have hz := Gr.size hg
  try simp only [World.size_alloc, World.size_setCell, World.size_drew] at hz
  try have : 0 < w6.heap.size := by omega
  try have : w.heap.size < w6.heap.size := by omega
  try have : w1.heap.size < w6.heap.size := by omega
  try have : w1.heap.size + 1 < w6.heap.size := by omega
  try have : w2.heap.size < w6.heap.size := by omega
  try have : w2.heap.size + 1 < w6.heap.size := by omega
  try have : w3.heap.size < w6.heap.size := by omega
  try have : w3.heap.size + 1 < w6.heap.size := by omega
  try have : w4.heap.size < w6.heap.size := by omega
  try have : w4.heap.size + 1 < w6.heap.size := by omega
  try have : w5.heap.size < w6.heap.size := by omega
  try have : w5.heap.size + 1 < w6.heap.size := by omega
  go_wp2_with fail
  refine Rg.region_plan 10 [0, 1, 2, 3, 4, 5, 6, 7, 8, 9] [] [] (Below.drew (Below.refl _ _)) (by kernel_rfl) (by kernel_rfl) (fun _ _ d _ _ h => by cases d <;> exact h) ?_
  simp only [Rg.opsAt, List.filterMap_cons, List.filterMap_nil, List.getElem?_toArray, List.getElem?_cons_zero, List.getElem?_cons_succ, List.drop_succ_cons, List.drop_zero]
  repeat (first
      | (refine Rg.wpDets_skip (by rfl) ?_; simp only [Act.put, List.setIfInBounds_toArray, List.set_cons_zero, List.set_cons_succ])
      | (refine Rg.wpDets_step ?_ (by rfl) (fun w hS => ?_) ?_
         rotate_left
         · have hc := Gr.cells hS
           have hf := Gr.frees hS
           go_simp
           first
           | (refine ⟨?_, Below.refl _ _⟩; with_reducible rfl)
           | ((with_reducible refine (L _ _).mono ?_); rintro e w' ⟨rfl, hg⟩; refine ⟨?_, hg⟩; with_reducible rfl)
         simp only [Act.put, List.setIfInBounds_toArray, List.set_cons_zero, List.set_cons_succ]))
  refine Rg.wpDets_nil ?_
  refine Rg.wpFlts_nil ?_
  refine Rg.wpLays_nil ?_
  intro w' hK
  have hg : Gr _ w' := hK.up
  have hc := hg.cells
  have hf := hg.frees
  have hz := hg.size
  try simp only [World.size_alloc, World.size_setCell, World.size_drew] at hz
  try have : 0 < w'.heap.size := by omega
  try have : w.heap.size < w'.heap.size := by omega
  go_wp2_with fail
  refine (awake_any m _ (by go_simp)).mono ?_
  rintro e w' ⟨rfl, hg⟩
  go_wp2
  all_goals
    (try (go_step3; (try simp only [Exit.then]); (try change Rg.once _ _ _ _ _ _); rw [Rg.once_goto]; go_wp2))
    (try rw [Rg.once_ret])
    (try rw [Exit.noGoto_ret])
    (try change bodyPost _ _ _ _ _ _)
    first
    | (go_returns; refine ⟨?_, ?_⟩)
    | (refine bodyPost_ret (by simp [results, Tryd.results3, go_sem, *]; try rfl) rfl ⟨?_, ?_⟩)
    rotate_left
    · repeat' (first | exact Gr.refl _ | exact Nat.le_refl _ | exact Nat.le_add_right _ _ | refine Gr.setCell ?_ ?_ _ | refine Gr.alloc ?_ _ | refine Gr.drew ?_ | refine Gr.trans ?_ (by assumption) | omega | (dsimp only; omega))
  all_goals rfl
set_option maxHeartbeats 2000000 in
set_option maxRecDepth 100000 in
theorem divides_fine (a b m qn rn pn : Int) (w : World) (hm : w.cell? ⟨0, 0, none⟩ = some (.int .i64 m)) (h0 : (b == 0) = false) (b4 : Bool) (h1 : (b == -1) = b4) (h2 : b4 = true → (rn == 0) = true)
    (hs : (rn == 0) = true ∨ ((decide (rn < 0) == decide (a < 0)) = true))
    (M1 : ∀ W, Calls Tryd.prog 10 #[.int .i64 21, .agg #[.int .i64 1, .int .i64 a, .string ⟨#[]⟩, .bool false], .agg #[.int .i64 1, .int .i64 b, .string ⟨#[]⟩, .bool false]] W fun e w' => e = pairR (numV qn, 0) ∧ Gr W w')
    (M2 : ∀ W, Calls Tryd.prog 10 #[.int .i64 22, .agg #[.int .i64 1, .int .i64 a, .string ⟨#[]⟩, .bool false], .agg #[.int .i64 1, .int .i64 b, .string ⟨#[]⟩, .bool false]] W fun e w' => e = pairR (numV rn, 0) ∧ Gr W w')
    (M3 : ∀ W, Calls Tryd.prog 10 #[.int .i64 20, .agg #[.int .i64 1, .int .i64 qn, .string ⟨#[]⟩, .bool false], .agg #[.int .i64 1, .int .i64 b, .string ⟨#[]⟩, .bool false]] W fun e w' => e = pairR (numV pn, 0) ∧ Gr W w')
    (M4 : ∀ W, Calls Tryd.prog 10 #[.int .i64 18, .agg #[.int .i64 1, .int .i64 pn, .string ⟨#[]⟩, .bool false], .agg #[.int .i64 1, .int .i64 rn, .string ⟨#[]⟩, .bool false]] W fun e w' => e = pairR (numV a, 0) ∧ Gr W w') :
    Calls Tryd.prog 3 #[.int .i64 a, .int .i64 b] w (Yes w) := by
  have hpos : 0 < w.heap.size := lt_of_cell hm
  simp only [pairR, numV] at M1 M2 M3 M4
  have L := fun n W => lint_any n W
  have E := fun W => same_num rn 0 W
  have F := fun W => same_num a a W
  have aa : (a == a) = true := by simp
  rw [aa] at F
  clear aa
  have tg := v_guard
  obtain ⟨c, hc0⟩ : ∃ c, (rn == 0) = c := ⟨_, rfl⟩
  rw [hc0] at E h2 hs
  cases b4
  · clear h2
    cases c
    · have hsg : (decide (rn < 0) == decide (a < 0)) = true := by rcases hs with h | h; cases h; exact h
      obtain ⟨d1, hd1⟩ : ∃ d, decide (rn < 0) = d := ⟨_, rfl⟩
      obtain ⟨d2, hd2⟩ : ∃ d, decide (a < 0) = d := ⟨_, rfl⟩
      rw [hd1, hd2] at hsg
      have : d1 = d2 := by simpa using hsg
      subst this
      clear hs hsg
      have hdd : (d1 == d1) = true := by simp
      go_enter Tryd.func3, Tryd.ntmps3
      go_wp2_with fail
      refine (L _ _).mono ?_
      rintro e w1 ⟨rfl, hg⟩
      have hc := Gr.cells hg
      have hf := Gr.frees hg
      have hz := Gr.size hg
      try simp only [World.size_alloc, World.size_setCell, World.size_drew] at hz
      try have : 0 < w1.heap.size := by omega
      try have : w.heap.size < w1.heap.size := by omega
      go_wp2_with fail
      refine (L _ _).mono ?_
      rintro e w2 ⟨rfl, hg⟩
      have hc := Gr.cells hg
      have hf := Gr.frees hg
      have hz := Gr.size hg
      try simp only [World.size_alloc, World.size_setCell, World.size_drew] at hz
      try have : 0 < w2.heap.size := by omega
      try have : w.heap.size < w2.heap.size := by omega
      try have : w1.heap.size < w2.heap.size := by omega
      try have : w1.heap.size + 1 < w2.heap.size := by omega
      go_wp2_with fail
      refine (M1 _).mono ?_
      rintro e w3 ⟨rfl, hg⟩
      have hc := Gr.cells hg
      have hf := Gr.frees hg
      have hz := Gr.size hg
      try simp only [World.size_alloc, World.size_setCell, World.size_drew] at hz
      try have : 0 < w3.heap.size := by omega
      try have : w.heap.size < w3.heap.size := by omega
      try have : w1.heap.size < w3.heap.size := by omega
      try have : w1.heap.size + 1 < w3.heap.size := by omega
      try have : w2.heap.size < w3.heap.size := by omega
      try have : w2.heap.size + 1 < w3.heap.size := by omega
      go_wp2_with fail
      refine (L _ _).mono ?_
      rintro e w4 ⟨rfl, hg⟩
      have hc := Gr.cells hg
      have hf := Gr.frees hg
      have hz := Gr.size hg
      try simp only [World.size_alloc, World.size_setCell, World.size_drew] at hz
      try have : 0 < w4.heap.size := by omega
      try have : w.heap.size < w4.heap.size := by omega
      try have : w1.heap.size < w4.heap.size := by omega
      try have : w1.heap.size + 1 < w4.heap.size := by omega
      try have : w2.heap.size < w4.heap.size := by omega
      try have : w2.heap.size + 1 < w4.heap.size := by omega
      try have : w3.heap.size < w4.heap.size := by omega
      try have : w3.heap.size + 1 < w4.heap.size := by omega
      go_wp2_with fail
      refine (L _ _).mono ?_
      rintro e w5 ⟨rfl, hg⟩
      have hc := Gr.cells hg
      have hf := Gr.frees hg
      have hz := Gr.size hg
      try simp only [World.size_alloc, World.size_setCell, World.size_drew] at hz
      try have : 0 < w5.heap.size := by omega
      try have : w.heap.size < w5.heap.size := by omega
      try have : w1.heap.size < w5.heap.size := by omega
      try have : w1.heap.size + 1 < w5.heap.size := by omega
      try have : w2.heap.size < w5.heap.size := by omega
      try have : w2.heap.size + 1 < w5.heap.size := by omega
      try have : w3.heap.size < w5.heap.size := by omega
      try have : w3.heap.size + 1 < w5.heap.size := by omega
      try have : w4.heap.size < w5.heap.size := by omega
      try have : w4.heap.size + 1 < w5.heap.size := by omega
      go_wp2_with fail
      refine (M2 _).mono ?_
      rintro e w6 ⟨rfl, hg⟩
      have hc := Gr.cells hg
      have hf := Gr.frees hg
      have hz := Gr.size hg
      try simp only [World.size_alloc, World.size_setCell, World.size_drew] at hz
      try have : 0 < w6.heap.size := by omega
      try have : w.heap.size < w6.heap.size := by omega
      try have : w1.heap.size < w6.heap.size := by omega
      try have : w1.heap.size + 1 < w6.heap.size := by omega
      try have : w2.heap.size < w6.heap.size := by omega
      try have : w2.heap.size + 1 < w6.heap.size := by omega
      try have : w3.heap.size < w6.heap.size := by omega
      try have : w3.heap.size + 1 < w6.heap.size := by omega
      try have : w4.heap.size < w6.heap.size := by omega
      try have : w4.heap.size + 1 < w6.heap.size := by omega
      try have : w5.heap.size < w6.heap.size := by omega
      try have : w5.heap.size + 1 < w6.heap.size := by omega
      go_wp2_with fail
      refine Rg.region_plan 10 [0, 1, 2, 3, 4, 5, 6, 7, 8, 9] [] [] (Below.drew (Below.refl _ _)) (by kernel_rfl) (by kernel_rfl) (fun _ _ d _ _ h => by cases d <;> exact h) ?_
      simp only [Rg.opsAt, List.filterMap_cons, List.filterMap_nil, List.getElem?_toArray, List.getElem?_cons_zero, List.getElem?_cons_succ, List.drop_succ_cons, List.drop_zero]
      repeat (first
          | (refine Rg.wpDets_skip (by rfl) ?_; simp only [Act.put, List.setIfInBounds_toArray, List.set_cons_zero, List.set_cons_succ])
          | (refine Rg.wpDets_step ?_ (by rfl) (fun w hS => ?_) ?_
             rotate_left
             · have hc := Gr.cells hS
               have hf := Gr.frees hS
               go_simp
               first
               | (refine ⟨?_, Below.refl _ _⟩; with_reducible rfl)
               | ((with_reducible refine (L _ _).mono ?_); rintro e w' ⟨rfl, hg⟩; refine ⟨?_, hg⟩; with_reducible rfl)
             simp only [Act.put, List.setIfInBounds_toArray, List.set_cons_zero, List.set_cons_succ]))
      refine Rg.wpDets_nil ?_
      refine Rg.wpFlts_nil ?_
      refine Rg.wpLays_nil ?_
      intro w7 hK
      have hg : Gr _ w7 := hK.up
      have hc := Gr.cells hg
      have hf := Gr.frees hg
      have hz := Gr.size hg
      try simp only [World.size_alloc, World.size_setCell, World.size_drew] at hz
      try have : 0 < w7.heap.size := by omega
      try have : w.heap.size < w7.heap.size := by omega
      try have : w1.heap.size < w7.heap.size := by omega
      try have : w1.heap.size + 1 < w7.heap.size := by omega
      try have : w2.heap.size < w7.heap.size := by omega
      try have : w2.heap.size + 1 < w7.heap.size := by omega
      try have : w3.heap.size < w7.heap.size := by omega
      try have : w3.heap.size + 1 < w7.heap.size := by omega
      try have : w4.heap.size < w7.heap.size := by omega
      try have : w4.heap.size + 1 < w7.heap.size := by omega
      try have : w5.heap.size < w7.heap.size := by omega
      try have : w5.heap.size + 1 < w7.heap.size := by omega
      try have : w6.heap.size < w7.heap.size := by omega
      try have : w6.heap.size + 1 < w7.heap.size := by omega
      go_wp2_with fail
      refine Rg.region_plan 8 [0, 1, 2, 3, 4, 5] [6] [7] (Below.drew (Below.refl _ _)) (by kernel_rfl) (by kernel_rfl) (fun _ _ d _ _ h => by cases d <;> exact h) ?_
      simp only [Rg.opsAt, List.filterMap_cons, List.filterMap_nil, List.getElem?_toArray, List.getElem?_cons_zero, List.getElem?_cons_succ, List.drop_succ_cons, List.drop_zero]
      repeat (first
          | (refine Rg.wpDets_skip (by rfl) ?_; simp only [Act.put, List.setIfInBounds_toArray, List.set_cons_zero, List.set_cons_succ])
          | (refine Rg.wpDets_step ?_ (by rfl) (fun w hS => ?_) ?_
             rotate_left
             · have hc := Gr.cells hS
               have hf := Gr.frees hS
               go_simp
               first
               | (refine ⟨?_, Below.refl _ _⟩; with_reducible rfl)
               | ((with_reducible refine (L _ _).mono ?_); rintro e w' ⟨rfl, hg⟩; refine ⟨?_, hg⟩; with_reducible rfl)
               | ((with_reducible refine (M3 _).mono ?_); rintro e w' ⟨rfl, hg⟩; refine ⟨?_, hg⟩; with_reducible rfl)
             simp only [Act.put, List.setIfInBounds_toArray, List.set_cons_zero, List.set_cons_succ]))
      refine Rg.wpDets_nil ?_
      first
      | (refine Rg.wpFlts_skip (by rfl) ?_; simp only [Act.put, List.setIfInBounds_toArray, List.set_cons_zero, List.set_cons_succ])
      | (refine Rg.wpFlts_step ?_ (by rfl) (fun w => ?_) ?_
         rotate_left
         · go_simp
           try with_reducible rfl
         simp only [Act.put, List.setIfInBounds_toArray, List.set_cons_zero, List.set_cons_succ])
      refine Rg.wpFlts_nil ?_
      refine Rg.wpLays_step ?_ (by rfl) (fun w => ?_) (fun g0 hg0 hu0 => ?_)
      rotate_left
      · go_simp
        try with_reducible rfl
      simp only [Act.put, List.setIfInBounds_toArray, List.set_cons_zero, List.set_cons_succ]
      refine Rg.wpLays_nil ?_
      intro w8 hK
      have hg : Gr _ w8 := hK.up
      obtain ⟨hb0, _⟩ := hK.psi
      have hcb0 := Rg.blk_cells hb0
      have hfb0 := Rg.blk_free hb0
      have hlb0 := lt_of_block hb0
      try simp only [World.size_alloc, World.size_setCell, World.size_drew] at hg0
      clear hK hb0
      have hc := Gr.cells hg
      have hf := Gr.frees hg
      have hz := Gr.size hg
      try simp only [World.size_alloc, World.size_setCell, World.size_drew] at hz
      try have : 0 < w8.heap.size := by omega
      try have : w.heap.size < w8.heap.size := by omega
      try have : w1.heap.size < w8.heap.size := by omega
      try have : w1.heap.size + 1 < w8.heap.size := by omega
      try have : w2.heap.size < w8.heap.size := by omega
      try have : w2.heap.size + 1 < w8.heap.size := by omega
      try have : w3.heap.size < w8.heap.size := by omega
      try have : w3.heap.size + 1 < w8.heap.size := by omega
      try have : w4.heap.size < w8.heap.size := by omega
      try have : w4.heap.size + 1 < w8.heap.size := by omega
      try have : w5.heap.size < w8.heap.size := by omega
      try have : w5.heap.size + 1 < w8.heap.size := by omega
      try have : w6.heap.size < w8.heap.size := by omega
      try have : w6.heap.size + 1 < w8.heap.size := by omega
      try have : w7.heap.size < w8.heap.size := by omega
      try have : w7.heap.size + 1 < w8.heap.size := by omega
      try have : w.heap.size < g0 := by omega
      try have : ¬ w.heap.size = g0 := by omega
      try have : ¬ g0 = w.heap.size := by omega
      try have : w1.heap.size < g0 := by omega
      try have : ¬ w1.heap.size = g0 := by omega
      try have : ¬ g0 = w1.heap.size := by omega
      try have : w2.heap.size < g0 := by omega
      try have : ¬ w2.heap.size = g0 := by omega
      try have : ¬ g0 = w2.heap.size := by omega
      try have : w3.heap.size < g0 := by omega
      try have : ¬ w3.heap.size = g0 := by omega
      try have : ¬ g0 = w3.heap.size := by omega
      try have : w4.heap.size < g0 := by omega
      try have : ¬ w4.heap.size = g0 := by omega
      try have : ¬ g0 = w4.heap.size := by omega
      try have : w5.heap.size < g0 := by omega
      try have : ¬ w5.heap.size = g0 := by omega
      try have : ¬ g0 = w5.heap.size := by omega
      try have : w6.heap.size < g0 := by omega
      try have : ¬ w6.heap.size = g0 := by omega
      try have : ¬ g0 = w6.heap.size := by omega
      try have : w7.heap.size < g0 := by omega
      try have : ¬ w7.heap.size = g0 := by omega
      try have : ¬ g0 = w7.heap.size := by omega
      go_wp2_with fail
      refine (M4 _).mono ?_
      rintro e w9 ⟨rfl, hg⟩
      have hc := Gr.cells hg
      have hf := Gr.frees hg
      have hz := Gr.size hg
      try simp only [World.size_alloc, World.size_setCell, World.size_drew] at hz
      try have : 0 < w9.heap.size := by omega
      try have : w.heap.size < w9.heap.size := by omega
      try have : w1.heap.size < w9.heap.size := by omega
      try have : w1.heap.size + 1 < w9.heap.size := by omega
      try have : w2.heap.size < w9.heap.size := by omega
      try have : w2.heap.size + 1 < w9.heap.size := by omega
      try have : w3.heap.size < w9.heap.size := by omega
      try have : w3.heap.size + 1 < w9.heap.size := by omega
      try have : w4.heap.size < w9.heap.size := by omega
      try have : w4.heap.size + 1 < w9.heap.size := by omega
      try have : w5.heap.size < w9.heap.size := by omega
      try have : w5.heap.size + 1 < w9.heap.size := by omega
      try have : w6.heap.size < w9.heap.size := by omega
      try have : w6.heap.size + 1 < w9.heap.size := by omega
      try have : w7.heap.size < w9.heap.size := by omega
      try have : w7.heap.size + 1 < w9.heap.size := by omega
      try have : w8.heap.size < w9.heap.size := by omega
      try have : w8.heap.size + 1 < w9.heap.size := by omega
      go_wp2_with fail
      have H0 : w9.cell? ⟨0, 0, none⟩ = some (.int .i64 m) := by go_simp
      refine Rg.region_plan 18 [0, 1, 2, 3, 4, 5, 6, 7, 8, 9, 10, 11, 12, 13, 14, 15, 16, 17] [] [] (Below.drew (Below.refl _ _)) (by kernel_rfl) (by kernel_rfl) (fun _ _ d _ _ h => by cases d <;> exact h) ?_
      simp only [Rg.opsAt, List.filterMap_cons, List.filterMap_nil, List.getElem?_toArray, List.getElem?_cons_zero, List.getElem?_cons_succ, List.drop_succ_cons, List.drop_zero]
      repeat (first
          | (refine Rg.wpDets_skip (by rfl) ?_; simp only [Act.put, List.setIfInBounds_toArray, List.set_cons_zero, List.set_cons_succ])
          | (refine Rg.wpDets_step ?_ (by rfl) (fun w hS => ?_) ?_
             rotate_left
             · have hc := Gr.cells hS
               have hf := Gr.frees hS
               go_simp
               first
               | (refine ⟨?_, Below.refl _ _⟩; with_reducible rfl)
               | ((with_reducible refine (L _ _).mono ?_); rintro e w' ⟨rfl, hg⟩; refine ⟨?_, hg⟩; with_reducible rfl)
               | ((with_reducible refine (awake_any m _ (by go_simp)).mono ?_); rintro e w' ⟨rfl, hg⟩; refine ⟨?_, hg⟩; with_reducible rfl)
             simp only [Act.put, List.setIfInBounds_toArray, List.set_cons_zero, List.set_cons_succ]))
      refine Rg.wpDets_nil ?_
      refine Rg.wpFlts_nil ?_
      refine Rg.wpLays_nil ?_
      intro w10 hK
      have hg : Gr _ w10 := hK.up
      have hc := Gr.cells hg
      have hf := Gr.frees hg
      have hz := Gr.size hg
      try simp only [World.size_alloc, World.size_setCell, World.size_drew] at hz
      try have : 0 < w10.heap.size := by omega
      try have : w.heap.size < w10.heap.size := by omega
      try have : w1.heap.size < w10.heap.size := by omega
      try have : w1.heap.size + 1 < w10.heap.size := by omega
      try have : w2.heap.size < w10.heap.size := by omega
      try have : w2.heap.size + 1 < w10.heap.size := by omega
      try have : w3.heap.size < w10.heap.size := by omega
      try have : w3.heap.size + 1 < w10.heap.size := by omega
      try have : w4.heap.size < w10.heap.size := by omega
      try have : w4.heap.size + 1 < w10.heap.size := by omega
      try have : w5.heap.size < w10.heap.size := by omega
      try have : w5.heap.size + 1 < w10.heap.size := by omega
      try have : w6.heap.size < w10.heap.size := by omega
      try have : w6.heap.size + 1 < w10.heap.size := by omega
      try have : w7.heap.size < w10.heap.size := by omega
      try have : w7.heap.size + 1 < w10.heap.size := by omega
      try have : w8.heap.size < w10.heap.size := by omega
      try have : w8.heap.size + 1 < w10.heap.size := by omega
      try have : w9.heap.size < w10.heap.size := by omega
      try have : w9.heap.size + 1 < w10.heap.size := by omega
      go_wp2
      all_goals
        (try (go_step3; (try simp only [Exit.then]); (try change Rg.once _ _ _ _ _ _); rw [Rg.once_goto]; go_wp2))
        (try rw [Rg.once_ret])
        (try rw [Exit.noGoto_ret])
        (try change bodyPost _ _ _ _ _ _)
        first
        | (go_returns; refine ⟨?_, ?_⟩)
        | (refine bodyPost_ret (by simp [results, Tryd.results3, go_sem, *]; try rfl) rfl ⟨?_, ?_⟩)
        rotate_left
        · repeat' (first | exact Gr.refl _ | exact Nat.le_refl _ | exact Nat.le_add_right _ _ | refine Gr.setCell ?_ ?_ _ | refine Gr.alloc ?_ _ | refine Gr.drew ?_ | refine Gr.trans ?_ (by assumption) | omega | (dsimp only; omega))
      all_goals rfl
    · clear hs
      go_enter Tryd.func3, Tryd.ntmps3
      go_wp2_with fail
      refine (L _ _).mono ?_
      rintro e w1 ⟨rfl, hg⟩
      have hc := Gr.cells hg
      have hf := Gr.frees hg
      have hz := Gr.size hg
      try simp only [World.size_alloc, World.size_setCell, World.size_drew] at hz
      try have : 0 < w1.heap.size := by omega
      try have : w.heap.size < w1.heap.size := by omega
      go_wp2_with fail
      refine (L _ _).mono ?_
      rintro e w2 ⟨rfl, hg⟩
      have hc := Gr.cells hg
      have hf := Gr.frees hg
      have hz := Gr.size hg
      try simp only [World.size_alloc, World.size_setCell, World.size_drew] at hz
      try have : 0 < w2.heap.size := by omega
      try have : w.heap.size < w2.heap.size := by omega
      try have : w1.heap.size < w2.heap.size := by omega
      try have : w1.heap.size + 1 < w2.heap.size := by omega
      go_wp2_with fail
      refine (M1 _).mono ?_
      rintro e w3 ⟨rfl, hg⟩
      have hc := Gr.cells hg
      have hf := Gr.frees hg
      have hz := Gr.size hg
      try simp only [World.size_alloc, World.size_setCell, World.size_drew] at hz
      try have : 0 < w3.heap.size := by omega
      try have : w.heap.size < w3.heap.size := by omega
      try have : w1.heap.size < w3.heap.size := by omega
      try have : w1.heap.size + 1 < w3.heap.size := by omega
      try have : w2.heap.size < w3.heap.size := by omega
      try have : w2.heap.size + 1 < w3.heap.size := by omega
      go_wp2_with fail
      refine (L _ _).mono ?_
      rintro e w4 ⟨rfl, hg⟩
      have hc := Gr.cells hg
      have hf := Gr.frees hg
      have hz := Gr.size hg
      try simp only [World.size_alloc, World.size_setCell, World.size_drew] at hz
      try have : 0 < w4.heap.size := by omega
      try have : w.heap.size < w4.heap.size := by omega
      try have : w1.heap.size < w4.heap.size := by omega
      try have : w1.heap.size + 1 < w4.heap.size := by omega
      try have : w2.heap.size < w4.heap.size := by omega
      try have : w2.heap.size + 1 < w4.heap.size := by omega
      try have : w3.heap.size < w4.heap.size := by omega
      try have : w3.heap.size + 1 < w4.heap.size := by omega
      go_wp2_with fail
      refine (L _ _).mono ?_
      rintro e w5 ⟨rfl, hg⟩
      have hc := Gr.cells hg
      have hf := Gr.frees hg
      have hz := Gr.size hg
      try simp only [World.size_alloc, World.size_setCell, World.size_drew] at hz
      try have : 0 < w5.heap.size := by omega
      try have : w.heap.size < w5.heap.size := by omega
      try have : w1.heap.size < w5.heap.size := by omega
      try have : w1.heap.size + 1 < w5.heap.size := by omega
      try have : w2.heap.size < w5.heap.size := by omega
      try have : w2.heap.size + 1 < w5.heap.size := by omega
      try have : w3.heap.size < w5.heap.size := by omega
      try have : w3.heap.size + 1 < w5.heap.size := by omega
      try have : w4.heap.size < w5.heap.size := by omega
      try have : w4.heap.size + 1 < w5.heap.size := by omega
      go_wp2_with fail
      refine (M2 _).mono ?_
      rintro e w6 ⟨rfl, hg⟩
      have hc := Gr.cells hg
      have hf := Gr.frees hg
      have hz := Gr.size hg
      try simp only [World.size_alloc, World.size_setCell, World.size_drew] at hz
      try have : 0 < w6.heap.size := by omega
      try have : w.heap.size < w6.heap.size := by omega
      try have : w1.heap.size < w6.heap.size := by omega
      try have : w1.heap.size + 1 < w6.heap.size := by omega
      try have : w2.heap.size < w6.heap.size := by omega
      try have : w2.heap.size + 1 < w6.heap.size := by omega
      try have : w3.heap.size < w6.heap.size := by omega
      try have : w3.heap.size + 1 < w6.heap.size := by omega
      try have : w4.heap.size < w6.heap.size := by omega
      try have : w4.heap.size + 1 < w6.heap.size := by omega
      try have : w5.heap.size < w6.heap.size := by omega
      try have : w5.heap.size + 1 < w6.heap.size := by omega
      go_wp2_with fail
      refine Rg.region_plan 10 [0, 1, 2, 3, 4, 5, 6, 7, 8, 9] [] [] (Below.drew (Below.refl _ _)) (by kernel_rfl) (by kernel_rfl) (fun _ _ d _ _ h => by cases d <;> exact h) ?_
      simp only [Rg.opsAt, List.filterMap_cons, List.filterMap_nil, List.getElem?_toArray, List.getElem?_cons_zero, List.getElem?_cons_succ, List.drop_succ_cons, List.drop_zero]
      repeat (first
          | (refine Rg.wpDets_skip (by rfl) ?_; simp only [Act.put, List.setIfInBounds_toArray, List.set_cons_zero, List.set_cons_succ])
          | (refine Rg.wpDets_step ?_ (by rfl) (fun w hS => ?_) ?_
             rotate_left
             · have hc := Gr.cells hS
               have hf := Gr.frees hS
               go_simp
               first
               | (refine ⟨?_, Below.refl _ _⟩; with_reducible rfl)
               | ((with_reducible refine (L _ _).mono ?_); rintro e w' ⟨rfl, hg⟩; refine ⟨?_, hg⟩; with_reducible rfl)
             simp only [Act.put, List.setIfInBounds_toArray, List.set_cons_zero, List.set_cons_succ]))
      refine Rg.wpDets_nil ?_
      refine Rg.wpFlts_nil ?_
      refine Rg.wpLays_nil ?_
      intro w7 hK
      have hg : Gr _ w7 := hK.up
      have hc := Gr.cells hg
      have hf := Gr.frees hg
      have hz := Gr.size hg
      try simp only [World.size_alloc, World.size_setCell, World.size_drew] at hz
      try have : 0 < w7.heap.size := by omega
      try have : w.heap.size < w7.heap.size := by omega
      try have : w1.heap.size < w7.heap.size := by omega
      try have : w1.heap.size + 1 < w7.heap.size := by omega
      try have : w2.heap.size < w7.heap.size := by omega
      try have : w2.heap.size + 1 < w7.heap.size := by omega
      try have : w3.heap.size < w7.heap.size := by omega
      try have : w3.heap.size + 1 < w7.heap.size := by omega
      try have : w4.heap.size < w7.heap.size := by omega
      try have : w4.heap.size + 1 < w7.heap.size := by omega
      try have : w5.heap.size < w7.heap.size := by omega
      try have : w5.heap.size + 1 < w7.heap.size := by omega
      try have : w6.heap.size < w7.heap.size := by omega
      try have : w6.heap.size + 1 < w7.heap.size := by omega
      go_wp2_with fail
      refine Rg.region_plan 8 [0, 1, 2, 3, 4, 5] [6] [7] (Below.drew (Below.refl _ _)) (by kernel_rfl) (by kernel_rfl) (fun _ _ d _ _ h => by cases d <;> exact h) ?_
      simp only [Rg.opsAt, List.filterMap_cons, List.filterMap_nil, List.getElem?_toArray, List.getElem?_cons_zero, List.getElem?_cons_succ, List.drop_succ_cons, List.drop_zero]
      repeat (first
          | (refine Rg.wpDets_skip (by rfl) ?_; simp only [Act.put, List.setIfInBounds_toArray, List.set_cons_zero, List.set_cons_succ])
          | (refine Rg.wpDets_step ?_ (by rfl) (fun w hS => ?_) ?_
             rotate_left
             · have hc := Gr.cells hS
               have hf := Gr.frees hS
               go_simp
               first
               | (refine ⟨?_, Below.refl _ _⟩; with_reducible rfl)
               | ((with_reducible refine (L _ _).mono ?_); rintro e w' ⟨rfl, hg⟩; refine ⟨?_, hg⟩; with_reducible rfl)
               | ((with_reducible refine (M3 _).mono ?_); rintro e w' ⟨rfl, hg⟩; refine ⟨?_, hg⟩; with_reducible rfl)
             simp only [Act.put, List.setIfInBounds_toArray, List.set_cons_zero, List.set_cons_succ]))
      refine Rg.wpDets_nil ?_
      first
      | (refine Rg.wpFlts_skip (by rfl) ?_; simp only [Act.put, List.setIfInBounds_toArray, List.set_cons_zero, List.set_cons_succ])
      | (refine Rg.wpFlts_step ?_ (by rfl) (fun w => ?_) ?_
         rotate_left
         · go_simp
           try with_reducible rfl
         simp only [Act.put, List.setIfInBounds_toArray, List.set_cons_zero, List.set_cons_succ])
      refine Rg.wpFlts_nil ?_
      refine Rg.wpLays_step ?_ (by rfl) (fun w => ?_) (fun g0 hg0 hu0 => ?_)
      rotate_left
      · go_simp
        try with_reducible rfl
      simp only [Act.put, List.setIfInBounds_toArray, List.set_cons_zero, List.set_cons_succ]
      refine Rg.wpLays_nil ?_
      intro w8 hK
      have hg : Gr _ w8 := hK.up
      obtain ⟨hb0, _⟩ := hK.psi
      have hcb0 := Rg.blk_cells hb0
      have hfb0 := Rg.blk_free hb0
      have hlb0 := lt_of_block hb0
      try simp only [World.size_alloc, World.size_setCell, World.size_drew] at hg0
      clear hK hb0
      have hc := Gr.cells hg
      have hf := Gr.frees hg
      have hz := Gr.size hg
      try simp only [World.size_alloc, World.size_setCell, World.size_drew] at hz
      try have : 0 < w8.heap.size := by omega
      try have : w.heap.size < w8.heap.size := by omega
      try have : w1.heap.size < w8.heap.size := by omega
      try have : w1.heap.size + 1 < w8.heap.size := by omega
      try have : w2.heap.size < w8.heap.size := by omega
      try have : w2.heap.size + 1 < w8.heap.size := by omega
      try have : w3.heap.size < w8.heap.size := by omega
      try have : w3.heap.size + 1 < w8.heap.size := by omega
      try have : w4.heap.size < w8.heap.size := by omega
      try have : w4.heap.size + 1 < w8.heap.size := by omega
      try have : w5.heap.size < w8.heap.size := by omega
      try have : w5.heap.size + 1 < w8.heap.size := by omega
      try have : w6.heap.size < w8.heap.size := by omega
      try have : w6.heap.size + 1 < w8.heap.size := by omega
      try have : w7.heap.size < w8.heap.size := by omega
      try have : w7.heap.size + 1 < w8.heap.size := by omega
      try have : w.heap.size < g0 := by omega
      try have : ¬ w.heap.size = g0 := by omega
      try have : ¬ g0 = w.heap.size := by omega
      try have : w1.heap.size < g0 := by omega
      try have : ¬ w1.heap.size = g0 := by omega
      try have : ¬ g0 = w1.heap.size := by omega
      try have : w2.heap.size < g0 := by omega
      try have : ¬ w2.heap.size = g0 := by omega
      try have : ¬ g0 = w2.heap.size := by omega
      try have : w3.heap.size < g0 := by omega
      try have : ¬ w3.heap.size = g0 := by omega
      try have : ¬ g0 = w3.heap.size := by omega
      try have : w4.heap.size < g0 := by omega
      try have : ¬ w4.heap.size = g0 := by omega
      try have : ¬ g0 = w4.heap.size := by omega
      try have : w5.heap.size < g0 := by omega
      try have : ¬ w5.heap.size = g0 := by omega
      try have : ¬ g0 = w5.heap.size := by omega
      try have : w6.heap.size < g0 := by omega
      try have : ¬ w6.heap.size = g0 := by omega
      try have : ¬ g0 = w6.heap.size := by omega
      try have : w7.heap.size < g0 := by omega
      try have : ¬ w7.heap.size = g0 := by omega
      try have : ¬ g0 = w7.heap.size := by omega
      go_wp2_with fail
      refine (M4 _).mono ?_
      rintro e w9 ⟨rfl, hg⟩
      have hc := Gr.cells hg
      have hf := Gr.frees hg
      have hz := Gr.size hg
      try simp only [World.size_alloc, World.size_setCell, World.size_drew] at hz
      try have : 0 < w9.heap.size := by omega
      try have : w.heap.size < w9.heap.size := by omega
      try have : w1.heap.size < w9.heap.size := by omega
      try have : w1.heap.size + 1 < w9.heap.size := by omega
      try have : w2.heap.size < w9.heap.size := by omega
      try have : w2.heap.size + 1 < w9.heap.size := by omega
      try have : w3.heap.size < w9.heap.size := by omega
      try have : w3.heap.size + 1 < w9.heap.size := by omega
      try have : w4.heap.size < w9.heap.size := by omega
      try have : w4.heap.size + 1 < w9.heap.size := by omega
      try have : w5.heap.size < w9.heap.size := by omega
      try have : w5.heap.size + 1 < w9.heap.size := by omega
      try have : w6.heap.size < w9.heap.size := by omega
      try have : w6.heap.size + 1 < w9.heap.size := by omega
      try have : w7.heap.size < w9.heap.size := by omega
      try have : w7.heap.size + 1 < w9.heap.size := by omega
      try have : w8.heap.size < w9.heap.size := by omega
      try have : w8.heap.size + 1 < w9.heap.size := by omega
      go_wp2_with fail
      have H0 : w9.cell? ⟨0, 0, none⟩ = some (.int .i64 m) := by go_simp
      refine Rg.region_plan 18 [0, 1, 2, 3, 4, 5, 6, 7, 8, 9, 10, 11, 12, 13, 14, 15, 16, 17] [] [] (Below.drew (Below.refl _ _)) (by kernel_rfl) (by kernel_rfl) (fun _ _ d _ _ h => by cases d <;> exact h) ?_
      simp only [Rg.opsAt, List.filterMap_cons, List.filterMap_nil, List.getElem?_toArray, List.getElem?_cons_zero, List.getElem?_cons_succ, List.drop_succ_cons, List.drop_zero]
      repeat (first
          | (refine Rg.wpDets_skip (by rfl) ?_; simp only [Act.put, List.setIfInBounds_toArray, List.set_cons_zero, List.set_cons_succ])
          | (refine Rg.wpDets_step ?_ (by rfl) (fun w hS => ?_) ?_
             rotate_left
             · have hc := Gr.cells hS
               have hf := Gr.frees hS
               go_simp
               first
               | (refine ⟨?_, Below.refl _ _⟩; with_reducible rfl)
               | ((with_reducible refine (L _ _).mono ?_); rintro e w' ⟨rfl, hg⟩; refine ⟨?_, hg⟩; with_reducible rfl)
               | ((with_reducible refine (awake_any m _ (by go_simp)).mono ?_); rintro e w' ⟨rfl, hg⟩; refine ⟨?_, hg⟩; with_reducible rfl)
             simp only [Act.put, List.setIfInBounds_toArray, List.set_cons_zero, List.set_cons_succ]))
      refine Rg.wpDets_nil ?_
      refine Rg.wpFlts_nil ?_
      refine Rg.wpLays_nil ?_
      intro w10 hK
      have hg : Gr _ w10 := hK.up
      have hc := Gr.cells hg
      have hf := Gr.frees hg
      have hz := Gr.size hg
      try simp only [World.size_alloc, World.size_setCell, World.size_drew] at hz
      try have : 0 < w10.heap.size := by omega
      try have : w.heap.size < w10.heap.size := by omega
      try have : w1.heap.size < w10.heap.size := by omega
      try have : w1.heap.size + 1 < w10.heap.size := by omega
      try have : w2.heap.size < w10.heap.size := by omega
      try have : w2.heap.size + 1 < w10.heap.size := by omega
      try have : w3.heap.size < w10.heap.size := by omega
      try have : w3.heap.size + 1 < w10.heap.size := by omega
      try have : w4.heap.size < w10.heap.size := by omega
      try have : w4.heap.size + 1 < w10.heap.size := by omega
      try have : w5.heap.size < w10.heap.size := by omega
      try have : w5.heap.size + 1 < w10.heap.size := by omega
      try have : w6.heap.size < w10.heap.size := by omega
      try have : w6.heap.size + 1 < w10.heap.size := by omega
      try have : w7.heap.size < w10.heap.size := by omega
      try have : w7.heap.size + 1 < w10.heap.size := by omega
      try have : w8.heap.size < w10.heap.size := by omega
      try have : w8.heap.size + 1 < w10.heap.size := by omega
      try have : w9.heap.size < w10.heap.size := by omega
      try have : w9.heap.size + 1 < w10.heap.size := by omega
      go_wp2
      all_goals
        (try (go_step3; (try simp only [Exit.then]); (try change Rg.once _ _ _ _ _ _); rw [Rg.once_goto]; go_wp2))
        (try rw [Rg.once_ret])
        (try rw [Exit.noGoto_ret])
        (try change bodyPost _ _ _ _ _ _)
        first
        | (go_returns; refine ⟨?_, ?_⟩)
        | (refine bodyPost_ret (by simp [results, Tryd.results3, go_sem, *]; try rfl) rfl ⟨?_, ?_⟩)
        rotate_left
        · repeat' (first | exact Gr.refl _ | exact Nat.le_refl _ | exact Nat.le_add_right _ _ | refine Gr.setCell ?_ ?_ _ | refine Gr.alloc ?_ _ | refine Gr.drew ?_ | refine Gr.trans ?_ (by assumption) | omega | (dsimp only; omega))
      all_goals rfl
  · have h3 := h2 rfl
    subst h3
    clear hs h2
    go_enter Tryd.func3, Tryd.ntmps3
    go_wp2_with fail
    refine (L _ _).mono ?_
    rintro e w1 ⟨rfl, hg⟩
    have hc := Gr.cells hg
    have hf := Gr.frees hg
    have hz := Gr.size hg
    try simp only [World.size_alloc, World.size_setCell, World.size_drew] at hz
    try have : 0 < w1.heap.size := by omega
    try have : w.heap.size < w1.heap.size := by omega
    go_wp2_with fail
    refine (L _ _).mono ?_
    rintro e w2 ⟨rfl, hg⟩
    have hc := Gr.cells hg
    have hf := Gr.frees hg
    have hz := Gr.size hg
    try simp only [World.size_alloc, World.size_setCell, World.size_drew] at hz
    try have : 0 < w2.heap.size := by omega
    try have : w.heap.size < w2.heap.size := by omega
    try have : w1.heap.size < w2.heap.size := by omega
    try have : w1.heap.size + 1 < w2.heap.size := by omega
    go_wp2_with fail
    refine (M1 _).mono ?_
    rintro e w3 ⟨rfl, hg⟩
    have hc := Gr.cells hg
    have hf := Gr.frees hg
    have hz := Gr.size hg
    try simp only [World.size_alloc, World.size_setCell, World.size_drew] at hz
    try have : 0 < w3.heap.size := by omega
    try have : w.heap.size < w3.heap.size := by omega
    try have : w1.heap.size < w3.heap.size := by omega
    try have : w1.heap.size + 1 < w3.heap.size := by omega
    try have : w2.heap.size < w3.heap.size := by omega
    try have : w2.heap.size + 1 < w3.heap.size := by omega
    go_wp2_with fail
    refine (L _ _).mono ?_
    rintro e w4 ⟨rfl, hg⟩
    have hc := Gr.cells hg
    have hf := Gr.frees hg
    have hz := Gr.size hg
    try simp only [World.size_alloc, World.size_setCell, World.size_drew] at hz
    try have : 0 < w4.heap.size := by omega
    try have : w.heap.size < w4.heap.size := by omega
    try have : w1.heap.size < w4.heap.size := by omega
    try have : w1.heap.size + 1 < w4.heap.size := by omega
    try have : w2.heap.size < w4.heap.size := by omega
    try have : w2.heap.size + 1 < w4.heap.size := by omega
    try have : w3.heap.size < w4.heap.size := by omega
    try have : w3.heap.size + 1 < w4.heap.size := by omega
    go_wp2_with fail
    refine (L _ _).mono ?_
    rintro e w5 ⟨rfl, hg⟩
    have hc := Gr.cells hg
    have hf := Gr.frees hg
    have hz := Gr.size hg
    try simp only [World.size_alloc, World.size_setCell, World.size_drew] at hz
    try have : 0 < w5.heap.size := by omega
    try have : w.heap.size < w5.heap.size := by omega
    try have : w1.heap.size < w5.heap.size := by omega
    try have : w1.heap.size + 1 < w5.heap.size := by omega
    try have : w2.heap.size < w5.heap.size := by omega
    try have : w2.heap.size + 1 < w5.heap.size := by omega
    try have : w3.heap.size < w5.heap.size := by omega
    try have : w3.heap.size + 1 < w5.heap.size := by omega
    try have : w4.heap.size < w5.heap.size := by omega
    try have : w4.heap.size + 1 < w5.heap.size := by omega
    go_wp2_with fail
    refine (M2 _).mono ?_
    rintro e w6 ⟨rfl, hg⟩
    have hc := Gr.cells hg
    have hf := Gr.frees hg
    have hz := Gr.size hg
    try simp only [World.size_alloc, World.size_setCell, World.size_drew] at hz
    try have : 0 < w6.heap.size := by omega
    try have : w.heap.size < w6.heap.size := by omega
    try have : w1.heap.size < w6.heap.size := by omega
    try have : w1.heap.size + 1 < w6.heap.size := by omega
    try have : w2.heap.size < w6.heap.size := by omega
    try have : w2.heap.size + 1 < w6.heap.size := by omega
    try have : w3.heap.size < w6.heap.size := by omega
    try have : w3.heap.size + 1 < w6.heap.size := by omega
    try have : w4.heap.size < w6.heap.size := by omega
    try have : w4.heap.size + 1 < w6.heap.size := by omega
    try have : w5.heap.size < w6.heap.size := by omega
    try have : w5.heap.size + 1 < w6.heap.size := by omega
    go_wp2_with fail
    refine Rg.region_plan 10 [0, 1, 2, 3, 4, 5, 6, 7, 8, 9] [] [] (Below.drew (Below.refl _ _)) (by kernel_rfl) (by kernel_rfl) (fun _ _ d _ _ h => by cases d <;> exact h) ?_
    simp only [Rg.opsAt, List.filterMap_cons, List.filterMap_nil, List.getElem?_toArray, List.getElem?_cons_zero, List.getElem?_cons_succ, List.drop_succ_cons, List.drop_zero]
    repeat (first
        | (refine Rg.wpDets_skip (by rfl) ?_; simp only [Act.put, List.setIfInBounds_toArray, List.set_cons_zero, List.set_cons_succ])
        | (refine Rg.wpDets_step ?_ (by rfl) (fun w hS => ?_) ?_
           rotate_left
           · have hc := Gr.cells hS
             have hf := Gr.frees hS
             go_simp
             first
             | (refine ⟨?_, Below.refl _ _⟩; with_reducible rfl)
             | ((with_reducible refine (L _ _).mono ?_); rintro e w' ⟨rfl, hg⟩; refine ⟨?_, hg⟩; with_reducible rfl)
           simp only [Act.put, List.setIfInBounds_toArray, List.set_cons_zero, List.set_cons_succ]))
    refine Rg.wpDets_nil ?_
    refine Rg.wpFlts_nil ?_
    refine Rg.wpLays_nil ?_
    intro w7 hK
    have hg : Gr _ w7 := hK.up
    have hc := Gr.cells hg
    have hf := Gr.frees hg
    have hz := Gr.size hg
    try simp only [World.size_alloc, World.size_setCell, World.size_drew] at hz
    try have : 0 < w7.heap.size := by omega
    try have : w.heap.size < w7.heap.size := by omega
    try have : w1.heap.size < w7.heap.size := by omega
    try have : w1.heap.size + 1 < w7.heap.size := by omega
    try have : w2.heap.size < w7.heap.size := by omega
    try have : w2.heap.size + 1 < w7.heap.size := by omega
    try have : w3.heap.size < w7.heap.size := by omega
    try have : w3.heap.size + 1 < w7.heap.size := by omega
    try have : w4.heap.size < w7.heap.size := by omega
    try have : w4.heap.size + 1 < w7.heap.size := by omega
    try have : w5.heap.size < w7.heap.size := by omega
    try have : w5.heap.size + 1 < w7.heap.size := by omega
    try have : w6.heap.size < w7.heap.size := by omega
    try have : w6.heap.size + 1 < w7.heap.size := by omega
    go_wp2_with fail
    refine Rg.region_plan 8 [0, 1, 2, 3, 4, 5] [6] [7] (Below.drew (Below.refl _ _)) (by kernel_rfl) (by kernel_rfl) (fun _ _ d _ _ h => by cases d <;> exact h) ?_
    simp only [Rg.opsAt, List.filterMap_cons, List.filterMap_nil, List.getElem?_toArray, List.getElem?_cons_zero, List.getElem?_cons_succ, List.drop_succ_cons, List.drop_zero]
    repeat (first
        | (refine Rg.wpDets_skip (by rfl) ?_; simp only [Act.put, List.setIfInBounds_toArray, List.set_cons_zero, List.set_cons_succ])
        | (refine Rg.wpDets_step ?_ (by rfl) (fun w hS => ?_) ?_
           rotate_left
           · have hc := Gr.cells hS
             have hf := Gr.frees hS
             go_simp
             first
             | (refine ⟨?_, Below.refl _ _⟩; with_reducible rfl)
             | ((with_reducible refine (L _ _).mono ?_); rintro e w' ⟨rfl, hg⟩; refine ⟨?_, hg⟩; with_reducible rfl)
             | ((with_reducible refine (M3 _).mono ?_); rintro e w' ⟨rfl, hg⟩; refine ⟨?_, hg⟩; with_reducible rfl)
           simp only [Act.put, List.setIfInBounds_toArray, List.set_cons_zero, List.set_cons_succ]))
    refine Rg.wpDets_nil ?_
    first
    | (refine Rg.wpFlts_skip (by rfl) ?_; simp only [Act.put, List.setIfInBounds_toArray, List.set_cons_zero, List.set_cons_succ])
    | (refine Rg.wpFlts_step ?_ (by rfl) (fun w => ?_) ?_
       rotate_left
       · go_simp
         try with_reducible rfl
       simp only [Act.put, List.setIfInBounds_toArray, List.set_cons_zero, List.set_cons_succ])
    refine Rg.wpFlts_nil ?_
    refine Rg.wpLays_step ?_ (by rfl) (fun w => ?_) (fun g0 hg0 hu0 => ?_)
    rotate_left
    · go_simp
      try with_reducible rfl
    simp only [Act.put, List.setIfInBounds_toArray, List.set_cons_zero, List.set_cons_succ]
    refine Rg.wpLays_nil ?_
    intro w8 hK
    have hg : Gr _ w8 := hK.up
    obtain ⟨hb0, _⟩ := hK.psi
    have hcb0 := Rg.blk_cells hb0
    have hfb0 := Rg.blk_free hb0
    have hlb0 := lt_of_block hb0
    try simp only [World.size_alloc, World.size_setCell, World.size_drew] at hg0
    clear hK hb0
    have hc := Gr.cells hg
    have hf := Gr.frees hg
    have hz := Gr.size hg
    try simp only [World.size_alloc, World.size_setCell, World.size_drew] at hz
    try have : 0 < w8.heap.size := by omega
    try have : w.heap.size < w8.heap.size := by omega
    try have : w1.heap.size < w8.heap.size := by omega
    try have : w1.heap.size + 1 < w8.heap.size := by omega
    try have : w2.heap.size < w8.heap.size := by omega
    try have : w2.heap.size + 1 < w8.heap.size := by omega
    try have : w3.heap.size < w8.heap.size := by omega
    try have : w3.heap.size + 1 < w8.heap.size := by omega
    try have : w4.heap.size < w8.heap.size := by omega
    try have : w4.heap.size + 1 < w8.heap.size := by omega
    try have : w5.heap.size < w8.heap.size := by omega
    try have : w5.heap.size + 1 < w8.heap.size := by omega
    try have : w6.heap.size < w8.heap.size := by omega
    try have : w6.heap.size + 1 < w8.heap.size := by omega
    try have : w7.heap.size < w8.heap.size := by omega
    try have : w7.heap.size + 1 < w8.heap.size := by omega
    try have : w.heap.size < g0 := by omega
    try have : ¬ w.heap.size = g0 := by omega
    try have : ¬ g0 = w.heap.size := by omega
    try have : w1.heap.size < g0 := by omega
    try have : ¬ w1.heap.size = g0 := by omega
    try have : ¬ g0 = w1.heap.size := by omega
    try have : w2.heap.size < g0 := by omega
    try have : ¬ w2.heap.size = g0 := by omega
    try have : ¬ g0 = w2.heap.size := by omega
    try have : w3.heap.size < g0 := by omega
    try have : ¬ w3.heap.size = g0 := by omega
    try have : ¬ g0 = w3.heap.size := by omega
    try have : w4.heap.size < g0 := by omega
    try have : ¬ w4.heap.size = g0 := by omega
    try have : ¬ g0 = w4.heap.size := by omega
    try have : w5.heap.size < g0 := by omega
    try have : ¬ w5.heap.size = g0 := by omega
    try have : ¬ g0 = w5.heap.size := by omega
    try have : w6.heap.size < g0 := by omega
    try have : ¬ w6.heap.size = g0 := by omega
    try have : ¬ g0 = w6.heap.size := by omega
    try have : w7.heap.size < g0 := by omega
    try have : ¬ w7.heap.size = g0 := by omega
    try have : ¬ g0 = w7.heap.size := by omega
    go_wp2_with fail
    refine (M4 _).mono ?_
    rintro e w9 ⟨rfl, hg⟩
    have hc := Gr.cells hg
    have hf := Gr.frees hg
    have hz := Gr.size hg
    try simp only [World.size_alloc, World.size_setCell, World.size_drew] at hz
    try have : 0 < w9.heap.size := by omega
    try have : w.heap.size < w9.heap.size := by omega
    try have : w1.heap.size < w9.heap.size := by omega
    try have : w1.heap.size + 1 < w9.heap.size := by omega
    try have : w2.heap.size < w9.heap.size := by omega
    try have : w2.heap.size + 1 < w9.heap.size := by omega
    try have : w3.heap.size < w9.heap.size := by omega
    try have : w3.heap.size + 1 < w9.heap.size := by omega
    try have : w4.heap.size < w9.heap.size := by omega
    try have : w4.heap.size + 1 < w9.heap.size := by omega
    try have : w5.heap.size < w9.heap.size := by omega
    try have : w5.heap.size + 1 < w9.heap.size := by omega
    try have : w6.heap.size < w9.heap.size := by omega
    try have : w6.heap.size + 1 < w9.heap.size := by omega
    try have : w7.heap.size < w9.heap.size := by omega
    try have : w7.heap.size + 1 < w9.heap.size := by omega
    try have : w8.heap.size < w9.heap.size := by omega
    try have : w8.heap.size + 1 < w9.heap.size := by omega
    go_wp2_with fail
    have H0 : w9.cell? ⟨0, 0, none⟩ = some (.int .i64 m) := by go_simp
    refine Rg.region_plan 18 [0, 1, 2, 3, 4, 5, 6, 7, 8, 9, 10, 11, 12, 13, 14, 15, 16, 17] [] [] (Below.drew (Below.refl _ _)) (by kernel_rfl) (by kernel_rfl) (fun _ _ d _ _ h => by cases d <;> exact h) ?_
    simp only [Rg.opsAt, List.filterMap_cons, List.filterMap_nil, List.getElem?_toArray, List.getElem?_cons_zero, List.getElem?_cons_succ, List.drop_succ_cons, List.drop_zero]
    repeat (first
        | (refine Rg.wpDets_skip (by rfl) ?_; simp only [Act.put, List.setIfInBounds_toArray, List.set_cons_zero, List.set_cons_succ])
        | (refine Rg.wpDets_step ?_ (by rfl) (fun w hS => ?_) ?_
           rotate_left
           · have hc := Gr.cells hS
             have hf := Gr.frees hS
             go_simp
             first
             | (refine ⟨?_, Below.refl _ _⟩; with_reducible rfl)
             | ((with_reducible refine (L _ _).mono ?_); rintro e w' ⟨rfl, hg⟩; refine ⟨?_, hg⟩; with_reducible rfl)
             | ((with_reducible refine (awake_any m _ (by go_simp)).mono ?_); rintro e w' ⟨rfl, hg⟩; refine ⟨?_, hg⟩; with_reducible rfl)
           simp only [Act.put, List.setIfInBounds_toArray, List.set_cons_zero, List.set_cons_succ]))
    refine Rg.wpDets_nil ?_
    refine Rg.wpFlts_nil ?_
    refine Rg.wpLays_nil ?_
    intro w10 hK
    have hg : Gr _ w10 := hK.up
    have hc := Gr.cells hg
    have hf := Gr.frees hg
    have hz := Gr.size hg
    try simp only [World.size_alloc, World.size_setCell, World.size_drew] at hz
    try have : 0 < w10.heap.size := by omega
    try have : w.heap.size < w10.heap.size := by omega
    try have : w1.heap.size < w10.heap.size := by omega
    try have : w1.heap.size + 1 < w10.heap.size := by omega
    try have : w2.heap.size < w10.heap.size := by omega
    try have : w2.heap.size + 1 < w10.heap.size := by omega
    try have : w3.heap.size < w10.heap.size := by omega
    try have : w3.heap.size + 1 < w10.heap.size := by omega
    try have : w4.heap.size < w10.heap.size := by omega
    try have : w4.heap.size + 1 < w10.heap.size := by omega
    try have : w5.heap.size < w10.heap.size := by omega
    try have : w5.heap.size + 1 < w10.heap.size := by omega
    try have : w6.heap.size < w10.heap.size := by omega
    try have : w6.heap.size + 1 < w10.heap.size := by omega
    try have : w7.heap.size < w10.heap.size := by omega
    try have : w7.heap.size + 1 < w10.heap.size := by omega
    try have : w8.heap.size < w10.heap.size := by omega
    try have : w8.heap.size + 1 < w10.heap.size := by omega
    try have : w9.heap.size < w10.heap.size := by omega
    try have : w9.heap.size + 1 < w10.heap.size := by omega
    go_wp2
    all_goals
      (try (go_step3; (try simp only [Exit.then]); (try change Rg.once _ _ _ _ _ _); rw [Rg.once_goto]; go_wp2))
      (try rw [Rg.once_ret])
      (try rw [Exit.noGoto_ret])
      (try change bodyPost _ _ _ _ _ _)
      first
      | (go_returns; refine ⟨?_, ?_⟩)
      | (refine bodyPost_ret (by simp [results, Tryd.results3, go_sem, *]; try rfl) rfl ⟨?_, ?_⟩)
      rotate_left
      · repeat' (first | exact Gr.refl _ | exact Nat.le_refl _ | exact Nat.le_add_right _ _ | refine Gr.setCell ?_ ?_ _ | refine Gr.alloc ?_ _ | refine Gr.drew ?_ | refine Gr.trans ?_ (by assumption) | omega | (dsimp only; omega))
    all_goals rfl
theorem divides_any (a b m : Int) (w : World) (hm : w.cell? ⟨0, 0, none⟩ = some (.int .i64 m)) (ha : Bd a) (hb : Bd b) : Calls Tryd.prog 3 #[.int .i64 a, .int .i64 b] w (Yes w) := by
  by_cases h0 : (b == 0) = true
  · exact divides_zero a b m w hm ha hb h0
  have h0' : (b == 0) = false := by simpa using h0
  have hb0 : b ≠ 0 := by simpa using h0
  have M2 := fun W => math_int 22 a b W (by omega) (by omega) ha hb
  have e22 : arithR 22 a b = fitR (a.tmod b) := by unfold arithR; rw [h0']; rfl
  have e21 : arithR 21 a b = fitR (a.tdiv b) := by unfold arithR; rw [h0']; rfl
  have hid1 := Int.mul_tdiv_add_tmod a b
  have hrn : (a.tmod b).natAbs < b.natAbs := by rw [Int.natAbs_tmod]; exact Nat.mod_lt _ (by omega)
  have hrb : Bd (a.tmod b) := by unfold Bd at *; omega
  rw [e22] at M2
  unfold fitR at M2
  rw [(Vl.fits_iff _).2 hrb] at M2
  have M1 := fun W => math_int 21 a b W (by omega) (by omega) ha hb
  rw [e21] at M1
  unfold fitR at M1
  by_cases hq : Bd (a.tdiv b)
  · rw [(Vl.fits_iff _).2 hq] at M1
    have hpn : (a.tdiv b * b).natAbs ≤ a.natAbs := by
      rw [Int.natAbs_mul, Int.natAbs_tdiv]; exact Nat.div_mul_le_self _ _
    have hpb : Bd (a.tdiv b * b) := by
      have hs : 0 ≤ a → 0 ≤ a.tdiv b * b := by
        intro h
        have h1 : 0 ≤ a.tmod b := Int.tmod_nonneg _ h
        have h2 : (a.tmod b).natAbs ≤ a.natAbs := by rw [Int.natAbs_tmod]; exact Nat.mod_le _ _
        rw [Int.mul_comm]
        omega
      have hc := hid1
      rw [Int.mul_comm] at hc
      unfold Bd at *
      by_cases h0a : 0 ≤ a
      · have := hs h0a
        omega
      · omega
    have M3 := fun W => math_int 20 (a.tdiv b) b W (by omega) (by omega) hq hb
    have e20 : arithR 20 (a.tdiv b) b = (numV (a.tdiv b * b), 0) := by
      show fitR _ = _
      unfold fitR; rw [(Vl.fits_iff _).2 hpb]; rfl
    rw [e20] at M3
    have M4 := fun W => math_int 18 (a.tdiv b * b) (a.tmod b) W (by omega) (by omega) hpb hrb
    have e18 : arithR 18 (a.tdiv b * b) (a.tmod b) = (numV a, 0) := by
      show fitR _ = _
      have : a.tdiv b * b + a.tmod b = a := by rw [Int.mul_comm]; exact hid1
      rw [this]
      unfold fitR; rw [(Vl.fits_iff _).2 ha]; rfl
    rw [e18] at M4
    refine divides_fine a b m _ _ _ w hm h0' _ rfl ?_ ?_ M1 M2 M3 M4
    · intro h
      have : b = -1 := by simpa using h
      subst this
      have : a.tmod (-1) = 0 := by rw [Int.tmod_neg]; exact Int.tmod_one a
      rw [this]; rfl
    · by_cases hz : a.tmod b = 0
      · left; rw [hz]; rfl
      · right
        by_cases hneg : a < 0
        · have : 0 ≤ -(a.tmod b) := by rw [← Int.neg_tmod]; exact Int.tmod_nonneg _ (by omega)
          have h1 : a.tmod b < 0 := by omega
          simp [hneg, h1]
        · have : 0 ≤ a.tmod b := Int.tmod_nonneg _ (by omega)
          have h1 : ¬ a.tmod b < 0 := by omega
          simp [hneg, h1]
  · have hqf : Vl.fitsB (a.tdiv b) = false := by rw [← Bool.not_eq_true, Vl.fits_iff]; exact hq
    rw [hqf] at M1
    have hqn : (a.tdiv b).natAbs ≤ a.natAbs := by rw [Int.natAbs_tdiv]; exact Nat.div_le_self _ _
    have hla : a = -9223372036854775808 := by unfold Bd at *; omega
    have hlb : b = -1 := by
      have h5 : b = -1 ∨ b = 1 ∨ 2 ≤ b.natAbs := by omega
      rcases h5 with h5 | h5 | h5
      · exact h5
      · subst h5; rw [Int.tdiv_one] at hq; exact absurd ha hq
      · have h6 : (a.tdiv b).natAbs ≤ 4611686018427387904 := by
          rw [Int.natAbs_tdiv]
          calc a.natAbs / b.natAbs ≤ a.natAbs / 2 := Nat.div_le_div_left h5 (by omega)
            _ ≤ 4611686018427387904 := by omega
        unfold Bd at *; omega
    subst hla hlb
    exact divides_over _ _ m _ w hm h0' rfl rfl (by unfold wrap64; omega) rfl M1 M2
end Go.Proofs.YtefdkpfndjlpgaaDoor
