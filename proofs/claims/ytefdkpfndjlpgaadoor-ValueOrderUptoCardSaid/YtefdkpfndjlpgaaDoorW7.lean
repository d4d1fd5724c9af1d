/- value.Math, Neg, Not, And, Or. -/
import Derived.Test.YtefdkpfndjlpgaaDoorW6
import Derived.Test.YtefdkpfndjlpgaaDoorW3
namespace Go.Proofs.YtefdkpfndjlpgaaDoor
open Go.RowKit
set_option linter.unusedSimpArgs false
set_option linter.unusedVariables false
attribute [local go_sem] Rg.once_normal Rg.once_exit Rg.once_ret Rg.once_panic Rg.once_goto Rg.leads_value Rg.leads_skip Rg.leads_enter
theorem typed2 (kind : Int) (a b : V) (g c : Nat) (W : World)
    (c0 : W.cell? ⟨g, 0, none⟩ = some (.int .i64 a.t)) (c1 : W.cell? ⟨g, 1, none⟩ = some (.int .i64 a.n)) (c2 : W.cell? ⟨g, 2, none⟩ = some (.string a.s)) (c3 : W.cell? ⟨g, 3, none⟩ = some (.bool a.b))
    (c4 : W.cell? ⟨g, 4, none⟩ = some (.int .i64 b.t)) (c5 : W.cell? ⟨g, 5, none⟩ = some (.int .i64 b.n)) (c6 : W.cell? ⟨g, 6, none⟩ = some (.string b.s)) (c7 : W.cell? ⟨g, 7, none⟩ = some (.bool b.b)) :
    Calls Tryd.prog 33 #[.int .i64 kind, .slice (some ⟨g, 0, none⟩) 2 c] W fun e w' => e = .returned (.tuple #[.bool (typedB kind [a, b]).1, .bool (typedB kind [a, b]).2]) ∧ Gr W w' := by
  refine typed_any kind [a, b] g c W (by simp) (fun k i u h hu => ?_)
  match k, h, i, hu with
  | 0, _, 0, hu => simp [V.cells] at hu; rw [← hu]; exact c0
  | 0, _, 1, hu => simp [V.cells] at hu; rw [← hu]; exact c1
  | 0, _, 2, hu => simp [V.cells] at hu; rw [← hu]; exact c2
  | 0, _, 3, hu => simp [V.cells] at hu; rw [← hu]; exact c3
  | 0, _, i + 4, hu => simp [V.cells] at hu
  | 1, _, 0, hu => simp [V.cells] at hu; rw [← hu]; exact c4
  | 1, _, 1, hu => simp [V.cells] at hu; rw [← hu]; exact c5
  | 1, _, 2, hu => simp [V.cells] at hu; rw [← hu]; exact c6
  | 1, _, 3, hu => simp [V.cells] at hu; rw [← hu]; exact c7
  | 1, _, i + 4, hu => simp [V.cells] at hu
theorem typed1 (kind : Int) (a : V) (g c : Nat) (W : World)
    (c0 : W.cell? ⟨g, 0, none⟩ = some (.int .i64 a.t)) (c1 : W.cell? ⟨g, 1, none⟩ = some (.int .i64 a.n)) (c2 : W.cell? ⟨g, 2, none⟩ = some (.string a.s)) (c3 : W.cell? ⟨g, 3, none⟩ = some (.bool a.b)) :
    Calls Tryd.prog 33 #[.int .i64 kind, .slice (some ⟨g, 0, none⟩) 1 c] W fun e w' => e = .returned (.tuple #[.bool (typedB kind [a]).1, .bool (typedB kind [a]).2]) ∧ Gr W w' := by
  refine typed_any kind [a] g c W (by simp) (fun k i u h hu => ?_)
  match k, h, i, hu with
  | 0, _, 0, hu => simp [V.cells] at hu; rw [← hu]; exact c0
  | 0, _, 1, hu => simp [V.cells] at hu; rw [← hu]; exact c1
  | 0, _, 2, hu => simp [V.cells] at hu; rw [← hu]; exact c2
  | 0, _, 3, hu => simp [V.cells] at hu; rw [← hu]; exact c3
  | 0, _, i + 4, hu => simp [V.cells] at hu
/-- what a sign says of two values -/
def mathIn (op : Int) (a b : V) (k : Int) : V × Int :=
  if (typedB k [a, b]).1 then (if (typedB k [a, b]).2 then (nul, 0) else if op == 23 then (textV (a.s ++ b.s), 0) else arithR op a.n b.n) else (nul, 160)
def mathR (op : Int) (a b : V) : V × Int :=
  if decide (op < 18) then (nul, 1) else if decide (23 < op) then (nul, 1) else if op == 23 then mathIn op a b 2 else mathIn op a b 1
set_option maxHeartbeats 1000000 in
set_option maxRecDepth 100000 in
theorem math_out (op : Int) (a b : V) (w : World) (h : op < 18 ∨ 23 < op) : Calls Tryd.prog 10 #[.int .i64 op, a.val, b.val] w fun e w' => e = pairR (nul, 1) ∧ Gr w w' := by
  obtain ⟨t, n, s, b'⟩ := a
  obtain ⟨t2, n2, s2, b2'⟩ := b
  unfold V.val
  have o3 : (op == 23) = false := by simp; omega
  rcases h with h | h
  · have o1 : decide (op < 18) = true := by simpa using h
    go_enter Tryd.func10, Tryd.ntmps10
    go_wp2_with fail
    refine Rg.wp_scope_once 0 rfl ?_
    go_wp2
    all_goals
      (try (go_step3; (try simp only [Exit.then]); (try change Rg.once _ _ _ _ _ _); rw [Rg.once_goto]; go_wp2))
      (try rw [Rg.once_ret])
      (try rw [Exit.noGoto_ret])
      (try change bodyPost _ _ _ _ _ _)
      first
      | (go_returns; refine ⟨?_, ?_⟩)
      | (refine bodyPost_ret (by simp [results, Tryd.results10, go_sem, *]; try rfl) rfl ⟨?_, ?_⟩)
      rotate_left
      · repeat' (first | exact Gr.refl _ | exact Nat.le_refl _ | exact Nat.le_add_right _ _ | refine Gr.setCell ?_ ?_ _ | refine Gr.alloc ?_ _ | refine Gr.drew ?_ | refine Gr.trans ?_ (by assumption) | omega | (dsimp only; omega))
    all_goals rfl
  · have o1 : decide (op < 18) = false := by simp; omega
    have o2 : decide (23 < op) = true := by simpa using h
    go_enter Tryd.func10, Tryd.ntmps10
    go_wp2_with fail
    refine Rg.wp_scope_once 0 rfl ?_
    go_wp2
    all_goals
      (try (go_step3; (try simp only [Exit.then]); (try change Rg.once _ _ _ _ _ _); rw [Rg.once_goto]; go_wp2))
      (try rw [Rg.once_ret])
      (try rw [Exit.noGoto_ret])
      (try change bodyPost _ _ _ _ _ _)
      first
      | (go_returns; refine ⟨?_, ?_⟩)
      | (refine bodyPost_ret (by simp [results, Tryd.results10, go_sem, *]; try rfl) rfl ⟨?_, ?_⟩)
      rotate_left
      · repeat' (first | exact Gr.refl _ | exact Nat.le_refl _ | exact Nat.le_add_right _ _ | refine Gr.setCell ?_ ?_ _ | refine Gr.alloc ?_ _ | refine Gr.drew ?_ | refine Gr.trans ?_ (by assumption) | omega | (dsimp only; omega))
    all_goals rfl
set_option maxHeartbeats 1000000 in
set_option maxRecDepth 100000 in
theorem math_num (op : Int) (a b : V) (w : World) (h1 : 18 ≤ op) (h2 : op ≤ 22) (ha : Vl.fitsB a.n = true) (hb : Vl.fitsB b.n = true) : Calls Tryd.prog 10 #[.int .i64 op, a.val, b.val] w fun e w' => e = pairR (mathIn op a b 1) ∧ Gr w w' := by
  obtain ⟨t, n, s, b'⟩ := a
  obtain ⟨t2, n2, s2, b2'⟩ := b
  have T := typed2 1 ⟨t, n, s, b'⟩ ⟨t2, n2, s2, b2'⟩
  have M := fun W => arith_any op n n2 W ha hb h1 h2
  have o1 : decide (op < 18) = false := by simp; omega
  have o2 : decide (23 < op) = false := by simp; omega
  have o3 : (op == 23) = false := by simp; omega
  unfold mathIn
  clear ha hb h1 h2
  rw [o3]
  generalize typedB 1 [⟨t, n, s, b'⟩, ⟨t2, n2, s2, b2'⟩] = tb at *
  obtain ⟨tb1, tb2⟩ := tb
  have TT := hid T
  clear T
  simp only
  generalize arithR op n n2 = R at *
  obtain ⟨⟨rt, rn, rs, rb⟩, re⟩ := R
  unfold V.val
  unfold pairR at M
  cases tb1 <;> cases tb2
  all_goals
    go_enter Tryd.func10, Tryd.ntmps10
    go_wp2_with fail
    refine Rg.wp_scope_once 0 rfl ?_
    go_wp2_with fail
    go_wp2_with fail
    refine (TT.out _ _ _ (by go_simp) (by go_simp) (by go_simp) (by go_simp) (by go_simp) (by go_simp) (by go_simp) (by go_simp)).mono ?_
    rintro e w' ⟨rfl, hg⟩
    have hc := hg.cells
    have hf := hg.frees
    have hz := hg.size
    try simp only [World.size_alloc, World.size_setCell, World.size_drew] at hz
    try have : w.heap.size < w'.heap.size := by omega
    try have : w.heap.size + 1 < w'.heap.size := by omega
    try have : w.heap.size + 1 + 1 < w'.heap.size := by omega
    try have : w.heap.size + 1 + 1 + 1 < w'.heap.size := by omega
    go_wp2_with (first | (go_at_call 34; ((with_reducible refine (M _).mono ?_)); rintro e w' ⟨rfl, hg⟩; have hc := hg.cells; have hf := hg.frees; have hz := hg.size; (try simp only [World.size_alloc, World.size_setCell, World.size_drew] at hz); (try have : w.heap.size < w'.heap.size := by omega); (try have : w.heap.size + 1 < w'.heap.size := by omega); (try have : w.heap.size + 1 + 1 < w'.heap.size := by omega); (try have : w.heap.size + 1 + 1 + 1 < w'.heap.size := by omega)))
    all_goals
      (try (go_step3; (try simp only [Exit.then]); (try change Rg.once _ _ _ _ _ _); rw [Rg.once_goto]; go_wp2))
      (try rw [Rg.once_ret])
      (try rw [Exit.noGoto_ret])
      (try change bodyPost _ _ _ _ _ _)
      first
      | (go_returns; refine ⟨?_, ?_⟩)
      | (refine bodyPost_ret (by simp [results, Tryd.results10, go_sem, *]; try rfl) rfl ⟨?_, ?_⟩)
      rotate_left
      · repeat' (first | exact Gr.refl _ | exact Nat.le_refl _ | exact Nat.le_add_right _ _ | refine Gr.setCell ?_ ?_ _ | refine Gr.alloc ?_ _ | refine Gr.drew ?_ | refine Gr.trans ?_ (by assumption) | omega | (dsimp only; omega))
    all_goals rfl
set_option maxHeartbeats 1000000 in
set_option maxRecDepth 100000 in
theorem math_cat (a b : V) (w : World) (hs : a.s.size + b.s.size ≤ 9223372036854775807) : Calls Tryd.prog 10 #[.int .i64 23, a.val, b.val] w fun e w' => e = pairR (mathIn 23 a b 2) ∧ Gr w w' := by
  obtain ⟨t, n, s, b'⟩ := a
  obtain ⟨t2, n2, s2, b2'⟩ := b
  have T := typed2 2 ⟨t, n, s, b'⟩ ⟨t2, n2, s2, b2'⟩
  have hs' : s.size + s2.size ≤ 9223372036854775807 := hs
  clear hs
  unfold mathIn
  generalize typedB 2 [⟨t, n, s, b'⟩, ⟨t2, n2, s2, b2'⟩] = tb at *
  obtain ⟨tb1, tb2⟩ := tb
  have TT := hid T
  clear T
  unfold V.val
  cases tb1 <;> cases tb2
  all_goals
    go_enter Tryd.func10, Tryd.ntmps10
    go_wp2_with fail
    refine Rg.wp_scope_once 0 rfl ?_
    go_wp2_with fail
    go_wp2_with fail
    refine (TT.out _ _ _ (by go_simp) (by go_simp) (by go_simp) (by go_simp) (by go_simp) (by go_simp) (by go_simp) (by go_simp)).mono ?_
    rintro e w' ⟨rfl, hg⟩
    have hc := hg.cells
    have hf := hg.frees
    have hz := hg.size
    try simp only [World.size_alloc, World.size_setCell, World.size_drew] at hz
    try have : w.heap.size < w'.heap.size := by omega
    try have : w.heap.size + 1 < w'.heap.size := by omega
    try have : w.heap.size + 1 + 1 < w'.heap.size := by omega
    try have : w.heap.size + 1 + 1 + 1 < w'.heap.size := by omega
    go_wp2
    all_goals
      (try (go_step3; (try simp only [Exit.then]); (try change Rg.once _ _ _ _ _ _); rw [Rg.once_goto]; go_wp2))
      (try rw [Rg.once_ret])
      (try rw [Exit.noGoto_ret])
      (try change bodyPost _ _ _ _ _ _)
      first
      | (go_returns; refine ⟨?_, ?_⟩)
      | (refine bodyPost_ret (by simp [results, Tryd.results10, go_sem, *]; try rfl) rfl ⟨?_, ?_⟩)
      rotate_left
      · repeat' (first | exact Gr.refl _ | exact Nat.le_refl _ | exact Nat.le_add_right _ _ | refine Gr.setCell ?_ ?_ _ | refine Gr.alloc ?_ _ | refine Gr.drew ?_ | refine Gr.trans ?_ (by assumption) | omega | (dsimp only; omega))
    all_goals rfl
end Go.Proofs.YtefdkpfndjlpgaaDoor
