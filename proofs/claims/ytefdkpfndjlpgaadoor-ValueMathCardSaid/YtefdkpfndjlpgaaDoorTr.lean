/- ValueMath, ValueTruths: the laws' walks. -/
import Derived.Test.YtefdkpfndjlpgaaDoorDv
namespace Go.Proofs.YtefdkpfndjlpgaaDoor
open Go.RowKit
set_option linter.unusedSimpArgs false
set_option linter.unusedVariables false
attribute [local go_sem] Rg.once_normal Rg.once_exit Rg.once_ret Rg.once_panic Rg.once_goto Rg.leads_value Rg.leads_skip Rg.leads_enter Rg.brings_value Rg.brings_skip Rg.brings_enter
theorem math_all (op : Int) (a b : V) (w : World) (ha : Bd a.n) (hb : Bd b.n) (hs : a.s.size + b.s.size ≤ 9223372036854775807) : Calls Tryd.prog 10 #[.int .i64 op, a.val, b.val] w fun e w' => e = pairR (mathR op a b) ∧ Gr w w' := by
  unfold mathR
  by_cases h1 : op < 18
  · rw [if_pos (by simpa using h1)]
    exact math_out op a b w (.inl h1)
  rw [if_neg (by simpa using h1)]
  by_cases h2 : 23 < op
  · rw [if_pos (by simpa using h2)]
    exact math_out op a b w (.inr h2)
  rw [if_neg (by simpa using h2)]
  by_cases h3 : op = 23
  · subst h3
    exact math_cat a b w hs
  · rw [if_neg (by simpa using h3)]
    exact math_num op a b w (by omega) (by omega) ((Vl.fits_iff _).2 ha) ((Vl.fits_iff _).2 hb)
theorem rmath_all (op : Int) (a b : V) (w : World) (ha : Bd a.n) (hb : Bd b.n) (hs : a.s.size + b.s.size ≤ 9223372036854775807) : Calls Tryd.prog 13 #[.int .i64 op, a.val, b.val] w fun e w' => e = pairR (mathR op a b) ∧ Gr w w' := by
  unfold mathR
  by_cases h1 : op < 18
  · rw [if_pos (by simpa using h1)]
    exact rmath_out op a b w (.inl h1)
  rw [if_neg (by simpa using h1)]
  by_cases h2 : 23 < op
  · rw [if_pos (by simpa using h2)]
    exact rmath_out op a b w (.inr h2)
  rw [if_neg (by simpa using h2)]
  by_cases h3 : op = 23
  · subst h3
    have := rmath_cat a b w hs
    rw [← math_same] at this
    exact this
  · rw [if_neg (by simpa using h3), math_same]
    exact rmath_num op a b w (by omega) (by omega) ha hb
theorem mathR_neg (a : V) : mathR 19 (numV 0) a = negR a := rfl
set_option maxHeartbeats 2000000 in
set_option maxRecDepth 100000 in
theorem vmath_any (op : Int) (a b : V) (m : Int) (w : World) (hm : w.cell? ⟨0, 0, none⟩ = some (.int .i64 m)) (ha : Bd a.n) (hb : Bd b.n) (hs : a.s.size + b.s.size ≤ 9223372036854775807) :
    Calls Tryd.prog 4 #[.int .i64 op, a.val, b.val] w (Yes w) := by
  have hpos : 0 < w.heap.size := lt_of_cell hm
  have M1 := fun W => math_all op a b W ha hb hs
  have M2 := fun W => rmath_all op a b W ha hb hs
  have M3 := fun W => neg_any a W ((Vl.fits_iff _).2 ha)
  have hs0 : (numV 0).s.size + a.s.size ≤ 9223372036854775807 := by
    have h : (numV 0).s.size = 0 := rfl
    omega
  have M4 := fun W => rmath_all 19 (numV 0) a W (by unfold Bd numV; simp) ha hs0
  rw [mathR_neg] at M4
  have N := fun W => rint_any 0 W
  generalize mathR op a b = R at *
  generalize negR a = R2 at *
  clear ha hb hs hs0
  obtain ⟨t, n, s, b'⟩ := a
  obtain ⟨t2, n2, s2, b2'⟩ := b
  obtain ⟨⟨rt, rn, rs, rb⟩, re⟩ := R
  obtain ⟨⟨qt, qn, qs, qb⟩, qe⟩ := R2
  simp only [pairR, V.val, numV] at M1 M2 M3 M4 ⊢
  have E1 := fun W => v_same rt rn rs rb W
  have E2 := fun W => v_same qt qn qs qb W
  have tg := v_guard
  go_enter Tryd.func4, Tryd.ntmps4
  go_wp2_with fail
  refine (M1 _).mono ?_
  rintro e w1 ⟨rfl, hg⟩
  have hc := Gr.cells hg
  have hf := Gr.frees hg
  have hz := Gr.size hg
  try simp only [World.size_alloc, World.size_setCell, World.size_drew] at hz
  try have : 0 < w1.heap.size := by omega
  try have : w.heap.size < w1.heap.size := by omega
  try have : w.heap.size + 1 < w1.heap.size := by omega
  try have : w.heap.size + 1 + 1 < w1.heap.size := by omega
  go_wp2_with fail
  refine (M2 _).mono ?_
  rintro e w2 ⟨rfl, hg⟩
  have hc := Gr.cells hg
  have hf := Gr.frees hg
  have hz := Gr.size hg
  try simp only [World.size_alloc, World.size_setCell, World.size_drew] at hz
  try have : 0 < w2.heap.size := by omega
  try have : w.heap.size < w2.heap.size := by omega
  try have : w.heap.size + 1 < w2.heap.size := by omega
  try have : w.heap.size + 1 + 1 < w2.heap.size := by omega
  try have : w1.heap.size < w2.heap.size := by omega
  try have : w1.heap.size + 1 < w2.heap.size := by omega
  go_wp2_with fail
  refine (M3 _).mono ?_
  rintro e w3 ⟨rfl, hg⟩
  have hc := Gr.cells hg
  have hf := Gr.frees hg
  have hz := Gr.size hg
  try simp only [World.size_alloc, World.size_setCell, World.size_drew] at hz
  try have : 0 < w3.heap.size := by omega
  try have : w.heap.size < w3.heap.size := by omega
  try have : w.heap.size + 1 < w3.heap.size := by omega
  try have : w.heap.size + 1 + 1 < w3.heap.size := by omega
  try have : w1.heap.size < w3.heap.size := by omega
  try have : w1.heap.size + 1 < w3.heap.size := by omega
  try have : w2.heap.size < w3.heap.size := by omega
  try have : w2.heap.size + 1 < w3.heap.size := by omega
  go_wp2_with fail
  refine Rg.region_plan 7 [0, 1, 2, 3, 4] [5] [6] (Below.drew (Below.refl _ _)) (by kernel_rfl) (by kernel_rfl) (fun _ _ d _ _ h => by cases d <;> exact h) ?_
  simp only [Rg.opsAt, List.filterMap_cons, List.filterMap_nil, List.getElem?_toArray, List.getElem?_cons_zero, List.getElem?_cons_succ, List.drop_succ_cons, List.drop_zero]
  repeat (first
      | (refine Rg.wpDets_skip (by rfl) ?_; simp only [Act.put, List.setIfInBounds_toArray, List.set_cons_zero, List.set_cons_succ])
      | (refine Rg.wpDets_step ?_ (by rfl) (fun w hS => ?_) ?_
         rotate_left
         · have hc := Gr.cells hS
           have hf := Gr.frees hS
           go_simp
           first
           | (refine ⟨?_, Below.refl _ _⟩; with_reducible rfl)
           | ((with_reducible refine (N _).mono ?_); rintro e w' ⟨rfl, hg⟩; refine ⟨?_, hg⟩; with_reducible rfl)
           | ((with_reducible refine (M4 _).mono ?_); rintro e w' ⟨rfl, hg⟩; refine ⟨?_, hg⟩; with_reducible rfl)
         simp only [Act.put, List.setIfInBounds_toArray, List.set_cons_zero, List.set_cons_succ]))
  refine Rg.wpDets_nil ?_
  first
  | (refine Rg.wpFlts_skip (by rfl) ?_; simp only [Act.put, List.setIfInBounds_toArray, List.set_cons_zero, List.set_cons_succ])
  | (refine Rg.wpFlts_step ?_ (by rfl) (fun w => ?_) ?_
     rotate_left
     · go_simp
       try with_reducible rfl
     simp only [Act.put, List.setIfInBounds_toArray, List.set_cons_zero, List.set_cons_succ])
  refine Rg.wpFlts_nil ?_
  refine Rg.wpLays_step ?_ (by rfl) (fun w => ?_) (fun g0 hg0 hu0 => ?_)
  rotate_left
  · go_simp
    try with_reducible rfl
  simp only [Act.put, List.setIfInBounds_toArray, List.set_cons_zero, List.set_cons_succ]
  refine Rg.wpLays_nil ?_
  intro w4 hK
  have hg : Gr _ w4 := hK.up
  obtain ⟨hb0, _⟩ := hK.psi
  have hcb0 := Rg.blk_cells hb0
  have hfb0 := Rg.blk_free hb0
  have hlb0 := lt_of_block hb0
  try simp only [World.size_alloc, World.size_setCell, World.size_drew] at hg0
  clear hK hb0
  have hc := Gr.cells hg
  have hf := Gr.frees hg
  have hz := Gr.size hg
  try simp only [World.size_alloc, World.size_setCell, World.size_drew] at hz
  try have : 0 < w4.heap.size := by omega
  try have : w.heap.size < w4.heap.size := by omega
  try have : w.heap.size + 1 < w4.heap.size := by omega
  try have : w.heap.size + 1 + 1 < w4.heap.size := by omega
  try have : w1.heap.size < w4.heap.size := by omega
  try have : w1.heap.size + 1 < w4.heap.size := by omega
  try have : w2.heap.size < w4.heap.size := by omega
  try have : w2.heap.size + 1 < w4.heap.size := by omega
  try have : w3.heap.size < w4.heap.size := by omega
  try have : w3.heap.size + 1 < w4.heap.size := by omega
  try have : w.heap.size < g0 := by omega
  try have : ¬ w.heap.size = g0 := by omega
  try have : ¬ g0 = w.heap.size := by omega
  try have : w1.heap.size < g0 := by omega
  try have : ¬ w1.heap.size = g0 := by omega
  try have : ¬ g0 = w1.heap.size := by omega
  try have : w2.heap.size < g0 := by omega
  try have : ¬ w2.heap.size = g0 := by omega
  try have : ¬ g0 = w2.heap.size := by omega
  try have : w3.heap.size < g0 := by omega
  try have : ¬ w3.heap.size = g0 := by omega
  try have : ¬ g0 = w3.heap.size := by omega
  go_wp2_with fail
  refine (awake_any m _ (by go_simp)).mono ?_
  rintro e w5 ⟨rfl, hg⟩
  have hc := Gr.cells hg
  have hf := Gr.frees hg
  have hz := Gr.size hg
  try simp only [World.size_alloc, World.size_setCell, World.size_drew] at hz
  try have : 0 < w5.heap.size := by omega
  try have : w.heap.size < w5.heap.size := by omega
  try have : w.heap.size + 1 < w5.heap.size := by omega
  try have : w.heap.size + 1 + 1 < w5.heap.size := by omega
  try have : w1.heap.size < w5.heap.size := by omega
  try have : w1.heap.size + 1 < w5.heap.size := by omega
  try have : w2.heap.size < w5.heap.size := by omega
  try have : w2.heap.size + 1 < w5.heap.size := by omega
  try have : w3.heap.size < w5.heap.size := by omega
  try have : w3.heap.size + 1 < w5.heap.size := by omega
  try have : w4.heap.size < w5.heap.size := by omega
  try have : w4.heap.size + 1 < w5.heap.size := by omega
  go_wp2
  all_goals
    (try (go_step3; (try simp only [Exit.then]); (try change Rg.once _ _ _ _ _ _); rw [Rg.once_goto]; go_wp2))
    (try rw [Rg.once_ret])
    (try rw [Exit.noGoto_ret])
    (try change bodyPost _ _ _ _ _ _)
    first
    | (go_returns; refine ⟨?_, ?_⟩)
    | (refine bodyPost_ret (by simp [results, Tryd.results4, go_sem, *]; try rfl) rfl ⟨?_, ?_⟩)
    rotate_left
    · repeat' (first | exact Gr.refl _ | exact Nat.le_refl _ | exact Nat.le_add_right _ _ | refine Gr.setCell ?_ ?_ _ | refine Gr.alloc ?_ _ | refine Gr.drew ?_ | refine Gr.trans ?_ (by assumption) | omega | (dsimp only; omega))
  all_goals rfl
set_option maxHeartbeats 2000000 in
set_option maxRecDepth 100000 in
theorem truths_any (op : Int) (a b : V) (m : Int) (w : World) (hm : w.cell? ⟨0, 0, none⟩ = some (.int .i64 m)) :
    Calls Tryd.prog 8 #[.int .i64 op, a.val, b.val] w (Yes w) := by
  have hpos : 0 < w.heap.size := lt_of_cell hm
  have M1 := fun W => less_any op a b W
  have M2 := fun W => rless_any op a b W
  have M3 := fun W => and_any a b W
  have M4 := fun W => rand_any a b W
  have M5 := fun W => or_any a b W
  have M6 := fun W => ror_any a b W
  have M7 := fun W => not_any a W
  have M8 := fun W => rnot_any a W
  generalize lessR op a b = R1 at *
  generalize andR a b = R2 at *
  generalize orR a b = R3 at *
  generalize notR a = R4 at *
  obtain ⟨t, n, s, b'⟩ := a
  obtain ⟨t2, n2, s2, b2'⟩ := b
  obtain ⟨⟨rt, rn, rs, rb⟩, re⟩ := R1
  obtain ⟨⟨qt, qn, qs, qb⟩, qe⟩ := R2
  obtain ⟨⟨pt, pn, ps, pb⟩, pe⟩ := R3
  obtain ⟨⟨ot, on, os, ob⟩, oe⟩ := R4
  simp only [pairR, V.val] at M1 M2 M3 M4 M5 M6 M7 M8 ⊢
  have E1 := fun W => v_same rt rn rs rb W
  have E2 := fun W => v_same qt qn qs qb W
  have E3 := fun W => v_same pt pn ps pb W
  have E4 := fun W => v_same ot on os ob W
  have tg := v_guard
  go_enter Tryd.func8, Tryd.ntmps8
  go_wp2_with fail
  refine (M1 _).mono ?_
  rintro e w1 ⟨rfl, hg⟩
  have hc := Gr.cells hg
  have hf := Gr.frees hg
  have hz := Gr.size hg
  try simp only [World.size_alloc, World.size_setCell, World.size_drew] at hz
  try have : 0 < w1.heap.size := by omega
  try have : w.heap.size < w1.heap.size := by omega
  try have : w.heap.size + 1 < w1.heap.size := by omega
  try have : w.heap.size + 1 + 1 < w1.heap.size := by omega
  go_wp2_with fail
  refine (M2 _).mono ?_
  rintro e w2 ⟨rfl, hg⟩
  have hc := Gr.cells hg
  have hf := Gr.frees hg
  have hz := Gr.size hg
  try simp only [World.size_alloc, World.size_setCell, World.size_drew] at hz
  try have : 0 < w2.heap.size := by omega
  try have : w.heap.size < w2.heap.size := by omega
  try have : w.heap.size + 1 < w2.heap.size := by omega
  try have : w.heap.size + 1 + 1 < w2.heap.size := by omega
  try have : w1.heap.size < w2.heap.size := by omega
  try have : w1.heap.size + 1 < w2.heap.size := by omega
  go_wp2_with fail
  refine (M3 _).mono ?_
  rintro e w3 ⟨rfl, hg⟩
  have hc := Gr.cells hg
  have hf := Gr.frees hg
  have hz := Gr.size hg
  try simp only [World.size_alloc, World.size_setCell, World.size_drew] at hz
  try have : 0 < w3.heap.size := by omega
  try have : w.heap.size < w3.heap.size := by omega
  try have : w.heap.size + 1 < w3.heap.size := by omega
  try have : w.heap.size + 1 + 1 < w3.heap.size := by omega
  try have : w1.heap.size < w3.heap.size := by omega
  try have : w1.heap.size + 1 < w3.heap.size := by omega
  try have : w2.heap.size < w3.heap.size := by omega
  try have : w2.heap.size + 1 < w3.heap.size := by omega
  go_wp2_with fail
  refine (M4 _).mono ?_
  rintro e w4 ⟨rfl, hg⟩
  have hc := Gr.cells hg
  have hf := Gr.frees hg
  have hz := Gr.size hg
  try simp only [World.size_alloc, World.size_setCell, World.size_drew] at hz
  try have : 0 < w4.heap.size := by omega
  try have : w.heap.size < w4.heap.size := by omega
  try have : w.heap.size + 1 < w4.heap.size := by omega
  try have : w.heap.size + 1 + 1 < w4.heap.size := by omega
  try have : w1.heap.size < w4.heap.size := by omega
  try have : w1.heap.size + 1 < w4.heap.size := by omega
  try have : w2.heap.size < w4.heap.size := by omega
  try have : w2.heap.size + 1 < w4.heap.size := by omega
  try have : w3.heap.size < w4.heap.size := by omega
  try have : w3.heap.size + 1 < w4.heap.size := by omega
  go_wp2_with fail
  refine (M5 _).mono ?_
  rintro e w5 ⟨rfl, hg⟩
  have hc := Gr.cells hg
  have hf := Gr.frees hg
  have hz := Gr.size hg
  try simp only [World.size_alloc, World.size_setCell, World.size_drew] at hz
  try have : 0 < w5.heap.size := by omega
  try have : w.heap.size < w5.heap.size := by omega
  try have : w.heap.size + 1 < w5.heap.size := by omega
  try have : w.heap.size + 1 + 1 < w5.heap.size := by omega
  try have : w1.heap.size < w5.heap.size := by omega
  try have : w1.heap.size + 1 < w5.heap.size := by omega
  try have : w2.heap.size < w5.heap.size := by omega
  try have : w2.heap.size + 1 < w5.heap.size := by omega
  try have : w3.heap.size < w5.heap.size := by omega
  try have : w3.heap.size + 1 < w5.heap.size := by omega
  try have : w4.heap.size < w5.heap.size := by omega
  try have : w4.heap.size + 1 < w5.heap.size := by omega
  go_wp2_with fail
  refine (M6 _).mono ?_
  rintro e w6 ⟨rfl, hg⟩
  have hc := Gr.cells hg
  have hf := Gr.frees hg
  have hz := Gr.size hg
  try simp only [World.size_alloc, World.size_setCell, World.size_drew] at hz
  try have : 0 < w6.heap.size := by omega
  try have : w.heap.size < w6.heap.size := by omega
  try have : w.heap.size + 1 < w6.heap.size := by omega
  try have : w.heap.size + 1 + 1 < w6.heap.size := by omega
  try have : w1.heap.size < w6.heap.size := by omega
  try have : w1.heap.size + 1 < w6.heap.size := by omega
  try have : w2.heap.size < w6.heap.size := by omega
  try have : w2.heap.size + 1 < w6.heap.size := by omega
  try have : w3.heap.size < w6.heap.size := by omega
  try have : w3.heap.size + 1 < w6.heap.size := by omega
  try have : w4.heap.size < w6.heap.size := by omega
  try have : w4.heap.size + 1 < w6.heap.size := by omega
  try have : w5.heap.size < w6.heap.size := by omega
  try have : w5.heap.size + 1 < w6.heap.size := by omega
  go_wp2_with fail
  refine (M7 _).mono ?_
  rintro e w7 ⟨rfl, hg⟩
  have hc := Gr.cells hg
  have hf := Gr.frees hg
  have hz := Gr.size hg
  try simp only [World.size_alloc, World.size_setCell, World.size_drew] at hz
  try have : 0 < w7.heap.size := by omega
  try have : w.heap.size < w7.heap.size := by omega
  try have : w.heap.size + 1 < w7.heap.size := by omega
  try have : w.heap.size + 1 + 1 < w7.heap.size := by omega
  try have : w1.heap.size < w7.heap.size := by omega
  try have : w1.heap.size + 1 < w7.heap.size := by omega
  try have : w2.heap.size < w7.heap.size := by omega
  try have : w2.heap.size + 1 < w7.heap.size := by omega
  try have : w3.heap.size < w7.heap.size := by omega
  try have : w3.heap.size + 1 < w7.heap.size := by omega
  try have : w4.heap.size < w7.heap.size := by omega
  try have : w4.heap.size + 1 < w7.heap.size := by omega
  try have : w5.heap.size < w7.heap.size := by omega
  try have : w5.heap.size + 1 < w7.heap.size := by omega
  try have : w6.heap.size < w7.heap.size := by omega
  try have : w6.heap.size + 1 < w7.heap.size := by omega
  go_wp2_with fail
  refine (M8 _).mono ?_
  rintro e w8 ⟨rfl, hg⟩
  have hc := Gr.cells hg
  have hf := Gr.frees hg
  have hz := Gr.size hg
  try simp only [World.size_alloc, World.size_setCell, World.size_drew] at hz
  try have : 0 < w8.heap.size := by omega
  try have : w.heap.size < w8.heap.size := by omega
  try have : w.heap.size + 1 < w8.heap.size := by omega
  try have : w.heap.size + 1 + 1 < w8.heap.size := by omega
  try have : w1.heap.size < w8.heap.size := by omega
  try have : w1.heap.size + 1 < w8.heap.size := by omega
  try have : w2.heap.size < w8.heap.size := by omega
  try have : w2.heap.size + 1 < w8.heap.size := by omega
  try have : w3.heap.size < w8.heap.size := by omega
  try have : w3.heap.size + 1 < w8.heap.size := by omega
  try have : w4.heap.size < w8.heap.size := by omega
  try have : w4.heap.size + 1 < w8.heap.size := by omega
  try have : w5.heap.size < w8.heap.size := by omega
  try have : w5.heap.size + 1 < w8.heap.size := by omega
  try have : w6.heap.size < w8.heap.size := by omega
  try have : w6.heap.size + 1 < w8.heap.size := by omega
  try have : w7.heap.size < w8.heap.size := by omega
  try have : w7.heap.size + 1 < w8.heap.size := by omega
  go_wp2_with fail
  refine (awake_any m _ (by go_simp)).mono ?_
  rintro e w9 ⟨rfl, hg⟩
  have hc := Gr.cells hg
  have hf := Gr.frees hg
  have hz := Gr.size hg
  try simp only [World.size_alloc, World.size_setCell, World.size_drew] at hz
  try have : 0 < w9.heap.size := by omega
  try have : w.heap.size < w9.heap.size := by omega
  try have : w.heap.size + 1 < w9.heap.size := by omega
  try have : w.heap.size + 1 + 1 < w9.heap.size := by omega
  try have : w1.heap.size < w9.heap.size := by omega
  try have : w1.heap.size + 1 < w9.heap.size := by omega
  try have : w2.heap.size < w9.heap.size := by omega
  try have : w2.heap.size + 1 < w9.heap.size := by omega
  try have : w3.heap.size < w9.heap.size := by omega
  try have : w3.heap.size + 1 < w9.heap.size := by omega
  try have : w4.heap.size < w9.heap.size := by omega
  try have : w4.heap.size + 1 < w9.heap.size := by omega
  try have : w5.heap.size < w9.heap.size := by omega
  try have : w5.heap.size + 1 < w9.heap.size := by omega
  try have : w6.heap.size < w9.heap.size := by omega
  try have : w6.heap.size + 1 < w9.heap.size := by omega
  try have : w7.heap.size < w9.heap.size := by omega
  try have : w7.heap.size + 1 < w9.heap.size := by omega
  try have : w8.heap.size < w9.heap.size := by omega
  try have : w8.heap.size + 1 < w9.heap.size := by omega
  go_wp2
  all_goals
    (try (go_step3; (try simp only [Exit.then]); (try change Rg.once _ _ _ _ _ _); rw [Rg.once_goto]; go_wp2))
    (try rw [Rg.once_ret])
    (try rw [Exit.noGoto_ret])
    (try change bodyPost _ _ _ _ _ _)
    first
    | (go_returns; refine ⟨?_, ?_⟩)
    | (refine bodyPost_ret (by simp [results, Tryd.results8, go_sem, *]; try rfl) rfl ⟨?_, ?_⟩)
    rotate_left
    · repeat' (first | exact Gr.refl _ | exact Nat.le_refl _ | exact Nat.le_add_right _ _ | refine Gr.setCell ?_ ?_ _ | refine Gr.alloc ?_ _ | refine Gr.drew ?_ | refine Gr.trans ?_ (by assumption) | omega | (dsimp only; omega))
  all_goals rfl
end Go.Proofs.YtefdkpfndjlpgaaDoor
