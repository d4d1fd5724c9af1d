/- The connectives, and what is below 0. -/
import Derived.Test.YtefdkpfndjlpgaaDoorW8
namespace Go.Proofs.YtefdkpfndjlpgaaDoor
open Go.RowKit
set_option linter.unusedSimpArgs false
set_option linter.unusedVariables false
attribute [local go_sem] Rg.once_normal Rg.once_exit Rg.once_ret Rg.once_panic Rg.once_goto Rg.leads_value Rg.leads_skip Rg.leads_enter
/-- are two values the same? -/
def veqB (a b : V) : Bool := (a.t == b.t) && ((a.n == b.n) && ((a.s.toList == b.s.toList) && (a.b == b.b)))
theorem v_equal (a b : V) (W : World) : (Op.equalIn 10000 23 a.val b.val).run Tryd.prog W = .ok (veqB a b) W := by
  obtain ⟨t, n, s, b'⟩ := a
  obtain ⟨t2, n2, s2, b2'⟩ := b
  unfold V.val veqB
  rw [run_equalIn_agg W 9999 23 _ _ v_struct v_plain]
  simp only
  cases h1 : (t == t2) <;> cases h2 : (n == n2) <;> cases h3 : (s.toList == s2.toList) <;> cases h4 : (b' == b2')
  all_goals
    try simp only [beq_eq_false_iff_ne, ne_eq, beq_iff_eq] at h1 h2 h4
    go_simp
def notR (a : V) : V × Int := if a.t == 0 then (nul, 0) else if a.t == 3 then (boolV (!a.b), 0) else (nul, 160)
set_option maxHeartbeats 1000000 in
set_option maxRecDepth 100000 in
theorem not_any (a : V) (w : World) : Calls Tryd.prog 22 #[a.val] w fun e w' => e = pairR (notR a) ∧ Gr w w' := by
  obtain ⟨t, n, s, b⟩ := a
  unfold V.val
  generalize hr : pairR (notR ⟨t, n, s, b⟩) = R
  unfold notR at hr
  have Hr := hid hr
  clear hr
  go_enter Tryd.func22, Tryd.ntmps22
  go_wp2_with (first | (go_at_call 43; ((with_reducible refine (truth_any _ _).mono ?_)); rintro e w' ⟨rfl, hg⟩; have hc := hg.cells; have hf := hg.frees; have hz := hg.size; (try simp only [World.size_alloc, World.size_setCell, World.size_drew] at hz); (try have : w.heap.size < w'.heap.size := by omega); (try have : w.heap.size + 1 < w'.heap.size := by omega); (try have : w.heap.size + 1 + 1 < w'.heap.size := by omega); (try have : w.heap.size + 1 + 1 + 1 < w'.heap.size := by omega)))
  all_goals
    (try (go_step3; (try simp only [Exit.then]); (try change Rg.once _ _ _ _ _ _); rw [Rg.once_goto]; go_wp2))
    (try rw [Rg.once_ret])
    (try rw [Exit.noGoto_ret])
    (try change bodyPost _ _ _ _ _ _)
    first
    | (go_returns; refine ⟨?_, ?_⟩)
    | (refine bodyPost_ret (by simp [results, Tryd.results22, go_sem, *]; try rfl) rfl ⟨?_, ?_⟩)
    rotate_left
    · repeat' (first | exact Gr.refl _ | exact Nat.le_refl _ | exact Nat.le_add_right _ _ | refine Gr.setCell ?_ ?_ _ | refine Gr.alloc ?_ _ | refine Gr.drew ?_ | refine Gr.trans ?_ (by assumption) | omega | (dsimp only; omega))
  all_goals (rw [← Hr.out]; (try simp only [*, if_true, Bool.false_eq_true, if_false]); (try rfl))
/-- a truth or null without anything beside it -/
def plainV (a : V) : V := ⟨a.t, 0, ⟨#[]⟩, a.b && (a.t == 3)⟩
set_option maxHeartbeats 1000000 in
set_option maxRecDepth 100000 in
theorem plain_any (a : V) (w : World) : Calls Tryd.prog 42 #[a.val] w fun e w' => e = .returned (plainV a).val ∧ Gr w w' := by
  obtain ⟨t, n, s, b⟩ := a
  unfold plainV V.val
  obtain ⟨b1, t1⟩ : ∃ b, (t == 3) = b := ⟨_, rfl⟩
  simp only
  rw [t1]
  cases b <;> cases b1
  all_goals
    go_enter Tryd.func42, Tryd.ntmps42
    go_wp2
    all_goals
      (try (go_step3; (try simp only [Exit.then]); (try change Rg.once _ _ _ _ _ _); rw [Rg.once_goto]; go_wp2))
      (try rw [Rg.once_ret])
      (try rw [Exit.noGoto_ret])
      (try change bodyPost _ _ _ _ _ _)
      first
      | (go_returns; refine ⟨?_, ?_⟩)
      | (refine bodyPost_ret (by simp [results, Tryd.results42, go_sem, *]; try rfl) rfl ⟨?_, ?_⟩)
      rotate_left
      · repeat' (first | exact Gr.refl _ | exact Nat.le_refl _ | exact Nat.le_add_right _ _ | refine Gr.setCell ?_ ?_ _ | refine Gr.alloc ?_ _ | refine Gr.drew ?_ | refine Gr.trans ?_ (by assumption) | omega | (dsimp only; omega))
    all_goals rfl
def sideR (a b : V) (d : Bool) : V × Int :=
  if (typedB 3 [a, b]).1 then (if veqB a (boolV d) then (boolV d, 0) else if veqB b (boolV d) then (boolV d, 0) else if (typedB 3 [a, b]).2 then (nul, 0) else (boolV (!d), 0)) else (nul, 160)
set_option maxHeartbeats 2000000 in
set_option maxRecDepth 100000 in
theorem side_any (a b : V) (d : Bool) (w : World) : Calls Tryd.prog 41 #[a.val, b.val, .bool d] w fun e w' => e = pairR (sideR a b d) ∧ Gr w w' := by
  have E1 := fun W => v_equal a (boolV d) W
  have E2 := fun W => v_equal b (boolV d) W
  have TR := fun W => truth_any d W
  have tg := v_guard
  obtain ⟨t, n, s, b'⟩ := a
  obtain ⟨t2, n2, s2, b2'⟩ := b
  have T := typed2 3 ⟨t, n, s, b'⟩ ⟨t2, n2, s2, b2'⟩
  unfold sideR
  generalize veqB ⟨t, n, s, b'⟩ (boolV d) = x1 at *
  generalize veqB ⟨t2, n2, s2, b2'⟩ (boolV d) = x2 at *
  generalize typedB 3 [⟨t, n, s, b'⟩, ⟨t2, n2, s2, b2'⟩] = tb at *
  obtain ⟨tb1, tb2⟩ := tb
  have TT := hid T
  clear T
  unfold V.val boolV at E1 E2
  unfold V.val
  simp only at E1 E2
  cases tb1
  · go_enter Tryd.func41, Tryd.ntmps41
    go_wp2_with fail
    go_wp2_with fail
    refine (TT.out _ _ _ (by go_simp) (by go_simp) (by go_simp) (by go_simp) (by go_simp) (by go_simp) (by go_simp) (by go_simp)).mono ?_
    rintro e w' ⟨rfl, hg⟩
    have hc := hg.cells
    have hf := hg.frees
    have hz := hg.size
    try simp only [World.size_alloc, World.size_setCell, World.size_drew] at hz
    try have : w.heap.size < w'.heap.size := by omega
    try have : w.heap.size + 1 < w'.heap.size := by omega
    try have : w.heap.size + 1 + 1 < w'.heap.size := by omega
    try have : w.heap.size + 1 + 1 + 1 < w'.heap.size := by omega
    go_wp2
    all_goals
      (try (go_step3; (try simp only [Exit.then]); (try change Rg.once _ _ _ _ _ _); rw [Rg.once_goto]; go_wp2))
      (try rw [Rg.once_ret])
      (try rw [Exit.noGoto_ret])
      (try change bodyPost _ _ _ _ _ _)
      first
      | (go_returns; refine ⟨?_, ?_⟩)
      | (refine bodyPost_ret (by simp [results, Tryd.results41, go_sem, *]; try rfl) rfl ⟨?_, ?_⟩)
      rotate_left
      · repeat' (first | exact Gr.refl _ | exact Nat.le_refl _ | exact Nat.le_add_right _ _ | refine Gr.setCell ?_ ?_ _ | refine Gr.alloc ?_ _ | refine Gr.drew ?_ | refine Gr.trans ?_ (by assumption) | omega | (dsimp only; omega))
    all_goals rfl
  · cases x1 <;> cases x2 <;> cases tb2
    all_goals
      go_enter Tryd.func41, Tryd.ntmps41
      go_wp2_with fail
      go_wp2_with fail
      refine (TT.out _ _ _ (by go_simp) (by go_simp) (by go_simp) (by go_simp) (by go_simp) (by go_simp) (by go_simp) (by go_simp)).mono ?_
      rintro e w' ⟨rfl, hg⟩
      have hc := hg.cells
      have hf := hg.frees
      have hz := hg.size
      try simp only [World.size_alloc, World.size_setCell, World.size_drew] at hz
      try have : w.heap.size < w'.heap.size := by omega
      try have : w.heap.size + 1 < w'.heap.size := by omega
      try have : w.heap.size + 1 + 1 < w'.heap.size := by omega
      try have : w.heap.size + 1 + 1 + 1 < w'.heap.size := by omega
      go_wp2_with fail
      refine Rg.region_tail (fun wz => Gr w' wz) 10 (Gr.drew (Gr.refl _)) (by kernel_rfl) (by kernel_rfl) ?_
      simp only [List.take_succ_cons, List.take_zero, List.drop_succ_cons, List.drop_zero]
      repeat (first
          | (refine Rg.wpG_skip (by rfl) ?_; simp only [Act.put, List.setIfInBounds_toArray, List.set_cons_zero, List.set_cons_succ])
          | (refine Rg.wpG_step ?_ (by rfl) (fun w hS => ?_) ?_
             rotate_left
             · have hc := hS.cells
               have hf := hS.frees
               go_simp
               first
               | (refine ⟨?_, hS⟩; with_reducible rfl)
               | with_reducible rfl
               | ((with_reducible refine (TR _).mono ?_); rintro e w' ⟨rfl, hg⟩; refine ⟨?_, hS.trans hg⟩; with_reducible rfl)
             simp only [Act.put, List.setIfInBounds_toArray, List.set_cons_zero, List.set_cons_succ]))
      refine Rg.wpG_nil ?_
      intro w' hg
      have hc := hg.cells
      have hf := hg.frees
      have hz := hg.size
      try simp only [World.size_alloc, World.size_setCell, World.size_drew] at hz
      try have : w.heap.size < w'.heap.size := by omega
      try have : w.heap.size + 1 < w'.heap.size := by omega
      try have : w.heap.size + 1 + 1 < w'.heap.size := by omega
      try have : w.heap.size + 1 + 1 + 1 < w'.heap.size := by omega
      go_wp2_with (first | (go_at_call 43; ((with_reducible refine (truth_any _ _).mono ?_)); rintro e w' ⟨rfl, hg⟩; have hc := hg.cells; have hf := hg.frees; have hz := hg.size; (try simp only [World.size_alloc, World.size_setCell, World.size_drew] at hz); (try have : w.heap.size < w'.heap.size := by omega); (try have : w.heap.size + 1 < w'.heap.size := by omega); (try have : w.heap.size + 1 + 1 < w'.heap.size := by omega); (try have : w.heap.size + 1 + 1 + 1 < w'.heap.size := by omega)))
      all_goals
        (try (go_step3; (try simp only [Exit.then]); (try change Rg.once _ _ _ _ _ _); rw [Rg.once_goto]; go_wp2))
        (try rw [Rg.once_ret])
        (try rw [Exit.noGoto_ret])
        (try change bodyPost _ _ _ _ _ _)
        first
        | (go_returns; refine ⟨?_, ?_⟩)
        | (refine bodyPost_ret (by simp [results, Tryd.results41, go_sem, *]; try rfl) rfl ⟨?_, ?_⟩)
        rotate_left
        · repeat' (first | exact Gr.refl _ | exact Nat.le_refl _ | exact Nat.le_add_right _ _ | refine Gr.setCell ?_ ?_ _ | refine Gr.alloc ?_ _ | refine Gr.drew ?_ | refine Gr.trans ?_ (by assumption) | omega | (dsimp only; omega))
      all_goals rfl
def andR (a b : V) : V × Int := sideR (plainV a) (plainV b) false
def orR (a b : V) : V × Int := sideR (plainV a) (plainV b) true
set_option maxHeartbeats 1000000 in
set_option maxRecDepth 100000 in
theorem and_any (a b : V) (w : World) : Calls Tryd.prog 18 #[a.val, b.val] w fun e w' => e = pairR (andR a b) ∧ Gr w w' := by
  have P1 := fun W => plain_any a W
  have P2 := fun W => plain_any b W
  have S := fun W => side_any (plainV a) (plainV b) false W
  unfold andR
  generalize plainV a = pa at *
  generalize plainV b = pb at *
  generalize sideR pa pb false = R at *
  obtain ⟨t, n, s, b'⟩ := a
  obtain ⟨t2, n2, s2, b2'⟩ := b
  obtain ⟨pt, pn, ps, pb'⟩ := pa
  obtain ⟨pt2, pn2, ps2, pb2'⟩ := pb
  obtain ⟨⟨rt, rn, rs, rb⟩, re⟩ := R
  unfold V.val at *
  unfold pairR at *
  go_enter Tryd.func18, Tryd.ntmps18
  go_wp2_with fail
  refine Rg.region_tail (fun wz => Gr (((w.alloc (.cells #[.int .i64 t, .int .i64 n, .string s, .bool b'] 23)).alloc (.cells #[.int .i64 t2, .int .i64 n2, .string s2, .bool b2'] 23)).alloc (.cells #[.int .i64 0, .int .i64 0, .string ⟨#[]⟩, .bool false] 23)) wz) 7 (Gr.drew (Gr.refl _)) (by kernel_rfl) (by kernel_rfl) ?_
  simp only [List.take_succ_cons, List.take_zero, List.drop_succ_cons, List.drop_zero]
  repeat (first
      | (refine Rg.wpG_skip (by rfl) ?_; simp only [Act.put, List.setIfInBounds_toArray, List.set_cons_zero, List.set_cons_succ])
      | (refine Rg.wpG_step ?_ (by rfl) (fun w hS => ?_) ?_
         rotate_left
         · have hc := hS.cells
           have hf := hS.frees
           go_simp
           first
           | (refine ⟨?_, hS⟩; with_reducible rfl)
           | with_reducible rfl
           | ((with_reducible refine (P1 _).mono ?_); rintro e w' ⟨rfl, hg⟩; refine ⟨?_, hS.trans hg⟩; with_reducible rfl)
           | ((with_reducible refine (P2 _).mono ?_); rintro e w' ⟨rfl, hg⟩; refine ⟨?_, hS.trans hg⟩; with_reducible rfl)
           | ((with_reducible refine (S _).mono ?_); rintro e w' ⟨rfl, hg⟩; refine ⟨?_, hS.trans hg⟩; with_reducible rfl)
         simp only [Act.put, List.setIfInBounds_toArray, List.set_cons_zero, List.set_cons_succ]))
  refine Rg.wpG_nil ?_
  intro w' hg
  have hc := hg.cells
  have hf := hg.frees
  have hz := hg.size
  try simp only [World.size_alloc, World.size_setCell, World.size_drew] at hz
  try have : w.heap.size < w'.heap.size := by omega
  try have : w.heap.size + 1 < w'.heap.size := by omega
  try have : w.heap.size + 1 + 1 < w'.heap.size := by omega
  try have : w.heap.size + 1 + 1 + 1 < w'.heap.size := by omega
  go_wp2
  all_goals
    (try (go_step3; (try simp only [Exit.then]); (try change Rg.once _ _ _ _ _ _); rw [Rg.once_goto]; go_wp2))
    (try rw [Rg.once_ret])
    (try rw [Exit.noGoto_ret])
    (try change bodyPost _ _ _ _ _ _)
    first
    | (go_returns; refine ⟨?_, ?_⟩)
    | (refine bodyPost_ret (by simp [results, Tryd.results18, go_sem, *]; try rfl) rfl ⟨?_, ?_⟩)
    rotate_left
    · repeat' (first | exact Gr.refl _ | exact Nat.le_refl _ | exact Nat.le_add_right _ _ | refine Gr.setCell ?_ ?_ _ | refine Gr.alloc ?_ _ | refine Gr.drew ?_ | refine Gr.trans ?_ (by assumption) | omega | (dsimp only; omega))
  all_goals rfl
set_option maxHeartbeats 1000000 in
set_option maxRecDepth 100000 in
theorem or_any (a b : V) (w : World) : Calls Tryd.prog 20 #[a.val, b.val] w fun e w' => e = pairR (orR a b) ∧ Gr w w' := by
  have P1 := fun W => plain_any a W
  have P2 := fun W => plain_any b W
  have S := fun W => side_any (plainV a) (plainV b) true W
  unfold orR
  generalize plainV a = pa at *
  generalize plainV b = pb at *
  generalize sideR pa pb true = R at *
  obtain ⟨t, n, s, b'⟩ := a
  obtain ⟨t2, n2, s2, b2'⟩ := b
  obtain ⟨pt, pn, ps, pb'⟩ := pa
  obtain ⟨pt2, pn2, ps2, pb2'⟩ := pb
  obtain ⟨⟨rt, rn, rs, rb⟩, re⟩ := R
  unfold V.val at *
  unfold pairR at *
  go_enter Tryd.func20, Tryd.ntmps20
  go_wp2_with fail
  refine Rg.region_tail (fun wz => Gr (((w.alloc (.cells #[.int .i64 t, .int .i64 n, .string s, .bool b'] 23)).alloc (.cells #[.int .i64 t2, .int .i64 n2, .string s2, .bool b2'] 23)).alloc (.cells #[.int .i64 0, .int .i64 0, .string ⟨#[]⟩, .bool false] 23)) wz) 7 (Gr.drew (Gr.refl _)) (by kernel_rfl) (by kernel_rfl) ?_
  simp only [List.take_succ_cons, List.take_zero, List.drop_succ_cons, List.drop_zero]
  repeat (first
      | (refine Rg.wpG_skip (by rfl) ?_; simp only [Act.put, List.setIfInBounds_toArray, List.set_cons_zero, List.set_cons_succ])
      | (refine Rg.wpG_step ?_ (by rfl) (fun w hS => ?_) ?_
         rotate_left
         · have hc := hS.cells
           have hf := hS.frees
           go_simp
           first
           | (refine ⟨?_, hS⟩; with_reducible rfl)
           | with_reducible rfl
           | ((with_reducible refine (P1 _).mono ?_); rintro e w' ⟨rfl, hg⟩; refine ⟨?_, hS.trans hg⟩; with_reducible rfl)
           | ((with_reducible refine (P2 _).mono ?_); rintro e w' ⟨rfl, hg⟩; refine ⟨?_, hS.trans hg⟩; with_reducible rfl)
           | ((with_reducible refine (S _).mono ?_); rintro e w' ⟨rfl, hg⟩; refine ⟨?_, hS.trans hg⟩; with_reducible rfl)
         simp only [Act.put, List.setIfInBounds_toArray, List.set_cons_zero, List.set_cons_succ]))
  refine Rg.wpG_nil ?_
  intro w' hg
  have hc := hg.cells
  have hf := hg.frees
  have hz := hg.size
  try simp only [World.size_alloc, World.size_setCell, World.size_drew] at hz
  try have : w.heap.size < w'.heap.size := by omega
  try have : w.heap.size + 1 < w'.heap.size := by omega
  try have : w.heap.size + 1 + 1 < w'.heap.size := by omega
  try have : w.heap.size + 1 + 1 + 1 < w'.heap.size := by omega
  go_wp2
  all_goals
    (try (go_step3; (try simp only [Exit.then]); (try change Rg.once _ _ _ _ _ _); rw [Rg.once_goto]; go_wp2))
    (try rw [Rg.once_ret])
    (try rw [Exit.noGoto_ret])
    (try change bodyPost _ _ _ _ _ _)
    first
    | (go_returns; refine ⟨?_, ?_⟩)
    | (refine bodyPost_ret (by simp [results, Tryd.results20, go_sem, *]; try rfl) rfl ⟨?_, ?_⟩)
    rotate_left
    · repeat' (first | exact Gr.refl _ | exact Nat.le_refl _ | exact Nat.le_add_right _ _ | refine Gr.setCell ?_ ?_ _ | refine Gr.alloc ?_ _ | refine Gr.drew ?_ | refine Gr.trans ?_ (by assumption) | omega | (dsimp only; omega))
  all_goals rfl
def negR (a : V) : V × Int := mathIn 19 (numV 0) a 1
set_option maxHeartbeats 1000000 in
set_option maxRecDepth 100000 in
theorem neg_any (a : V) (w : World) (ha : Vl.fitsB a.n = true) : Calls Tryd.prog 14 #[a.val] w fun e w' => e = pairR (negR a) ∧ Gr w w' := by
  have N := fun W => number_any 0 W
  have M := fun W => math_num 19 (numV 0) a W (by omega) (by omega) (by rfl) ha
  unfold negR
  generalize mathIn 19 (numV 0) a 1 = R at *
  obtain ⟨t, n, s, b'⟩ := a
  obtain ⟨⟨rt, rn, rs, rb⟩, re⟩ := R
  unfold V.val numV at *
  unfold pairR at *
  go_enter Tryd.func14, Tryd.ntmps14
  go_wp2_with fail
  refine Rg.region_tail (fun wz => Gr ((w.alloc (.cells #[.int .i64 t, .int .i64 n, .string s, .bool b'] 23)).alloc (.cells #[.int .i64 0, .int .i64 0, .string ⟨#[]⟩, .bool false] 23)) wz) 5 (Gr.drew (Gr.refl _)) (by kernel_rfl) (by kernel_rfl) ?_
  simp only [List.take_succ_cons, List.take_zero, List.drop_succ_cons, List.drop_zero]
  repeat (first
      | (refine Rg.wpG_skip (by rfl) ?_; simp only [Act.put, List.setIfInBounds_toArray, List.set_cons_zero, List.set_cons_succ])
      | (refine Rg.wpG_step ?_ (by rfl) (fun w hS => ?_) ?_
         rotate_left
         · have hc := hS.cells
           have hf := hS.frees
           go_simp
           first
           | (refine ⟨?_, hS⟩; with_reducible rfl)
           | with_reducible rfl
           | ((with_reducible refine (N _).mono ?_); rintro e w' ⟨rfl, hg⟩; refine ⟨?_, hS.trans hg⟩; with_reducible rfl)
           | ((with_reducible refine (M _).mono ?_); rintro e w' ⟨rfl, hg⟩; refine ⟨?_, hS.trans hg⟩; with_reducible rfl)
         simp only [Act.put, List.setIfInBounds_toArray, List.set_cons_zero, List.set_cons_succ]))
  refine Rg.wpG_nil ?_
  intro w' hg
  have hc := hg.cells
  have hf := hg.frees
  have hz := hg.size
  try simp only [World.size_alloc, World.size_setCell, World.size_drew] at hz
  try have : w.heap.size < w'.heap.size := by omega
  try have : w.heap.size + 1 < w'.heap.size := by omega
  try have : w.heap.size + 1 + 1 < w'.heap.size := by omega
  try have : w.heap.size + 1 + 1 + 1 < w'.heap.size := by omega
  go_wp2
  all_goals
    (try (go_step3; (try simp only [Exit.then]); (try change Rg.once _ _ _ _ _ _); rw [Rg.once_goto]; go_wp2))
    (try rw [Rg.once_ret])
    (try rw [Exit.noGoto_ret])
    (try change bodyPost _ _ _ _ _ _)
    first
    | (go_returns; refine ⟨?_, ?_⟩)
    | (refine bodyPost_ret (by simp [results, Tryd.results14, go_sem, *]; try rfl) rfl ⟨?_, ?_⟩)
    rotate_left
    · repeat' (first | exact Gr.refl _ | exact Nat.le_refl _ | exact Nat.le_add_right _ _ | refine Gr.setCell ?_ ?_ _ | refine Gr.alloc ?_ _ | refine Gr.drew ?_ | refine Gr.trans ?_ (by assumption) | omega | (dsimp only; omega))
  all_goals rfl
end Go.Proofs.YtefdkpfndjlpgaaDoor
