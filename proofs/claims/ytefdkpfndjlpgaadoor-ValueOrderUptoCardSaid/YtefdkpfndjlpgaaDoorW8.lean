/- Comparisons, on both sides. -/
import Derived.Test.YtefdkpfndjlpgaaDoorW7
namespace Go.Proofs.YtefdkpfndjlpgaaDoor
open Go.RowKit
set_option linter.unusedSimpArgs false
set_option linter.unusedVariables false
attribute [local go_sem] Rg.once_normal Rg.once_exit Rg.once_ret Rg.once_panic Rg.once_goto Rg.leads_value Rg.leads_skip Rg.leads_enter
theorem grow_same {f : FuncId} {args : Array Value} {w : World} {R : Ending} (h : Calls Tryd.prog f args w fun e w' => e = R ∧ w' = w) : Calls Tryd.prog f args w fun e w' => e = R ∧ Gr w w' :=
  h.mono fun _ _ ⟨he, hw⟩ => ⟨he, by rw [hw]; exact Gr.refl _⟩
/-- how two truths stand -/
def cmpT (a b : Bool) : Int := if a == b then 0 else if a then 1 else -1
theorem nan_any (x : Int) (w : World) : Calls Tryd.prog 68 #[.int .u8 x] w fun e w' => e = .returned (.bool false) ∧ w' = w := by
  go_enter Tryd.func68, Tryd.ntmps68
  go_wp2
  go_returns
  exact ⟨by simp, rfl⟩
theorem cmpByte (a b : Bool) (w : World) : Calls Tryd.prog 62 #[.int .u8 (if a then 1 else 0), .int .u8 (if b then 1 else 0)] w fun e w' => e = .returned (.int .i64 (cmpT a b)) ∧ w' = w := by
  cases a <;> cases b
  all_goals simp only [if_true, Bool.false_eq_true, if_false]
  all_goals
    go_enter Tryd.func62, Tryd.ntmps62
    go_wp2_with (first | (go_at_call 68; ((with_reducible refine (nan_any _ _).mono ?_)); rintro e w' ⟨rfl, rfl⟩))
    go_returns
    exact ⟨rfl, rfl⟩
/-- how two values stand -/
def cmpV (a b : V) : Int :=
  if a.t != b.t then Lib.compareInt a.t b.t else if a.t == 1 then Lib.compareInt a.n b.n else if a.t == 2 then Lib.compareBytes a.s.data.toList b.s.data.toList else if a.t == 3 then cmpT a.b b.b else 0
set_option maxHeartbeats 1000000 in
set_option maxRecDepth 100000 in
theorem kcmp_flat (a b : V) (w : World) (h3 : (a.t != b.t || a.t != 3) = true) : Calls Tryd.prog 48 #[a.val, b.val] w fun e w' => e = .returned (.int .i64 (cmpV a b)) ∧ Gr w w' := by
  obtain ⟨t, n, s, b'⟩ := a
  obtain ⟨t2, n2, s2, b2'⟩ := b
  have C1 := fun W => Tryd.cmp_Compare_int t t2 W
  have C2 := fun W => Tryd.cmp_Compare_int n n2 W
  have C3 := fun W => Tryd.strings_Compare s s2 W
  generalize hr : cmpV ⟨t, n, s, b'⟩ ⟨t2, n2, s2, b2'⟩ = R
  unfold cmpV at hr
  simp only at hr h3
  generalize Lib.compareInt t t2 = r1 at *
  generalize Lib.compareInt n n2 = r2 at *
  generalize Lib.compareBytes s.data.toList s2.data.toList = r3 at *
  have Hr := hid hr
  clear hr
  unfold V.val
  by_cases hne : (t != t2) = true
  · clear h3
    go_enter Tryd.func48, Tryd.ntmps48
    go_wp2_with fail
    refine (C1 _).mono ?_
    rintro e w' ⟨rfl, hw⟩
    subst hw
    go_wp2
    all_goals
      (try (go_step3; (try simp only [Exit.then]); (try change Rg.once _ _ _ _ _ _); rw [Rg.once_goto]; go_wp2))
      (try rw [Rg.once_ret])
      (try rw [Exit.noGoto_ret])
      (try change bodyPost _ _ _ _ _ _)
      first
      | (go_returns; refine ⟨?_, ?_⟩)
      | (refine bodyPost_ret (by simp [results, Tryd.results48, go_sem, *]; try rfl) rfl ⟨?_, ?_⟩)
      rotate_left
      · repeat' (first | exact Gr.refl _ | exact Nat.le_refl _ | exact Nat.le_add_right _ _ | refine Gr.setCell ?_ ?_ _ | refine Gr.alloc ?_ _ | refine Gr.drew ?_ | refine Gr.trans ?_ (by assumption) | omega | (dsimp only; omega))
    all_goals (rw [← Hr.out]; (try simp only [*, if_true, Bool.false_eq_true, if_false]); (try rfl))
  · have hne' : (t != t2) = false := by simpa using hne
    clear hne
    have h4 : (t == 3) = false := by rw [hne'] at h3; simpa using h3
    clear h3
    go_enter Tryd.func48, Tryd.ntmps48
    go_wp2_with (first | (go_at_call 60; refine (C2 _).mono ?_; rintro e w' ⟨rfl, hw⟩; subst hw) | (go_at_call 61; refine (C3 _).mono ?_; rintro e w' ⟨rfl, hw⟩; subst hw))
    all_goals
      (try (go_step3; (try simp only [Exit.then]); (try change Rg.once _ _ _ _ _ _); rw [Rg.once_goto]; go_wp2))
      (try rw [Rg.once_ret])
      (try rw [Exit.noGoto_ret])
      (try change bodyPost _ _ _ _ _ _)
      first
      | (go_returns; refine ⟨?_, ?_⟩)
      | (refine bodyPost_ret (by simp [results, Tryd.results48, go_sem, *]; try rfl) rfl ⟨?_, ?_⟩)
      rotate_left
      · repeat' (first | exact Gr.refl _ | exact Nat.le_refl _ | exact Nat.le_add_right _ _ | refine Gr.setCell ?_ ?_ _ | refine Gr.alloc ?_ _ | refine Gr.drew ?_ | refine Gr.trans ?_ (by assumption) | omega | (dsimp only; omega))
    all_goals (rw [← Hr.out]; (try simp only [*, if_true, Bool.false_eq_true, if_false]); (try rfl))
set_option maxHeartbeats 1000000 in
set_option maxRecDepth 100000 in
theorem kcmp_truth (a b : V) (w : World) (h1 : a.t = 3) (h2 : b.t = 3) : Calls Tryd.prog 48 #[a.val, b.val] w fun e w' => e = .returned (.int .i64 (cmpV a b)) ∧ Gr w w' := by
  obtain ⟨t, n, s, b'⟩ := a
  obtain ⟨t2, n2, s2, b2'⟩ := b
  simp only at h1 h2
  subst h1 h2
  have C1 := fun W => grow_same (ktruth_any b' W)
  have C2 := fun W => grow_same (ktruth_any b2' W)
  have C3 := fun W => grow_same (cmpByte b' b2' W)
  have hr : cmpV ⟨3, n, s, b'⟩ ⟨3, n2, s2, b2'⟩ = cmpT b' b2' := rfl
  rw [hr]
  clear hr
  generalize (if b' = true then (1 : Int) else 0) = x1 at *
  generalize (if b2' = true then (1 : Int) else 0) = x2 at *
  generalize cmpT b' b2' = R at *
  unfold V.val
  go_enter Tryd.func48, Tryd.ntmps48
  go_wp2_with fail
  refine Rg.region_tail (fun w' => Gr ((w.alloc (.cells #[.int .i64 3, .int .i64 n, .string s, .bool b'] 23)).alloc (.cells #[.int .i64 3, .int .i64 n2, .string s2, .bool b2'] 23)) w') 7 (Gr.drew (Gr.refl _)) (by kernel_rfl) (by kernel_rfl) ?_
  simp only [List.take_succ_cons, List.take_zero, List.drop_succ_cons, List.drop_zero]
  repeat (first
      | (refine Rg.wpG_skip (by rfl) ?_; simp only [Act.put, List.setIfInBounds_toArray, List.set_cons_zero, List.set_cons_succ])
      | (refine Rg.wpG_step ?_ (by rfl) (fun w hS => ?_) ?_
         rotate_left
         · have hc := hS.cells
           have hf := hS.frees
           go_simp
           first
           | (refine ⟨?_, hS⟩; with_reducible rfl)
           | with_reducible rfl
           | (refine (C1 _).mono ?_; rintro e w' ⟨rfl, hg⟩; refine ⟨?_, hS.trans hg⟩; with_reducible rfl)
           | (refine (C2 _).mono ?_; rintro e w' ⟨rfl, hg⟩; refine ⟨?_, hS.trans hg⟩; with_reducible rfl)
           | (refine (C3 _).mono ?_; rintro e w' ⟨rfl, hg⟩; refine ⟨?_, hS.trans hg⟩; with_reducible rfl)
         simp only [Act.put, List.setIfInBounds_toArray, List.set_cons_zero, List.set_cons_succ]))
  refine Rg.wpG_nil ?_
  intro w' hg
  have hc := hg.cells
  have hf := hg.frees
  have hz := hg.size
  try simp only [World.size_alloc, World.size_setCell, World.size_drew] at hz
  try have : w.heap.size < w'.heap.size := by omega
  try have : w.heap.size + 1 < w'.heap.size := by omega
  try have : w.heap.size + 1 + 1 < w'.heap.size := by omega
  try have : w.heap.size + 1 + 1 + 1 < w'.heap.size := by omega
  go_wp2
  all_goals
    (try (go_step3; (try simp only [Exit.then]); (try change Rg.once _ _ _ _ _ _); rw [Rg.once_goto]; go_wp2))
    (try rw [Rg.once_ret])
    (try rw [Exit.noGoto_ret])
    (try change bodyPost _ _ _ _ _ _)
    first
    | (go_returns; refine ⟨?_, ?_⟩)
    | (refine bodyPost_ret (by simp [results, Tryd.results48, go_sem, *]; try rfl) rfl ⟨?_, ?_⟩)
    rotate_left
    · repeat' (first | exact Gr.refl _ | exact Nat.le_refl _ | exact Nat.le_add_right _ _ | refine Gr.setCell ?_ ?_ _ | refine Gr.alloc ?_ _ | refine Gr.drew ?_ | refine Gr.trans ?_ (by assumption) | omega | (dsimp only; omega))
  all_goals rfl
theorem kcmp_any (a b : V) (w : World) : Calls Tryd.prog 48 #[a.val, b.val] w fun e w' => e = .returned (.int .i64 (cmpV a b)) ∧ Gr w w' := by
  cases h : (a.t != b.t || a.t != 3)
  · simp at h
    exact kcmp_truth a b w h.2 (by rw [← h.1]; exact h.2)
  · exact kcmp_flat a b w h
/-- what a sign says of how two values stand -/
def opB (op c : Int) : Bool :=
  if op == 9 then c == 0 else if op == 10 then c != 0 else if op == 11 then decide (c < 0) else if op == 12 then decide (c ≤ 0) else if op == 13 then decide (0 < c) else decide (0 ≤ c)
def lessR (op : Int) (a b : V) : V × Int :=
  if decide (op < 9) then (nul, 1) else if decide (14 < op) then (nul, 1) else if a.t == 0 then (nul, 0) else if b.t == 0 then (nul, 0) else if a.t != b.t then (nul, 160) else (boolV (opB op (cmpV a b)), 0)
set_option maxHeartbeats 2000000 in
set_option maxRecDepth 100000 in
theorem less_any (op : Int) (a b : V) (w : World) : Calls Tryd.prog 27 #[.int .i64 op, a.val, b.val] w fun e w' => e = pairR (lessR op a b) ∧ Gr w w' := by
  obtain ⟨t, n, s, b'⟩ := a
  obtain ⟨t2, n2, s2, b2'⟩ := b
  have C := fun W => kcmp_any ⟨t, n, s, b'⟩ ⟨t2, n2, s2, b2'⟩ W
  generalize hr : pairR (lessR op ⟨t, n, s, b'⟩ ⟨t2, n2, s2, b2'⟩) = R
  unfold lessR at hr
  simp only at hr
  generalize cmpV ⟨t, n, s, b'⟩ ⟨t2, n2, s2, b2'⟩ = c at *
  unfold opB at hr
  have Hr := hid hr
  clear hr
  unfold V.val at *
  obtain ⟨b1, t1⟩ : ∃ b, decide (op < 9) = b := ⟨_, rfl⟩
  obtain ⟨b2, t2'⟩ : ∃ b, decide (14 < op) = b := ⟨_, rfl⟩
  obtain ⟨b3, t3⟩ : ∃ b, (t == 0) = b := ⟨_, rfl⟩
  obtain ⟨b4, t4⟩ : ∃ b, (t2 == 0) = b := ⟨_, rfl⟩
  cases b1
  · cases b2
    · cases b3
      · cases b4
        all_goals
          go_enter Tryd.func27, Tryd.ntmps27
          go_wp2_with (first | (go_at_call 48; ((with_reducible refine (C _).mono ?_)); rintro e w' ⟨rfl, hg⟩; have hc := hg.cells; have hf := hg.frees; have hz := hg.size; (try simp only [World.size_alloc, World.size_setCell, World.size_drew] at hz); (try have : w.heap.size < w'.heap.size := by omega); (try have : w.heap.size + 1 < w'.heap.size := by omega); (try have : w.heap.size + 1 + 1 < w'.heap.size := by omega); (try have : w.heap.size + 1 + 1 + 1 < w'.heap.size := by omega)) | (go_at_call 43; ((with_reducible refine (truth_any _ _).mono ?_)); rintro e w' ⟨rfl, hg⟩; have hc := hg.cells; have hf := hg.frees; have hz := hg.size; (try simp only [World.size_alloc, World.size_setCell, World.size_drew] at hz); (try have : w.heap.size < w'.heap.size := by omega); (try have : w.heap.size + 1 < w'.heap.size := by omega); (try have : w.heap.size + 1 + 1 < w'.heap.size := by omega); (try have : w.heap.size + 1 + 1 + 1 < w'.heap.size := by omega)))
          all_goals
            (try (go_step3; (try simp only [Exit.then]); (try change Rg.once _ _ _ _ _ _); rw [Rg.once_goto]; go_wp2))
            (try rw [Rg.once_ret])
            (try rw [Exit.noGoto_ret])
            (try change bodyPost _ _ _ _ _ _)
            first
            | (go_returns; refine ⟨?_, ?_⟩)
            | (refine bodyPost_ret (by simp [results, Tryd.results27, go_sem, *]; try rfl) rfl ⟨?_, ?_⟩)
            rotate_left
            · repeat' (first | exact Gr.refl _ | exact Nat.le_refl _ | exact Nat.le_add_right _ _ | refine Gr.setCell ?_ ?_ _ | refine Gr.alloc ?_ _ | refine Gr.drew ?_ | refine Gr.trans ?_ (by assumption) | omega | (dsimp only; omega))
          all_goals (rw [← Hr.out]; (try simp only [*, if_true, Bool.false_eq_true, if_false]); (try rfl))
      · go_enter Tryd.func27, Tryd.ntmps27
        go_wp2
        all_goals
          (try (go_step3; (try simp only [Exit.then]); (try change Rg.once _ _ _ _ _ _); rw [Rg.once_goto]; go_wp2))
          (try rw [Rg.once_ret])
          (try rw [Exit.noGoto_ret])
          (try change bodyPost _ _ _ _ _ _)
          first
          | (go_returns; refine ⟨?_, ?_⟩)
          | (refine bodyPost_ret (by simp [results, Tryd.results27, go_sem, *]; try rfl) rfl ⟨?_, ?_⟩)
          rotate_left
          · repeat' (first | exact Gr.refl _ | exact Nat.le_refl _ | exact Nat.le_add_right _ _ | refine Gr.setCell ?_ ?_ _ | refine Gr.alloc ?_ _ | refine Gr.drew ?_ | refine Gr.trans ?_ (by assumption) | omega | (dsimp only; omega))
        all_goals (rw [← Hr.out]; (try simp only [*, if_true, Bool.false_eq_true, if_false]); (try rfl))
    · go_enter Tryd.func27, Tryd.ntmps27
      go_wp2
      all_goals
        (try (go_step3; (try simp only [Exit.then]); (try change Rg.once _ _ _ _ _ _); rw [Rg.once_goto]; go_wp2))
        (try rw [Rg.once_ret])
        (try rw [Exit.noGoto_ret])
        (try change bodyPost _ _ _ _ _ _)
        first
        | (go_returns; refine ⟨?_, ?_⟩)
        | (refine bodyPost_ret (by simp [results, Tryd.results27, go_sem, *]; try rfl) rfl ⟨?_, ?_⟩)
        rotate_left
        · repeat' (first | exact Gr.refl _ | exact Nat.le_refl _ | exact Nat.le_add_right _ _ | refine Gr.setCell ?_ ?_ _ | refine Gr.alloc ?_ _ | refine Gr.drew ?_ | refine Gr.trans ?_ (by assumption) | omega | (dsimp only; omega))
      all_goals (rw [← Hr.out]; (try simp only [*, if_true, Bool.false_eq_true, if_false]); (try rfl))
  · go_enter Tryd.func27, Tryd.ntmps27
    go_wp2
    all_goals
      (try (go_step3; (try simp only [Exit.then]); (try change Rg.once _ _ _ _ _ _); rw [Rg.once_goto]; go_wp2))
      (try rw [Rg.once_ret])
      (try rw [Exit.noGoto_ret])
      (try change bodyPost _ _ _ _ _ _)
      first
      | (go_returns; refine ⟨?_, ?_⟩)
      | (refine bodyPost_ret (by simp [results, Tryd.results27, go_sem, *]; try rfl) rfl ⟨?_, ?_⟩)
      rotate_left
      · repeat' (first | exact Gr.refl _ | exact Nat.le_refl _ | exact Nat.le_add_right _ _ | refine Gr.setCell ?_ ?_ _ | refine Gr.alloc ?_ _ | refine Gr.drew ?_ | refine Gr.trans ?_ (by assumption) | omega | (dsimp only; omega))
    all_goals (rw [← Hr.out]; (try simp only [*, if_true, Bool.false_eq_true, if_false]); (try rfl))
end Go.Proofs.YtefdkpfndjlpgaaDoor
