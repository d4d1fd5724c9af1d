/- Texts of this claim, put together: walks of functions and plain laws, of no condition. -/
import Derived.Test.YtbeinfhgfflneaaGreatNt1
import Derived.OwnWalk
import Derived.Laws.OwnMore
import Derived.LoopTactic
section
namespace Go.Proofs.YtbeinfhgfflneaaGreat
open Go.RowKit
set_option linter.unusedSimpArgs false
set_option linter.unusedVariables false
attribute [local go_sem] Rg.once_normal Rg.once_exit Rg.once_ret Rg.once_panic Rg.once_goto Rg.leads_value Rg.leads_skip Rg.leads_enter
theorem grow_same {f : FuncId} {args : Array Value} {w : World} {R : Ending} (h : Calls Tryz.prog f args w fun e w' => e = R ∧ w' = w) : Calls Tryz.prog f args w fun e w' => e = R ∧ Gr w w' :=
  h.mono fun _ _ ⟨he, hw⟩ => ⟨he, by rw [hw]; exact Gr.refl _⟩
def cmpT (a b : Bool) : Int := if a == b then 0 else if a then 1 else -1
theorem nan_any (x : Int) (w : World) : Calls Tryz.prog 127 #[.int .u8 x] w fun e w' => e = .returned (.bool false) ∧ w' = w := by
  go_enter Tryz.func127, Tryz.ntmps127
  go_wp2
  go_returns
  exact ⟨by simp, rfl⟩
theorem cmpByte (a b : Bool) (w : World) : Calls Tryz.prog 110 #[.int .u8 (if a then 1 else 0), .int .u8 (if b then 1 else 0)] w fun e w' => e = .returned (.int .i64 (cmpT a b)) ∧ w' = w := by
  cases a <;> cases b
  all_goals simp only [if_true, Bool.false_eq_true, if_false]
  all_goals
    go_enter Tryz.func110, Tryz.ntmps110
    go_wp2_with (first | (go_at_call 127; ((with_reducible refine (nan_any _ _).mono ?_)); rintro e w' ⟨rfl, rfl⟩))
    go_returns
    exact ⟨rfl, rfl⟩
def cmpV (a b : V) : Int :=
  if a.t != b.t then Lib.compareInt a.t b.t else if a.t == 1 then Lib.compareInt a.n b.n else if a.t == 2 then Lib.compareBytes a.s.data.toList b.s.data.toList else if a.t == 3 then cmpT a.b b.b else 0
set_option maxHeartbeats 1000000 in
set_option maxRecDepth 100000 in
theorem kcmp_flat (a b : V) (w : World) (h3 : (a.t != b.t || a.t != 3) = true) : Calls Tryz.prog 98 #[a.val, b.val] w fun e w' => e = .returned (.int .i64 (cmpV a b)) ∧ Gr w w' := by
  obtain ⟨t, n, s, b'⟩ := a
  obtain ⟨t2, n2, s2, b2'⟩ := b
  have C1 := fun W => Tryz.cmp_Compare_int t t2 W
  have C2 := fun W => Tryz.cmp_Compare_int n n2 W
  have C3 := fun W => Tryz.strings_Compare s s2 W
  generalize hr : cmpV ⟨t, n, s, b'⟩ ⟨t2, n2, s2, b2'⟩ = R
  unfold cmpV at hr
  simp only at hr h3
  generalize Lib.compareInt t t2 = r1 at *
  generalize Lib.compareInt n n2 = r2 at *
  generalize Lib.compareBytes s.data.toList s2.data.toList = r3 at *
  have Hr := hid hr
  clear hr
  unfold V.val
  by_cases hne : (t != t2) = true
  · clear h3
    go_enter Tryz.func98, Tryz.ntmps98
    go_wp2_with fail
    refine (C1 _).mono ?_
    rintro e w' ⟨rfl, hw⟩
    subst hw
    go_wp2
    all_goals
      (try (go_step3; (try simp only [Exit.then]); (try change Rg.once _ _ _ _ _ _); rw [Rg.once_goto]; go_wp2))
      (try rw [Rg.once_ret])
      (try rw [Exit.noGoto_ret])
      (try change bodyPost _ _ _ _ _ _)
      first
      | (go_returns; refine ⟨?_, ?_⟩)
      | (refine bodyPost_ret (by simp [results, Tryz.results98, go_sem, *]; try rfl) rfl ⟨?_, ?_⟩)
      rotate_left
      · repeat' (first | exact Gr.refl _ | exact Nat.le_refl _ | exact Nat.le_add_right _ _ | refine Gr.setCell ?_ ?_ _ | refine Gr.alloc ?_ _ | refine Gr.drew ?_ | refine Gr.trans ?_ (by assumption) | omega | (dsimp only; omega))
    all_goals (rw [← Hr.out]; (try simp only [*, if_true, Bool.false_eq_true, if_false]); (try rfl))
  · have hne' : (t != t2) = false := by simpa using hne
    clear hne
    have h4 : (t == 3) = false := by rw [hne'] at h3; simpa using h3
    clear h3
    go_enter Tryz.func98, Tryz.ntmps98
    go_wp2_with (first | (go_at_call 108; refine (C2 _).mono ?_; rintro e w' ⟨rfl, hw⟩; subst hw) | (go_at_call 109; refine (C3 _).mono ?_; rintro e w' ⟨rfl, hw⟩; subst hw))
    all_goals
      (try (go_step3; (try simp only [Exit.then]); (try change Rg.once _ _ _ _ _ _); rw [Rg.once_goto]; go_wp2))
      (try rw [Rg.once_ret])
      (try rw [Exit.noGoto_ret])
      (try change bodyPost _ _ _ _ _ _)
      first
      | (go_returns; refine ⟨?_, ?_⟩)
      | (refine bodyPost_ret (by simp [results, Tryz.results98, go_sem, *]; try rfl) rfl ⟨?_, ?_⟩)
      rotate_left
      · repeat' (first | exact Gr.refl _ | exact Nat.le_refl _ | exact Nat.le_add_right _ _ | refine Gr.setCell ?_ ?_ _ | refine Gr.alloc ?_ _ | refine Gr.drew ?_ | refine Gr.trans ?_ (by assumption) | omega | (dsimp only; omega))
    all_goals (rw [← Hr.out]; (try simp only [*, if_true, Bool.false_eq_true, if_false]); (try rfl))
set_option maxHeartbeats 1000000 in
set_option maxRecDepth 100000 in
theorem kcmp_truth (a b : V) (w : World) (h1 : a.t = 3) (h2 : b.t = 3) : Calls Tryz.prog 98 #[a.val, b.val] w fun e w' => e = .returned (.int .i64 (cmpV a b)) ∧ Gr w w' := by
  obtain ⟨t, n, s, b'⟩ := a
  obtain ⟨t2, n2, s2, b2'⟩ := b
  simp only at h1 h2
  subst h1 h2
  have C1 := fun W => grow_same (ktruth_any b' W)
  have C2 := fun W => grow_same (ktruth_any b2' W)
  have C3 := fun W => grow_same (cmpByte b' b2' W)
  have hr : cmpV ⟨3, n, s, b'⟩ ⟨3, n2, s2, b2'⟩ = cmpT b' b2' := rfl
  rw [hr]
  clear hr
  generalize (if b' = true then (1 : Int) else 0) = x1 at *
  generalize (if b2' = true then (1 : Int) else 0) = x2 at *
  generalize cmpT b' b2' = R at *
  unfold V.val
  go_enter Tryz.func98, Tryz.ntmps98
  go_wp2_with fail
  refine Rg.region_tail (fun wz => Gr ((w.alloc (.cells #[.int .i64 3, .int .i64 n, .string s, .bool b'] 23)).alloc (.cells #[.int .i64 3, .int .i64 n2, .string s2, .bool b2'] 23)) wz) 7 (Gr.drew (Gr.refl _)) (by kernel_rfl) (by kernel_rfl) ?_
  simp only [List.take_succ_cons, List.take_zero, List.drop_succ_cons, List.drop_zero]
  repeat (first
      | (refine Rg.wpG_skip (by rfl) ?_; simp only [Act.put, List.setIfInBounds_toArray, List.set_cons_zero, List.set_cons_succ])
      | (refine Rg.wpG_step ?_ (by rfl) (fun w hS => ?_) ?_
         rotate_left
         · have hc := hS.cells
           have hf := hS.frees
           go_simp
           first
           | (refine ⟨?_, hS⟩; with_reducible rfl)
           | with_reducible rfl
           | ((with_reducible refine (C1 _).mono ?_); rintro e w' ⟨rfl, hg⟩; refine ⟨?_, hS.trans hg⟩; with_reducible rfl)
           | ((with_reducible refine (C2 _).mono ?_); rintro e w' ⟨rfl, hg⟩; refine ⟨?_, hS.trans hg⟩; with_reducible rfl)
           | ((with_reducible refine (C3 _).mono ?_); rintro e w' ⟨rfl, hg⟩; refine ⟨?_, hS.trans hg⟩; with_reducible rfl)
         simp only [Act.put, List.setIfInBounds_toArray, List.set_cons_zero, List.set_cons_succ]))
  refine Rg.wpG_nil ?_
  intro w' hg
  have hc := hg.cells
  have hf := hg.frees
  have hz := hg.size
  try simp only [World.size_alloc, World.size_setCell, World.size_drew] at hz
  try have : 0 < w'.heap.size := by omega
  try have : w.heap.size < w'.heap.size := by omega
  try have : w.heap.size + 1 < w'.heap.size := by omega
  try have : w.heap.size + 1 + 1 < w'.heap.size := by omega
  try have : w.heap.size + 1 + 1 + 1 < w'.heap.size := by omega
  go_wp2
  all_goals
    (try (go_step3; (try simp only [Exit.then]); (try change Rg.once _ _ _ _ _ _); rw [Rg.once_goto]; go_wp2))
    (try rw [Rg.once_ret])
    (try rw [Exit.noGoto_ret])
    (try change bodyPost _ _ _ _ _ _)
    first
    | (go_returns; refine ⟨?_, ?_⟩)
    | (refine bodyPost_ret (by simp [results, Tryz.results98, go_sem, *]; try rfl) rfl ⟨?_, ?_⟩)
    rotate_left
    · repeat' (first | exact Gr.refl _ | exact Nat.le_refl _ | exact Nat.le_add_right _ _ | refine Gr.setCell ?_ ?_ _ | refine Gr.alloc ?_ _ | refine Gr.drew ?_ | refine Gr.trans ?_ (by assumption) | omega | (dsimp only; omega))
  all_goals rfl
theorem kcmp_any (a b : V) (w : World) : Calls Tryz.prog 98 #[a.val, b.val] w fun e w' => e = .returned (.int .i64 (cmpV a b)) ∧ Gr w w' := by
  cases h : (a.t != b.t || a.t != 3)
  · simp at h
    exact kcmp_truth a b w h.2 (by rw [← h.1]; exact h.2)
  · exact kcmp_flat a b w h
def opB (op c : Int) : Bool :=
  if op == 9 then c == 0 else if op == 10 then c != 0 else if op == 11 then decide (c < 0) else if op == 12 then decide (c ≤ 0) else if op == 13 then decide (0 < c) else decide (0 ≤ c)
def lessR (op : Int) (a b : V) : V × Int :=
  if decide (op < 9) then (nul, 1) else if decide (14 < op) then (nul, 1) else if a.t == 0 then (nul, 0) else if b.t == 0 then (nul, 0) else if a.t != b.t then (nul, 160) else (boolV (opB op (cmpV a b)), 0)
set_option maxHeartbeats 2000000 in
set_option maxRecDepth 100000 in
theorem less_any (op : Int) (a b : V) (w : World) : Calls Tryz.prog 78 #[.int .i64 op, a.val, b.val] w fun e w' => e = pairR (lessR op a b) ∧ Gr w w' := by
  obtain ⟨t, n, s, b'⟩ := a
  obtain ⟨t2, n2, s2, b2'⟩ := b
  have C := fun W => kcmp_any ⟨t, n, s, b'⟩ ⟨t2, n2, s2, b2'⟩ W
  generalize hr : pairR (lessR op ⟨t, n, s, b'⟩ ⟨t2, n2, s2, b2'⟩) = R
  unfold lessR at hr
  simp only at hr
  generalize cmpV ⟨t, n, s, b'⟩ ⟨t2, n2, s2, b2'⟩ = c at *
  unfold opB at hr
  have Hr := hid hr
  clear hr
  unfold V.val at *
  obtain ⟨b1, t1⟩ : ∃ b, decide (op < 9) = b := ⟨_, rfl⟩
  obtain ⟨b2, t2'⟩ : ∃ b, decide (14 < op) = b := ⟨_, rfl⟩
  obtain ⟨b3, t3⟩ : ∃ b, (t == 0) = b := ⟨_, rfl⟩
  obtain ⟨b4, t4⟩ : ∃ b, (t2 == 0) = b := ⟨_, rfl⟩
  cases b1
  · cases b2
    · cases b3
      · cases b4
        all_goals
          go_enter Tryz.func78, Tryz.ntmps78
          go_wp2_with (first | (go_at_call 98; ((with_reducible refine (C _).mono ?_)); rintro e w' ⟨rfl, hg⟩; have hc := hg.cells; have hf := hg.frees; have hz := hg.size; (try simp only [World.size_alloc, World.size_setCell, World.size_drew] at hz); (try have : 0 < w'.heap.size := by omega); (try have : w.heap.size < w'.heap.size := by omega); (try have : w.heap.size + 1 < w'.heap.size := by omega); (try have : w.heap.size + 1 + 1 < w'.heap.size := by omega); (try have : w.heap.size + 1 + 1 + 1 < w'.heap.size := by omega)) | (go_at_call 97; ((with_reducible refine (truth_any _ _).mono ?_)); rintro e w' ⟨rfl, hg⟩; have hc := hg.cells; have hf := hg.frees; have hz := hg.size; (try simp only [World.size_alloc, World.size_setCell, World.size_drew] at hz); (try have : 0 < w'.heap.size := by omega); (try have : w.heap.size < w'.heap.size := by omega); (try have : w.heap.size + 1 < w'.heap.size := by omega); (try have : w.heap.size + 1 + 1 < w'.heap.size := by omega); (try have : w.heap.size + 1 + 1 + 1 < w'.heap.size := by omega)))
          all_goals
            (try (go_step3; (try simp only [Exit.then]); (try change Rg.once _ _ _ _ _ _); rw [Rg.once_goto]; go_wp2))
            (try rw [Rg.once_ret])
            (try rw [Exit.noGoto_ret])
            (try change bodyPost _ _ _ _ _ _)
            first
            | (go_returns; refine ⟨?_, ?_⟩)
            | (refine bodyPost_ret (by simp [results, Tryz.results78, go_sem, *]; try rfl) rfl ⟨?_, ?_⟩)
            rotate_left
            · repeat' (first | exact Gr.refl _ | exact Nat.le_refl _ | exact Nat.le_add_right _ _ | refine Gr.setCell ?_ ?_ _ | refine Gr.alloc ?_ _ | refine Gr.drew ?_ | refine Gr.trans ?_ (by assumption) | omega | (dsimp only; omega))
          all_goals (rw [← Hr.out]; (try simp only [*, if_true, Bool.false_eq_true, if_false]); (try rfl))
      · go_enter Tryz.func78, Tryz.ntmps78
        go_wp2
        all_goals
          (try (go_step3; (try simp only [Exit.then]); (try change Rg.once _ _ _ _ _ _); rw [Rg.once_goto]; go_wp2))
          (try rw [Rg.once_ret])
          (try rw [Exit.noGoto_ret])
          (try change bodyPost _ _ _ _ _ _)
          first
          | (go_returns; refine ⟨?_, ?_⟩)
          | (refine bodyPost_ret (by simp [results, Tryz.results78, go_sem, *]; try rfl) rfl ⟨?_, ?_⟩)
          rotate_left
          · repeat' (first | exact Gr.refl _ | exact Nat.le_refl _ | exact Nat.le_add_right _ _ | refine Gr.setCell ?_ ?_ _ | refine Gr.alloc ?_ _ | refine Gr.drew ?_ | refine Gr.trans ?_ (by assumption) | omega | (dsimp only; omega))
        all_goals (rw [← Hr.out]; (try simp only [*, if_true, Bool.false_eq_true, if_false]); (try rfl))
    · go_enter Tryz.func78, Tryz.ntmps78
      go_wp2
      all_goals
        (try (go_step3; (try simp only [Exit.then]); (try change Rg.once _ _ _ _ _ _); rw [Rg.once_goto]; go_wp2))
        (try rw [Rg.once_ret])
        (try rw [Exit.noGoto_ret])
        (try change bodyPost _ _ _ _ _ _)
        first
        | (go_returns; refine ⟨?_, ?_⟩)
        | (refine bodyPost_ret (by simp [results, Tryz.results78, go_sem, *]; try rfl) rfl ⟨?_, ?_⟩)
        rotate_left
        · repeat' (first | exact Gr.refl _ | exact Nat.le_refl _ | exact Nat.le_add_right _ _ | refine Gr.setCell ?_ ?_ _ | refine Gr.alloc ?_ _ | refine Gr.drew ?_ | refine Gr.trans ?_ (by assumption) | omega | (dsimp only; omega))
      all_goals (rw [← Hr.out]; (try simp only [*, if_true, Bool.false_eq_true, if_false]); (try rfl))
  · go_enter Tryz.func78, Tryz.ntmps78
    go_wp2
    all_goals
      (try (go_step3; (try simp only [Exit.then]); (try change Rg.once _ _ _ _ _ _); rw [Rg.once_goto]; go_wp2))
      (try rw [Rg.once_ret])
      (try rw [Exit.noGoto_ret])
      (try change bodyPost _ _ _ _ _ _)
      first
      | (go_returns; refine ⟨?_, ?_⟩)
      | (refine bodyPost_ret (by simp [results, Tryz.results78, go_sem, *]; try rfl) rfl ⟨?_, ?_⟩)
      rotate_left
      · repeat' (first | exact Gr.refl _ | exact Nat.le_refl _ | exact Nat.le_add_right _ _ | refine Gr.setCell ?_ ?_ _ | refine Gr.alloc ?_ _ | refine Gr.drew ?_ | refine Gr.trans ?_ (by assumption) | omega | (dsimp only; omega))
    all_goals (rw [← Hr.out]; (try simp only [*, if_true, Bool.false_eq_true, if_false]); (try rfl))
end Go.Proofs.YtbeinfhgfflneaaGreat
end
section
namespace Go.Proofs.YtbeinfhgfflneaaGreat
open Go.RowKit
set_option linter.unusedSimpArgs false
set_option linter.unusedVariables false
attribute [local go_sem] Rg.once_normal Rg.once_exit Rg.once_ret Rg.once_panic Rg.once_goto Rg.leads_value Rg.leads_skip Rg.leads_enter
def veqB (a b : V) : Bool := (a.t == b.t) && ((a.n == b.n) && ((a.s.toList == b.s.toList) && (a.b == b.b)))
theorem v_equal (a b : V) (W : World) : (Op.equalIn 10000 23 a.val b.val).run Tryz.prog W = .ok (veqB a b) W := by
  obtain ⟨t, n, s, b'⟩ := a
  obtain ⟨t2, n2, s2, b2'⟩ := b
  unfold V.val veqB
  rw [run_equalIn_agg W 9999 23 _ _ v_struct v_plain]
  simp only
  cases h1 : (t == t2) <;> cases h2 : (n == n2) <;> cases h3 : (s.toList == s2.toList) <;> cases h4 : (b' == b2')
  all_goals
    try simp only [beq_eq_false_iff_ne, ne_eq, beq_iff_eq] at h1 h2 h4
    go_simp
def notR (a : V) : V × Int := if a.t == 0 then (nul, 0) else if a.t == 3 then (boolV (!a.b), 0) else (nul, 160)
set_option maxHeartbeats 1000000 in
set_option maxRecDepth 100000 in
theorem vnot_any (a : V) (w : World) : Calls Tryz.prog 77 #[a.val] w fun e w' => e = pairR (notR a) ∧ Gr w w' := by
  obtain ⟨t, n, s, b⟩ := a
  unfold V.val
  generalize hr : pairR (notR ⟨t, n, s, b⟩) = R
  unfold notR at hr
  have Hr := hid hr
  clear hr
  go_enter Tryz.func77, Tryz.ntmps77
  go_wp2_with (first | (go_at_call 97; ((with_reducible refine (truth_any _ _).mono ?_)); rintro e w' ⟨rfl, hg⟩; have hc := hg.cells; have hf := hg.frees; have hz := hg.size; (try simp only [World.size_alloc, World.size_setCell, World.size_drew] at hz); (try have : 0 < w'.heap.size := by omega); (try have : w.heap.size < w'.heap.size := by omega); (try have : w.heap.size + 1 < w'.heap.size := by omega); (try have : w.heap.size + 1 + 1 < w'.heap.size := by omega); (try have : w.heap.size + 1 + 1 + 1 < w'.heap.size := by omega)))
  all_goals
    (try (go_step3; (try simp only [Exit.then]); (try change Rg.once _ _ _ _ _ _); rw [Rg.once_goto]; go_wp2))
    (try rw [Rg.once_ret])
    (try rw [Exit.noGoto_ret])
    (try change bodyPost _ _ _ _ _ _)
    first
    | (go_returns; refine ⟨?_, ?_⟩)
    | (refine bodyPost_ret (by simp [results, Tryz.results77, go_sem, *]; try rfl) rfl ⟨?_, ?_⟩)
    rotate_left
    · repeat' (first | exact Gr.refl _ | exact Nat.le_refl _ | exact Nat.le_add_right _ _ | refine Gr.setCell ?_ ?_ _ | refine Gr.alloc ?_ _ | refine Gr.drew ?_ | refine Gr.trans ?_ (by assumption) | omega | (dsimp only; omega))
  all_goals (rw [← Hr.out]; (try simp only [*, if_true, Bool.false_eq_true, if_false]); (try rfl))
def plainV (a : V) : V := ⟨a.t, 0, ⟨#[]⟩, a.b && (a.t == 3)⟩
set_option maxHeartbeats 1000000 in
set_option maxRecDepth 100000 in
theorem plain_any (a : V) (w : World) : Calls Tryz.prog 96 #[a.val] w fun e w' => e = .returned (plainV a).val ∧ Gr w w' := by
  obtain ⟨t, n, s, b⟩ := a
  unfold plainV V.val
  obtain ⟨b1, t1⟩ : ∃ b, (t == 3) = b := ⟨_, rfl⟩
  simp only
  rw [t1]
  cases b <;> cases b1
  all_goals
    go_enter Tryz.func96, Tryz.ntmps96
    go_wp2
    all_goals
      (try (go_step3; (try simp only [Exit.then]); (try change Rg.once _ _ _ _ _ _); rw [Rg.once_goto]; go_wp2))
      (try rw [Rg.once_ret])
      (try rw [Exit.noGoto_ret])
      (try change bodyPost _ _ _ _ _ _)
      first
      | (go_returns; refine ⟨?_, ?_⟩)
      | (refine bodyPost_ret (by simp [results, Tryz.results96, go_sem, *]; try rfl) rfl ⟨?_, ?_⟩)
      rotate_left
      · repeat' (first | exact Gr.refl _ | exact Nat.le_refl _ | exact Nat.le_add_right _ _ | refine Gr.setCell ?_ ?_ _ | refine Gr.alloc ?_ _ | refine Gr.drew ?_ | refine Gr.trans ?_ (by assumption) | omega | (dsimp only; omega))
    all_goals rfl
def sideR (a b : V) (d : Bool) : V × Int :=
  if (vtypedB 3 [a, b]).1 then (if veqB a (boolV d) then (boolV d, 0) else if veqB b (boolV d) then (boolV d, 0) else if (vtypedB 3 [a, b]).2 then (nul, 0) else (boolV (!d), 0)) else (nul, 160)
set_option maxHeartbeats 2000000 in
set_option maxRecDepth 100000 in
theorem side_any (a b : V) (d : Bool) (w : World) : Calls Tryz.prog 95 #[a.val, b.val, .bool d] w fun e w' => e = pairR (sideR a b d) ∧ Gr w w' := by
  have E1 := fun W => v_equal a (boolV d) W
  have E2 := fun W => v_equal b (boolV d) W
  have TR := fun W => truth_any d W
  have tg := v_guard
  obtain ⟨t, n, s, b'⟩ := a
  obtain ⟨t2, n2, s2, b2'⟩ := b
  have T := typed2 3 ⟨t, n, s, b'⟩ ⟨t2, n2, s2, b2'⟩
  unfold sideR
  generalize veqB ⟨t, n, s, b'⟩ (boolV d) = x1 at *
  generalize veqB ⟨t2, n2, s2, b2'⟩ (boolV d) = x2 at *
  generalize vtypedB 3 [⟨t, n, s, b'⟩, ⟨t2, n2, s2, b2'⟩] = tb at *
  obtain ⟨tb1, tb2⟩ := tb
  have TT := hid T
  clear T
  unfold V.val boolV at E1 E2
  unfold V.val
  simp only at E1 E2
  cases tb1
  · go_enter Tryz.func95, Tryz.ntmps95
    go_wp2_with fail
    go_wp2_with fail
    refine (TT.out _ _ _ (by go_simp) (by go_simp) (by go_simp) (by go_simp) (by go_simp) (by go_simp) (by go_simp) (by go_simp)).mono ?_
    rintro e w' ⟨rfl, hg⟩
    have hc := hg.cells
    have hf := hg.frees
    have hz := hg.size
    try simp only [World.size_alloc, World.size_setCell, World.size_drew] at hz
    try have : 0 < w'.heap.size := by omega
    try have : w.heap.size < w'.heap.size := by omega
    try have : w.heap.size + 1 < w'.heap.size := by omega
    try have : w.heap.size + 1 + 1 < w'.heap.size := by omega
    try have : w.heap.size + 1 + 1 + 1 < w'.heap.size := by omega
    go_wp2
    all_goals
      (try (go_step3; (try simp only [Exit.then]); (try change Rg.once _ _ _ _ _ _); rw [Rg.once_goto]; go_wp2))
      (try rw [Rg.once_ret])
      (try rw [Exit.noGoto_ret])
      (try change bodyPost _ _ _ _ _ _)
      first
      | (go_returns; refine ⟨?_, ?_⟩)
      | (refine bodyPost_ret (by simp [results, Tryz.results95, go_sem, *]; try rfl) rfl ⟨?_, ?_⟩)
      rotate_left
      · repeat' (first | exact Gr.refl _ | exact Nat.le_refl _ | exact Nat.le_add_right _ _ | refine Gr.setCell ?_ ?_ _ | refine Gr.alloc ?_ _ | refine Gr.drew ?_ | refine Gr.trans ?_ (by assumption) | omega | (dsimp only; omega))
    all_goals rfl
  · cases x1 <;> cases x2 <;> cases tb2
    all_goals
      go_enter Tryz.func95, Tryz.ntmps95
      go_wp2_with fail
      go_wp2_with fail
      refine (TT.out _ _ _ (by go_simp) (by go_simp) (by go_simp) (by go_simp) (by go_simp) (by go_simp) (by go_simp) (by go_simp)).mono ?_
      rintro e w' ⟨rfl, hg⟩
      have hc := hg.cells
      have hf := hg.frees
      have hz := hg.size
      try simp only [World.size_alloc, World.size_setCell, World.size_drew] at hz
      try have : 0 < w'.heap.size := by omega
      try have : w.heap.size < w'.heap.size := by omega
      try have : w.heap.size + 1 < w'.heap.size := by omega
      try have : w.heap.size + 1 + 1 < w'.heap.size := by omega
      try have : w.heap.size + 1 + 1 + 1 < w'.heap.size := by omega
      go_wp2_with fail
      refine Rg.region_tail (fun wz => Gr w' wz) 10 (Gr.drew (Gr.refl _)) (by kernel_rfl) (by kernel_rfl) ?_
      simp only [List.take_succ_cons, List.take_zero, List.drop_succ_cons, List.drop_zero]
      repeat (first
          | (refine Rg.wpG_skip (by rfl) ?_; simp only [Act.put, List.setIfInBounds_toArray, List.set_cons_zero, List.set_cons_succ])
          | (refine Rg.wpG_step ?_ (by rfl) (fun w hS => ?_) ?_
             rotate_left
             · have hc := hS.cells
               have hf := hS.frees
               go_simp
               first
               | (refine ⟨?_, hS⟩; with_reducible rfl)
               | with_reducible rfl
               | ((with_reducible refine (TR _).mono ?_); rintro e w' ⟨rfl, hg⟩; refine ⟨?_, hS.trans hg⟩; with_reducible rfl)
             simp only [Act.put, List.setIfInBounds_toArray, List.set_cons_zero, List.set_cons_succ]))
      refine Rg.wpG_nil ?_
      intro w' hg
      have hc := hg.cells
      have hf := hg.frees
      have hz := hg.size
      try simp only [World.size_alloc, World.size_setCell, World.size_drew] at hz
      try have : 0 < w'.heap.size := by omega
      try have : w.heap.size < w'.heap.size := by omega
      try have : w.heap.size + 1 < w'.heap.size := by omega
      try have : w.heap.size + 1 + 1 < w'.heap.size := by omega
      try have : w.heap.size + 1 + 1 + 1 < w'.heap.size := by omega
      go_wp2_with (first | (go_at_call 97; ((with_reducible refine (truth_any _ _).mono ?_)); rintro e w' ⟨rfl, hg⟩; have hc := hg.cells; have hf := hg.frees; have hz := hg.size; (try simp only [World.size_alloc, World.size_setCell, World.size_drew] at hz); (try have : 0 < w'.heap.size := by omega); (try have : w.heap.size < w'.heap.size := by omega); (try have : w.heap.size + 1 < w'.heap.size := by omega); (try have : w.heap.size + 1 + 1 < w'.heap.size := by omega); (try have : w.heap.size + 1 + 1 + 1 < w'.heap.size := by omega)))
      all_goals
        (try (go_step3; (try simp only [Exit.then]); (try change Rg.once _ _ _ _ _ _); rw [Rg.once_goto]; go_wp2))
        (try rw [Rg.once_ret])
        (try rw [Exit.noGoto_ret])
        (try change bodyPost _ _ _ _ _ _)
        first
        | (go_returns; refine ⟨?_, ?_⟩)
        | (refine bodyPost_ret (by simp [results, Tryz.results95, go_sem, *]; try rfl) rfl ⟨?_, ?_⟩)
        rotate_left
        · repeat' (first | exact Gr.refl _ | exact Nat.le_refl _ | exact Nat.le_add_right _ _ | refine Gr.setCell ?_ ?_ _ | refine Gr.alloc ?_ _ | refine Gr.drew ?_ | refine Gr.trans ?_ (by assumption) | omega | (dsimp only; omega))
      all_goals rfl
def andR (a b : V) : V × Int := sideR (plainV a) (plainV b) false
def orR (a b : V) : V × Int := sideR (plainV a) (plainV b) true
set_option maxHeartbeats 1000000 in
set_option maxRecDepth 100000 in
theorem vand_any (a b : V) (w : World) : Calls Tryz.prog 76 #[a.val, b.val] w fun e w' => e = pairR (andR a b) ∧ Gr w w' := by
  have P1 := fun W => plain_any a W
  have P2 := fun W => plain_any b W
  have S := fun W => side_any (plainV a) (plainV b) false W
  unfold andR
  generalize plainV a = pa at *
  generalize plainV b = pb at *
  generalize sideR pa pb false = R at *
  obtain ⟨t, n, s, b'⟩ := a
  obtain ⟨t2, n2, s2, b2'⟩ := b
  obtain ⟨pt, pn, ps, pb'⟩ := pa
  obtain ⟨pt2, pn2, ps2, pb2'⟩ := pb
  obtain ⟨⟨rt, rn, rs, rb⟩, re⟩ := R
  unfold V.val at *
  unfold pairR at *
  go_enter Tryz.func76, Tryz.ntmps76
  go_wp2_with fail
  refine Rg.region_tail (fun wz => Gr (((w.alloc (.cells #[.int .i64 t, .int .i64 n, .string s, .bool b'] 23)).alloc (.cells #[.int .i64 t2, .int .i64 n2, .string s2, .bool b2'] 23)).alloc (.cells #[.int .i64 0, .int .i64 0, .string ⟨#[]⟩, .bool false] 23)) wz) 7 (Gr.drew (Gr.refl _)) (by kernel_rfl) (by kernel_rfl) ?_
  simp only [List.take_succ_cons, List.take_zero, List.drop_succ_cons, List.drop_zero]
  repeat (first
      | (refine Rg.wpG_skip (by rfl) ?_; simp only [Act.put, List.setIfInBounds_toArray, List.set_cons_zero, List.set_cons_succ])
      | (refine Rg.wpG_step ?_ (by rfl) (fun w hS => ?_) ?_
         rotate_left
         · have hc := hS.cells
           have hf := hS.frees
           go_simp
           first
           | (refine ⟨?_, hS⟩; with_reducible rfl)
           | with_reducible rfl
           | ((with_reducible refine (P1 _).mono ?_); rintro e w' ⟨rfl, hg⟩; refine ⟨?_, hS.trans hg⟩; with_reducible rfl)
           | ((with_reducible refine (P2 _).mono ?_); rintro e w' ⟨rfl, hg⟩; refine ⟨?_, hS.trans hg⟩; with_reducible rfl)
           | ((with_reducible refine (S _).mono ?_); rintro e w' ⟨rfl, hg⟩; refine ⟨?_, hS.trans hg⟩; with_reducible rfl)
         simp only [Act.put, List.setIfInBounds_toArray, List.set_cons_zero, List.set_cons_succ]))
  refine Rg.wpG_nil ?_
  intro w' hg
  have hc := hg.cells
  have hf := hg.frees
  have hz := hg.size
  try simp only [World.size_alloc, World.size_setCell, World.size_drew] at hz
  try have : 0 < w'.heap.size := by omega
  try have : w.heap.size < w'.heap.size := by omega
  try have : w.heap.size + 1 < w'.heap.size := by omega
  try have : w.heap.size + 1 + 1 < w'.heap.size := by omega
  try have : w.heap.size + 1 + 1 + 1 < w'.heap.size := by omega
  go_wp2
  all_goals
    (try (go_step3; (try simp only [Exit.then]); (try change Rg.once _ _ _ _ _ _); rw [Rg.once_goto]; go_wp2))
    (try rw [Rg.once_ret])
    (try rw [Exit.noGoto_ret])
    (try change bodyPost _ _ _ _ _ _)
    first
    | (go_returns; refine ⟨?_, ?_⟩)
    | (refine bodyPost_ret (by simp [results, Tryz.results76, go_sem, *]; try rfl) rfl ⟨?_, ?_⟩)
    rotate_left
    · repeat' (first | exact Gr.refl _ | exact Nat.le_refl _ | exact Nat.le_add_right _ _ | refine Gr.setCell ?_ ?_ _ | refine Gr.alloc ?_ _ | refine Gr.drew ?_ | refine Gr.trans ?_ (by assumption) | omega | (dsimp only; omega))
  all_goals rfl
set_option maxHeartbeats 1000000 in
set_option maxRecDepth 100000 in
theorem vor_any (a b : V) (w : World) : Calls Tryz.prog 75 #[a.val, b.val] w fun e w' => e = pairR (orR a b) ∧ Gr w w' := by
  have P1 := fun W => plain_any a W
  have P2 := fun W => plain_any b W
  have S := fun W => side_any (plainV a) (plainV b) true W
  unfold orR
  generalize plainV a = pa at *
  generalize plainV b = pb at *
  generalize sideR pa pb true = R at *
  obtain ⟨t, n, s, b'⟩ := a
  obtain ⟨t2, n2, s2, b2'⟩ := b
  obtain ⟨pt, pn, ps, pb'⟩ := pa
  obtain ⟨pt2, pn2, ps2, pb2'⟩ := pb
  obtain ⟨⟨rt, rn, rs, rb⟩, re⟩ := R
  unfold V.val at *
  unfold pairR at *
  go_enter Tryz.func75, Tryz.ntmps75
  go_wp2_with fail
  refine Rg.region_tail (fun wz => Gr (((w.alloc (.cells #[.int .i64 t, .int .i64 n, .string s, .bool b'] 23)).alloc (.cells #[.int .i64 t2, .int .i64 n2, .string s2, .bool b2'] 23)).alloc (.cells #[.int .i64 0, .int .i64 0, .string ⟨#[]⟩, .bool false] 23)) wz) 7 (Gr.drew (Gr.refl _)) (by kernel_rfl) (by kernel_rfl) ?_
  simp only [List.take_succ_cons, List.take_zero, List.drop_succ_cons, List.drop_zero]
  repeat (first
      | (refine Rg.wpG_skip (by rfl) ?_; simp only [Act.put, List.setIfInBounds_toArray, List.set_cons_zero, List.set_cons_succ])
      | (refine Rg.wpG_step ?_ (by rfl) (fun w hS => ?_) ?_
         rotate_left
         · have hc := hS.cells
           have hf := hS.frees
           go_simp
           first
           | (refine ⟨?_, hS⟩; with_reducible rfl)
           | with_reducible rfl
           | ((with_reducible refine (P1 _).mono ?_); rintro e w' ⟨rfl, hg⟩; refine ⟨?_, hS.trans hg⟩; with_reducible rfl)
           | ((with_reducible refine (P2 _).mono ?_); rintro e w' ⟨rfl, hg⟩; refine ⟨?_, hS.trans hg⟩; with_reducible rfl)
           | ((with_reducible refine (S _).mono ?_); rintro e w' ⟨rfl, hg⟩; refine ⟨?_, hS.trans hg⟩; with_reducible rfl)
         simp only [Act.put, List.setIfInBounds_toArray, List.set_cons_zero, List.set_cons_succ]))
  refine Rg.wpG_nil ?_
  intro w' hg
  have hc := hg.cells
  have hf := hg.frees
  have hz := hg.size
  try simp only [World.size_alloc, World.size_setCell, World.size_drew] at hz
  try have : 0 < w'.heap.size := by omega
  try have : w.heap.size < w'.heap.size := by omega
  try have : w.heap.size + 1 < w'.heap.size := by omega
  try have : w.heap.size + 1 + 1 < w'.heap.size := by omega
  try have : w.heap.size + 1 + 1 + 1 < w'.heap.size := by omega
  go_wp2
  all_goals
    (try (go_step3; (try simp only [Exit.then]); (try change Rg.once _ _ _ _ _ _); rw [Rg.once_goto]; go_wp2))
    (try rw [Rg.once_ret])
    (try rw [Exit.noGoto_ret])
    (try change bodyPost _ _ _ _ _ _)
    first
    | (go_returns; refine ⟨?_, ?_⟩)
    | (refine bodyPost_ret (by simp [results, Tryz.results75, go_sem, *]; try rfl) rfl ⟨?_, ?_⟩)
    rotate_left
    · repeat' (first | exact Gr.refl _ | exact Nat.le_refl _ | exact Nat.le_add_right _ _ | refine Gr.setCell ?_ ?_ _ | refine Gr.alloc ?_ _ | refine Gr.drew ?_ | refine Gr.trans ?_ (by assumption) | omega | (dsimp only; omega))
  all_goals rfl
def negR (a : V) : V × Int := mathIn 19 (numV 0) a 1
set_option maxHeartbeats 1000000 in
set_option maxRecDepth 100000 in
theorem neg_any (a : V) (w : World) (ha : Vl.fitsB a.n = true) : Calls Tryz.prog 80 #[a.val] w fun e w' => e = pairR (negR a) ∧ Gr w w' := by
  have N := fun W => vnumber_any 0 W
  have M := fun W => math_num 19 (numV 0) a W (by omega) (by omega) (by rfl) ha
  unfold negR
  generalize mathIn 19 (numV 0) a 1 = R at *
  obtain ⟨t, n, s, b'⟩ := a
  obtain ⟨⟨rt, rn, rs, rb⟩, re⟩ := R
  unfold V.val numV at *
  unfold pairR at *
  go_enter Tryz.func80, Tryz.ntmps80
  go_wp2_with fail
  refine Rg.region_tail (fun wz => Gr ((w.alloc (.cells #[.int .i64 t, .int .i64 n, .string s, .bool b'] 23)).alloc (.cells #[.int .i64 0, .int .i64 0, .string ⟨#[]⟩, .bool false] 23)) wz) 5 (Gr.drew (Gr.refl _)) (by kernel_rfl) (by kernel_rfl) ?_
  simp only [List.take_succ_cons, List.take_zero, List.drop_succ_cons, List.drop_zero]
  repeat (first
      | (refine Rg.wpG_skip (by rfl) ?_; simp only [Act.put, List.setIfInBounds_toArray, List.set_cons_zero, List.set_cons_succ])
      | (refine Rg.wpG_step ?_ (by rfl) (fun w hS => ?_) ?_
         rotate_left
         · have hc := hS.cells
           have hf := hS.frees
           go_simp
           first
           | (refine ⟨?_, hS⟩; with_reducible rfl)
           | with_reducible rfl
           | ((with_reducible refine (N _).mono ?_); rintro e w' ⟨rfl, hg⟩; refine ⟨?_, hS.trans hg⟩; with_reducible rfl)
           | ((with_reducible refine (M _).mono ?_); rintro e w' ⟨rfl, hg⟩; refine ⟨?_, hS.trans hg⟩; with_reducible rfl)
         simp only [Act.put, List.setIfInBounds_toArray, List.set_cons_zero, List.set_cons_succ]))
  refine Rg.wpG_nil ?_
  intro w' hg
  have hc := hg.cells
  have hf := hg.frees
  have hz := hg.size
  try simp only [World.size_alloc, World.size_setCell, World.size_drew] at hz
  try have : 0 < w'.heap.size := by omega
  try have : w.heap.size < w'.heap.size := by omega
  try have : w.heap.size + 1 < w'.heap.size := by omega
  try have : w.heap.size + 1 + 1 < w'.heap.size := by omega
  try have : w.heap.size + 1 + 1 + 1 < w'.heap.size := by omega
  go_wp2
  all_goals
    (try (go_step3; (try simp only [Exit.then]); (try change Rg.once _ _ _ _ _ _); rw [Rg.once_goto]; go_wp2))
    (try rw [Rg.once_ret])
    (try rw [Exit.noGoto_ret])
    (try change bodyPost _ _ _ _ _ _)
    first
    | (go_returns; refine ⟨?_, ?_⟩)
    | (refine bodyPost_ret (by simp [results, Tryz.results80, go_sem, *]; try rfl) rfl ⟨?_, ?_⟩)
    rotate_left
    · repeat' (first | exact Gr.refl _ | exact Nat.le_refl _ | exact Nat.le_add_right _ _ | refine Gr.setCell ?_ ?_ _ | refine Gr.alloc ?_ _ | refine Gr.drew ?_ | refine Gr.trans ?_ (by assumption) | omega | (dsimp only; omega))
  all_goals rfl
end Go.Proofs.YtbeinfhgfflneaaGreat
end
section
namespace Go.Proofs.YtbeinfhgfflneaaGreat
open Go.RowKit
def Bd (n : Int) : Prop := -9223372036854775808 ≤ n ∧ n ≤ 9223372036854775807
theorem math_all (op : Int) (a b : V) (w : World) (ha : Bd a.n) (hb : Bd b.n) (hs : a.s.size + b.s.size ≤ 9223372036854775807) : Calls Tryz.prog 81 #[.int .i64 op, a.val, b.val] w fun e w' => e = pairR (mathR op a b) ∧ Gr w w' := by
  unfold mathR
  by_cases h1 : op < 18
  · rw [if_pos (by simpa using h1)]
    exact math_out op a b w (.inl h1)
  rw [if_neg (by simpa using h1)]
  by_cases h2 : 23 < op
  · rw [if_pos (by simpa using h2)]
    exact math_out op a b w (.inr h2)
  rw [if_neg (by simpa using h2)]
  by_cases h3 : op = 23
  · subst h3
    exact math_cat a b w hs
  · rw [if_neg (by simpa using h3)]
    exact math_num op a b w (by omega) (by omega) ((Vl.fits_iff _).2 ha) ((Vl.fits_iff _).2 hb)
end Go.Proofs.YtbeinfhgfflneaaGreat
end
section
namespace Go.Proofs.YtbeinfhgfflneaaGreat
set_option linter.unusedSimpArgs false
set_option linter.unusedVariables false
def errR : List (V × Int) → Int
  | [] => 0
  | r :: rs => if r.2 == 0 then errR rs else r.2
def valsR (rs : List (V × Int)) : List V := rs.map (·.1)
def firstV : List V → V → V × Int
  | [], out => (out, 0)
  | v :: r, out => if v.t == 0 then firstV r out else if out.t == 0 then firstV r v else if v.t != out.t then (nul, 160) else firstV r out
def oneV (len : Bool) (a : V) : V × Int :=
  if (vtypedB (if len then 2 else 1) [a]).1 then (if (vtypedB (if len then 2 else 1) [a]).2 then (nul, 0) else if len then (numV a.s.size, 0) else if decide (a.n < 0) then negR a else (numV a.n, 0)) else (nul, 160)
def callV (name : ByteArray) (l : List V) : V × Int :=
  if name.toList == [99, 111, 97, 108, 101, 115, 99, 101] && decide (0 < l.length) then firstV l nul
  else match l with
    | [a] => if name.toList == [108, 101, 110, 103, 116, 104] then oneV true a else if name.toList == [97, 98, 115] then oneV false a else (nul, 1)
    | _ => (nul, 1)
def cellR (l : List V) (c : Int) : V × Int := if decide (c < 0) then (nul, 1) else match l[c.toNat]? with
  | some v => (v, 0)
  | none => (nul, 1)
def colR (rows : List (List V)) (t c : Int) : V × Int := if decide (t < 0) then (nul, 1) else match rows[t.toNat]? with
  | some l => cellR l c
  | none => (nul, 1)
def litX (v : V) : List (V × Int) → V × Int
  | [] => (v, 0)
  | _ => (nul, 1)
def colX (rows : List (List V)) (t c : Int) : List (V × Int) → V × Int
  | [] => colR rows t c
  | _ => (nul, 1)
def callX (name : ByteArray) (rs : List (V × Int)) : V × Int := if errR rs == 0 then callV name (valsR rs) else (nul, errR rs)
def sideY (d : Bool) (f : V → V → V × Int) (a b : V × Int) : V × Int :=
  if a.2 == 0 then (if a.1.t == 3 && a.1.b == d then (boolV d, 0) else if b.2 == 0 then f a.1 b.1 else (nul, b.2)) else (nul, a.2)
def sideX (d : Bool) (f : V → V → V × Int) : List (V × Int) → V × Int
  | [a, b] => sideY d f a b
  | _ => (nul, 1)
def oneY (f : V → V × Int) (a : V × Int) : V × Int := if a.2 == 0 then f a.1 else (nul, a.2)
def oneX (f : V → V × Int) : List (V × Int) → V × Int
  | [a] => oneY f a
  | _ => (nul, 1)
def twoX (f : V → V → V × Int) : List (V × Int) → V × Int
  | [a, b] => if errR [a, b] == 0 then f a.1 b.1 else (nul, errR [a, b])
  | _ => (nul, 1)
def denR (nt : Bool) (r : V × Int) : V × Int := if r.2 != 0 || !nt then r else notR r.1
def inL (a : V) (nt : Bool) : List (V × Int) → V → V × Int
  | [], out => denR nt (out, 0)
  | b :: r, out => if b.2 == 0 then (if (lessR 9 a b.1).2 == 0 then (if (lessR 9 a b.1).1.t == 0 then inL a nt r (lessR 9 a b.1).1 else if (lessR 9 a b.1).1.b then denR nt ((lessR 9 a b.1).1, 0) else inL a nt r out) else (nul, (lessR 9 a b.1).2)) else (nul, b.2)
def inX (nt : Bool) : List (V × Int) → V × Int
  | a :: b :: r => if a.2 == 0 then inL a.1 nt (b :: r) (boolV false) else (nul, a.2)
  | _ => (nul, 1)
def betY (nt : Bool) (x l h : V) : V × Int :=
  if (lessR 12 l x).2 == 0 then (if (lessR 12 x h).2 == 0 then denR nt (andR (lessR 12 l x).1 (lessR 12 x h).1) else (nul, (lessR 12 x h).2)) else (nul, (lessR 12 l x).2)
def betX (nt : Bool) : List (V × Int) → V × Int
  | [x, l, h] => if errR [x, l, h] == 0 then betY nt x.1 l.1 h.1 else (nul, errR [x, l, h])
  | _ => (nul, 1)
def isNullR (nt : Bool) (a : V) : V × Int := (boolV ((a.t == 0) != nt), 0)
def evH (rows : List (List V)) (agv : V × Int) (h : Hd) (rs : List (V × Int)) : V × Int :=
  if h.op == 1 then litX h.v rs
  else if h.op == 3 then colX rows h.t h.c rs
  else if h.op == 4 then agv
  else if h.op == 5 then callX h.name rs
  else if h.op == 6 then sideX true orR rs
  else if h.op == 7 then sideX false andR rs
  else if h.op == 8 then oneX notR rs
  else if h.op == 15 then oneX (isNullR h.nt) rs
  else if h.op == 16 then inX h.nt rs
  else if h.op == 17 then betX h.nt rs
  else if h.op == 24 then oneX negR rs
  else if decide (9 ≤ h.op) && decide (h.op ≤ 14) then twoX (lessR h.op) rs
  else if decide (18 ≤ h.op) && decide (h.op ≤ 23) then twoX (mathR h.op) rs
  else (nul, 1)
mutual
def evX (rows : List (List V)) (ag : Ex → V × Int) : Ex → V × Int
  | .mk h ks => evH rows (ag (.mk h ks)) h (evXs rows ag ks)
def evXs (rows : List (List V)) (ag : Ex → V × Int) : List Ex → List (V × Int)
  | [] => []
  | x :: xs => evX rows ag x :: evXs rows ag xs
end
theorem evXs_len (rows : List (List V)) (ag : Ex → V × Int) : ∀ xs : List Ex, (evXs rows ag xs).length = xs.length
  | [] => by rw [evXs]; rfl
  | x :: xs => by rw [evXs]; simp [evXs_len rows ag xs]
theorem evXs_get (rows : List (List V)) (ag : Ex → V × Int) : ∀ (xs : List Ex) (k : Nat) (h : k < xs.length) (h2 : k < (evXs rows ag xs).length), (evXs rows ag xs)[k] = evX rows ag xs[k]
  | [], k, h, _ => by simp at h
  | x :: xs, 0, h, _ => by simp only [evXs, List.getElem_cons_zero]
  | x :: xs, k + 1, h, h2 => by
    simp only [evXs, List.getElem_cons_succ]
    exact evXs_get rows ag xs k (by simpa using h) _
def VB (c : Nat) (v : V) : Prop := Bd v.n ∧ v.s.size ≤ c
theorem VB.mono {c d : Nat} {v : V} (h : VB c v) (hd : c ≤ d) : VB d v := ⟨h.1, Nat.le_trans h.2 hd⟩
theorem vb_nul (c : Nat) : VB c nul := ⟨by unfold Bd nul; decide, Nat.zero_le _⟩
theorem vb_bool (c : Nat) (b : Bool) : VB c (boolV b) := ⟨by show Bd 0; unfold Bd; decide, Nat.zero_le _⟩
theorem vb_num (c : Nat) (n : Int) (h : Bd n) : VB c (numV n) := ⟨h, Nat.zero_le _⟩
theorem vb_fit (c : Nat) (n : Int) : VB c (fitR n).1 := by
  unfold fitR
  split
  · rename_i h; exact vb_num c n ((Vl.fits_iff n).1 h)
  · exact vb_nul c
theorem vb_arith (c : Nat) (op a b : Int) : VB c (arithR op a b).1 := by
  unfold arithR
  repeat' split
  all_goals first | exact vb_nul c | exact vb_fit c _
theorem vb_mathIn (c d : Nat) (op : Int) (a b : V) (k : Int) (ha : VB c a) (hb : VB d b) : VB (c + d) (mathIn op a b k).1 := by
  unfold mathIn
  repeat' split
  all_goals first | exact vb_nul _ | exact vb_arith _ _ _ _ | skip
  refine ⟨by show Bd 0; unfold Bd; decide, ?_⟩
  have h1 := ha.2
  have h2 := hb.2
  show (a.s ++ b.s).size ≤ c + d
  rw [ByteArray.size_append]; omega
theorem vb_math (c d : Nat) (op : Int) (a b : V) (ha : VB c a) (hb : VB d b) : VB (c + d) (mathR op a b).1 := by
  unfold mathR
  repeat' split
  all_goals first | exact vb_nul _ | exact vb_mathIn _ _ _ _ _ _ ha hb
theorem vb_neg (c : Nat) (a : V) (ha : VB c a) : VB c (negR a).1 := by
  have h := vb_mathIn 0 c 19 (numV 0) a 1 (vb_num 0 0 (by unfold Bd; decide)) ha
  rw [Nat.zero_add] at h
  exact h
theorem vb_not (c : Nat) (a : V) : VB c (notR a).1 := by
  unfold notR
  repeat' split
  all_goals first | exact vb_nul _ | exact vb_bool _ _
theorem vb_side (c : Nat) (a b : V) (d : Bool) : VB c (sideR a b d).1 := by
  unfold sideR
  repeat' split
  all_goals first | exact vb_nul _ | exact vb_bool _ _
theorem vb_less (c : Nat) (op : Int) (a b : V) : VB c (lessR op a b).1 := by
  unfold lessR
  repeat' split
  all_goals first | exact vb_nul _ | exact vb_bool _ _
theorem vb_den (c : Nat) (nt : Bool) (r : V × Int) (h : VB c r.1) : VB c (denR nt r).1 := by
  unfold denR
  split
  · exact h
  · exact vb_not c _
theorem vb_first (c : Nat) : ∀ (l : List V) (out : V), (∀ v ∈ l, VB c v) → VB c out → VB c (firstV l out).1
  | [], out, _, h => h
  | v :: r, out, hl, h => by
    unfold firstV
    have hr : ∀ u ∈ r, VB c u := fun u hu => hl u (by simp [hu])
    repeat' split
    all_goals first | exact vb_nul _ | exact vb_first c r _ hr h | exact vb_first c r _ hr (hl v (by simp))
theorem vb_one (c : Nat) (len : Bool) (a : V) (h : VB c a) (hc : c ≤ 9223372036854775807) : VB c (oneV len a).1 := by
  unfold oneV
  repeat' split
  all_goals first | exact vb_nul _ | exact vb_neg c a h | exact vb_num c _ h.1 | skip
  all_goals
    have := h.2
    refine vb_num c _ ?_
    unfold Bd
    omega
theorem vb_call (c : Nat) (name : ByteArray) (l : List V) (h : ∀ v ∈ l, VB c v) (hc : c ≤ 9223372036854775807) : VB c (callV name l).1 := by
  unfold callV
  split
  · exact vb_first c l nul h (vb_nul c)
  · split
    · rename_i a _
      repeat' split
      all_goals first | exact vb_nul _ | exact vb_one c _ a (h a (by simp)) hc
    · exact vb_nul c
theorem vb_inL (c : Nat) (a : V) (nt : Bool) : ∀ (l : List (V × Int)) (out : V), VB c out → VB c (inL a nt l out).1
  | [], out, h => vb_den c nt _ h
  | b :: r, out, h => by
    unfold inL
    repeat' split
    all_goals first | exact vb_nul _ | exact vb_den c nt _ (vb_less c _ _ _) | exact vb_inL c a nt r _ (vb_less c _ _ _) | exact vb_inL c a nt r _ h
theorem vb_cell (c : Nat) (l : List V) (k : Int) (h : ∀ v ∈ l, VB c v) : VB c (cellR l k).1 := by
  unfold cellR
  split
  · exact vb_nul _
  · split
    · rename_i v hv; exact h v (List.mem_of_getElem? hv)
    · exact vb_nul _
theorem vb_col (c : Nat) (rows : List (List V)) (t k : Int) (h : ∀ l ∈ rows, ∀ v ∈ l, VB c v) : VB c (colR rows t k).1 := by
  unfold colR
  split
  · exact vb_nul _
  · split
    · rename_i l hl; exact vb_cell c l k (h l (List.mem_of_getElem? hl))
    · exact vb_nul _
theorem vb_sideX (c : Nat) (d : Bool) (f : V → V → V × Int) (hf : ∀ a b, VB c (f a b).1) (rs : List (V × Int)) : VB c (sideX d f rs).1 := by
  unfold sideX
  split
  · unfold sideY
    repeat' split
    all_goals first | exact vb_nul _ | exact vb_bool _ _ | exact hf _ _
  · exact vb_nul _
theorem vb_oneX (c : Nat) (f : V → V × Int) (rs : List (V × Int)) (hf : ∀ r ∈ rs, VB c (f r.1).1) : VB c (oneX f rs).1 := by
  unfold oneX
  split
  · unfold oneY
    split
    · exact hf _ (by simp)
    · exact vb_nul _
  · exact vb_nul _
def VBs : Nat → List (V × Int) → Prop
  | c, [] => True
  | c, r :: rs => ∃ a b, a + b = c ∧ VB a r.1 ∧ VBs b rs
theorem VBs.each : ∀ {rs : List (V × Int)} {c : Nat}, VBs c rs → ∀ r ∈ rs, VB c r.1
  | [], c, _, r, hr => by simp at hr
  | q :: rs, c, h, r, hr => by
    obtain ⟨a, b, e, h1, h2⟩ := h
    rcases List.mem_cons.1 hr with rfl | hr
    · exact h1.mono (by omega)
    · exact (VBs.each h2 r hr).mono (by omega)
theorem vb_if {c : Nat} {p : Prop} [Decidable p] {a b : V × Int} (h1 : VB c a.1) (h2 : VB c b.1) : VB c (if p then a else b).1 := by
  by_cases h : p
  · rw [if_pos h]; exact h1
  · rw [if_neg h]; exact h2
theorem vb_lit (c : Nat) (v : V) (rs : List (V × Int)) (h : VB c v) : VB c (litX v rs).1 := by
  cases rs with
  | nil => exact h
  | cons a r => exact vb_nul _
theorem vb_colX (c : Nat) (rows : List (List V)) (t k : Int) (rs : List (V × Int)) (h : ∀ l ∈ rows, ∀ v ∈ l, VB c v) : VB c (colX rows t k rs).1 := by
  cases rs with
  | nil => exact vb_col c rows t k h
  | cons a r => exact vb_nul _
theorem vb_twoX (c : Nat) (f : V → V → V × Int) (rs : List (V × Int)) (hf : ∀ a b, rs = [a, b] → VB c (f a.1 b.1).1) : VB c (twoX f rs).1 := by
  match rs, hf with
  | [], _ => exact vb_nul _
  | [_], _ => exact vb_nul _
  | [a, b], hf => exact vb_if (hf a b rfl) (vb_nul _)
  | _ :: _ :: _ :: _, _ => exact vb_nul _
theorem vb_inX (c : Nat) (nt : Bool) (rs : List (V × Int)) : VB c (inX nt rs).1 := by
  match rs with
  | [] => exact vb_nul _
  | [_] => exact vb_nul _
  | a :: b :: r => exact vb_if (vb_inL _ _ _ _ _ (vb_bool _ _)) (vb_nul _)
theorem vb_betX (c : Nat) (nt : Bool) (rs : List (V × Int)) : VB c (betX nt rs).1 := by
  match rs with
  | [] => exact vb_nul _
  | [_] => exact vb_nul _
  | [_, _] => exact vb_nul _
  | [x, l, h] => exact vb_if (vb_if (vb_if (vb_den _ _ _ (vb_side _ _ _ _)) (vb_nul _)) (vb_nul _)) (vb_nul _)
  | _ :: _ :: _ :: _ :: _ => exact vb_nul _
theorem vb_evH (c S : Nat) (rows : List (List V)) (agv : V × Int) (h : Hd) (rs : List (V × Int)) (hr : ∀ l ∈ rows, ∀ v ∈ l, VB c v) (ha : VB c agv.1) (hv : VB c h.v) (hs : VBs S rs) (hS : c + S ≤ 9223372036854775807) : VB (c + S) (evH rows agv h rs).1 := by
  have hc : c ≤ c + S := by omega
  have hl : ∀ v ∈ valsR rs, VB S v := fun v hv => by
    obtain ⟨r, h1, rfl⟩ := List.mem_map.1 hv
    exact hs.each r h1
  refine vb_if (vb_lit _ _ _ (hv.mono hc)) (vb_if ((vb_colX c rows _ _ _ hr).mono hc) (vb_if (ha.mono hc) (vb_if (vb_if ((vb_call S _ _ hl (by omega)).mono (by omega)) (vb_nul _)) (vb_if (vb_sideX _ _ _ (fun a b => vb_side _ _ _ _) _) (vb_if (vb_sideX _ _ _ (fun a b => vb_side _ _ _ _) _) (vb_if (vb_oneX _ _ _ (fun r _ => vb_not _ _)) (vb_if (vb_oneX _ _ _ (fun r _ => vb_bool _ _)) (vb_if (vb_inX _ _ _) (vb_if (vb_betX _ _ _) (vb_if (vb_oneX _ _ _ (fun r hr => (vb_neg S _ (hs.each r hr)).mono (by omega))) (vb_if (vb_twoX _ _ _ (fun a b _ => vb_less _ _ _ _)) (vb_if (vb_twoX _ _ _ (fun a b e => ?_)) (vb_nul _)))))))))))))
  subst e
  obtain ⟨a1, b1, e, h1, a2, b2, e2, h2, _⟩ := hs
  exact (vb_math a1 a2 _ _ _ h1 h2).mono (by omega)
mutual
def Ex.fitsX (c : Nat) : Ex → Prop
  | .mk h ks => VB c h.v ∧ Exs.fitsX c ks
def Exs.fitsX (c : Nat) : List Ex → Prop
  | [] => True
  | x :: xs => Ex.fitsX c x ∧ Exs.fitsX c xs
end
mutual
def Ex.forms : Ex → Nat
  | .mk _ ks => Exs.forms ks + 1
def Exs.forms : List Ex → Nat
  | [] => 0
  | x :: xs => Ex.forms x + Exs.forms xs
end
mutual
theorem vb_evX (c : Nat) (rows : List (List V)) (ag : Ex → V × Int) (hr : ∀ l ∈ rows, ∀ v ∈ l, VB c v) (ha : ∀ x, VB c (ag x).1) : ∀ x : Ex, Ex.fitsX c x → x.forms * c ≤ 9223372036854775807 → VB (x.forms * c) (evX rows ag x).1
  | .mk h ks, hf, hs => by
    rw [Ex.fitsX] at hf
    rw [Ex.forms, Nat.add_mul, Nat.one_mul] at hs ⊢
    rw [evX, Nat.add_comm]
    exact vb_evH c _ rows _ h _ hr (ha _) hf.1 (vb_evXs c rows ag hr ha ks hf.2 (by omega)) (by omega)
theorem vb_evXs (c : Nat) (rows : List (List V)) (ag : Ex → V × Int) (hr : ∀ l ∈ rows, ∀ v ∈ l, VB c v) (ha : ∀ x, VB c (ag x).1) : ∀ xs : List Ex, Exs.fitsX c xs → Exs.forms xs * c ≤ 9223372036854775807 → VBs (Exs.forms xs * c) (evXs rows ag xs)
  | [], _, _ => by rw [evXs]; trivial
  | x :: xs, hf, hs => by
    rw [Exs.fitsX] at hf
    rw [Exs.forms, Nat.add_mul] at hs ⊢
    rw [evXs]
    exact ⟨_, _, rfl, vb_evX c rows ag hr ha x hf.1 (by omega), vb_evXs c rows ag hr ha xs hf.2 (by omega)⟩
end
end Go.Proofs.YtbeinfhgfflneaaGreat
end
section
namespace Go.Proofs.YtbeinfhgfflneaaGreat
set_option linter.unusedSimpArgs false
set_option linter.unusedVariables false
structure Cn where
  name : ByteArray
  ty : Int
structure Tn where
  name : ByteArray
  cols : List Cn
def colsN (h : Hd) (t : Nat) : List Cn → Nat → List (Nat × Nat × Int)
  | [], _ => []
  | c :: r, i => if c.name.toList == h.name.toList then (t, i, c.ty) :: colsN h t r (i + 1) else colsN h t r (i + 1)
def tabsN (h : Hd) : List Tn → Nat → List (Nat × Nat × Int)
  | [], _ => []
  | x :: r, t => if h.tab.toList != [] && h.tab.toList != x.name.toList then tabsN h r (t + 1) else colsN h t x.cols 0 ++ tabsN h r (t + 1)
def noE : Ex := .mk { op := 0 } []
def bnameK (fr : List Tn) (h : Hd) : Ex × Int × Int := match tabsN h fr 0 with
  | [(t, c, k)] => (.mk { op := 3, t := t, c := c } [], k, 0)
  | _ => (noE, 0, 190)
def allB (kind : Int) (l : List Int) : Bool := l.all (fun k => k == 0 || k == kind)
def firstK : List Int → Int
  | [] => 0
  | k :: r => if k == 0 then firstK r else k
def typedK (many : Bool) (kids kind : Int) (l : List Int) : Int × Int := if many then (if allB kids l then (kind, 0) else (0, 160)) else (0, 1)
def isName (n : ByteArray) (l : List UInt8) : Bool := n.toList == l
def aggK (aggs in_ : Bool) (h : Hd) (l : List Int) : Int × Int :=
  if (h.st && (!isName h.name [99, 111, 117, 110, 116] || decide (0 < l.length))) || (!h.st && l.length != 1) then (0, 1)
  else if !isName h.name [99, 111, 117, 110, 116] && !isName h.name [115, 117, 109] && !isName h.name [109, 105, 110] && !isName h.name [109, 97, 120] then (0, 1)
  else if !aggs || in_ then (0, 191)
  else if isName h.name [99, 111, 117, 110, 116] then (1, 0)
  else if isName h.name [115, 117, 109] then typedK true 1 1 l
  else (l.headD 0, 0)
def callK (h : Hd) (l : List Int) : Int × Int :=
  if l.length == 0 then (0, 1)
  else if !isName h.name [108, 101, 110, 103, 116, 104] && !isName h.name [97, 98, 115] && !isName h.name [99, 111, 97, 108, 101, 115, 99, 101] then (0, 190)
  else if isName h.name [99, 111, 97, 108, 101, 115, 99, 101] && allB (firstK l) l then (firstK l, 0)
  else if isName h.name [99, 111, 97, 108, 101, 115, 99, 101] || l.length != 1 then (0, 160)
  else if isName h.name [108, 101, 110, 103, 116, 104] then typedK true 2 1 l
  else typedK true 1 1 l
def kindK (aggs in_ : Bool) (h : Hd) (l : List Int) : Int × Int :=
  let n := l.length
  if h.op == 1 then (if n != 0 || decide (h.v.t < 0) || decide (3 < h.v.t) then (0, 1) else (h.v.t, 0))
  else if h.op == 4 then aggK aggs in_ h l
  else if h.op == 5 then callK h l
  else if h.op == 8 then typedK (n == 1) 3 3 l
  else if h.op == 6 || h.op == 7 then typedK (n == 2) 3 3 l
  else if h.op == 24 then typedK (n == 1) 1 1 l
  else if decide (18 ≤ h.op) && decide (h.op ≤ 22) then typedK (n == 2) 1 1 l
  else if h.op == 23 then typedK (n == 2) 2 2 l
  else if decide (9 ≤ h.op) && decide (h.op ≤ 14) then typedK (n == 2) (firstK l) 3 l
  else if h.op == 15 then typedK (n == 1) (firstK l) 3 l
  else if h.op == 16 then typedK (decide (2 ≤ n)) (firstK l) 3 l
  else if h.op == 17 then typedK (n == 3) (firstK l) 3 l
  else (0, 1)
def bindH (fr : List Tn) (aggs in_ : Bool) (h : Hd) (rs : List (Ex × Int × Int)) : Ex × Int × Int :=
  match rs.find? (fun r => r.2.2 != 0) with
  | some r => (noE, 0, r.2.2)
  | none =>
    if h.op == 2 && rs.length == 0 then bnameK fr h
    else if (kindK aggs in_ h (rs.map (·.2.1))).2 != 0 then (noE, 0, (kindK aggs in_ h (rs.map (·.2.1))).2)
    else (.mk h (rs.map (·.1)), (kindK aggs in_ h (rs.map (·.2.1))).1, 0)
mutual
def bindX (fr : List Tn) (aggs in_ : Bool) : Ex → Ex × Int × Int
  | .mk h ks => bindH fr aggs in_ h (bindXs fr aggs (in_ || h.op == 4) ks)
def bindXs (fr : List Tn) (aggs in_ : Bool) : List Ex → List (Ex × Int × Int)
  | [] => []
  | x :: xs => bindX fr aggs in_ x :: bindXs fr aggs in_ xs
end
def safeH (h : Hd) : Bool := !((decide (18 ≤ h.op) && decide (h.op ≤ 22)) || h.op == 24 || h.op == 4 || (h.op == 5 && isName h.name [97, 98, 115]))
mutual
def safeX : Ex → Bool
  | .mk h ks => safeH h && safeXs ks
def safeXs : List Ex → Bool
  | [] => true
  | x :: xs => safeX x && safeXs xs
end
end Go.Proofs.YtbeinfhgfflneaaGreat
end
section
namespace Go.Rg
open Go Go.RowKit
set_option linter.unusedSimpArgs false
abbrev Up (w w' : World) : Prop := Below w.heap.size w w'
theorem Up.trans {a b c : World} (h : Up a b) (k : Up b c) : Up a c := Below.trans h (Below.mono k h.size)
section
variable {P : Program} {ops : Array Oper} {md : Region.Mode} {W : World} {Q : Exit → Act → World → Prop} {tl : Nat}
def Brings (P : Program) (w0 : World) (v : Value) : Result Next → Prop
  | .ok (.value u) w => u = v ∧ Up w0 w
  | .ok .skip w => undef = v ∧ Up w0 w
  | .ok (.enter f args) w => Calls P f args w fun e w' => e = .returned v ∧ Up w0 w'
  | _ => False
theorem brings_value {u v : Value} {w0 w : World} : Brings P w0 v (.ok (.value u) w) = (u = v ∧ Up w0 w) := rfl
theorem brings_skip {v : Value} {w0 w : World} : Brings P w0 v (.ok .skip w) = (undef = v ∧ Up w0 w) := rfl
theorem brings_enter {f : FuncId} {args : Array Value} {v : Value} {w0 w : World} : Brings P w0 v (.ok (.enter f args) w) = Calls P f args w fun e w' => e = .returned v ∧ Up w0 w' := rfl
def DetAt (P : Program) (ops : Array Oper) (W : World) (o : Oper) (v : Value) (a : Act) : Prop :=
  (Region.wanted o (yielded ops a.tmps) = true ∧ ∀ w, Up W w → Brings P w v ((execOp a.eval o).run P w)) ∨
  (Region.wanted o (yielded ops a.tmps) = false ∧ v = undef)
def LayAt (P : Program) (ops : Array Oper) (o : Oper) (ob : Obj) (a : Act) : Prop :=
  Region.wanted o (yielded ops a.tmps) = true ∧ ∀ w, (execOp a.eval o).run P w = .ok (.value (.pointer (some ⟨w.heap.size, 0, none⟩))) (w.alloc ob)
theorem DetAt.of_same {o : Oper} {v : Value} {a a' : Act} (hy : DetAt P ops W o v a) (he : execOp a'.eval o = execOp a.eval o)
    (hw : Region.wanted o (yielded ops a'.tmps) = Region.wanted o (yielded ops a.tmps)) : DetAt P ops W o v a' := by
  unfold DetAt at *
  rw [he, hw]
  exact hy
theorem LayAt.of_same {o : Oper} {ob : Obj} {a a' : Act} (hy : LayAt P ops o ob a) (he : execOp a'.eval o = execOp a.eval o)
    (hw : Region.wanted o (yielded ops a'.tmps) = Region.wanted o (yielded ops a.tmps)) : LayAt P ops o ob a' := by
  unfold LayAt at *
  rw [he, hw]
  exact hy
theorem DetAt.wpOp {i : Nat} {o : Oper} {v : Value} {a : Act} {w : World} {Q : Exit → Act → World → Prop} (hi : ops[i]? = some o) (hy : DetAt P ops W o v a) (hS : Up W w)
    {K : Act → World → Prop} (h : ∀ w', Up w w' → K (a.put o.dst v) w') : wpOp P ops Q i K a w := by
  unfold Go.wpOp
  simp only [hi]
  rcases hy with ⟨hw, hv⟩ | ⟨hw, rfl⟩
  · simp only [hw, if_true]
    refine .inl ?_
    unfold Oper.wp
    have h1 := hv w hS
    generalize (execOp a.eval o).run P w = r at *
    cases r with
    | ok n w' =>
      cases n <;> simp only [Brings] at h1 <;> simp only [Oper.upon]
      case value u => obtain ⟨rfl, h2⟩ := h1; exact h _ h2
      case skip => obtain ⟨rfl, h2⟩ := h1; exact h _ h2
      case enter f args => exact h1.mono fun e w'' ⟨he, h2⟩ => by subst he; exact h _ h2
    | halt x w' => simp only [Brings] at h1
  · simp only [hw, Bool.false_eq_true, if_false]; exact h _ (Below.refl _ _)
theorem LayAt.wpOp {i : Nat} {o : Oper} {ob : Obj} {a : Act} {w : World} {Q : Exit → Act → World → Prop} (hi : ops[i]? = some o) (hy : LayAt P ops o ob a)
    {K : Act → World → Prop} (h : K (a.put o.dst (.pointer (some ⟨w.heap.size, 0, none⟩))) (w.alloc ob)) : wpOp P ops Q i K a w := by
  unfold Go.wpOp
  simp only [hi]
  obtain ⟨hw, hv⟩ := hy
  simp only [hw, if_true]
  refine .inl ?_
  unfold Oper.wp
  rw [hv w]
  exact h
def Lain (w : World) : List (Nat × Obj) → Prop
  | [] => True
  | p :: r => w.heap[p.1]? = some p.2 ∧ Lain w r
theorem Lain.up {w w' : World} (h : Up w w') : ∀ {l : List (Nat × Obj)}, Lain w l → Lain w' l
  | [], _ => trivial
  | p :: r, hl => by
    refine ⟨?_, Lain.up h hl.2⟩
    have hlt : p.1 < w.heap.size := (Array.getElem?_eq_some_iff.1 hl.1).1
    have h1 := h.block p.1 hlt
    rw [h1]; exact hl.1
theorem heap_new (w : World) (o : Obj) : (w.alloc o).heap[w.heap.size]? = some o := by
  show (w.heap.push o)[w.heap.size]? = some o
  simp
theorem blk_cells {w : World} {g : Nat} {cs : Array Value} {T : TypeId} (h : w.heap[g]? = some (.cells cs T)) : ∀ i, w.cell? ⟨g, i, none⟩ = cs[i]? := fun i => by simp [World.cell?, h]
theorem blk_free {w : World} {g : Nat} {cs : Array Value} {T : TypeId} (h : w.heap[g]? = some (.cells cs T)) : ∀ i, w.frozen? ⟨g, i, none⟩ = false := fun i => by simp [World.frozen?, h]
structure Known (W w : World) (U : Nat → Prop) (Ψ : World → Prop) : Prop where
  up : Up W w
  used : ∀ g, U g → g < w.heap.size
  psi : Ψ w
def Keeps (Ψ : World → Prop) : Prop := ∀ w w', Ψ w → Up w w' → Ψ w'
def more (U : Nat → Prop) (g : Nat) : Nat → Prop := fun k => k = g ∨ U k
def andBlk (Ψ : World → Prop) (g : Nat) (ob : Obj) : World → Prop := fun w => w.heap[g]? = some ob ∧ Ψ w
theorem more_comm (U : Nat → Prop) (g h : Nat) : more (more U g) h = more (more U h) g := by
  funext k; unfold more; apply propext; constructor
  · rintro (a | b | c)
    · exact .inr (.inl a)
    · exact .inl b
    · exact .inr (.inr c)
  · rintro (a | b | c)
    · exact .inr (.inl a)
    · exact .inl b
    · exact .inr (.inr c)
theorem andBlk_comm (Ψ : World → Prop) (g h : Nat) (a b : Obj) : andBlk (andBlk Ψ g a) h b = andBlk (andBlk Ψ h b) g a := by
  funext k; unfold andBlk; apply propext; constructor
  · rintro ⟨x, y, z⟩; exact ⟨y, x, z⟩
  · rintro ⟨x, y, z⟩; exact ⟨y, x, z⟩
theorem keeps_andBlk {Ψ : World → Prop} (h : Keeps Ψ) (g : Nat) (ob : Obj) : Keeps (andBlk Ψ g ob) := fun w w' ⟨h1, h2⟩ hu => by
  refine ⟨?_, h w w' h2 hu⟩
  have hlt : g < w.heap.size := (Array.getElem?_eq_some_iff.1 h1).1
  have h3 := hu.block g hlt
  rw [h3]; exact h1
theorem fresh_of {W : World} {U : Nat → Prop} (h : ∃ B, ∀ g, U g → g < B) : ∃ g0, W.heap.size ≤ g0 ∧ ¬ U g0 := by
  obtain ⟨B, hB⟩ := h
  exact ⟨W.heap.size + B, by omega, fun hu => by have := hB _ hu; omega⟩
abbrev Fin := (Nat → Prop) → (World → Prop) → Array Bool → Act → Prop
def wpAnyU (P : Program) (md : Region.Mode) (ops : Array Oper) (Q : Exit → Act → World → Prop) (tl : Nat) (W : World) (n : Nat) (L : Fin) (b : Bool) : Nat → (Nat → Prop) → (World → Prop) → Array Bool → Act → Prop
  | 0, U, Ψ, listed, a => L U Ψ listed a
  | f + 1, U, Ψ, listed, a =>
    Region.ready md ops listed ≠ [] ∧ ∀ i ∈ Region.ready md ops listed, (i < n ∧ ∃ o, ops[i]? = some o ∧
      ((b = false ∧ ∃ v, DetAt P ops W o v a ∧ wpAnyU P md ops Q tl W n L b f U Ψ (listed.setIfInBounds i true) (a.put o.dst v)) ∨
       (∃ ob, LayAt P ops o ob a ∧ ∀ g, W.heap.size ≤ g → ¬ U g → wpAnyU P md ops Q tl W n L b f (more U g) (andBlk Ψ g ob) (listed.setIfInBounds i true) (a.put o.dst (.pointer (some ⟨g, 0, none⟩)))))) ∨
      (n ≤ i ∧ ∀ w, Known W w U Ψ → wpOp P ops Q i (wpAny P md ops Q (f + tl) (listed.setIfInBounds i true)) a w)
theorem wpAnyU_weak {n : Nat} {L : Fin} : ∀ (f : Nat) (U : Nat → Prop) (Ψ : World → Prop) (listed : Array Bool) (a : Act), wpAnyU P md ops Q tl W n L true f U Ψ listed a → wpAnyU P md ops Q tl W n L false f U Ψ listed a
  | 0, _, _, _, _, h => h
  | f + 1, U, Ψ, listed, a, h => by
    refine ⟨h.1, fun i hi => ?_⟩
    rcases h.2 i hi with ⟨hin, o, ho, h2⟩ | h5
    · refine .inl ⟨hin, o, ho, ?_⟩
      rcases h2 with ⟨h3, _⟩ | ⟨ob, h3, h4⟩
      · cases h3
      · exact .inr ⟨ob, h3, fun g hg hu => wpAnyU_weak f _ _ _ _ (h4 g hg hu)⟩
    · exact .inr h5
theorem wpAny_of_U {n g : Nat} {L : Fin} (hL : ∀ U Ψ listed a, L U Ψ listed a → ∀ w, Known W w U Ψ → wpAny P md ops Q g listed a w) :
    ∀ (f : Nat) (U : Nat → Prop) (Ψ : World → Prop) (listed : Array Bool) (a : Act), Keeps Ψ → wpAnyU P md ops Q g W n L false f U Ψ listed a → ∀ w, Known W w U Ψ → wpAny P md ops Q (f + g) listed a w
  | 0, U, Ψ, listed, a, _, h, w, hS => by rw [Nat.zero_add]; exact hL _ _ _ _ h w hS
  | f + 1, U, Ψ, listed, a, hk, h, w, hS => by
    rw [show f + 1 + g = (f + g) + 1 by omega]
    refine ⟨fun h0 => absurd h0 h.1, fun i hi => ?_⟩
    rcases h.2 i hi with ⟨_, o, ho, h2⟩ | ⟨_, h2⟩
    case inr => exact h2 w hS
    rcases h2 with ⟨_, v, hy, h3⟩ | ⟨ob, hy, h3⟩
    · exact hy.wpOp ho hS.up fun w' hu => wpAny_of_U hL f _ _ _ _ hk h3 w' ⟨hS.up.trans hu, fun g hg => Nat.lt_of_lt_of_le (hS.used g hg) hu.size, hk w w' hS.psi hu⟩
    · have hu : Up w (w.alloc ob) := Below.alloc (Below.refl _ _) (Nat.le_refl _) ob
      refine hy.wpOp ho (wpAny_of_U hL f _ _ _ _ (keeps_andBlk hk _ _) (h3 w.heap.size hS.up.size fun hug => Nat.lt_irrefl _ (hS.used _ hug)) _ ⟨hS.up.trans hu, fun g hg => ?_, heap_new w ob, hk w _ hS.psi hu⟩)
      have hsz : (w.alloc ob).heap.size = w.heap.size + 1 := by simp
      rcases hg with rfl | hg
      · omega
      · have := hS.used g hg; omega
def sinkF (md : Region.Mode) (ops : Array Oper) (n : Nat) (F : List Nat) : Bool :=
  (List.range n).all fun i => F.contains i || (List.range (n + 1)).any fun j => decide (i < j) && !F.contains j && Region.waitsFor md ops j i
theorem tail_waitsF {n : Nat} {F : List Nat} {listed : Array Bool} (hs : sinkF md ops n F = true) (hc : Region.chainB md ops n = true) (hn : n < ops.size) (inv : HeadInv md ops n listed) :
    ∀ (d i : Nat), n - i = d → i < n → i ∉ F → listed.getD i true = false → ∀ t, n ≤ t → t ∉ Region.ready md ops listed := by
  intro d
  induction d using Nat.strongRecOn with
  | _ d ih =>
    intro i hd hi hiF hun t ht hr
    obtain ⟨_, ot, hot, hall⟩ := mem_ready.1 hr
    have htlt : t < ops.size := (Array.getElem?_eq_some_iff.1 hot).1
    by_cases htn : t = n
    · subst htn
      have h1 := List.all_eq_true.1 hs i (List.mem_range.2 hi)
      rw [Bool.or_eq_true] at h1
      rcases h1 with h1 | h1
      · exact hiF (by simpa using h1)
      obtain ⟨j, hj, hj2⟩ := List.any_eq_true.1 h1
      simp only [Bool.and_eq_true, decide_eq_true_eq, Bool.not_eq_true'] at hj2
      obtain ⟨oj, hoj, e, he, hb, hon⟩ := Region.waitsFor_spec hj2.2
      have hjF : j ∉ F := by have := hj2.1.2; simpa using this
      have hjle : j ≤ t := by have := List.mem_range.1 hj; omega
      by_cases hjt : j = t
      · subst hjt
        have : oj = ot := Option.some.inj (hoj.symm.trans hot)
        subst this
        have h2 := hall e he hb
        rw [hon, getD_both hun] at h2
        cases h2
      · cases hl : listed.getD j false with
        | true =>
          have h2 := inv.closed j oj hoj hl e he hb
          rw [hon, getD_both hun] at h2
          cases h2
        | false =>
          have hjs : j < listed.size := by rw [inv.size]; omega
          exact ih (t - j) (by omega) j rfl (by omega) hjF (getD_in hjs hl) t (Nat.le_refl _) hr
    · have h1 := List.all_eq_true.1 hc t (List.mem_range.2 htlt)
      simp only [Bool.or_eq_true, decide_eq_true_eq] at h1
      rcases h1 with h1 | h1
      · omega
      · obtain ⟨o', ho', e, he, hb, hon⟩ := Region.waitsFor_spec h1
        have : o' = ot := Option.some.inj (ho'.symm.trans hot)
        subst this
        have h2 := hall e he hb
        rw [hon, getD_both (inv.tail (t - 1) (by omega) (by omega))] at h2
        cases h2
theorem DetAt.put {oi oj : Oper} {v u : Value} {a : Act} (hap : oi.apart ops oj = true) (hsi : ∀ cs b, oi.op ≠ .select cs b)
    (hy : DetAt P ops W oi v a) : DetAt P ops W oi v (a.put oj.dst u) := by
  obtain ⟨h1, h2, h3⟩ := Oper.apart_spec hap
  exact hy.of_same (execOp_put oi hsi a oj.dst u h3) (wanted_put oi a oj.dst u h3)
theorem LayAt.put {oi oj : Oper} {ob : Obj} {u : Value} {a : Act} (hap : oi.apart ops oj = true) (hsi : ∀ cs b, oi.op ≠ .select cs b)
    (hy : LayAt P ops oi ob a) : LayAt P ops oi ob (a.put oj.dst u) := by
  obtain ⟨h1, h2, h3⟩ := Oper.apart_spec hap
  exact hy.of_same (execOp_put oi hsi a oj.dst u h3) (wanted_put oi a oj.dst u h3)
section
variable {n i : Nat} {oi : Oper} {L : Fin} (hi : ops[i]? = some oi) (hsel : ∀ (j : Nat) (o : Oper) cs b, ops[j]? = some o → o.op ≠ .select cs b)
    {F : List Nat} (hs : sinkF md ops n F = true) (hc : Region.chainB md ops n = true) (hn : n < ops.size) (hin : i < n) (hiF : i ∉ F)
    (hdone : ∀ U Ψ listed a, L U Ψ listed a → ∀ j ∈ Region.ready md ops listed, n ≤ j)
include hi hsel hs hc hn hin hiF hdone
theorem detU_first {v : Value} :
    ∀ (f : Nat) (U : Nat → Prop) (Ψ : World → Prop) (listed : Array Bool) (a : Act), HeadInv md ops n listed →
      (∀ j oj, ops[j]? = some oj → j ≠ i → listed.getD j true = false → (∀ e ∈ oj.after, Region.binds md e = true → e.on ≠ i) → oi.apart ops oj = true) →
      i ∈ Region.ready md ops listed → DetAt P ops W oi v a →
      wpAnyU P md ops Q tl W n L false f U Ψ (listed.setIfInBounds i true) (a.put oi.dst v) → wpAnyU P md ops Q tl W n L false (f + 1) U Ψ listed a := by
  intro f
  induction f with
  | zero =>
    intro U Ψ listed a inv _ hr hy H
    have hun := (mem_ready.1 hr).1
    refine ⟨fun h => (by rw [h] at hr; cases hr), fun j hj => ?_⟩
    have hjn : j < n := by
      rcases Nat.lt_or_ge j n with h | h
      · exact h
      · exact absurd hj (tail_waitsF hs hc hn inv _ i rfl hin hiF hun j h)
    refine .inl ⟨hjn, ?_⟩
    by_cases hji : j = i
    · subst hji; exact ⟨oi, hi, .inl ⟨rfl, v, hy, H⟩⟩
    · have := hdone _ _ _ _ H j (ready_mono hj hji)
      omega
  | succ f ih =>
    intro U Ψ listed a inv hfree hr hy H
    have hun := (mem_ready.1 hr).1
    refine ⟨fun h => (by rw [h] at hr; cases hr), fun j hj => ?_⟩
    have hjn : j < n := by
      rcases Nat.lt_or_ge j n with h | h
      · exact h
      · exact absurd hj (tail_waitsF hs hc hn inv _ i rfl hin hiF hun j h)
    refine .inl ⟨hjn, ?_⟩
    by_cases hji : j = i
    · subst hji; exact ⟨oi, hi, .inl ⟨rfl, v, hy, H⟩⟩
    · rcases H.2 j (ready_mono hj hji) with ⟨_, oj, hoj, H2⟩ | ⟨hge, _⟩
      case inr => omega
      obtain ⟨hjun, oj', hoj', hall⟩ := mem_ready.1 hj
      have hnot : ∀ e ∈ oj.after, Region.binds md e = true → e.on ≠ i := fun e he hb heq => by
        have : oj = oj' := Option.some.inj (hoj.symm.trans hoj')
        subst this
        have h1 := hall e he hb
        rw [heq, getD_both hun] at h1
        cases h1
      have hap := hfree j oj hoj hji hjun hnot
      obtain ⟨a1, a2, a3⟩ := Oper.apart_spec hap
      have he := (execOp_put oj (fun cs b => hsel j oj cs b hoj) a oi.dst v a1).symm
      have hw := (wanted_put oj a oi.dst v a1).symm
      have hfree' : ∀ k ok, ops[k]? = some ok → k ≠ i → (listed.setIfInBounds j true).getD k true = false →
          (∀ e ∈ ok.after, Region.binds md e = true → e.on ≠ i) → oi.apart ops ok = true := fun k ok hk hki hun hno => by
        refine hfree k ok hk hki ?_ hno
        by_cases hjk : j = k
        · subst hjk; exact hjun
        · rw [getD_set_ne true hjk] at hun; exact hun
      refine ⟨oj, hoj, ?_⟩
      rcases H2 with ⟨_, vj, hyj, H3⟩ | ⟨ob, hyj, H3⟩
      · refine .inl ⟨rfl, vj, hyj.of_same he hw, ih U Ψ (listed.setIfInBounds j true) _ (inv.set hj hjn) hfree' (ready_mono hr (Ne.symm hji)) (DetAt.put hap (fun cs b => hsel i oi cs b hi) hy) ?_⟩
        rw [Array.setIfInBounds_comm _ _ hji, Act.put_comm a vj v fun d hd hd2 => a2 d hd2 hd]
        exact H3
      · refine .inr ⟨ob, hyj.of_same he hw, fun g hg hu => ih _ _ (listed.setIfInBounds j true) _ (inv.set hj hjn) hfree' (ready_mono hr (Ne.symm hji)) (DetAt.put hap (fun cs b => hsel i oi cs b hi) hy) ?_⟩
        rw [Array.setIfInBounds_comm _ _ hji, Act.put_comm a _ v fun d hd hd2 => a2 d hd2 hd]
        exact H3 g hg hu
theorem layU_first {ob : Obj} :
    ∀ (f : Nat) (U : Nat → Prop) (Ψ : World → Prop) (listed : Array Bool) (a : Act), HeadInv md ops n listed →
      (∀ j oj, ops[j]? = some oj → j ≠ i → listed.getD j true = false → (∀ e ∈ oj.after, Region.binds md e = true → e.on ≠ i) → oi.apart ops oj = true) →
      i ∈ Region.ready md ops listed → LayAt P ops oi ob a →
      (∃ B, ∀ g, U g → g < B) →
      (∀ g, W.heap.size ≤ g → ¬ U g → wpAnyU P md ops Q tl W n L true f (more U g) (andBlk Ψ g ob) (listed.setIfInBounds i true) (a.put oi.dst (.pointer (some ⟨g, 0, none⟩)))) → wpAnyU P md ops Q tl W n L true (f + 1) U Ψ listed a := by
  intro f
  induction f with
  | zero =>
    intro U Ψ listed a inv _ hr hy hex H
    have hun := (mem_ready.1 hr).1
    refine ⟨fun h => (by rw [h] at hr; cases hr), fun j hj => ?_⟩
    have hjn : j < n := by
      rcases Nat.lt_or_ge j n with h | h
      · exact h
      · exact absurd hj (tail_waitsF hs hc hn inv _ i rfl hin hiF hun j h)
    refine .inl ⟨hjn, ?_⟩
    by_cases hji : j = i
    · subst hji; exact ⟨oi, hi, .inr ⟨ob, hy, H⟩⟩
    · obtain ⟨g0, hg0, hu0⟩ := fresh_of (W := W) hex
      have := hdone _ _ _ _ (H g0 hg0 hu0) j (ready_mono hj hji)
      omega
  | succ f ih =>
    intro U Ψ listed a inv hfree hr hy hex H
    have hun := (mem_ready.1 hr).1
    refine ⟨fun h => (by rw [h] at hr; cases hr), fun j hj => ?_⟩
    have hjn : j < n := by
      rcases Nat.lt_or_ge j n with h | h
      · exact h
      · exact absurd hj (tail_waitsF hs hc hn inv _ i rfl hin hiF hun j h)
    refine .inl ⟨hjn, ?_⟩
    by_cases hji : j = i
    · subst hji; exact ⟨oi, hi, .inr ⟨ob, hy, H⟩⟩
    · obtain ⟨g0, hg0, hu0⟩ := fresh_of (W := W) hex
      obtain ⟨hjun, oj, hoj, hall⟩ := mem_ready.1 hj
      have hnot : ∀ e ∈ oj.after, Region.binds md e = true → e.on ≠ i := fun e he hb heq => by
        have h1 := hall e he hb
        rw [heq, getD_both hun] at h1
        cases h1
      have hap := hfree j oj hoj hji hjun hnot
      obtain ⟨a1, a2, a3⟩ := Oper.apart_spec hap
      have hfree' : ∀ k ok, ops[k]? = some ok → k ≠ i → (listed.setIfInBounds j true).getD k true = false →
          (∀ e ∈ ok.after, Region.binds md e = true → e.on ≠ i) → oi.apart ops ok = true := fun k ok hk hki hun hno => by
        refine hfree k ok hk hki ?_ hno
        by_cases hjk : j = k
        · subst hjk; exact hjun
        · rw [getD_set_ne true hjk] at hun; exact hun
      have key : ∀ g, W.heap.size ≤ g → ¬ U g → ∃ obj, LayAt P ops oj obj a ∧ ∀ h, W.heap.size ≤ h → ¬ more U g h → wpAnyU P md ops Q tl W n L true f (more (more U g) h) (andBlk (andBlk Ψ g ob) h obj) ((listed.setIfInBounds i true).setIfInBounds j true) ((a.put oi.dst (.pointer (some ⟨g, 0, none⟩))).put oj.dst (.pointer (some ⟨h, 0, none⟩))) := fun g hg hu => by
        rcases (H g hg hu).2 j (ready_mono hj hji) with ⟨_, oj2, hoj2, H2⟩ | ⟨hge, _⟩
        case inr => omega
        have e1 : oj2 = oj := Option.some.inj (hoj2.symm.trans hoj)
        subst e1
        rcases H2 with ⟨h3, _⟩ | ⟨obj, hyj, H3⟩
        · cases h3
        · exact ⟨obj, hyj.of_same (execOp_put oj2 (fun cs b => hsel j oj2 cs b hoj) a oi.dst _ a1).symm (wanted_put oj2 a oi.dst _ a1).symm, H3⟩
      obtain ⟨objj, hyj, _⟩ := key g0 hg0 hu0
      have same : ∀ obj, LayAt P ops oj obj a → obj = objj := fun obj h => by
        have h1 := h.2 W
        rw [hyj.2 W] at h1
        injection h1 with h2 h3
        have h4 := heap_new W objj
        rw [h3, heap_new W obj] at h4
        exact Option.some.inj h4
      refine ⟨oj, hoj, .inr ⟨objj, hyj, fun h hh hu => ?_⟩⟩
      refine ih _ _ (listed.setIfInBounds j true) _ (inv.set hj hjn) hfree' (ready_mono hr (Ne.symm hji)) (LayAt.put hap (fun cs b => hsel i oi cs b hi) hy) ?_ ?_
      · obtain ⟨B, hB⟩ := hex
        exact ⟨B + h + 1, fun g hm => hm.elim (fun e => by omega) (fun e => by have := hB g e; omega)⟩
      · intro g hg hum
        have hne : g ≠ h := fun e => hum (.inl e)
        have hug : ¬ U g := fun e => hum (.inr e)
        obtain ⟨obj, hyj2, H3⟩ := key g hg hug
        have e1 := same obj hyj2
        subst e1
        have H4 := H3 h hh (fun hm => hm.elim (fun e => hne e.symm) hu)
        rw [Array.setIfInBounds_comm _ _ hji, Act.put_comm a _ _ fun d hd hd2 => a2 d hd2 hd, more_comm, andBlk_comm]
        exact H4
end
theorem fltU_first {n i : Nat} {oi : Oper} {v : Value} {L : Fin} (hi : ops[i]? = some oi) (hsel : ∀ (j : Nat) (o : Oper) cs b, ops[j]? = some o → o.op ≠ .select cs b) (hin : i < n)
    (hQ : ∀ c (a : Act) d u w, Q (.panic c) (a.put d u) w → Q (.panic c) a w)
    (hdone : ∀ U Ψ listed a, L U Ψ listed a → ∀ w, Known W w U Ψ → wpAny P md ops Q tl listed a w)
    (hlast : ∀ U Ψ listed a, L U Ψ listed a → ∀ j ∈ Region.ready md ops listed, n ≤ j) :
    ∀ (f : Nat) (U : Nat → Prop) (Ψ : World → Prop) (listed : Array Bool) (a : Act),
      (∀ j oj, ops[j]? = some oj → j ≠ i → listed.getD j true = false → (∀ e ∈ oj.after, Region.binds md e = true → e.on ≠ i) → oi.apart ops oj = true) →
      i ∈ Region.ready md ops listed → Yields P ops oi v a →
      wpAnyU P md ops Q tl W n L false f U Ψ (listed.setIfInBounds i true) (a.put oi.dst v) → wpAnyU P md ops Q tl W n L false (f + 1) U Ψ listed a := by
  have det : ∀ {a : Act}, Yields P ops oi v a → DetAt P ops W oi v a := fun {a} hy => by
    rcases hy with ⟨h1, h2⟩ | h
    · exact .inl ⟨h1, fun w _ => by rw [h2 w]; exact ⟨rfl, Below.refl _ _⟩⟩
    · exact .inr h
  have raw : ∀ (m : Nat) (listed : Array Bool) (a : Act) (j : Nat) (oj : Oper), ops[j]? = some oj → j ≠ i → i ∈ Region.ready md ops listed → j ∈ Region.ready md ops listed → oi.apart ops oj = true →
      (∀ k ok, ops[k]? = some ok → k ≠ i → (listed.setIfInBounds j true).getD k true = false → (∀ e ∈ ok.after, Region.binds md e = true → e.on ≠ i) → oi.apart ops ok = true) →
      Yields P ops oi v a → ∀ w, wpOp P ops Q j (wpAny P md ops Q m ((listed.setIfInBounds i true).setIfInBounds j true)) (a.put oi.dst v) w →
      wpOp P ops Q j (wpAny P md ops Q (m + 1) (listed.setIfInBounds j true)) a w := fun m listed a j oj hoj hji hr hj hap hfree' hy w h => by
    have h2 := wpOp_put hoj hap (fun cs b => hsel i oi cs b hi) (fun cs b => hsel j oj cs b hoj) (fun c a w => hQ c a _ _ w) hy h
    refine wpOp_mono (fun a' w' h3 => wpAny_first hi hsel (fun c a w => hQ c a _ _ w) m (listed.setIfInBounds j true) a' w' hfree' (ready_mono hr (Ne.symm hji)) h3.1 ?_) h2
    rw [Array.setIfInBounds_comm _ _ hji]
    exact h3.2
  have waits : ∀ (listed : Array Bool) (j : Nat) (oj : Oper), ops[j]? = some oj → i ∈ Region.ready md ops listed → j ∈ Region.ready md ops listed → ∀ e ∈ oj.after, Region.binds md e = true → e.on ≠ i := fun listed j oj hoj hr hj e he hb heq => by
    have hun := (mem_ready.1 hr).1
    obtain ⟨_, oj', hoj', hall⟩ := mem_ready.1 hj
    have : oj = oj' := Option.some.inj (hoj.symm.trans hoj')
    subst this
    have h1 := hall e he hb
    rw [heq, getD_both hun] at h1
    cases h1
  have freed : ∀ (listed : Array Bool) (j : Nat), listed.getD j true = false → (∀ k ok, ops[k]? = some ok → k ≠ i → listed.getD k true = false → (∀ e ∈ ok.after, Region.binds md e = true → e.on ≠ i) → oi.apart ops ok = true) →
      ∀ k ok, ops[k]? = some ok → k ≠ i → (listed.setIfInBounds j true).getD k true = false → (∀ e ∈ ok.after, Region.binds md e = true → e.on ≠ i) → oi.apart ops ok = true := fun listed j hjun hfree k ok hk hki hun hno => by
    refine hfree k ok hk hki ?_ hno
    by_cases hjk : j = k
    · subst hjk; exact hjun
    · rw [getD_set_ne true hjk] at hun; exact hun
  intro f
  induction f with
  | zero =>
    intro U Ψ listed a hfree hr hy H
    refine ⟨fun h => (by rw [h] at hr; cases hr), fun j hj => ?_⟩
    by_cases hji : j = i
    · subst hji; exact .inl ⟨hin, oi, hi, .inl ⟨rfl, v, det hy, H⟩⟩
    · have hj2 := ready_mono hj hji
      have hnj := hlast _ _ _ _ H j hj2
      obtain ⟨hjun, oj, hoj, hall⟩ := mem_ready.1 hj
      refine .inr ⟨hnj, fun w hK => ?_⟩
      have h1 := hdone _ _ _ _ H w hK
      cases tl with
      | zero => rw [h1.1] at hj2; cases hj2
      | succ t =>
        rw [Nat.zero_add]
        exact raw t listed a j oj hoj hji hr hj (hfree j oj hoj hji hjun (waits listed j oj hoj hr hj)) (freed listed j hjun hfree) hy w (h1.2 j hj2)
  | succ f ih =>
    intro U Ψ listed a hfree hr hy H
    refine ⟨fun h => (by rw [h] at hr; cases hr), fun j hj => ?_⟩
    by_cases hji : j = i
    · subst hji; exact .inl ⟨hin, oi, hi, .inl ⟨rfl, v, det hy, H⟩⟩
    · have hj2 := ready_mono hj hji
      obtain ⟨hjun, oj', hoj', hall⟩ := mem_ready.1 hj
      have hap := hfree j oj' hoj' hji hjun (waits listed j oj' hoj' hr hj)
      have hfree' := freed listed j hjun hfree
      have ykeep : ∀ u, Yields P ops oi v (a.put oj'.dst u) := fun u => by
        obtain ⟨h1, h2, h3⟩ := Oper.apart_spec hap
        exact hy.of_same (execOp_put oi (fun cs b => hsel i oi cs b hi) a oj'.dst u h3) (wanted_put oi a oj'.dst u h3)
      rcases H.2 j hj2 with ⟨hjn, oj, hoj, H2⟩ | ⟨hge, H2⟩
      · have e0 : oj = oj' := Option.some.inj (hoj.symm.trans hoj')
        subst e0
        obtain ⟨a1, a2, a3⟩ := Oper.apart_spec hap
        have he := (execOp_put oj (fun cs b => hsel j oj cs b hoj) a oi.dst v a1).symm
        have hw := (wanted_put oj a oi.dst v a1).symm
        refine .inl ⟨hjn, oj, hoj, ?_⟩
        rcases H2 with ⟨_, vj, hyj, H3⟩ | ⟨ob, hyj, H3⟩
        · refine .inl ⟨rfl, vj, hyj.of_same he hw, ih U Ψ (listed.setIfInBounds j true) _ hfree' (ready_mono hr (Ne.symm hji)) (ykeep _) ?_⟩
          rw [Array.setIfInBounds_comm _ _ hji, Act.put_comm a vj v fun d hd hd2 => a2 d hd2 hd]
          exact H3
        · refine .inr ⟨ob, hyj.of_same he hw, fun g hg hu => ih _ _ (listed.setIfInBounds j true) _ hfree' (ready_mono hr (Ne.symm hji)) (ykeep _) ?_⟩
          rw [Array.setIfInBounds_comm _ _ hji, Act.put_comm a _ v fun d hd hd2 => a2 d hd2 hd]
          exact H3 g hg hu
      · refine .inr ⟨hge, fun w hK => ?_⟩
        rw [show f + 1 + tl = (f + tl) + 1 by omega]
        exact raw (f + tl) listed a j oj' hoj' hji hr hj hap hfree' hy w (H2 w hK)
def wpLays (P : Program) (ops : Array Oper) (W : World) (a0 : Act) (L : (Nat → Prop) → (World → Prop) → Act → Prop) : List Oper → (Nat → Prop) → (World → Prop) → Act → Prop
  | [], U, Ψ, a => L U Ψ a
  | o :: r, U, Ψ, a => ∃ ob, LayAt P ops o ob a0 ∧ ∀ g, W.heap.size ≤ g → ¬ U g → wpLays P ops W a0 L r (more U g) (andBlk Ψ g ob) (a.put o.dst (.pointer (some ⟨g, 0, none⟩)))
def wpFlts (P : Program) (ops : Array Oper) (W : World) (L : (Nat → Prop) → (World → Prop) → Act → Prop) (lays : List Oper) : List Oper → Act → Prop
  | [], a => wpLays P ops W a L lays (fun _ => False) (fun _ => True) a
  | o :: r, a => ∃ v, Yields P ops o v a ∧ wpFlts P ops W L lays r (a.put o.dst v)
def wpDets (P : Program) (ops : Array Oper) (W : World) (L : (Nat → Prop) → (World → Prop) → Act → Prop) (lays flts : List Oper) : List Oper → Act → Prop
  | [], a => wpFlts P ops W L lays flts a
  | o :: r, a => ∃ v, DetAt P ops W o v a ∧ wpDets P ops W L lays flts r (a.put o.dst v)
def orderB (md : Region.Mode) (ops : Array Oper) (n g : Nat) : List Nat → Array Bool → Bool
  | [], listed => Region.seqB md ops g n listed
  | k :: r, listed => decide (k < n) && (Region.ready md ops listed).contains k && Region.free md ops listed k && orderB md ops n g r (listed.setIfInBounds k true)
def opsAt (ops : Array Oper) (l : List Nat) : List Oper := l.filterMap (fun k => ops[k]?)
def apartB (ops : Array Oper) (l : List Nat) : Bool := l.all fun i => l.all fun j => decide (i = j) || (match ops[i]?, ops[j]? with | some a, some b => a.apart ops b | _, _ => false)
section
variable {n : Nat} {Lq : (Nat → Prop) → (World → Prop) → Act → Prop} (hsel : Region.noSelect ops = true) {F : List Nat} (hs : sinkF md ops n F = true) (hc : Region.chainB md ops n = true) (hn : n < ops.size)
def Ends (md : Region.Mode) (ops : Array Oper) (tl n : Nat) (Lq : (Nat → Prop) → (World → Prop) → Act → Prop) : Fin := fun U Ψ listed' a' => Region.seqB md ops tl n listed' = true ∧ Lq U Ψ a'
include hsel hs hc hn
theorem laysU_lex (a0 : Act) :
    ∀ (ks : List Nat) (listed : Array Bool) (U : Nat → Prop) (Ψ : World → Prop) (a : Act), HeadInv md ops n listed → (∃ B, ∀ g, U g → g < B) →
    (∀ k ∈ ks, ∀ o ob, ops[k]? = some o → LayAt P ops o ob a0 → LayAt P ops o ob a) → ks.Nodup → (∀ k ∈ ks, k ∉ F) →
    (∀ i ∈ ks, ∀ j ∈ ks, i ≠ j → ∀ x y, ops[i]? = some x → ops[j]? = some y → x.apart ops y = true) →
    orderB md ops n tl ks listed = true → wpLays P ops W a0 Lq (opsAt ops ks) U Ψ a →
    wpAnyU P md ops Q tl W n (Ends md ops tl n Lq) true ks.length U Ψ listed a
  | [], listed, U, Ψ, a, _, _, _, _, _, _, hB, h => ⟨by simpa [orderB] using hB, h⟩
  | k :: r, listed, U, Ψ, a, inv, hb, hlay, hnd, hkF, hap, hB, h => by
    simp only [orderB, Bool.and_eq_true, decide_eq_true_eq] at hB
    obtain ⟨⟨⟨hkn, hr⟩, hf⟩, hB'⟩ := hB
    have hr' : k ∈ Region.ready md ops listed := by simpa using hr
    have hklt : k < ops.size := by omega
    have h0 : ops[k]? = some ops[k] := Array.getElem?_eq_getElem hklt
    have hcons : opsAt ops (k :: r) = ops[k] :: opsAt ops r := by simp [opsAt, h0]
    rw [hcons] at h
    obtain ⟨ob, hy, hK⟩ := h
    have hnk : k ∉ r := (List.nodup_cons.1 hnd).1
    refine layU_first h0 (Region.noSelect_spec hsel) hs hc hn hkn (hkF k (by simp)) (fun U' Ψ' listed' a' hL => seqB_ready hL.1) r.length U Ψ listed a inv (Region.free_spec h0 hf) hr' (hlay k (by simp) _ _ h0 hy) hb (fun g hg hu => ?_)
    refine laysU_lex a0 r _ _ _ _ (inv.set hr' hkn) ?_ ?_ (List.nodup_cons.1 hnd).2 (fun i hi => hkF i (by simp [hi])) (fun i hi j hj => hap i (by simp [hi]) j (by simp [hj])) hB' (hK g hg hu)
    · obtain ⟨B, hB⟩ := hb
      exact ⟨B + g + 1, fun g' hm => hm.elim (fun e => by omega) (fun e => by have := hB g' e; omega)⟩
    · intro k' hk' o' ob' ho' hl'
      have hne : k' ≠ k := fun e => by subst e; exact hnk hk'
      exact LayAt.put (hap k' (by simp [hk']) k (by simp) hne _ _ ho' h0) (fun cs b => Region.noSelect_spec hsel k' o' cs b ho') (hlay k' (by simp [hk']) _ _ ho' hl')
variable (kb : List Nat) (hnd : kb.Nodup) (hkF : ∀ k ∈ kb, k ∉ F)
    (hap : ∀ i ∈ kb, ∀ j ∈ kb, i ≠ j → ∀ x y, ops[i]? = some x → ops[j]? = some y → x.apart ops y = true)
    (hQ : ∀ c (a : Act) d u w, Q (.panic c) (a.put d u) w → Q (.panic c) a w)
    (hE : ∀ U Ψ listed a, Ends md ops tl n Lq U Ψ listed a → ∀ w, Known W w U Ψ → wpAny P md ops Q tl listed a w)
include hnd hkF hap hQ hE
theorem fltsU_lex :
    ∀ (ks : List Nat) (listed : Array Bool) (a : Act), HeadInv md ops n listed →
    orderB md ops n tl (ks ++ kb) listed = true → wpFlts P ops W Lq (opsAt ops kb) (opsAt ops ks) a →
    wpAnyU P md ops Q tl W n (Ends md ops tl n Lq) false (ks.length + kb.length) (fun _ => False) (fun _ => True) listed a
  | [], listed, a, inv, hB, h => by
    have h1 := laysU_lex (W := W) (Q := Q) (tl := tl) (Lq := Lq) hsel hs hc hn a kb listed (fun _ => False) (fun _ => True) a inv ⟨0, fun _ h => h.elim⟩ (fun _ _ _ _ _ h => h) hnd hkF hap hB h
    have h2 := wpAnyU_weak _ _ _ _ _ h1
    simpa using h2
  | k :: r, listed, a, inv, hB, h => by
    simp only [List.cons_append, orderB, Bool.and_eq_true, decide_eq_true_eq] at hB
    obtain ⟨⟨⟨hkn, hr⟩, hf⟩, hB'⟩ := hB
    have hr' : k ∈ Region.ready md ops listed := by simpa using hr
    have hklt : k < ops.size := by omega
    have h0 : ops[k]? = some ops[k] := Array.getElem?_eq_getElem hklt
    have hcons : opsAt ops (k :: r) = ops[k] :: opsAt ops r := by simp [opsAt, h0]
    rw [hcons] at h
    obtain ⟨v, hy, hK⟩ := h
    have h3 := fltU_first h0 (Region.noSelect_spec hsel) hkn hQ hE (fun U' Ψ' listed' a' hL => seqB_ready hL.1) (r.length + kb.length) (fun _ => False) (fun _ => True) listed a (Region.free_spec h0 hf) hr' hy
      (fltsU_lex r _ _ (inv.set hr' hkn) hB' hK)
    have e : (k :: r).length + kb.length = r.length + kb.length + 1 := by simp only [List.length_cons]; omega
    rw [e]; exact h3
theorem detsU_lex (kf : List Nat) :
    ∀ (ks : List Nat) (listed : Array Bool) (a : Act), HeadInv md ops n listed → (∀ k ∈ ks, k ∉ F) →
    orderB md ops n tl (ks ++ (kf ++ kb)) listed = true → wpDets P ops W Lq (opsAt ops kb) (opsAt ops kf) (opsAt ops ks) a →
    wpAnyU P md ops Q tl W n (Ends md ops tl n Lq) false (ks.length + (kf.length + kb.length)) (fun _ => False) (fun _ => True) listed a
  | [], listed, a, inv, _, hB, h => by
    have h1 := fltsU_lex (W := W) hsel hs hc hn kb hnd hkF hap hQ hE kf listed a inv hB h
    simpa using h1
  | k :: r, listed, a, inv, hks, hB, h => by
    simp only [List.cons_append, orderB, Bool.and_eq_true, decide_eq_true_eq] at hB
    obtain ⟨⟨⟨hkn, hr⟩, hf⟩, hB'⟩ := hB
    have hr' : k ∈ Region.ready md ops listed := by simpa using hr
    have hklt : k < ops.size := by omega
    have h0 : ops[k]? = some ops[k] := Array.getElem?_eq_getElem hklt
    have hcons : opsAt ops (k :: r) = ops[k] :: opsAt ops r := by simp [opsAt, h0]
    rw [hcons] at h
    obtain ⟨v, hy, hK⟩ := h
    have h3 := detU_first h0 (Region.noSelect_spec hsel) hs hc hn hkn (hks k (by simp)) (fun U' Ψ' listed' a' hL => seqB_ready hL.1) (r.length + (kf.length + kb.length)) (fun _ => False) (fun _ => True) listed a inv (Region.free_spec h0 hf) hr' hy
      (detsU_lex kf r _ _ (inv.set hr' hkn) (fun i hi => hks i (by simp [hi])) hB' hK)
    have e : (k :: r).length + (kf.length + kb.length) = r.length + (kf.length + kb.length) + 1 := by simp only [List.length_cons]; omega
    rw [e]; exact h3
end
def planB (ops : Array Oper) (n : Nat) (ka kf kb : List Nat) : Bool :=
  Region.noSelect ops && decide (n < ops.size) && sinkF .any ops n kf && Region.chainB .any ops n && decide (ka.length + (kf.length + kb.length) = n) && decide kb.Nodup && apartB ops kb && (kb.all fun k => !kf.contains k) && (ka.all fun k => !kf.contains k) && orderB .any ops n (ops.size - n) (ka ++ (kf ++ kb)) (Array.replicate ops.size false)
theorem region_plan {id : Nat} {a : Act} {w : World} {l : List Oper} (n : Nat) (ka kf kb : List Nat) (hW : Up W { w with drawn := w.drawn + 1 }) (hm : P.follows .mixedOrders = true) (hB : planB l.toArray n ka kf kb = true)
    (hQ : ∀ c (a : Act) d u w, Q (.panic c) (a.put d u) w → Q (.panic c) a w)
    (h : wpDets P l.toArray W (fun U Ψ a' => ∀ w', Known W w' U Ψ → wpList P l.toArray Q (l.drop n) a' w') (opsAt l.toArray kb) (opsAt l.toArray kf) (opsAt l.toArray ka) a) : (Code.region id l.toArray true).wp P Q a w := by
  simp only [planB, Bool.and_eq_true, decide_eq_true_eq] at hB
  obtain ⟨⟨⟨⟨⟨⟨⟨⟨⟨hsel, hn⟩, hs⟩, hc⟩, hlen⟩, hnd⟩, hap⟩, hbF⟩, haF⟩, hord⟩ := hB
  have hn' : n < l.length := by simpa using hn
  have hdl : (l.drop n).length = l.toArray.size - n := by simp
  have inv0 : HeadInv .any l.toArray n (Array.replicate l.toArray.size false) :=
    ⟨by simp, fun j oj _ hl => (by rw [getD_replicate_false] at hl; cases hl), fun t _ ht => getD_in (by simpa using ht) (getD_replicate_false _ _)⟩
  have hap' : ∀ i ∈ kb, ∀ j ∈ kb, i ≠ j → ∀ x y, l.toArray[i]? = some x → l.toArray[j]? = some y → x.apart l.toArray y = true := by
    intro i hi j hj hne x y hx hy
    have h1 := List.all_eq_true.1 hap i hi
    have h2 := List.all_eq_true.1 h1 j hj
    rw [hx, hy] at h2
    simpa [hne] using h2
  have hbF' : ∀ k ∈ kb, k ∉ kf := fun k hk => by have := List.all_eq_true.1 hbF k hk; simpa using this
  have haF' : ∀ k ∈ ka, k ∉ kf := fun k hk => by have := List.all_eq_true.1 haF k hk; simpa using this
  have hE : ∀ U Ψ listed a, Ends .any l.toArray (l.toArray.size - n) n (fun U Ψ a' => ∀ w', Known W w' U Ψ → wpList P l.toArray Q (l.drop n) a' w') U Ψ listed a → ∀ w, Known W w U Ψ → wpAny P .any l.toArray Q (l.toArray.size - n) listed a w := fun U Ψ listed a' hL w' hw' => by
    have := wpAny_of_seq (md := .any) (Q' := Q) (l.drop n) n listed a' w' (fun j => by simp [List.getElem?_drop]) (by rw [hdl]; exact hL.1) (hL.2 w' hw')
    rwa [hdl] at this
  have H := detsU_lex (md := .any) hsel hs hc hn kb hnd hbF' hap' hQ hE kf ka _ a inv0 haF' hord h
  refine wp_region_any hm ?_
  have := wpAny_of_U hE _ _ _ _ _ (fun _ _ _ _ => trivial) H _ ⟨hW, fun _ h => h.elim, trivial⟩
  rw [hlen, show n + (l.toArray.size - n) = l.toArray.size by omega] at this
  exact this
section
variable {L : (Nat → Prop) → (World → Prop) → Act → Prop} {lays flts : List Oper} {o : Oper} {r : List Oper} {a a0 : Act} {U : Nat → Prop} {Ψ : World → Prop}
theorem wpDets_step (v : Value) (hw : Region.wanted o (yielded ops a.tmps) = true)
    (h : ∀ w, Up W w → Brings P w v ((execOp a.eval o).run P w)) (hr : wpDets P ops W L lays flts r (a.put o.dst v)) : wpDets P ops W L lays flts (o :: r) a := ⟨v, .inl ⟨hw, h⟩, hr⟩
theorem wpDets_skip (hw : Region.wanted o (yielded ops a.tmps) = false)
    (hr : wpDets P ops W L lays flts r (a.put o.dst undef)) : wpDets P ops W L lays flts (o :: r) a := ⟨undef, .inr ⟨hw, rfl⟩, hr⟩
theorem wpDets_nil (h : wpFlts P ops W L lays flts a) : wpDets P ops W L lays flts [] a := h
theorem wpFlts_step (v : Value) (hw : Region.wanted o (yielded ops a.tmps) = true)
    (h : ∀ w, (execOp a.eval o).run P w = .ok (.value v) w) (hr : wpFlts P ops W L lays r (a.put o.dst v)) : wpFlts P ops W L lays (o :: r) a := ⟨v, .inl ⟨hw, h⟩, hr⟩
theorem wpFlts_skip (hw : Region.wanted o (yielded ops a.tmps) = false)
    (hr : wpFlts P ops W L lays r (a.put o.dst undef)) : wpFlts P ops W L lays (o :: r) a := ⟨undef, .inr ⟨hw, rfl⟩, hr⟩
theorem wpFlts_nil (h : wpLays P ops W a L lays (fun _ => False) (fun _ => True) a) : wpFlts P ops W L lays [] a := h
theorem wpLays_nil (h : L U Ψ a) : wpLays P ops W a0 L [] U Ψ a := h
theorem wpLays_step (ob : Obj) (hw : Region.wanted o (yielded ops a0.tmps) = true)
    (h : ∀ w, (execOp a0.eval o).run P w = .ok (.value (.pointer (some ⟨w.heap.size, 0, none⟩))) (w.alloc ob))
    (hr : ∀ g, W.heap.size ≤ g → ¬ U g → wpLays P ops W a0 L r (more U g) (andBlk Ψ g ob) (a.put o.dst (.pointer (some ⟨g, 0, none⟩)))) : wpLays P ops W a0 L (o :: r) U Ψ a := ⟨ob, ⟨hw, h⟩, hr⟩
end
end
end Go.Rg
end
section
namespace Go.Rg
open Go Go.RowKit
set_option linter.unusedSimpArgs false
section
variable {P : Program} {ops : Array Oper} {md : Region.Mode} {W : World} {Q : Exit → Act → World → Prop}
def backB (md : Region.Mode) (o : Oper) (k : Nat) : Bool := o.after.all fun e => !Region.binds md e || decide (e.on < k)
def sightB (md : Region.Mode) (ops : Array Oper) (o : Oper) (k : Nat) : List Oper → Bool
  | [] => true
  | oj :: r => (oj.after.any (fun e => Region.binds md e && e.on == k) || o.apart ops oj) && sightB md ops o k r
def textL (md : Region.Mode) (ops : Array Oper) : Nat → List Oper → Nat → Bool
  | 0, _, _ => true
  | _ + 1, [], _ => false
  | n + 1, o :: r, k => backB md o k && sightB md ops o k r && textL md ops n r (k + 1)
structure FirstK (ops : Array Oper) (listed : Array Bool) (k : Nat) : Prop where
  size : listed.size = ops.size
  at_ : ∀ j, j < ops.size → listed.getD j true = decide (j < k)
theorem FirstK.atF {listed : Array Bool} {k j : Nat} (h : FirstK ops listed k) (hj : j < ops.size) : listed.getD j false = decide (j < k) := by
  have h1 := h.at_ j hj
  have hl : j < listed.size := by rw [h.size]; exact hj
  simp [hl] at h1 ⊢
  exact h1
theorem FirstK.set {listed : Array Bool} {k : Nat} (h : FirstK ops listed k) (hk : k < ops.size) : FirstK ops (listed.setIfInBounds k true) (k + 1) := by
  refine ⟨by simp [h.size], fun j hj => ?_⟩
  by_cases e : k = j
  · subst e
    have hl : k < listed.size := by rw [h.size]; exact hk
    simp [hl]
  · rw [getD_set_ne true e, h.at_ j hj]
    by_cases h1 : j < k
    · simp [h1]; omega
    · simp [h1]; omega
theorem sightB_spec {o : Oper} {k : Nat} : ∀ (l : List Oper), sightB md ops o k l = true → ∀ oj ∈ l, (oj.after.any (fun e => Region.binds md e && e.on == k) || o.apart ops oj) = true
  | [], _, oj, h => by cases h
  | x :: r, h, oj, hm => by
    simp only [sightB, Bool.and_eq_true] at h
    rcases List.mem_cons.1 hm with rfl | hm
    · exact h.1
    · exact sightB_spec r h.2 oj hm
theorem orderB_text {n tl : Nat} (hn : n < ops.size) (hT : ∀ listed, FirstK ops listed n → Region.seqB md ops tl n listed = true) :
    ∀ (m k : Nat) (l : List Oper) (listed : Array Bool), k + m = n → (∀ j, l[j]? = ops[k + j]?) → FirstK ops listed k → textL md ops m l k = true → orderB md ops n tl (List.range' k m) listed = true
  | 0, k, l, listed, hk, _, hF, _ => by
    have : k = n := by omega
    subst this
    simpa [List.range', orderB] using hT listed hF
  | m + 1, k, [], listed, hk, hl, hF, h => by simp [textL] at h
  | m + 1, k, o :: r, listed, hk, hl, hF, h => by
    have h0 : ops[k]? = some o := by simpa using (hl 0).symm
    have hks : k < ops.size := (Array.getElem?_eq_some_iff.1 h0).1
    simp only [textL, Bool.and_eq_true] at h
    obtain ⟨⟨hb, hs⟩, ht⟩ := h
    have hr : k ∈ Region.ready md ops listed := mem_ready.2 ⟨by rw [hF.at_ k hks]; simp, o, h0, fun e he hbi => by
      have h1 := Array.all_eq_true_iff_forall_mem.1 hb e he
      simp only [hbi, Bool.not_true, Bool.false_or, decide_eq_true_eq] at h1
      rw [hF.atF (by omega)]
      simpa using h1⟩
    have hf : Region.free md ops listed k = true := by
      unfold Region.free
      rw [h0]
      rw [List.all_eq_true]
      intro j hj
      have hjs : j < ops.size := List.mem_range.1 hj
      by_cases e1 : j = k
      · simp [e1]
      · rw [hF.at_ j hjs]
        by_cases e2 : j < k
        · simp [e2]
        · have hm : ops[j] ∈ r := by
            have h2 := hl (j - k)
            rw [show k + (j - k) = j by omega, Array.getElem?_eq_getElem hjs] at h2
            have h3 : (o :: r)[j - k]? = r[j - k - 1]? := by
              rw [show j - k = (j - k - 1) + 1 by omega]; rfl
            rw [h3] at h2
            exact List.mem_of_getElem? h2
          have h4 := sightB_spec r hs _ hm
          rw [Array.getElem?_eq_getElem hjs]
          simp only [h4, Bool.or_true]
    rw [List.range'_succ]
    simp only [orderB, Bool.and_eq_true, decide_eq_true_eq]
    refine ⟨⟨⟨by omega, by simpa using hr⟩, hf⟩, ?_⟩
    exact orderB_text hn hT m (k + 1) r _ (by omega) (fun j => by have := hl (j + 1); simpa [Nat.add_assoc, Nat.add_comm 1 j] using this) (hF.set hks) ht
def textB (l : List Oper) (n : Nat) : Bool :=
  Region.noSelect l.toArray && decide (n < l.length) && sinkF .any l.toArray n [] && Region.chainB .any l.toArray n && textL .any l.toArray n l 0 && Region.seqB .any l.toArray (l.length - n) n ((List.replicate n true ++ List.replicate (l.length - n) false).toArray)
theorem region_text {id : Nat} {a : Act} {w : World} {l : List Oper} (n : Nat) (hW : Up W { w with drawn := w.drawn + 1 }) (hm : P.follows .mixedOrders = true) (hB : textB l n = true)
    (hQ : ∀ c (a : Act) d u w, Q (.panic c) (a.put d u) w → Q (.panic c) a w)
    (h : wpDets P l.toArray W (fun U Ψ a' => ∀ w', Known W w' U Ψ → wpList P l.toArray Q (l.drop n) a' w') [] [] (l.take n) a) : (Code.region id l.toArray true).wp P Q a w := by
  simp only [textB, Bool.and_eq_true, decide_eq_true_eq] at hB
  obtain ⟨⟨⟨⟨⟨hsel, hn'⟩, hs⟩, hc⟩, ht⟩, hq⟩ := hB
  have hn : n < l.toArray.size := by simpa using hn'
  have hdl : (l.drop n).length = l.toArray.size - n := by simp
  have inv0 : HeadInv .any l.toArray n (Array.replicate l.toArray.size false) :=
    ⟨by simp, fun j oj _ hl => (by rw [getD_replicate_false] at hl; cases hl), fun t _ ht => getD_in (by simpa using ht) (getD_replicate_false _ _)⟩
  have F0 : FirstK l.toArray (Array.replicate l.toArray.size false) 0 := ⟨by simp, fun j hj => by simp at hj; simp [hj]⟩
  have hT : ∀ listed, FirstK l.toArray listed n → Region.seqB .any l.toArray (l.toArray.size - n) n listed = true := fun listed hF => by
    have e : listed = (List.replicate n true ++ List.replicate (l.length - n) false).toArray := by
      apply Array.ext
      · rw [hF.size]; simp; omega
      · intro i h1 h2
        have hi : i < l.toArray.size := by rw [← hF.size]; exact h1
        have h3 := hF.at_ i hi
        simp [h1] at h3
        rw [h3]
        by_cases hin : i < n
        · simp [List.getElem_append, hin]
        · simp [List.getElem_append, hin]
    rw [e]
    simpa using hq
  have hord := orderB_text hn hT n 0 l _ (by omega) (fun j => by simp) F0 ht
  have hops : opsAt l.toArray (List.range' 0 n) = l.take n := by
    unfold opsAt
    apply List.ext_getElem?
    intro i
    have : ∀ (m k : Nat), k + m ≤ l.length → (List.range' k m).filterMap (fun j => l.toArray[j]?) = (l.drop k).take m := by
      intro m
      induction m with
      | zero => intro k _; simp
      | succ m ih =>
        intro k hk
        have hkl : k < l.length := by omega
        rw [List.range'_succ, List.filterMap_cons]
        have h1 : l.toArray[k]? = some l[k] := by simp [hkl]
        rw [h1]
        simp only
        rw [ih (k + 1) (by omega), List.drop_eq_getElem_cons hkl, List.take_succ_cons]
    rw [this n 0 (by omega)]
    simp
  have hE : ∀ U Ψ listed a, Ends .any l.toArray (l.toArray.size - n) n (fun U Ψ a' => ∀ w', Known W w' U Ψ → wpList P l.toArray Q (l.drop n) a' w') U Ψ listed a → ∀ w, Known W w U Ψ → wpAny P .any l.toArray Q (l.toArray.size - n) listed a w := fun U Ψ listed a' hL w' hw' => by
    have := wpAny_of_seq (md := .any) (Q' := Q) (l.drop n) n listed a' w' (fun j => by simp [List.getElem?_drop]) (by rw [hdl]; exact hL.1) (hL.2 w' hw')
    rwa [hdl] at this
  have H := detsU_lex (md := .any) (F := []) (W := W) hsel hs hc hn [] (by simp) (by simp) (by simp) hQ hE [] (List.range' 0 n) _ a inv0 (by simp) (by simpa using hord) (by rw [hops]; exact h)
  refine wp_region_any hm ?_
  have := wpAny_of_U hE _ _ _ _ _ (fun _ _ _ _ => trivial) H _ ⟨hW, fun _ h => h.elim, trivial⟩
  rw [show (List.range' 0 n).length + (([] : List Nat).length + ([] : List Nat).length) + (l.toArray.size - n) = l.toArray.size by simp; omega] at this
  exact this
end
end Go.Rg
end
section
namespace Go.Rg
open Go Go.RowKit
set_option linter.unusedSimpArgs false
def blk : Value → Option Nat
  | .pointer (some a) => some a.block
  | .slice (some a) _ _ => some a.block
  | _ => none
def BringsG (P : Program) (w0 : World) (G : Value → World → Prop) (fr : Bool) : Result Next → Prop
  | .ok (.value u) w => G u w ∧ Up w0 w ∧ (fr = true → ∀ g, blk u = some g → w0.heap.size ≤ g ∧ g < w.heap.size)
  | .ok (.enter f args) w => Calls P f args w fun e w' => ∃ u, e = .returned u ∧ G u w' ∧ Up w0 w' ∧ (fr = true → ∀ g, blk u = some g → w0.heap.size ≤ g ∧ g < w'.heap.size)
  | _ => False
theorem bringsG_value {P : Program} {G : Value → World → Prop} {fr : Bool} {u : Value} {w0 w : World} : BringsG P w0 G fr (.ok (.value u) w) = (G u w ∧ Up w0 w ∧ (fr = true → ∀ g, blk u = some g → w0.heap.size ≤ g ∧ g < w.heap.size)) := rfl
theorem bringsG_enter {P : Program} {G : Value → World → Prop} {fr : Bool} {f : FuncId} {args : Array Value} {w0 w : World} : BringsG P w0 G fr (.ok (.enter f args) w) = Calls P f args w fun e w' => ∃ u, e = .returned u ∧ G u w' ∧ Up w0 w' ∧ (fr = true → ∀ g, blk u = some g → w0.heap.size ≤ g ∧ g < w'.heap.size) := rfl
def Dat (Ds : List (Nat × List Nat)) (i : Nat) : List Nat := match Ds with
  | [] => []
  | p :: r => if p.1 = i then p.2 else Dat r i
def upd (v : Nat → Value) (k : Nat) (u : Value) : Nat → Value := fun j => if j = k then u else v j
def valOf (K : List (Option Value)) (v : Nat → Value) (i : Nat) : Value := ((K[i]?).getD none).getD (v i)
def putL (S : Nat → Bool) (f : Nat → Value) : List Oper → Nat → Act → Act
  | [], _, a => a
  | o :: r, i, a => putL S f r (i + 1) (if S i then a.put o.dst (f i) else a)
theorem put_size (a : Act) (d : Option Tmp) (u : Value) : (a.put d u).tmps.size = a.tmps.size := by cases d <;> simp [Act.put]
theorem put_same {a a' : Act} {t : Tmp} (d : Option Tmp) (u : Value) (hs : a.tmps.size = a'.tmps.size) (h : a.tmps[t]? = a'.tmps[t]?) : (a.put d u).tmps[t]? = (a'.put d u).tmps[t]? := by
  cases d with
  | none => exact h
  | some e =>
    by_cases he : e = t
    · subst he
      simp only [Act.put, Array.getElem?_setIfInBounds_self, hs]
    · simp only [Act.put, Array.getElem?_setIfInBounds_ne he]; exact h
theorem put_other {a : Act} {t : Tmp} {d : Option Tmp} (u : Value) (h : d ≠ some t) : (a.put d u).tmps[t]? = a.tmps[t]? := by
  cases d with
  | none => rfl
  | some e =>
    have he : e ≠ t := fun x => h (by rw [x])
    simp only [Act.put, Array.getElem?_setIfInBounds_ne he]
theorem putL_same {S S' : Nat → Bool} {f : Nat → Value} {t : Tmp} : ∀ (l : List Oper) (i : Nat) (a a' : Act), a.tmps.size = a'.tmps.size → a.tmps[t]? = a'.tmps[t]? →
    (∀ k o, l[k]? = some o → o.dst = some t → S (i + k) = S' (i + k)) → (putL S f l i a).tmps[t]? = (putL S' f l i a').tmps[t]?
  | [], _, _, _, _, h, _ => h
  | o :: r, i, a, a', hs, h, hw => by
    unfold putL
    refine putL_same r (i + 1) _ _ ?_ ?_ (fun k o' ho' hd => by have := hw (k + 1) o' (by simpa using ho') hd; rw [show i + 1 + k = i + (k + 1) by omega]; exact this)
    · split <;> split <;> simp only [put_size, hs]
    · by_cases hd : o.dst = some t
      · have h0 := hw 0 o rfl hd
        rw [Nat.add_zero] at h0
        rw [h0]
        split
        · exact put_same _ _ hs h
        · exact h
      · have e1 : (if S i then a.put o.dst (f i) else a).tmps[t]? = a.tmps[t]? := by split; exact put_other _ hd; rfl
        have e2 : (if S' i then a'.put o.dst (f i) else a').tmps[t]? = a'.tmps[t]? := by split; exact put_other _ hd; rfl
        rw [e1, e2]; exact h
theorem putL_none {S : Nat → Bool} {f : Nat → Value} : ∀ (l : List Oper) (i : Nat) (a : Act), (∀ k, k < l.length → S (i + k) = false) → putL S f l i a = a
  | [], _, _, _ => rfl
  | o :: r, i, a, h => by
    unfold putL
    have h0 := h 0 (by simp)
    rw [Nat.add_zero] at h0
    rw [h0]
    simp only [Bool.false_eq_true, if_false]
    exact putL_none r (i + 1) a (fun k hk => by have := h (k + 1) (by simp; omega); rw [show i + 1 + k = i + (k + 1) by omega]; exact this)
theorem putL_congr {S S' : Nat → Bool} {f f' : Nat → Value} : ∀ (l : List Oper) (i : Nat) (a : Act), (∀ k, k < l.length → S (i + k) = S' (i + k) ∧ (S (i + k) = true → f (i + k) = f' (i + k))) → putL S f l i a = putL S' f' l i a
  | [], _, _, _ => rfl
  | o :: r, i, a, h => by
    unfold putL
    have h0 := h 0 (by simp)
    rw [Nat.add_zero] at h0
    have e : (if S i then a.put o.dst (f i) else a) = (if S' i then a.put o.dst (f' i) else a) := by
      rw [← h0.1]
      split
      · rename_i hs; rw [h0.2 hs]
      · rfl
    rw [e]
    exact putL_congr r (i + 1) _ (fun k hk => by have := h (k + 1) (by simp; omega); rw [show i + 1 + k = i + (k + 1) by omega]; exact this)
theorem putL_put {S : Nat → Bool} {f : Nat → Value} {x : Option Tmp} {u : Value} : ∀ (l : List Oper) (i : Nat) (a : Act), (∀ (k : Nat) (o : Oper), l[k]? = some o → ∀ d, x = some d → o.dst ≠ some d) → putL S f l i (a.put x u) = (putL S f l i a).put x u
  | [], _, _, _ => rfl
  | o :: r, i, a, h => by
    unfold putL
    have e : (if S i then (a.put x u).put o.dst (f i) else a.put x u) = (if S i then a.put o.dst (f i) else a).put x u := by
      split
      · exact Act.put_comm a _ _ (fun d hd => h 0 o rfl d hd)
      · rfl
    rw [e]
    exact putL_put r (i + 1) _ (fun k o' ho' => h (k + 1) o' (by simpa using ho'))
theorem putL_more {S S' : Nat → Bool} {f f' : Nat → Value} : ∀ (l : List Oper) (i : Nat) (a : Act) (m : Nat) (o : Oper) (u : Value), l[m]? = some o → S (i + m) = false → S' (i + m) = true → f' (i + m) = u →
    (∀ k, k ≠ m → S' (i + k) = S (i + k) ∧ f' (i + k) = f (i + k)) → (∀ k o', k ≠ m → l[k]? = some o' → ∀ d, o.dst = some d → o'.dst ≠ some d) → (putL S f l i a).put o.dst u = putL S' f' l i a
  | [], _, _, _, _, _, h, _, _, _, _, _ => by simp at h
  | o0 :: r, i, a, 0, o, u, h, h1, h2, h3, h4, h5 => by
    have e0 : o0 = o := by simpa using h
    subst e0
    rw [Nat.add_zero] at h1 h2 h3
    unfold putL
    rw [h1, h2, h3]
    simp only [Bool.false_eq_true, if_false, if_true]
    rw [putL_congr (S := S') (S' := S) (f := f') (f' := f) r (i + 1) _ (fun k _ => by have := h4 (k + 1) (by omega); rw [show i + 1 + k = i + (k + 1) by omega]; exact ⟨this.1, fun _ => this.2⟩)]
    exact (putL_put r (i + 1) a (fun k o' ho' => h5 (k + 1) o' (by omega) (by simpa using ho'))).symm
  | o0 :: r, i, a, m + 1, o, u, h, h1, h2, h3, h4, h5 => by
    unfold putL
    have h0 := h4 0 (by omega)
    rw [Nat.add_zero] at h0
    rw [h0.1, h0.2]
    exact putL_more r (i + 1) _ m o u (by simpa using h) (by rw [show i + 1 + m = i + (m + 1) by omega]; exact h1) (by rw [show i + 1 + m = i + (m + 1) by omega]; exact h2) (by rw [show i + 1 + m = i + (m + 1) by omega]; exact h3)
      (fun k hk => by have := h4 (k + 1) (by omega); rw [show i + 1 + k = i + (k + 1) by omega]; exact this) (fun k o' hk ho' => h5 (k + 1) o' (by omega) (by simpa using ho'))
section
variable {P : Program} {ops : Array Oper} {md : Region.Mode} {W : World} {Q : Exit → Act → World → Prop}
def pairB (md : Region.Mode) (ops : Array Oper) (o : Oper) (i : Nat) (o' : Oper) (j : Nat) : Bool :=
  decide (i = j) || (match o'.dst with
    | some d => o.dst != some d && (!(o.looksAt ops).contains d || o.after.any (fun e => Region.binds md e && e.on == j))
    | none => true)
def rowB (md : Region.Mode) (ops : Array Oper) (o : Oper) (i : Nat) : List Oper → Nat → Bool
  | [], _ => true
  | o' :: r, j => pairB md ops o i o' j && rowB md ops o i r (j + 1)
def fltB (md : Region.Mode) (ops : Array Oper) (n : Nat) (F : List Nat) (o : Oper) (i : Nat) : List Oper → Nat → Bool
  | [], _ => true
  | o' :: r, j => (decide (j ≤ i) || (decide (j < n) && !F.contains j) || o'.after.any (fun e => Region.binds md e && e.on == i) || o.apart ops o') && fltB md ops n F o i r (j + 1)
def allB (md : Region.Mode) (ops : Array Oper) (all : List Oper) (pre : List Oper) (n : Nat) (F : List Nat) (Ds : List (Nat × List Nat)) : List Oper → Nat → Bool
  | [], _ => true
  | o :: r, i => backB md o i && (match o.dst with | some d => !(o.looksAt ops).contains d | none => true) && rowB md ops o i pre 0 && (Dat Ds i).all (fun k => o.after.any (fun e => Region.binds md e && e.on == k)) &&
      (!F.contains i || fltB md ops n F o i all 0) && allB md ops all pre n F Ds r (i + 1)
def typedB (l : List Oper) (n : Nat) (F : List Nat) (Ds : List (Nat × List Nat)) (Fr : List Nat) : Bool :=
  Ds.all (fun p => p.2.all fun k => Fr.contains k) && Region.noSelect l.toArray && decide (n < l.length) && sinkF .any l.toArray n F && Region.chainB .any l.toArray n && allB .any l.toArray l (l.take n) n F Ds (l.take n) 0 &&
    Region.seqB .any l.toArray (l.length - n) n ((List.replicate n true ++ List.replicate (l.length - n) false).toArray)
theorem rowB_spec {o : Oper} {i : Nat} : ∀ (l : List Oper) (j : Nat), rowB md ops o i l j = true → ∀ k o', l[k]? = some o' → pairB md ops o i o' (j + k) = true
  | [], _, _, k, o', h => by simp at h
  | x :: r, j, h, 0, o', ho => by
    have e : x = o' := by simpa using ho
    subst e
    simp only [rowB, Bool.and_eq_true] at h
    simpa using h.1
  | x :: r, j, h, k + 1, o', ho => by
    simp only [rowB, Bool.and_eq_true] at h
    have := rowB_spec r (j + 1) h.2 k o' (by simpa using ho)
    rw [show j + (k + 1) = j + 1 + k by omega]; exact this
structure OneB (md : Region.Mode) (ops : Array Oper) (all pre : List Oper) (n : Nat) (F : List Nat) (Ds : List (Nat × List Nat)) (o : Oper) (i : Nat) : Prop where
  back : backB md o i = true
  own : ∀ d, o.dst = some d → d ∉ o.looksAt ops
  row : rowB md ops o i pre 0 = true
  deps : ∀ k ∈ Dat Ds i, o.after.any (fun e => Region.binds md e && e.on == k) = true
  flt : i ∈ F → fltB md ops n F o i all 0 = true
theorem allB_spec {all pre : List Oper} {n : Nat} {F : List Nat} {Ds : List (Nat × List Nat)} : ∀ (l : List Oper) (i : Nat), allB md ops all pre n F Ds l i = true → ∀ k o, l[k]? = some o → OneB md ops all pre n F Ds o (i + k)
  | [], _, _, k, o, h => by simp at h
  | x :: r, i, h, 0, o, ho => by
    have e : x = o := by simpa using ho
    subst e
    simp only [allB, Bool.and_eq_true] at h
    obtain ⟨⟨⟨⟨⟨h1, h2⟩, h3⟩, h4⟩, h5⟩, _⟩ := h
    refine ⟨h1, fun d hd => ?_, h3, fun k hk => List.all_eq_true.1 h4 k hk, fun hF => ?_⟩
    · rw [hd] at h2; simpa using h2
    · rw [Nat.add_zero] at hF ⊢
      simp only [Bool.or_eq_true, Bool.not_eq_true'] at h5
      rcases h5 with h5 | h5
      · have : F.contains i = true := by simpa using hF
        rw [this] at h5; cases h5
      · exact h5
  | x :: r, i, h, k + 1, o, ho => by
    simp only [allB, Bool.and_eq_true] at h
    have := allB_spec r (i + 1) h.2 k o (by simpa using ho)
    rw [show i + (k + 1) = i + 1 + k by omega]; exact this
theorem wanted_same {o : Oper} {a a' : Act} (h : ∀ t ∈ o.looksAt ops, a.tmps[t]? = a'.tmps[t]?) : Region.wanted o (yielded ops a.tmps) = Region.wanted o (yielded ops a'.tmps) := by
  unfold Region.wanted
  cases hg : o.guard with
  | none => rfl
  | some p =>
    obtain ⟨j, want⟩ := p
    have e : yielded ops a.tmps j = yielded ops a'.tmps j := by
      unfold yielded
      cases hd : (ops[j]?).bind (·.dst) with
      | none => rfl
      | some t =>
        have ht : t ∈ o.looksAt ops := by
          unfold Oper.looksAt
          refine List.mem_append_right _ ?_
          rw [hg]
          simp [hd]
        have := h t ht
        simp only [Option.bind_some, this]
    simp only [e]
theorem exec_same {o : Oper} {a a' : Act} (hs : ∀ cs b, o.op ≠ .select cs b) (h : ∀ t ∈ o.looksAt ops, a.tmps[t]? = a'.tmps[t]?) : execOp a.eval o = execOp a'.eval o :=
  execOp_congr o hs fun x hx => by
    cases x with
    | tmp t =>
      have ht : t ∈ o.looksAt ops := List.mem_append_left _ (List.mem_filterMap.2 ⟨.tmp t, by simpa using hx, rfl⟩)
      simp only [Act.eval, Array.getD_eq_getD_getElem?, h t ht]
    | _ => rfl
def unl (S : Nat → Bool) (n : Nat) : Nat := ((List.range n).filter (fun i => !S i)).length
theorem unl_zero {S : Nat → Bool} {n : Nat} (h : unl S n = 0) : ∀ i, i < n → S i = true := fun i hi => by
  unfold unl at h
  have h1 := List.eq_nil_of_length_eq_zero h
  have h2 := List.filter_eq_nil_iff.1 h1 i (List.mem_range.2 hi)
  simpa using h2
theorem unl_set {S S' : Nat → Bool} : ∀ {n : Nat} {j : Nat}, j < n → S j = false → S' j = true → (∀ i, i ≠ j → S' i = S i) → unl S n = unl S' n + 1
  | 0, j, hj, _, _, _ => by omega
  | n + 1, j, hj, h1, h2, h3 => by
    unfold unl
    rw [List.range_succ, List.filter_append, List.filter_append, List.length_append, List.length_append]
    by_cases hjn : j = n
    · subst hjn
      have e : (List.range j).filter (fun i => !S' i) = (List.range j).filter (fun i => !S i) := List.filter_congr fun x hx => by
        have := List.mem_range.1 hx
        rw [h3 x (by omega)]
      rw [e]
      simp [h1, h2]
    · have ih := unl_set (n := n) (j := j) (by omega) h1 h2 h3
      unfold unl at ih
      have e : S' n = S n := h3 n (by omega)
      simp only [List.filter_cons, List.filter_nil, e]
      omega
theorem least_unl {S : Nat → Bool} {p : Nat → Bool} : ∀ (n : Nat), (∃ i, i < n ∧ S i = false ∧ p i = true) → ∃ i, i < n ∧ S i = false ∧ p i = true ∧ ∀ j, j < i → p j = true → S j = true
  | 0, ⟨i, h, _⟩ => by omega
  | n + 1, ⟨i, h, h1, h2⟩ => by
    by_cases h3 : ∃ i, i < n ∧ S i = false ∧ p i = true
    · obtain ⟨k, a, b, c, d⟩ := least_unl n h3
      exact ⟨k, by omega, b, c, d⟩
    · refine ⟨i, h, h1, h2, fun j hj hp => ?_⟩
      cases hs : S j
      · exact absurd ⟨j, by omega, hs, hp⟩ h3
      · rfl
end
end Go.Rg
end
section
namespace Go.Proofs.YtbeinfhgfflneaaGreat
open Go.RowKit
set_option linter.unusedSimpArgs false
set_option linter.unusedVariables false
theorem Gr.grown {w wr w' : World} {row : Option Nat} (h : Gr w wr) (hg : wr.grownBy w' row) (hrow : ∀ k, row = some k → w.heap.size ≤ k) : Gr w w' :=
  Below.grown h hg h.size hrow
theorem Gr.only {a w : World} (h : Gr a w) (row : Option Nat) : a.grownBy w row := ⟨h.os, h.tape, h.output, h.size, fun i hi _ => h.block i hi⟩
theorem addN (b off k : Nat) : (⟨b, off, none⟩ : Addr).add k = ⟨b, off + k, none⟩ := by unfold Addr.add; split <;> simp_all
section
variable {α : Type}
structure Enc (f : α → List Value) (n : Nat) : Prop where
  len : ∀ x, (f x).length = n
  one : ∀ x, ∀ u ∈ f x, u.oneCell' = true
  pos : 0 < n
def cellsF (f : α → List Value) (l : List α) : List Value := l.flatMap f
variable {f : α → List Value} {n : Nat}
theorem cellsF_cons (x : α) (l : List α) : cellsF f (x :: l) = f x ++ cellsF f l := rfl
theorem cellsF_snoc (l : List α) (x : α) : cellsF f (l ++ [x]) = cellsF f l ++ f x := by simp [cellsF]
theorem Enc.cells_len (h : Enc f n) : ∀ l : List α, (cellsF f l).length = l.length * n
  | [] => by simp [cellsF]
  | x :: r => by rw [cellsF_cons, List.length_append, h.len, h.cells_len r, List.length_cons, Nat.add_mul]; omega
theorem Enc.cells_one (h : Enc f n) (l : List α) : ∀ u ∈ cellsF f l, u.oneCell' = true := by
  intro u hu
  obtain ⟨x, _, hm⟩ := List.mem_flatMap.1 hu
  exact h.one x u hm
theorem Enc.cells_get (h : Enc f n) : ∀ (l : List α) (k : Nat) (hk : k < l.length) (j : Nat), j < n → (cellsF f l)[k * n + j]? = (f l[k])[j]?
  | [], k, hk, _, _ => by simp at hk
  | x :: r, 0, _, j, hj => by rw [cellsF_cons, Nat.zero_mul, Nat.zero_add, List.getElem?_append_left (by rw [h.len]; exact hj)]; rfl
  | x :: r, k + 1, hk, j, hj => by
    have := h.cells_get r k (by simpa using hk) j hj
    rw [cellsF_cons, List.getElem?_append_right (by rw [h.len, Nat.add_mul]; omega), h.len, show (k + 1) * n + j - n = k * n + j by rw [Nat.add_mul]; omega, this]
    rfl
theorem Enc.cells_at (h : Enc f n) (l : List α) (i : Nat) (u : Value) (hu : (cellsF f l)[i]? = some u) : ∃ k, ∃ hk : k < l.length, ∃ j, j < n ∧ i = k * n + j ∧ (f l[k])[j]? = some u := by
  have hi : i < (cellsF f l).length := (List.getElem?_eq_some_iff.1 hu).1
  rw [h.cells_len] at hi
  have hk : i / n < l.length := (Nat.div_lt_iff_lt_mul h.pos).2 hi
  have hm := Nat.mod_lt i h.pos
  have hd := Nat.div_add_mod i n
  rw [Nat.mul_comm] at hd
  refine ⟨i / n, hk, i % n, hm, hd.symm, ?_⟩
  rw [← h.cells_get l (i / n) hk (i % n) hm, hd]
  exact hu
theorem Enc.cells_set (h : Enc f n) : ∀ (l : List α) (k : Nat) (x : α) (j : Nat) (u : Value) (hk : k < l.length), j < n → f x = (f l[k]).set j u → cellsF f (l.set k x) = (cellsF f l).set (k * n + j) u
  | [], k, _, _, _, hk, _, _ => by simp at hk
  | y :: r, 0, x, j, u, _, hj, e => by
    rw [List.set_cons_zero, cellsF_cons, cellsF_cons, Nat.zero_mul, Nat.zero_add, List.set_append_left _ _ (by rw [h.len]; exact hj)]
    rw [e]; rfl
  | y :: r, k + 1, x, j, u, hk, hj, e => by
    have := h.cells_set r k x j u (by simpa using hk) hj (by simpa using e)
    rw [List.set_cons_succ, cellsF_cons, cellsF_cons, this, List.set_append_right _ _ (by rw [h.len, Nat.add_mul]; omega), h.len, show (k + 1) * n + j - n = k * n + j by rw [Nat.add_mul]; omega]
def RowF (f : α → List Value) (n : Nat) (w : World) (b off : Nat) (l : List α) : Prop := ∀ k (h : k < l.length) (j : Nat) (u : Value), (f l[k])[j]? = some u → w.cell? ⟨b, off + k * n + j, none⟩ = some u
def AtF (f : α → List Value) (n : Nat) (w : World) (oa : Option Addr) (l : List α) : Prop := l = [] ∨ ∃ b off, oa = some ⟨b, off, none⟩ ∧ b < w.heap.size ∧ RowF f n w b off l
theorem RowF.keep {w w' : World} {b off : Nat} {l : List α} (h : RowF f n w b off l) (hg : Gr w w') : RowF f n w' b off l := fun k hk j u hu => hg.keep (h k hk j u hu)
theorem AtF.keep {w w' : World} {oa : Option Addr} {l : List α} (h : AtF f n w oa l) (hg : Gr w w') : AtF f n w' oa l := by
  rcases h with h | ⟨b, off, e, hb, h⟩
  · exact .inl h
  · exact .inr ⟨b, off, e, Nat.lt_of_lt_of_le hb hg.size, h.keep hg⟩
theorem AtF.get {w : World} {oa : Option Addr} {l : List α} (h : AtF f n w oa l) (k : Nat) (hk : k < l.length) : ∃ b off, oa = some ⟨b, off, none⟩ ∧ b < w.heap.size ∧ ∀ (j : Nat) (u : Value), (f l[k])[j]? = some u → w.cell? ⟨b, off + k * n + j, none⟩ = some u := by
  rcases h with h | ⟨b, off, e, hb, h⟩
  · subst h; simp at hk
  · exact ⟨b, off, e, hb, h k hk⟩
theorem RowF.cells {w : World} {b off : Nat} {l : List α} (he : Enc f n) (h : RowF f n w b off l) : ∀ i u, (cellsF f l)[i]? = some u → w.cell? ((⟨b, off, none⟩ : Addr).add i) = some u := by
  intro i u hu
  obtain ⟨k, hk, j, hj, rfl, e⟩ := he.cells_at l i u hu
  rw [addN, ← Nat.add_assoc]
  exact h k hk j u e
theorem own_keep {w w' : World} {base n' e : Nat} {m : Nat} {v : Value} {zs : List Value} (h : w.ownsRow base e m v n' zs) (hg : Gr w w') : w'.ownsRow base e m v n' zs :=
  h.kept (row := none) (hg.only _) (by cases v.ownBlock <;> simp)
theorem own_at {w : World} {base : Nat} {e : TypeId} {v : Value} {l : List α} (he : Enc f n) (h : w.ownsRow base e n v l.length (cellsF f l)) :
    ∃ oa c, v = .slice oa l.length c ∧ AtF f n w oa l ∧ l.length ≤ c ∧ ∀ g o q, oa = some ⟨g, o, q⟩ → base ≤ g := by
  rcases h.2 with ⟨rfl, h0⟩ | ⟨g, cap, cur, rfl, hb, hg, hc, _⟩
  · exact ⟨none, 0, by rw [h0], .inl (List.eq_nil_of_length_eq_zero h0), by omega, by intro _ _ _ e; cases e⟩
  · refine ⟨_, cap, rfl, .inr ⟨g, 0, rfl, (Array.getElem?_eq_some_iff.1 hg).1, fun k hk j u hu => ?_⟩, hc, by intro _ _ _ e; cases e; exact hb⟩
    have hj : j < n := by rw [← he.len l[k]]; exact (List.getElem?_eq_some_iff.1 hu).1
    have d := h.cells (g := g) rfl (k * n + j) u (by rw [he.cells_get l k hk j hj]; exact hu)
    rw [addN, ← Nat.add_assoc] at d
    exact d
end
end Go.Proofs.YtbeinfhgfflneaaGreat
end
section
namespace Go.Proofs.YtbeinfhgfflneaaGreat
open Go.RowKit
set_option linter.unusedVariables false
set_option linter.unusedSimpArgs false
def Gz (v : Value) (w w' : World) : Prop := w.grownBy w' v.ownBlock
theorem Gz.of {v : Value} {w w' : World} (h : Gr w w') : Gz v w w' := h.only _
theorem Gz.refl (v : Value) (w : World) : Gz v w w := .of (Gr.refl w)
theorem Gz.trans {v : Value} {a b c : World} (h : Gz v a b) (k : Gz v b c) : Gz v a c :=
  ⟨k.os.trans h.os, k.tape.trans h.tape, k.output.trans h.output, Nat.le_trans h.size k.size, fun i hi hne => (k.block i (Nat.lt_of_lt_of_le hi h.size) hne).trans (h.block i hi hne)⟩
theorem Gz.gr {v : Value} {a b c : World} (h : Gz v a b) (k : Gr b c) : Gz v a c := h.trans (.of k)
theorem Gz.cell {v : Value} {w w' : World} {b k : Nat} {u : Value} (h : Gz v w w') (hc : w.cell? ⟨b, k, none⟩ = some u) (hb : ∀ g, v.ownBlock = some g → g ≠ b) : w'.cell? ⟨b, k, none⟩ = some u :=
  World.grownBy.cell h hc (fun e => hb b (by simpa using e.symm) rfl)
def Ty (e : TypeId) (w : World) (b : Nat) : Prop := ∃ cur fz, w.heap[b]? = some (.cells cur e fz)
theorem Ty.lt {e : TypeId} {w : World} {b : Nat} (h : Ty e w b) : b < w.heap.size := by
  obtain ⟨cur, fz, h⟩ := h
  exact (Array.getElem?_eq_some_iff.1 h).1
theorem Ty.gr {e : TypeId} {w w' : World} {b : Nat} (h : Ty e w b) (hg : Gr w w') : Ty e w' b := by
  have hl := h.lt
  obtain ⟨cur, fz, h⟩ := h
  exact ⟨cur, fz, by have := hg.block b hl; rw [this]; exact h⟩
theorem Ty.new (w : World) (cs : Array Value) (e : TypeId) : Ty e (w.alloc (.cells cs e)) w.heap.size := ⟨cs, (0, 0), heap_alloc_new w _⟩
theorem Gz.up {w a b : World} {v : Value} {e n m : Nat} {xs : List Value} (h : Gr w a) (k : Gz v a b) (ho : a.ownsRow w.heap.size e n v m xs) : Gr w b := h.grown k (fun g hg => (World.ownsRow.lt ho g hg).1)
theorem own_mono {w : World} {b1 b2 n m e : Nat} {v : Value} {xs : List Value} (h : w.ownsRow b1 e n v m xs) (hb : b2 ≤ b1) : w.ownsRow b2 e n v m xs := by
  refine ⟨h.1, ?_⟩
  rcases h.2 with h' | ⟨g, cap, cur, hv, hg, rest⟩
  · exact .inl h'
  · exact .inr ⟨g, cap, cur, hv, Nat.le_trans hb hg, rest⟩
def Sl (m : Nat) (xs : List Value) (u : Value) (w : World) : Prop := ∃ g, u = .slice (some ⟨g, 0, none⟩) m m ∧ g < w.heap.size ∧ ∀ j x, xs[j]? = some x → w.cell? ⟨g, j, none⟩ = some x
theorem Sl.keep {m : Nat} {xs : List Value} {u : Value} {w w' : World} (h : Sl m xs u w) (hg : Gr w w') : Sl m xs u w' := by
  obtain ⟨g, e, hl, hc⟩ := h
  exact ⟨g, e, Nat.lt_of_lt_of_le hl hg.size, fun j x hx => hg.keep (hc j x hx)⟩
def St (e : TypeId) (m : Nat) (xs : List Value) (u : Value) (w : World) : Prop := ∃ g, u = .slice (some ⟨g, 0, none⟩) m m ∧ Ty e w g ∧ ∀ j x, xs[j]? = some x → w.cell? ⟨g, j, none⟩ = some x
theorem St.keep {e : TypeId} {m : Nat} {xs : List Value} {u : Value} {w w' : World} (h : St e m xs u w) (hg : Gr w w') : St e m xs u w' := by
  obtain ⟨g, h1, hl, hc⟩ := h
  exact ⟨g, h1, hl.gr hg, fun j x hx => hg.keep (hc j x hx)⟩
theorem own_at0 {α : Type} {f : α → List Value} {n : Nat} {w : World} {base : Nat} {e : TypeId} {v : Value} {l : List α} (he : Enc f n) (h : w.ownsRow base e n v l.length (cellsF f l)) :
    ∃ oa c, v = .slice oa l.length c ∧ AtF f n w oa l ∧ (oa = none → c = 0) := by
  rcases h.2 with ⟨rfl, h0⟩ | ⟨g, cap, cur, rfl, hb, hg, hc, _⟩
  · exact ⟨none, 0, by rw [h0], .inl (List.eq_nil_of_length_eq_zero h0), fun _ => rfl⟩
  · obtain ⟨oa, c, e, hat, _⟩ := own_at he h
    cases e
    exact ⟨_, _, rfl, hat, fun h => by cases h⟩
def iF (x : Int) : List Value := [.int .i64 x]
theorem iE : Enc iF 1 := ⟨fun _ => rfl, fun x u hu => by simp [iF] at hu; subst hu; rfl, by omega⟩
def vF (v : V) : List Value := [.int .i64 v.t, .int .i64 v.n, .string v.s, .bool v.b]
theorem vE : Enc vF 4 := ⟨fun _ => rfl, fun x u hu => by simp [vF] at hu; rcases hu with rfl | rfl | rfl | rfl <;> rfl, by omega⟩
abbrev VAt := AtF vF 4
theorem v_get {w : World} {oa : Option Addr} {l : List V} (h : VAt w oa l) (k : Nat) (hk : k < l.length) : ∃ b off, oa = some ⟨b, off, none⟩ ∧
    w.cell? ⟨b, off + k * 4, none⟩ = some (.int .i64 l[k].t) ∧ w.cell? ⟨b, off + k * 4 + 1, none⟩ = some (.int .i64 l[k].n) ∧ w.cell? ⟨b, off + k * 4 + 2, none⟩ = some (.string l[k].s) ∧ w.cell? ⟨b, off + k * 4 + 3, none⟩ = some (.bool l[k].b) := by
  obtain ⟨b, off, e, _, hc⟩ := h.get k hk
  refine ⟨b, off, e, ?_, hc 1 _ rfl, hc 2 _ rfl, hc 3 _ rfl⟩
  have := hc 0 (.int .i64 l[k].t) rfl
  simpa using this
theorem v_info : (Tryz.prog.info? 23).map (fun i => (i.zero, i.size, i.bytes)) = some (some (.agg #[.int .i64 0, .int .i64 0, .string ⟨#[]⟩, .bool false]), 4, 40) := by kernel_rfl
end Go.Proofs.YtbeinfhgfflneaaGreat
end
section
namespace Go.Rg
open Go Go.RowKit
set_option linter.unusedSimpArgs false
set_option linter.unusedVariables false
def cnt (Cs : List Nat) : Nat → Nat
  | 0 => 0
  | m + 1 => cnt Cs m + (if Cs.contains m then 1 else 0)
theorem cnt_le (Cs : List Nat) : ∀ {i j : Nat}, i ≤ j → cnt Cs i ≤ cnt Cs j
  | i, 0, h => by have : i = 0 := by omega
                  subst this; exact Nat.le_refl _
  | i, j + 1, h => by
    by_cases e : i = j + 1
    · rw [e]; exact Nat.le_refl _
    · have := cnt_le Cs (i := i) (j := j) (by omega)
      simp only [cnt]; omega
theorem cnt_lt {Cs : List Nat} {i j : Nat} (hi : Cs.contains i = true) (h : i < j) : cnt Cs i < cnt Cs j := by
  have h1 := cnt_le Cs (i := i + 1) (j := j) h
  simp only [cnt, hi, if_true] at h1
  omega
theorem cnt_hit {Cs : List Nat} : ∀ {j s : Nat}, s < cnt Cs j → ∃ i, i < j ∧ Cs.contains i = true ∧ cnt Cs i = s
  | 0, s, h => by simp [cnt] at h
  | j + 1, s, h => by
    by_cases h1 : s < cnt Cs j
    · obtain ⟨i, a, b, c⟩ := cnt_hit h1
      exact ⟨i, by omega, b, c⟩
    · simp only [cnt] at h
      split at h
      · rename_i hc
        exact ⟨j, by omega, hc, by omega⟩
      · omega
def BringsS (P : Program) (R : Value → World → Prop) : Result Next → Prop
  | .ok (.value u) w => R u w
  | .ok .skip w => R undef w
  | .ok (.enter f args) w => Calls P f args w fun e w' => ∃ u, e = .returned u ∧ R u w'
  | _ => False
theorem bringsS_value {P : Program} {R : Value → World → Prop} {u : Value} {w : World} : BringsS P R (.ok (.value u) w) = R u w := rfl
theorem bringsS_skip {P : Program} {R : Value → World → Prop} {w : World} : BringsS P R (.ok .skip w) = R undef w := rfl
theorem bringsS_enter {P : Program} {R : Value → World → Prop} {f : FuncId} {args : Array Value} {w : World} : BringsS P R (.ok (.enter f args) w) = Calls P f args w fun e w' => ∃ u, e = .returned u ∧ R u w' := rfl
def Still (w0 : World) (v : Value) : Result Next → Prop
  | .ok (.value u) w => u = v ∧ w = w0
  | .ok .skip w => undef = v ∧ w = w0
  | _ => False
theorem still_value {v u : Value} {w0 w : World} : Still w0 v (.ok (.value u) w) = (u = v ∧ w = w0) := rfl
theorem still_skip {v : Value} {w0 w : World} : Still w0 v (.ok .skip w) = (undef = v ∧ w = w0) := rfl
theorem still_enter {v : Value} {w0 w : World} {f : FuncId} {args : Array Value} : Still w0 v (.ok (.enter f args) w) = False := rfl
section
variable (P : Program) (ops : Array Oper) (Cs : List Nat) (Ws : List (Nat × Nat)) (St : Nat → (Nat → Value) → World → Prop)
def limC (i s : Nat) : Prop := ∀ k, (i, k) ∈ Ws → s ≤ cnt Cs k
def StepC (v : Nat → Value) (c : Option Value) (i s : Nat) (o : Oper) (a : Act) : Prop :=
  if Cs.contains i then Region.wanted o (yielded ops a.tmps) = true ∧ ∀ w, St s v w → BringsS P (fun u w' => match c with
      | some c => u = c ∧ St (s + 1) v w'
      | none => St (s + 1) (upd v i u) w') ((execOp a.eval o).run P w)
  else match c with
    | some c => (Region.wanted o (yielded ops a.tmps) = true ∧ ∀ s w, limC Cs Ws i s → St s v w → Still w c ((execOp a.eval o).run P w)) ∨ (Region.wanted o (yielded ops a.tmps) = false ∧ c = undef)
    | none => False
def wpC (v : Nat → Value) (L : Nat → Act → Prop) : Nat → List (Option Value) → List Oper → Nat → Act → Prop
  | s, [], [], _, a => L s a
  | s, c :: K, o :: r, i, a => StepC P ops Cs Ws St v c i s o a ∧ wpC v L (s + (if Cs.contains i then 1 else 0)) K r (i + 1) (a.put o.dst (c.getD (v i)))
  | _, _, _, _, _ => False
end
section
variable {P : Program} {ops : Array Oper} {Cs : List Nat} {Ws : List (Nat × Nat)} {St : Nat → (Nat → Value) → World → Prop} {v : Nat → Value} {L : Nat → Act → Prop}
theorem wpC_len : ∀ (K : List (Option Value)) (l : List Oper) (s i : Nat) (a : Act), wpC P ops Cs Ws St v L s K l i a → K.length = l.length
  | [], [], _, _, _, _ => rfl
  | c :: K, o :: r, s, i, a, h => by simp only [List.length_cons]; rw [wpC_len K r _ _ _ h.2]
  | [], _ :: _, _, _, _, h => h.elim
  | _ :: _, [], _, _, _, h => h.elim
theorem wpC_at : ∀ (K : List (Option Value)) (l : List Oper) (i : Nat) (a : Act) (f : Nat → Value), wpC P ops Cs Ws St v L (cnt Cs i) K l i a → (∀ k, k < l.length → f (i + k) = ((K[k]?).getD none).getD (v (i + k))) →
    ∀ m o, l[m]? = some o → StepC P ops Cs Ws St v ((K[m]?).getD none) (i + m) (cnt Cs (i + m)) o (putL (fun j => decide (j < i + m)) f l i a)
  | [], [], _, _, _, _, _, m, o, h => by simp at h
  | c :: K, o0 :: r, i, a, f, h, hf, 0, o, ho => by
    have e0 : o0 = o := by simpa using ho
    subst e0
    have e1 : putL (fun j => decide (j < i + 0)) f (o0 :: r) i a = a := putL_none _ _ _ (fun k _ => by simp)
    rw [e1]
    simpa using h.1
  | c :: K, o0 :: r, i, a, f, h, hf, m + 1, o, ho => by
    have h2 := wpC_at K r (i + 1) _ f h.2 (fun k hk => by have := hf (k + 1) (by simp; omega); rw [show i + 1 + k = i + (k + 1) by omega]; simpa using this) m o (by simpa using ho)
    have h0 := hf 0 (by simp)
    simp at h0
    unfold putL
    have e : (if decide (i < i + (m + 1)) then a.put o0.dst (f i) else a) = a.put o0.dst (c.getD (v i)) := by
      rw [if_pos (by simp), h0]
    rw [e, show i + (m + 1) = i + 1 + m by omega]
    simpa using h2
  | [], _ :: _, _, _, _, h, _, _, _, _ => h.elim
  | _ :: _, [], _, _, _, h, _, _, _, _ => h.elim
theorem wpC_end : ∀ (K : List (Option Value)) (l : List Oper) (i : Nat) (a : Act) (f : Nat → Value), wpC P ops Cs Ws St v L (cnt Cs i) K l i a → (∀ k, k < l.length → f (i + k) = ((K[k]?).getD none).getD (v (i + k))) →
    L (cnt Cs (i + l.length)) (putL (fun _ => true) f l i a)
  | [], [], _, _, _, h, _ => h
  | c :: K, o0 :: r, i, a, f, h, hf => by
    have h2 := wpC_end K r (i + 1) _ f h.2 (fun k hk => by have := hf (k + 1) (by simp; omega); rw [show i + 1 + k = i + (k + 1) by omega]; simpa using this)
    have h0 := hf 0 (by simp)
    simp at h0
    unfold putL
    simp only [if_true, h0]
    rw [show i + (o0 :: r).length = i + 1 + r.length by simp; omega]
    exact h2
  | [], _ :: _, _, _, _, h, _ => h.elim
  | _ :: _, [], _, _, _, h, _ => h.elim
end
def rch (md : Region.Mode) (ops : Array Oper) : Nat → Nat → Nat → Bool
  | 0, _, _ => false
  | f + 1, j, i => match ops[j]? with
    | some o => o.after.any fun e => Region.binds md e && (e.on == i || rch md ops f e.on i)
    | none => false
theorem rch_spec {md : Region.Mode} {ops : Array Oper} {n : Nat} {listed : Array Bool} (inv : HeadInv md ops n listed) : ∀ (f j i : Nat), rch md ops f j i = true → (listed.getD j false = true ∨ j ∈ Region.ready md ops listed) → listed.getD i false = true
  | 0, j, i, h, _ => by cases h
  | f + 1, j, i, h, hj => by
    unfold rch at h
    split at h
    · rename_i o ho
      obtain ⟨e, he, hbe⟩ := Array.any_eq_true'.1 h
      simp only [Bool.and_eq_true, Bool.or_eq_true, beq_iff_eq] at hbe
      have hon : listed.getD e.on false = true := by
        rcases hj with hj | hj
        · exact inv.closed j o ho hj e he hbe.1
        · obtain ⟨_, o2, ho2, hall⟩ := mem_ready.1 hj
          have : o2 = o := Option.some.inj (ho2.symm.trans ho)
          subst this
          exact hall e he hbe.1
      rcases hbe.2 with h2 | h2
      · rw [← h2]; exact hon
      · exact rch_spec inv f e.on i h2 (.inl hon)
    · cases h
def chB (md : Region.Mode) (ops : Array Oper) (Cs : List Nat) : Bool := Cs.all fun j => Cs.all fun i => decide (j ≤ i) || rch md ops ops.size j i
def lmB (md : Region.Mode) (ops : Array Oper) (n : Nat) (Cs : List Nat) (Ws : List (Nat × Nat)) : Bool := Ws.all fun p => Cs.contains p.2 && decide (p.2 < n) && rch md ops ops.size p.2 p.1
section
variable {P : Program} {ops : Array Oper} {md : Region.Mode} {Q : Exit → Act → World → Prop}
section
variable {l : List Oper} {n : Nat} {Cs : List Nat} {Ws : List (Nat × Nat)} {St : Nat → (Nat → Value) → World → Prop} {K : List (Option Value)} {a0 : Act}
theorem region_chain0 {id : Nat} {w : World} (n : Nat) (Cs : List Nat) (Ws : List (Nat × Nat)) (St : Nat → (Nat → Value) → World → Prop) (K : List (Option Value))
    (hW : ∀ v, St 0 v { w with drawn := w.drawn + 1 }) (hm : P.follows .mixedOrders = true) (hB : typedB l n [] [] [] = true) (hC : chB .any l.toArray Cs = true) (hL : lmB .any l.toArray n Cs Ws = true)
    (hQ : ∀ c (a : Act) d u w, Q (.panic c) (a.put d u) w → Q (.panic c) a w)
    (h : ∀ v : Nat → Value, wpC P l.toArray Cs Ws St v (fun s a' => ∀ w', St s v w' → wpList P l.toArray Q (l.drop n) a' w') 0 K (l.take n) 0 a0) :
    (Code.region id l.toArray true).wp P Q a0 w := by
  simp only [typedB, Bool.and_eq_true, decide_eq_true_eq] at hB
  obtain ⟨⟨⟨⟨⟨⟨hDF, hsel⟩, hn'⟩, hs⟩, hc⟩, hall⟩, hseq⟩ := hB
  have hn : n < l.toArray.size := by simpa using hn'
  have hselS := Region.noSelect_spec hsel
  have one : ∀ i, i < n → ∀ o, l.toArray[i]? = some o → OneB .any l.toArray l (l.take n) n [] [] o i := fun i hi o ho => by
    have h1 : (l.take n)[i]? = some o := by rw [List.getElem?_take_of_lt hi]; simpa using ho
    have := allB_spec (l.take n) 0 hall i o h1
    rwa [Nat.zero_add] at this
  have take_at : ∀ i o, (l.take n)[i]? = some o → i < n ∧ l.toArray[i]? = some o := fun i o ho => by
    have hi : i < n := by
      have := (List.getElem?_eq_some_iff.1 ho).1
      simp at this; omega
    rw [List.getElem?_take_of_lt hi] at ho
    exact ⟨hi, by simpa using ho⟩
  have hlen : ∀ v, K.length = (l.take n).length := fun v => wpC_len K _ 0 0 a0 (h v)
  have htl : (l.take n).length = n := by simp at hn ⊢; omega
  let free : Nat → Bool := fun k => ((K[k]?).getD none).isNone
  let vf : (Nat → Value) → Nat → Value := fun v k => valOf K v k
  have dstne : ∀ i j o o', i < n → j < n → i ≠ j → l.toArray[i]? = some o → l.toArray[j]? = some o' → ∀ d, o'.dst = some d → o.dst ≠ some d := fun i j o o' hi hj hne ho ho' d hd => by
    have h1 := rowB_spec (l.take n) 0 (one i hi o ho).row j o' (by rw [List.getElem?_take_of_lt hj]; simpa using ho')
    rw [Nat.zero_add] at h1
    unfold pairB at h1
    rw [hd] at h1
    simp only [Bool.or_eq_true, decide_eq_true_eq, hne, false_or, Bool.and_eq_true, bne_iff_ne, ne_eq] at h1
    exact h1.1
  let FR : (Nat → Bool) → (Nat → Value) → Act := fun S v => putL S (vf v) (l.take n) 0 a0
  have more : ∀ (S S' : Nat → Bool) (v : Nat → Value) (j : Nat) (o : Oper) (u : Value), j < n → l.toArray[j]? = some o → S j = false → S' j = true → (∀ k, k ≠ j → S' k = S k) → (free j = false → vf v j = u) →
      (FR S v).put o.dst u = FR S' (if free j then upd v j u else v) := fun S S' v j o u hj ho h1 h2 h3 h4 => by
    have hold : ∀ k, k ≠ j → vf (if free j then upd v j u else v) k = vf v k := fun k hk => by
      show ((K[k]?).getD none).getD _ = ((K[k]?).getD none).getD _
      split
      · simp [upd, hk]
      · rfl
    have hnew : vf (if free j then upd v j u else v) j = u := by
      cases hfj : free j
      · simpa using h4 hfj
      · show ((K[j]?).getD none).getD _ = u
        have : (K[j]?).getD none = none := by simpa [free] using hfj
        rw [this]; simp [upd]
    exact putL_more (l.take n) 0 a0 j o u (by rw [List.getElem?_take_of_lt hj]; simpa using ho) (by rw [Nat.zero_add]; exact h1) (by rw [Nat.zero_add]; exact h2) (by rw [Nat.zero_add]; exact hnew)
      (fun k hk => by rw [Nat.zero_add]; exact ⟨h3 k hk, hold k hk⟩)
      (fun k o' hk ho' d hd => by
        obtain ⟨hkn, hko⟩ := take_at k o' ho'
        intro hd2
        exact dstne j k o o' hj hkn (Ne.symm hk) ho hko d hd2 hd)
  have sees : ∀ (listed : Array Bool) (v : Nat → Value) (i : Nat) (o : Oper), i < n → l.toArray[i]? = some o → i ∈ Region.ready .any l.toArray listed →
      ∀ t ∈ o.looksAt l.toArray, (FR (fun j => listed.getD j false) v).tmps[t]? = (FR (fun j => decide (j < i)) v).tmps[t]? := fun listed v i o hi ho hr t ht => by
    refine putL_same (l.take n) 0 a0 a0 rfl rfl (fun k o' ho' hd => ?_)
    obtain ⟨hkn, hko⟩ := take_at k o' ho'
    rw [Nat.zero_add]
    have hO := one i hi o ho
    obtain ⟨_, o2, ho2, hall2⟩ := mem_ready.1 hr
    have e2 : o2 = o := Option.some.inj (ho2.symm.trans ho)
    subst e2
    by_cases hik : i = k
    · subst hik
      have e3 : o' = o2 := Option.some.inj (hko.symm.trans ho)
      subst e3
      exact absurd ht (hO.own t hd)
    · have h1 := rowB_spec (l.take n) 0 hO.row k o' ho'
      rw [Nat.zero_add] at h1
      unfold pairB at h1
      rw [hd] at h1
      have hct : (o2.looksAt l.toArray).contains t = true := by simpa using ht
      simp only [Bool.or_eq_true, decide_eq_true_eq, hik, false_or, Bool.and_eq_true, hct, Bool.not_true, Bool.false_eq_true] at h1
      obtain ⟨e, he, hbe⟩ := Array.any_eq_true'.1 h1.2
      simp only [Bool.and_eq_true, beq_iff_eq] at hbe
      have h2 := hall2 e he hbe.1
      rw [hbe.2] at h2
      rw [h2]
      have h3 := Array.all_eq_true_iff_forall_mem.1 hO.back e he
      simp only [hbe.1, Bool.not_true, Bool.false_or, decide_eq_true_eq, hbe.2] at h3
      simp [h3]
  have step : ∀ v i, i < n → ∀ o, l.toArray[i]? = some o → StepC P l.toArray Cs Ws St v ((K[i]?).getD none) i (cnt Cs i) o (FR (fun j => decide (j < i)) v) := fun v i hi o ho => by
    have := wpC_at K (l.take n) 0 a0 (vf v) (h v) (fun k _ => by rw [Nat.zero_add]; rfl) i o (by rw [List.getElem?_take_of_lt hi]; simpa using ho)
    rwa [Nat.zero_add] at this
  have hseq' : ∀ listed : Array Bool, listed.size = l.toArray.size → (∀ j, j < n → listed.getD j false = true) → (∀ t, n ≤ t → t < l.toArray.size → listed.getD t true = false) → Region.seqB .any l.toArray (l.toArray.size - n) n listed = true := fun listed hsz h1 h2 => by
    have e : listed = (List.replicate n true ++ List.replicate (l.length - n) false).toArray := by
      apply Array.ext
      · rw [hsz]; simp; omega
      · intro i hi1 hi2
        by_cases hin : i < n
        · have := h1 i hin
          simp [hi1] at this
          rw [this]; simp [List.getElem_append, hin]
        · have := h2 i (by omega) (by rw [← hsz]; exact hi1)
          simp [hi1] at this
          rw [this]; simp [List.getElem_append, hin]
    rw [e]; simpa using hseq
  have main : ∀ (f : Nat) (listed : Array Bool) (v : Nat → Value) (w : World) (s : Nat), HeadInv .any l.toArray n listed → unl (fun j => listed.getD j false) n = f → s ≤ cnt Cs n →
      (∀ i, i < n → Cs.contains i = true → (listed.getD i false = true ↔ cnt Cs i < s)) →
      St s v w → wpAny P .any l.toArray Q (f + (l.toArray.size - n)) listed (FR (fun j => listed.getD j false) v) w := by
    intro f
    induction f with
    | zero =>
      intro listed v w s inv hu hsn hst hK
      have hL := unl_zero hu
      have hend := wpC_end K (l.take n) 0 a0 (vf v) (h v) (fun k _ => by rw [Nat.zero_add]; rfl)
      have es : s = cnt Cs n := by
        rcases Nat.lt_or_ge s (cnt Cs n) with h1 | h1
        · obtain ⟨i, hi, hci, hcs⟩ := cnt_hit h1
          have := (hst i hi hci).1 (hL i hi)
          omega
        · omega
      rw [Nat.zero_add, htl, ← es] at hend
      have e : FR (fun j => listed.getD j false) v = putL (fun _ => true) (vf v) (l.take n) 0 a0 := putL_congr _ _ _ (fun k hk => by
        have hkn : k < n := by simp at hk; omega
        rw [Nat.zero_add]; exact ⟨hL k hkn, fun _ => rfl⟩)
      rw [e, Nat.zero_add]
      have hdl : (l.drop n).length = l.toArray.size - n := by simp
      have h1 := hend w hK
      have := wpAny_of_seq (md := .any) (Q' := Q) (l.drop n) n listed (putL (fun _ => true) (vf v) (l.take n) 0 a0) w (fun j => by simp [List.getElem?_drop]) (by rw [hdl]; exact hseq' listed inv.size hL inv.tail) h1
      rwa [hdl] at this
    | succ f ih =>
      intro listed v w s inv hu hsn hst hK
      have hex : ∃ i, i < n ∧ listed.getD i false = false ∧ (fun _ : Nat => true) i = true := by
        refine Classical.byContradiction fun hno => ?_
        have h0 : unl (fun j => listed.getD j false) n = 0 := by
          unfold unl
          rw [List.length_eq_zero_iff, List.filter_eq_nil_iff]
          intro x hx
          have hxn := List.mem_range.1 hx
          cases hs : listed.getD x false
          · exact absurd ⟨x, hxn, hs, rfl⟩ hno
          · show ¬ (!(listed.getD x false)) = true
            rw [hs]; decide
        omega
      have inb : ∀ i, i < n → i < listed.size := fun i hi => by rw [inv.size]; omega
      have readyOf : ∀ i, i < n → listed.getD i false = false → (∀ j, j < i → listed.getD j false = true) → i ∈ Region.ready .any l.toArray listed := fun i hi h1 h2 => by
        have hlt : i < l.toArray.size := by omega
        refine mem_ready.2 ⟨getD_in (inb i hi) h1, l.toArray[i], Array.getElem?_eq_getElem hlt, fun e he hb => ?_⟩
        have hO := one i hi _ (Array.getElem?_eq_getElem hlt)
        have h3 := Array.all_eq_true_iff_forall_mem.1 hO.back e he
        simp only [hb, Bool.not_true, Bool.false_or, decide_eq_true_eq] at h3
        exact h2 e.on h3
      obtain ⟨i0, hi0, hi0f, _, hi0l⟩ := least_unl n hex
      rw [show f + 1 + (l.toArray.size - n) = (f + (l.toArray.size - n)) + 1 by omega]
      refine ⟨fun h0 => ?_, fun j hr => ?_⟩
      · have := readyOf i0 hi0 hi0f (fun j hj => hi0l j hj rfl)
        rw [h0] at this; cases this
      have hj : j < n := by
        rcases Nat.lt_or_ge j n with hlt | hge
        · exact hlt
        · exact absurd hr (tail_waitsF hs hc hn inv _ i0 rfl hi0 (by simp) (getD_in (inb i0 hi0) hi0f) j hge)
      obtain ⟨hjun, o, ho, hall2⟩ := mem_ready.1 hr
      have hjf : listed.getD j false = false := getD_both hjun
      have hstp := step v j hj o ho
      have hsee := sees listed v j o hj ho hr
      have hex1 := exec_same (hselS j o · · ho) hsee
      have hw1 := wanted_same hsee
      have inv' := inv.set hr hj
      have hu' : unl (fun k => (listed.setIfInBounds j true).getD k false) n = f := by
        have := unl_set (S := fun k => listed.getD k false) (S' := fun k => (listed.setIfInBounds j true).getD k false) hj hjf (by have := inb j hj; simp [this]) (fun i hi => getD_set_ne false (fun e => hi e.symm))
        omega
      have hfr := fun (u : Value) (h4 : free j = false → vf v j = u) => more (fun k => listed.getD k false) (fun k => (listed.setIfInBounds j true).getD k false) v j o u hj ho hjf (by have := inb j hj; simp [this]) (fun i hi => getD_set_ne false (fun e => hi e.symm)) h4
      have hS'j : (listed.setIfInBounds j true).getD j false = true := by have := inb j hj; simp [this]
      have hS'k : ∀ k, k ≠ j → (listed.setIfInBounds j true).getD k false = listed.getD k false := fun k hk => getD_set_ne false (fun e => hk e.symm)
      unfold Go.wpOp
      simp only [ho]
      by_cases hjc : Cs.contains j = true
      ·
        have hcj : cnt Cs j = s := by
          have h1 : ¬ cnt Cs j < s := fun h => by rw [(hst j hj hjc).2 h] at hjf; cases hjf
          rcases Nat.lt_or_ge s (cnt Cs j) with h2 | h2
          · exfalso
            obtain ⟨i, hi, hci, hcs⟩ := cnt_hit h2
            have h3 := List.all_eq_true.1 (List.all_eq_true.1 hC j (by simpa using hjc)) i (by simpa using hci)
            simp only [Bool.or_eq_true, decide_eq_true_eq] at h3
            rcases h3 with h3 | h3
            · omega
            · have h4 := rch_spec inv _ j i h3 (.inr hr)
              have := (hst i (by omega) hci).1 h4
              omega
          · omega
        have hst' : ∀ i, i < n → Cs.contains i = true → ((listed.setIfInBounds j true).getD i false = true ↔ cnt Cs i < s + 1) := fun i hi hci => by
          by_cases hij : i = j
          · subst hij
            rw [hS'j]; simp; omega
          · rw [hS'k i hij, hst i hi hci]
            rcases Nat.lt_or_ge i j with h1 | h1
            · have := cnt_lt hci h1
              omega
            · have := cnt_lt hjc (show j < i by omega)
              omega
        have hsn' : s + 1 ≤ cnt Cs n := by
          have := cnt_lt hjc hj
          omega
        unfold StepC at hstp
        rw [if_pos hjc, hcj] at hstp
        obtain ⟨hwt, hrun⟩ := hstp
        have next : ∀ (u : Value) (w' : World), (match (K[j]?).getD none with
            | some c => u = c ∧ St (s + 1) v w'
            | none => St (s + 1) (upd v j u) w') → wpAny P .any l.toArray Q (f + (l.toArray.size - n)) (listed.setIfInBounds j true) ((FR (fun k => listed.getD k false) v).put o.dst u) w' := fun u w' hR => by
          cases hc0 : (K[j]?).getD none with
          | none =>
            rw [hc0] at hR
            have hfj : free j = true := by simp only [free, hc0, Option.isNone_none]
            rw [hfr u (fun h => by rw [hfj] at h; cases h), hfj]
            simp only [if_true]
            exact ih _ (upd v j u) w' (s + 1) inv' hu' hsn' hst' hR
          | some c =>
            rw [hc0] at hR
            obtain ⟨rfl, hR⟩ := hR
            have hfj : free j = false := by simp only [free, hc0, Option.isNone_some]
            have hvc : vf v j = u := by show ((K[j]?).getD none).getD _ = u; rw [hc0]; rfl
            rw [hfr u (fun _ => hvc), hfj]
            simp only [Bool.false_eq_true, if_false]
            exact ih _ v w' (s + 1) inv' hu' hsn' hst' hR
        rw [hw1, hwt]
        simp only [if_true]
        refine .inl ?_
        unfold Oper.wp
        rw [hex1]
        have h1 := hrun w hK
        generalize (execOp (FR (fun j_1 => decide (j_1 < j)) v).eval o).run P w = r at *
        cases r with
        | ok m w' =>
          cases m <;> simp only [BringsS] at h1 <;> simp only [Oper.upon]
          case value u => exact next u w' h1
          case skip => exact next undef w' h1
          case enter f' args => exact h1.mono fun e w'' ⟨u, he, hR⟩ => by subst he; exact next u w'' hR
        | halt x w' => simp only [BringsS] at h1
      ·
        have hjc' : Cs.contains j = false := by simpa using hjc
        have hst' : ∀ i, i < n → Cs.contains i = true → ((listed.setIfInBounds j true).getD i false = true ↔ cnt Cs i < s) := fun i hi hci => by
          have hij : i ≠ j := fun e => by subst e; rw [hjc'] at hci; cases hci
          rw [hS'k i hij]; exact hst i hi hci
        unfold StepC at hstp
        rw [if_neg hjc] at hstp
        cases hc0 : (K[j]?).getD none with
        | none => rw [hc0] at hstp; exact hstp.elim
        | some c =>
          rw [hc0] at hstp
          simp only at hstp
          have hfj : free j = false := by simp only [free, hc0, Option.isNone_some]
          have hvc : vf v j = c := by show ((K[j]?).getD none).getD _ = c; rw [hc0]; rfl
          have next : wpAny P .any l.toArray Q (f + (l.toArray.size - n)) (listed.setIfInBounds j true) ((FR (fun k => listed.getD k false) v).put o.dst c) w := by
            rw [hfr c (fun _ => hvc), hfj]
            simp only [Bool.false_eq_true, if_false]
            exact ih _ v w s inv' hu' hsn hst' hK
          rcases hstp with ⟨hwt, hrun⟩ | ⟨hwt, hcu⟩
          · rw [hw1, hwt]
            simp only [if_true]
            refine .inl ?_
            unfold Oper.wp
            rw [hex1]
            have h1 := hrun s w (fun k hk => by
              have h3 := List.all_eq_true.1 hL (j, k) hk
              simp only [Bool.and_eq_true, decide_eq_true_eq] at h3
              obtain ⟨⟨h4, h5⟩, h6⟩ := h3
              refine Nat.le_of_not_lt fun hlt => ?_
              have h7 := rch_spec inv _ k j h6 (.inl ((hst k h5 h4).2 hlt))
              rw [h7] at hjf; cases hjf) hK
            generalize (execOp (FR (fun j_1 => decide (j_1 < j)) v).eval o).run P w = r at *
            cases r with
            | ok m w' =>
              cases m <;> simp only [Still] at h1 <;> simp only [Oper.upon]
              case value u => obtain ⟨rfl, rfl⟩ := h1; exact next
              case skip => obtain ⟨rfl, rfl⟩ := h1; exact next
            | halt x w' => simp only [Still] at h1
          · rw [hw1, hwt]
            simp only [Bool.false_eq_true, if_false]
            rw [← hcu]
            exact next
  have inv0 : HeadInv .any l.toArray n (Array.replicate l.toArray.size false) :=
    ⟨by simp, fun j oj _ hl => (by rw [getD_replicate_false] at hl; cases hl), fun t _ ht => getD_in (by simpa using ht) (getD_replicate_false _ _)⟩
  have hu0 : unl (fun j => (Array.replicate l.toArray.size false).getD j false) n = n := by
    unfold unl
    have : (List.range n).filter (fun i => !(Array.replicate l.toArray.size false).getD i false) = List.range n := List.filter_eq_self.2 fun x _ => by rw [getD_replicate_false]; rfl
    rw [this]; simp
  refine wp_region_any hm ?_
  have e0 : FR (fun j => (Array.replicate l.toArray.size false).getD j false) (fun _ => undef) = a0 := putL_none _ _ _ (fun k _ => getD_replicate_false _ _)
  have := main n _ (fun _ => undef) _ 0 inv0 hu0 (Nat.zero_le _) (fun i hi hci => by rw [getD_replicate_false]; simp) (hW _)
  rw [e0, show n + (l.toArray.size - n) = l.toArray.size by omega] at this
  exact this
theorem region_chain {id : Nat} {w : World} (n : Nat) (Cs : List Nat) (Ws : List (Nat × Nat)) (St : Nat → (Nat → Value) → World → Prop) (K : List (Option Value))
    (hW : ∀ v, St 0 v { w with drawn := w.drawn + 1 }) (hm : P.follows .mixedOrders = true) (hB : typedB l n [] [] [] = true) (hC : chB .any l.toArray Cs = true) (hL : lmB .any l.toArray n Cs Ws = true)
    (hQ : ∀ c (a : Act) d u w, Q (.panic c) (a.put d u) w → Q (.panic c) a w)
    (h : ∀ OPS : Array Oper, OPS = l.toArray → ∀ v : Nat → Value, wpC P OPS Cs Ws St v (fun s a' => ∀ w', St s v w' → wpList P OPS Q (l.drop n) a' w') 0 K (l.take n) 0 a0) :
    (Code.region id l.toArray true).wp P Q a0 w := region_chain0 n Cs Ws St K hW hm hB hC hL hQ (h _ rfl)
end
end
end Go.Rg
end
section
namespace Go.Proofs.YtbeinfhgfflneaaGreat
open Go.RowKit
set_option linter.unusedSimpArgs false
set_option linter.unusedVariables false
def Go1 (p : Nat) (w w' : World) : Prop := w.grownBy w' (some p)
theorem Go1.of {p : Nat} {w w' : World} (h : Gr w w') : Go1 p w w' := h.only _
theorem Go1.refl (p : Nat) (w : World) : Go1 p w w := .of (Gr.refl w)
theorem Go1.trans {p : Nat} {a b c : World} (h : Go1 p a b) (k : Go1 p b c) : Go1 p a c :=
  ⟨k.os.trans h.os, k.tape.trans h.tape, k.output.trans h.output, Nat.le_trans h.size k.size, fun i hi hne => (k.block i (Nat.lt_of_lt_of_le hi h.size) hne).trans (h.block i hi hne)⟩
theorem Go1.set (p k : Nat) (w : World) (u : Value) : Go1 p w (w.setCell ⟨p, k, none⟩ u) :=
  ⟨rfl, rfl, rfl, by simp, fun i _ hi => Below.heap_setCell _ _ _ i (fun e => hi (by rw [e]))⟩
theorem Go1.up {p : Nat} {a w w' : World} (h : Gr a w) (k : Go1 p w w') (hp : a.heap.size ≤ p) : Gr a w' := h.grown k (fun g hg => by cases hg; exact hp)
theorem Go1.cell {p : Nat} {w w' : World} {b i : Nat} (h : Go1 p w w') (hb : b < w.heap.size) (hne : b ≠ p) : w'.cell? ⟨b, i, none⟩ = w.cell? ⟨b, i, none⟩ :=
  World.cell?_of_block (h.block b hb (fun e => hne (by cases e; rfl)))
theorem Go1.keep {p : Nat} {w w' : World} {b i : Nat} {u : Value} (h : Go1 p w w') (hc : w.cell? ⟨b, i, none⟩ = some u) (hne : b ≠ p) : w'.cell? ⟨b, i, none⟩ = some u := by
  rw [h.cell (lt_of_cell hc) hne]; exact hc
theorem at_go {α : Type} {f : α → List Value} {n p : Nat} {w w' : World} {oa : Option Addr} {l : List α} (h : AtF f n w oa l) (hg : Go1 p w w') (hne : ∀ b off q, oa = some ⟨b, off, q⟩ → b ≠ p) : AtF f n w' oa l := by
  rcases h with h | ⟨b, off, e1, hb, hr⟩
  · exact .inl h
  · exact .inr ⟨b, off, e1, Nat.lt_of_lt_of_le hb hg.size, fun i hi j u hu => hg.keep (hr i hi j u hu) (hne b off none e1)⟩
def tF (t : Lx.Tok) : List Value := [.int .i64 (t.tk.kind : Int), .string (txt t.tk.text), .int .i64 (t.tk.num : Int), .int .i64 (t.pos : Int)]
theorem tE : Enc tF 4 := ⟨fun _ => rfl, fun x u hu => by simp [tF] at hu; rcases hu with rfl | rfl | rfl | rfl <;> rfl, by omega⟩
abbrev TAt := AtF tF 4
theorem t_get {w : World} {oa : Option Addr} {l : List Lx.Tok} (h : TAt w oa l) (k : Nat) (hk : k < l.length) : ∃ b off, oa = some ⟨b, off, none⟩ ∧ b < w.heap.size ∧
    w.cell? ⟨b, off + k * 4, none⟩ = some (.int .i64 (l[k].tk.kind : Int)) ∧ w.cell? ⟨b, off + k * 4 + 1, none⟩ = some (.string (txt l[k].tk.text)) ∧ w.cell? ⟨b, off + k * 4 + 2, none⟩ = some (.int .i64 (l[k].tk.num : Int)) ∧ w.cell? ⟨b, off + k * 4 + 3, none⟩ = some (.int .i64 (l[k].pos : Int)) := by
  obtain ⟨b, off, e, hb, hc⟩ := h.get k hk
  refine ⟨b, off, e, hb, ?_, hc 1 _ rfl, hc 2 _ rfl, hc 3 _ rfl⟩
  have := hc 0 _ rfl
  simpa using this
structure TokOk (l : List Lx.Tok) : Prop where
  last : ∃ r t, l = r ++ [t] ∧ t.tk.kind = 5
  text : ∀ t ∈ l, t.tk.text.length ≤ 4096
theorem TokOk.pos {l : List Lx.Tok} (h : TokOk l) : 0 < l.length := by
  obtain ⟨r, t, rfl, _⟩ := h.last
  simp
theorem TokOk.tail {t : Lx.Tok} {r : List Lx.Tok} (h : TokOk (t :: r)) (hk : t.tk.kind ≠ 5) : TokOk r := by
  obtain ⟨q, u, e, hu⟩ := h.last
  cases q with
  | nil => simp at e; exact absurd (by rw [e.1]; exact hu) hk
  | cons a q => simp at e; exact ⟨⟨q, u, e.2, hu⟩, fun x hx => h.text x (by simp [hx])⟩
structure PR (p : Nat) (w : World) (l : List Lx.Tok) (d e a : Int) : Prop where
  ex : ∃ oa c, w.heap[p]? = some (.cells #[.slice oa l.length c, .int .i64 d, .int .i64 e, .int .i64 a] 69 (0, 0)) ∧ l.length ≤ c ∧ TAt w oa l ∧ ∀ b off q, oa = some ⟨b, off, q⟩ → b < p
  tok : TokOk l
  gl : ∃ m, w.cell? ⟨0, 0, none⟩ = some (.int .i64 m)
  p0 : 0 < p
theorem PR.lt {p : Nat} {w : World} {l : List Lx.Tok} {d e a : Int} (h : PR p w l d e a) : p < w.heap.size := by
  obtain ⟨oa, c, hh, _⟩ := h.ex
  exact (Array.getElem?_eq_some_iff.1 hh).1
theorem PR.keep {p : Nat} {w w' : World} {l : List Lx.Tok} {d e a : Int} (h : PR p w l d e a) (hg : Gr w w') : PR p w' l d e a := by
  obtain ⟨oa, c, hh, hc, hat, hne⟩ := h.ex
  obtain ⟨m, hm⟩ := h.gl
  exact ⟨⟨oa, c, by rw [hg.block p h.lt]; exact hh, hc, hat.keep hg, hne⟩, h.tok, ⟨m, hg.keep hm⟩, h.p0⟩
def PS (p : Nat) (w : World) : Ps → Prop
  | .ok l d => d ≤ 24 ∧ PR p w l d 0 0
  | .bad e a => e ≠ 0 ∧ ∃ l d, PR p w l d e (a : Int)
theorem PS.lt {p : Nat} {w : World} {s : Ps} (h : PS p w s) : p < w.heap.size := by
  cases s with
  | ok l d => exact h.2.lt
  | bad e a => obtain ⟨_, l, d, h⟩ := h; exact h.lt
theorem PS.keep {p : Nat} {w w' : World} {s : Ps} (h : PS p w s) (hg : Gr w w') : PS p w' s := by
  cases s with
  | ok l d => exact ⟨h.1, h.2.keep hg⟩
  | bad e a => obtain ⟨he, l, d, h⟩ := h; exact ⟨he, l, d, h.keep hg⟩
theorem at_low {α : Type} {f : α → List Value} {n p : Nat} {w w' : World} {oa : Option Addr} {l : List α} (h : AtF f n w oa l) (hz : w.heap.size ≤ w'.heap.size) (hb : ∀ i, i ≤ p → i < w.heap.size → w'.heap[i]? = w.heap[i]?) (hne : ∀ b off q, oa = some ⟨b, off, q⟩ → b < p) : AtF f n w' oa l := by
  rcases h with h | ⟨b, off, e1, hl, hr⟩
  · exact .inl h
  · have := hne b off none e1
    exact .inr ⟨b, off, e1, Nat.lt_of_lt_of_le hl hz, fun i hi j u hu => by rw [World.cell?_of_block (w := w) (hb b (by omega) hl)]; exact hr i hi j u hu⟩
theorem PR.low {p : Nat} {w w' : World} {l : List Lx.Tok} {d e a : Int} (h : PR p w l d e a) (hz : w.heap.size ≤ w'.heap.size) (hb : ∀ i, i ≤ p → i < w.heap.size → w'.heap[i]? = w.heap[i]?) : PR p w' l d e a := by
  obtain ⟨oa, c, hh, hc, hat, hne⟩ := h.ex
  obtain ⟨m, hm⟩ := h.gl
  have hp0 := h.p0
  exact ⟨⟨oa, c, by rw [hb p (Nat.le_refl _) h.lt]; exact hh, hc, at_low hat hz hb hne, hne⟩, h.tok, ⟨m, by rw [World.cell?_of_block (w := w) (hb 0 (by omega) (by have := h.lt; omega))]; exact hm⟩, h.p0⟩
theorem PS.low {p : Nat} {w w' : World} {s : Ps} (h : PS p w s) (hz : w.heap.size ≤ w'.heap.size) (hb : ∀ i, i ≤ p → i < w.heap.size → w'.heap[i]? = w.heap[i]?) : PS p w' s := by
  cases s with
  | ok l d => exact ⟨h.1, h.2.low hz hb⟩
  | bad e a => obtain ⟨he, l, d, h⟩ := h; exact ⟨he, l, d, h.low hz hb⟩
theorem PS.go {p b : Nat} {w w' : World} {s : Ps} (h : PS p w s) (hg : Go1 b w w') (hpb : p < b) : PS p w' s := h.low hg.size (fun i hi hl => hg.block i hl (fun e => by cases e; omega))
theorem Go1.get {p b : Nat} {w w' : World} (h : Go1 p w w') (hb : b < w.heap.size) (hne : b ≠ p) : w'.heap[b]? = w.heap[b]? := h.block b hb (fun e => hne (by cases e; rfl))
theorem cells_set {w : World} {p : Nat} {l : List Value} {T : TypeId} (k : Nat) (u : Value) (h : w.heap[p]? = some (.cells l.toArray T (0, 0))) : (w.setCell ⟨p, k, none⟩ u).heap[p]? = some (.cells (l.set k u).toArray T (0, 0)) := by
  simp [World.setCell, Array.getElem?_modify, h]
def Pm (p : Nat) (w : World) (u : Value) (s : Ps) (e : Ending) (w' : World) : Prop := e = .returned u ∧ PS p w' s ∧ Go1 p w w'
theorem Pm.mk {p : Nat} {w : World} {u : Value} {s : Ps} {w' : World} (h1 : PS p w' s) (h2 : Go1 p w w') : Pm p w u s (.returned u) w' := ⟨rfl, h1, h2⟩
structure XR where
  h : Hd
  oa : Option Addr
  n : Nat
  cap : Nat
def XR.val (r : XR) : Value := .agg #[.int .i64 r.h.op, .int .i64 r.h.v.t, .int .i64 r.h.v.n, .string r.h.v.s, .bool r.h.v.b, .string r.h.tab, .string r.h.name, .int .i64 r.h.t, .int .i64 r.h.c, .bool r.h.nt, .bool r.h.st, .slice r.oa r.n r.cap]
def xF (r : XR) : List Value := [.int .i64 r.h.op, .int .i64 r.h.v.t, .int .i64 r.h.v.n, .string r.h.v.s, .bool r.h.v.b, .string r.h.tab, .string r.h.name, .int .i64 r.h.t, .int .i64 r.h.c, .bool r.h.nt, .bool r.h.st, .slice r.oa r.n r.cap]
theorem xE : Enc xF 12 := ⟨fun _ => rfl, fun x u hu => by simp [xF] at hu; rcases hu with rfl | rfl | rfl | rfl | rfl | rfl | rfl | rfl | rfl | rfl | rfl | rfl <;> rfl, by omega⟩
def XRow (S : Nat → Prop) (w : World) (oa : Option Addr) (rs : List XR) : Prop := rs = [] ∨ ∃ b off, oa = some ⟨b, off, none⟩ ∧ b < w.heap.size ∧ S b ∧ (∀ j, w.frozen? ⟨b, j, none⟩ = false) ∧ RowF xF 12 w b off rs
theorem XRow.of {S : Nat → Prop} {w w' : World} {oa : Option Addr} {rs : List XR} (h : XRow S w oa rs) (hz : w.heap.size ≤ w'.heap.size) (hb : ∀ b, S b → b < w.heap.size → w'.heap[b]? = w.heap[b]?) : XRow S w' oa rs := by
  rcases h with h | ⟨b, off, e, hl, hs, hf, hr⟩
  · exact .inl h
  · exact .inr ⟨b, off, e, Nat.lt_of_lt_of_le hl hz, hs, fun j => by unfold World.frozen?; rw [hb b hs hl]; exact hf j, fun i hi j u hu => by rw [World.cell?_of_block (w := w) (hb b hs hl)]; exact hr i hi j u hu⟩
theorem XRow.mono {S S' : Nat → Prop} {w : World} {oa : Option Addr} {rs : List XR} (h : XRow S w oa rs) (hS : ∀ b, b < w.heap.size → S b → S' b) : XRow S' w oa rs := by
  rcases h with h | ⟨b, off, e, hl, hs, hf, hr⟩
  · exact .inl h
  · exact .inr ⟨b, off, e, hl, hS b hl hs, hf, hr⟩
theorem XRow.at {S : Nat → Prop} {w : World} {oa : Option Addr} {rs : List XR} (h : XRow S w oa rs) : AtF xF 12 w oa rs := by
  rcases h with h | ⟨b, off, e, hl, hs, hf, hr⟩
  · exact .inl h
  · exact .inr ⟨b, off, e, hl, hr⟩
def Fit (n c : Nat) : Prop := n ≤ c ∧ n ≤ 2000000
theorem fit_le (n : Nat) (h : n ≤ 2000000) : Fit n n := ⟨Nat.le_refl n, h⟩
mutual
def Ex.At (S : Nat → Prop) (w : World) : Ex → XR → Prop
  | .mk h ks, r => r.h = h ∧ r.n = ks.length ∧ Fit r.n r.cap ∧ ∃ rs, rs.length = ks.length ∧ XRow S w r.oa rs ∧ Exs.At S w ks rs
def Exs.At (S : Nat → Prop) (w : World) : List Ex → List XR → Prop
  | [], rs => rs = []
  | x :: xs, rs => ∃ r rr, rs = r :: rr ∧ Ex.At S w x r ∧ Exs.At S w xs rr
end
mutual
theorem Ex.At.of {S : Nat → Prop} {w w' : World} (hz : w.heap.size ≤ w'.heap.size) (hb : ∀ b, S b → b < w.heap.size → w'.heap[b]? = w.heap[b]?) : ∀ {x : Ex} {r : XR}, Ex.At S w x r → Ex.At S w' x r
  | .mk h ks, r, hx => by
    unfold Ex.At at hx ⊢
    obtain ⟨h1, h2, h3, rs, h4, h5, h6⟩ := hx
    exact ⟨h1, h2, h3, rs, h4, h5.of hz hb, Exs.At.of hz hb h6⟩
theorem Exs.At.of {S : Nat → Prop} {w w' : World} (hz : w.heap.size ≤ w'.heap.size) (hb : ∀ b, S b → b < w.heap.size → w'.heap[b]? = w.heap[b]?) : ∀ {xs : List Ex} {rs : List XR}, Exs.At S w xs rs → Exs.At S w' xs rs
  | [], rs, hx => by unfold Exs.At at hx ⊢; exact hx
  | x :: xs, rs, hx => by
    unfold Exs.At at hx ⊢
    obtain ⟨r, rr, h1, h2, h3⟩ := hx
    exact ⟨r, rr, h1, Ex.At.of hz hb h2, Exs.At.of hz hb h3⟩
end
mutual
theorem Ex.At.mono {S S' : Nat → Prop} {w : World} (hS : ∀ b, b < w.heap.size → S b → S' b) : ∀ {x : Ex} {r : XR}, Ex.At S w x r → Ex.At S' w x r
  | .mk h ks, r, hx => by
    unfold Ex.At at hx ⊢
    obtain ⟨h1, h2, h3, rs, h4, h5, h6⟩ := hx
    exact ⟨h1, h2, h3, rs, h4, h5.mono hS, Exs.At.mono hS h6⟩
theorem Exs.At.mono {S S' : Nat → Prop} {w : World} (hS : ∀ b, b < w.heap.size → S b → S' b) : ∀ {xs : List Ex} {rs : List XR}, Exs.At S w xs rs → Exs.At S' w xs rs
  | [], rs, hx => by unfold Exs.At at hx ⊢; exact hx
  | x :: xs, rs, hx => by
    unfold Exs.At at hx ⊢
    obtain ⟨r, rr, h1, h2, h3⟩ := hx
    exact ⟨r, rr, h1, Ex.At.mono hS h2, Exs.At.mono hS h3⟩
end
theorem Exs.At.len {S : Nat → Prop} {w : World} : ∀ {xs : List Ex} {rs : List XR}, Exs.At S w xs rs → rs.length = xs.length
  | [], rs, h => by unfold Exs.At at h; rw [h]; rfl
  | x :: xs, rs, h => by
    unfold Exs.At at h
    obtain ⟨r, rr, rfl, _, h3⟩ := h
    simp [h3.len]
theorem Exs.At.snoc {S : Nat → Prop} {w : World} {x : Ex} {r : XR} (hx : Ex.At S w x r) : ∀ {xs : List Ex} {rs : List XR}, Exs.At S w xs rs → Exs.At S w (xs ++ [x]) (rs ++ [r])
  | [], rs, h => by unfold Exs.At at h; subst h; unfold Exs.At; exact ⟨r, [], rfl, hx, by unfold Exs.At; rfl⟩
  | y :: xs, rs, h => by
    unfold Exs.At at h
    obtain ⟨q, rr, rfl, h2, h3⟩ := h
    show Exs.At S w (y :: (xs ++ [x])) (q :: (rr ++ [r]))
    unfold Exs.At
    exact ⟨q, rr ++ [r], rfl, h2, h3.snoc hx⟩
theorem Exs.At.nil {S : Nat → Prop} {w : World} : Exs.At S w [] [] := by unfold Exs.At; rfl
theorem Exs.At.cons {S : Nat → Prop} {w : World} {x : Ex} {r : XR} {xs : List Ex} {rs : List XR} (hx : Ex.At S w x r) (h : Exs.At S w xs rs) : Exs.At S w (x :: xs) (r :: rs) := by unfold Exs.At; exact ⟨r, rs, rfl, hx, h⟩
theorem Exs.At.get {S : Nat → Prop} {w : World} : ∀ {xs : List Ex} {rs : List XR}, Exs.At S w xs rs → ∀ (k : Nat) (h1 : k < xs.length) (h2 : k < rs.length), Ex.At S w xs[k] rs[k]
  | [], rs, h, k, h1, _ => by simp at h1
  | x :: xs, rs, h, k, h1, h2 => by
    unfold Exs.At at h
    obtain ⟨r, rr, rfl, h3, h4⟩ := h
    cases k with
    | zero => exact h3
    | succ k => exact h4.get k (by simpa using h1) (by simpa using h2)
def XsAt (S : Nat → Prop) (w : World) (xs : List Ex) (oa : Option Addr) (n cap : Nat) : Prop := n = xs.length ∧ Fit n cap ∧ ∃ rs, rs.length = xs.length ∧ XRow S w oa rs ∧ Exs.At S w xs rs
theorem XsAt.of {S : Nat → Prop} {w w' : World} {xs : List Ex} {oa : Option Addr} {n cap : Nat} (h : XsAt S w xs oa n cap) (hz : w.heap.size ≤ w'.heap.size) (hb : ∀ b, S b → b < w.heap.size → w'.heap[b]? = w.heap[b]?) : XsAt S w' xs oa n cap := by
  obtain ⟨h1, h2, rs, h3, h4, h5⟩ := h
  exact ⟨h1, h2, rs, h3, h4.of hz hb, h5.of hz hb⟩
theorem XsAt.mono {S S' : Nat → Prop} {w : World} {xs : List Ex} {oa : Option Addr} {n cap : Nat} (h : XsAt S w xs oa n cap) (hS : ∀ b, b < w.heap.size → S b → S' b) : XsAt S' w xs oa n cap := by
  obtain ⟨h1, h2, rs, h3, h4, h5⟩ := h
  exact ⟨h1, h2, rs, h3, h4.mono hS, h5.mono hS⟩
theorem Ex.At.list {S : Nat → Prop} {w : World} {h : Hd} {ks : List Ex} {r : XR} : Ex.At S w (.mk h ks) r ↔ r.h = h ∧ XsAt S w ks r.oa r.n r.cap := by
  unfold Ex.At XsAt
  exact Iff.rfl
abbrev Nw (w : World) : Nat → Prop := fun b => w.heap.size ≤ b
def Rx (p : Nat) (w : World) (q : Ex × Ps) (u : Value) (w' : World) : Prop := ∃ r x, u = r.val ∧ Ex.At (Nw w) w' x r ∧ PS p w' q.2 ∧ Go1 p w w' ∧ (q.2.good = true → x = q.1)
def Px (p : Nat) (w : World) (q : Ex × Ps) (e : Ending) (w' : World) : Prop := ∃ u, e = .returned u ∧ Rx p w q u w'
def Rxs (p : Nat) (w : World) (q : List Ex × Ps) (u : Value) (w' : World) : Prop := ∃ oa n cap xs, u = .slice oa n cap ∧ XsAt (Nw w) w' xs oa n cap ∧ PS p w' q.2 ∧ Go1 p w w' ∧ n ≤ 1000001 ∧ (oa = none → cap = 0) ∧ (q.2.good = true → xs = q.1)
def Pxs (p : Nat) (w : World) (q : List Ex × Ps) (e : Ending) (w' : World) : Prop := ∃ u, e = .returned u ∧ Rxs p w q u w'
def lenAt (p : Nat) (w : World) : Nat := match w.cell? ⟨p, 2, none⟩, w.cell? ⟨p, 0, none⟩ with
  | some (.int _ 0), some (.slice _ n _) => n
  | _, _ => 0
theorem lenAt_ps {p : Nat} {w : World} {s : Ps} (h : PS p w s) : lenAt p w = s.size := by
  match s, h with
  | .ok l d, h =>
    obtain ⟨oa, c, hh, _⟩ := h.2.ex
    unfold lenAt
    rw [Rg.blk_cells hh 2, Rg.blk_cells hh 0]
    rfl
  | .bad e a, h =>
    obtain ⟨he, l, d, h⟩ := h
    obtain ⟨oa, c, hh, _⟩ := h.ex
    unfold lenAt
    rw [Rg.blk_cells hh 2, Rg.blk_cells hh 0]
    simp only [List.getElem?_toArray, List.getElem?_cons_zero, List.getElem?_cons_succ]
    split
    · rename_i h1 h2
      simp at h1
      exact absurd h1.2 he
    · rfl
def Rd (f : Nat) (q : Pa Ex) (p N : Nat) : Prop := ∀ s w, PS p w s → s.size ≤ N → Calls Tryz.prog f #[.pointer (some ⟨p, 0, none⟩)] w (Px p w (q s))
def Rds (f : Nat) (q : Pa (List Ex)) (p N : Nat) : Prop := ∀ s w, PS p w s → s.size ≤ N → Calls Tryz.prog f #[.pointer (some ⟨p, 0, none⟩)] w (Pxs p w (q s))
theorem set12 {w : World} {b : Nat} {T : TypeId} {a0 a1 a2 a3 a4 a5 a6 a7 a8 a9 a10 a11 : Value} (h : w.heap[b]? = some (.cells #[a0, a1, a2, a3, a4, a5, a6, a7, a8, a9, a10, a11] T (0, 0))) (b0 b1 b2 b3 b4 b5 b6 b7 b8 b9 b10 b11 : Value) :
    ((((((((((((w.setCell ⟨b, 0, none⟩ b0).setCell ⟨b, 1, none⟩ b1).setCell ⟨b, 2, none⟩ b2).setCell ⟨b, 3, none⟩ b3).setCell ⟨b, 4, none⟩ b4).setCell ⟨b, 5, none⟩ b5).setCell ⟨b, 6, none⟩ b6).setCell ⟨b, 7, none⟩ b7).setCell ⟨b, 8, none⟩ b8).setCell ⟨b, 9, none⟩ b9).setCell ⟨b, 10, none⟩ b10).setCell ⟨b, 11, none⟩ b11).heap[b]? = some (.cells #[b0, b1, b2, b3, b4, b5, b6, b7, b8, b9, b10, b11] T (0, 0)) :=
  cells_set (l := [b0, b1, b2, b3, b4, b5, b6, b7, b8, b9, b10, a11]) 11 b11 (cells_set (l := [b0, b1, b2, b3, b4, b5, b6, b7, b8, b9, a10, a11]) 10 b10 (cells_set (l := [b0, b1, b2, b3, b4, b5, b6, b7, b8, a9, a10, a11]) 9 b9 (cells_set (l := [b0, b1, b2, b3, b4, b5, b6, b7, a8, a9, a10, a11]) 8 b8 (cells_set (l := [b0, b1, b2, b3, b4, b5, b6, a7, a8, a9, a10, a11]) 7 b7 (cells_set (l := [b0, b1, b2, b3, b4, b5, a6, a7, a8, a9, a10, a11]) 6 b6 (cells_set (l := [b0, b1, b2, b3, b4, a5, a6, a7, a8, a9, a10, a11]) 5 b5 (cells_set (l := [b0, b1, b2, b3, a4, a5, a6, a7, a8, a9, a10, a11]) 4 b4 (cells_set (l := [b0, b1, b2, a3, a4, a5, a6, a7, a8, a9, a10, a11]) 3 b3 (cells_set (l := [b0, b1, a2, a3, a4, a5, a6, a7, a8, a9, a10, a11]) 2 b2 (cells_set (l := [b0, a1, a2, a3, a4, a5, a6, a7, a8, a9, a10, a11]) 1 b1 (cells_set (l := [a0, a1, a2, a3, a4, a5, a6, a7, a8, a9, a10, a11]) 0 b0 h)))))))))))
theorem Go1.set12 (p : Nat) (w : World) (b0 b1 b2 b3 b4 b5 b6 b7 b8 b9 b10 b11 : Value) :
    Go1 p w ((((((((((((w.setCell ⟨p, 0, none⟩ b0).setCell ⟨p, 1, none⟩ b1).setCell ⟨p, 2, none⟩ b2).setCell ⟨p, 3, none⟩ b3).setCell ⟨p, 4, none⟩ b4).setCell ⟨p, 5, none⟩ b5).setCell ⟨p, 6, none⟩ b6).setCell ⟨p, 7, none⟩ b7).setCell ⟨p, 8, none⟩ b8).setCell ⟨p, 9, none⟩ b9).setCell ⟨p, 10, none⟩ b10).setCell ⟨p, 11, none⟩ b11) :=
  ((((((((((((Go1.set p 0 _ _).trans (Go1.set p 1 _ _)).trans (Go1.set p 2 _ _)).trans (Go1.set p 3 _ _)).trans (Go1.set p 4 _ _)).trans (Go1.set p 5 _ _)).trans (Go1.set p 6 _ _)).trans (Go1.set p 7 _ _)).trans (Go1.set p 8 _ _)).trans (Go1.set p 9 _ _)).trans (Go1.set p 10 _ _)).trans (Go1.set p 11 _ _))
abbrev XR.cells (r : XR) : Array Value := #[.int .i64 r.h.op, .int .i64 r.h.v.t, .int .i64 r.h.v.n, .string r.h.v.s, .bool r.h.v.b, .string r.h.tab, .string r.h.name, .int .i64 r.h.t, .int .i64 r.h.c, .bool r.h.nt, .bool r.h.st, .slice r.oa r.n r.cap]
theorem x_info : (Tryz.prog.info? 26).map (fun i => (i.zero, i.size, i.bytes)) = some (some (.agg #[.int .i64 0, .int .i64 0, .int .i64 0, .string ⟨#[]⟩, .bool false, .string ⟨#[]⟩, .string ⟨#[]⟩, .int .i64 0, .int .i64 0, .bool false, .bool false, .slice none 0 0]), 12, 128) := by kernel_rfl
end Go.Proofs.YtbeinfhgfflneaaGreat
end
section
namespace Go.Proofs.YtbeinfhgfflneaaGreat
open Go.RowKit
set_option linter.unusedSimpArgs false
set_option linter.unusedVariables false
def Al : Nat → Prop := fun _ => True
def Vp (q : V × Int) (w : World) (e : Ending) (w' : World) : Prop := e = pairR q ∧ Gr w w'
theorem Vp.mk {q : V × Int} {w w' : World} (h : Gr w w') : Vp q w (pairR q) w' := ⟨rfl, h⟩
theorem Vp.own {q : V × Int} {w a w' : World} {e : Ending} (h : Gr w a) (k : Vp q a e w') : Vp q w e w' := ⟨k.1, h.trans k.2⟩
def RowsAt (w : World) (oa : Option Addr) (rows : List (List V)) : Prop := rows = [] ∨ ∃ b off, oa = some ⟨b, off, none⟩ ∧ b < w.heap.size ∧ ∀ k (h : k < rows.length), ∃ oi c, w.cell? ⟨b, off + k, none⟩ = some (.slice oi rows[k].length c) ∧ VAt w oi rows[k]
theorem RowsAt.keep {w w' : World} {oa : Option Addr} {rows : List (List V)} (h : RowsAt w oa rows) (hg : Gr w w') : RowsAt w' oa rows := by
  rcases h with h | ⟨b, off, e, hl, hr⟩
  · exact .inl h
  · refine .inr ⟨b, off, e, Nat.lt_of_lt_of_le hl hg.size, fun k hk => ?_⟩
    obtain ⟨oi, c, h1, h2⟩ := hr k hk
    exact ⟨oi, c, hg.keep h1, h2.keep hg⟩
structure EnvAt (p : Nat) (w : World) (rows : List (List V)) (ag : Ex → V × Int) : Prop where
  ex : ∃ oa c v2 v3, w.heap[p]? = some (.cells #[.slice oa rows.length c, v2, v3] 58 (0, 0)) ∧ RowsAt w oa rows
  agg : ∀ W x r, Gr w W → Ex.At Al W x r → Calls Tryz.prog 44 #[.pointer (some ⟨p, 0, none⟩), XR.val r] W (Vp (ag x) W)
theorem EnvAt.lt {p : Nat} {w : World} {rows : List (List V)} {ag : Ex → V × Int} (h : EnvAt p w rows ag) : p < w.heap.size := by
  obtain ⟨oa, c, v2, v3, hh, _⟩ := h.ex
  exact (Array.getElem?_eq_some_iff.1 hh).1
theorem EnvAt.keep {p : Nat} {w w' : World} {rows : List (List V)} {ag : Ex → V × Int} (h : EnvAt p w rows ag) (hg : Gr w w') : EnvAt p w' rows ag := by
  obtain ⟨oa, c, v2, v3, hh, hr⟩ := h.ex
  exact ⟨⟨oa, c, v2, v3, by rw [hg.block p h.lt]; exact hh, hr.keep hg⟩, fun W x r hW hx => h.agg W x r (hg.trans hW) hx⟩
def KD (p : Nat) (w : World) (oa : Option Addr) (n : Nat) (rs : List (V × Int)) : Prop := n = rs.length ∧ n ≤ 2000000 ∧ ∀ k (h : k < rs.length), ∃ b off rk, oa = some ⟨b, off, none⟩ ∧ b < w.heap.size ∧ (∀ i u, (xF rk)[i]? = some u → w.cell? ⟨b, off + k * 12 + i, none⟩ = some u) ∧ ∀ W, Gr w W → Calls Tryz.prog 18 #[.pointer (some ⟨p, 0, none⟩), XR.val rk] W (Vp rs[k] W)
theorem KD.keep {p : Nat} {w w' : World} {oa : Option Addr} {n : Nat} {rs : List (V × Int)} (h : KD p w oa n rs) (hg : Gr w w') : KD p w' oa n rs :=
  ⟨h.1, h.2.1, fun k hk => by
    obtain ⟨b, off, rk, h1, h2, h3, h4⟩ := h.2.2 k hk
    exact ⟨b, off, rk, h1, Nat.lt_of_lt_of_le h2 hg.size, fun i u hu => hg.keep (h3 i u hu), fun W hW => h4 W (hg.trans hW)⟩⟩
theorem kd_of {p : Nat} {w : World} {rows : List (List V)} {ag : Ex → V × Int} {h : Hd} {ks : List Ex} {r : XR} (hE : EnvAt p w rows ag) (hx : Ex.At Al w (.mk h ks) r)
    (hk : ∀ y, y ∈ ks → ∀ r' W, EnvAt p W rows ag → Ex.At Al W y r' → Calls Tryz.prog 18 #[.pointer (some ⟨p, 0, none⟩), XR.val r'] W (Vp (evX rows ag y) W)) : KD p w r.oa r.n (evXs rows ag ks) := by
  unfold Ex.At at hx
  obtain ⟨h1, h2, h3, rs, h4, h5, h6⟩ := hx
  have hl := evXs_len rows ag ks
  refine ⟨by omega, h3.2, fun k hk' => ?_⟩
  have hkk : k < ks.length := by omega
  have hkr : k < rs.length := by omega
  rcases h5 with h0 | ⟨b, off, hoa, hbl, hSb, hfr, hr⟩
  · rw [h0] at hkr; simp at hkr
  · refine ⟨b, off, rs[k], hoa, hbl, hr k hkr, fun W hW => ?_⟩
    rw [evXs_get rows ag ks k hkk]
    exact hk _ (List.getElem_mem hkk) _ W (hE.keep hW) ((h6.get k hkk hkr).of hW.size (fun b _ hb => hW.block b hb))
theorem kid_cells {w : World} {b o : Nat} {rk : XR} (h : ∀ i u, (xF rk)[i]? = some u → w.cell? ⟨b, o + i, none⟩ = some u) : w.cell? ⟨b, o, none⟩ = some (.int .i64 rk.h.op) ∧ w.cell? ⟨b, o + 1, none⟩ = some (.int .i64 rk.h.v.t) ∧ w.cell? ⟨b, o + 2, none⟩ = some (.int .i64 rk.h.v.n) ∧ w.cell? ⟨b, o + 3, none⟩ = some (.string rk.h.v.s) ∧ w.cell? ⟨b, o + 4, none⟩ = some (.bool rk.h.v.b) ∧ w.cell? ⟨b, o + 5, none⟩ = some (.string rk.h.tab) ∧ w.cell? ⟨b, o + 6, none⟩ = some (.string rk.h.name) ∧ w.cell? ⟨b, o + 7, none⟩ = some (.int .i64 rk.h.t) ∧ w.cell? ⟨b, o + 8, none⟩ = some (.int .i64 rk.h.c) ∧ w.cell? ⟨b, o + 9, none⟩ = some (.bool rk.h.nt) ∧ w.cell? ⟨b, o + 10, none⟩ = some (.bool rk.h.st) ∧ w.cell? ⟨b, o + 11, none⟩ = some (.slice rk.oa rk.n rk.cap) :=
  ⟨h 0 _ rfl, h 1 _ rfl, h 2 _ rfl, h 3 _ rfl, h 4 _ rfl, h 5 _ rfl, h 6 _ rfl, h 7 _ rfl, h 8 _ rfl, h 9 _ rfl, h 10 _ rfl, h 11 _ rfl⟩
theorem kd_get {p : Nat} {w : World} {oa : Option Addr} {n : Nat} {rs : List (V × Int)} (h : KD p w oa n rs) (k : Nat) (a : V × Int) (ha : rs[k]? = some a) : ∃ b off rk, oa = some ⟨b, off, none⟩ ∧ b < w.heap.size ∧ (∀ i u, (xF rk)[i]? = some u → w.cell? ⟨b, off + k * 12 + i, none⟩ = some u) ∧ ∀ W, Gr w W → Calls Tryz.prog 18 #[.pointer (some ⟨p, 0, none⟩), XR.val rk] W (Vp a W) := by
  obtain ⟨hk, e⟩ := List.getElem?_eq_some_iff.1 ha
  obtain ⟨b, off, rk, h1, h2, h3, h4⟩ := h.2.2 k hk
  rw [e] at h4
  exact ⟨b, off, rk, h1, h2, h3, h4⟩
end Go.Proofs.YtbeinfhgfflneaaGreat
end
section
namespace Go.Proofs.YtbeinfhgfflneaaGreat
open Go.RowKit
set_option linter.unusedSimpArgs false
set_option linter.unusedVariables false
attribute [local go_sem] Rg.leads_value Rg.leads_skip Rg.leads_enter Rg.brings_value Rg.brings_skip Rg.brings_enter Rg.bringsG_value Rg.bringsG_enter Rg.once_normal Rg.once_exit Rg.once_ret Rg.once_panic Rg.once_goto
theorem text_eq (l : List UInt8) (c : ByteArray) : ((txt l).toList == c.toList) = (l == c.data.toList) := by
  rw [ByteArray.toList_eq, ByteArray.toList_eq]
  simp [txt]
theorem kind_eq (a b : Nat) : ((a : Int) == (b : Int)) = (a == b) := ibeq' a b
set_option maxHeartbeats 4000000 in
set_option maxRecDepth 100000 in
theorem is_bad (p : Nat) (k : Int) (c : ByteArray) (l : List Lx.Tok) (d e a : Int) (w : World) (h : PR p w l d e a) (he : e ≠ 0) : Calls Tryz.prog 86 #[.pointer (some ⟨p, 0, none⟩), .int .i64 k, .string c] w fun x w' => x = .returned (.bool false) ∧ w' = w := by
  obtain ⟨oa, cap, hh, hc, hat, hne⟩ := h.ex
  have r2 := Rg.blk_cells hh 2
  simp only [List.getElem?_toArray, List.getElem?_cons_zero, List.getElem?_cons_succ] at r2
  have q1 : (e == 0) = false := by simpa using he
  clear h hat hne hh
  go_enter Tryz.func86, Tryz.ntmps86
  go_wp2
  go_ret
  exact ⟨rfl, rfl⟩
set_option maxHeartbeats 4000000 in
set_option maxRecDepth 100000 in
theorem is_ok (p : Nat) (k : Nat) (c : ByteArray) (t : Lx.Tok) (r : List Lx.Tok) (d a : Int) (w : World) (h : PR p w (t :: r) d 0 a) : Calls Tryz.prog 86 #[.pointer (some ⟨p, 0, none⟩), .int .i64 (k : Int), .string c] w fun x w' => x = .returned (.bool (t.tk.kind == k && t.tk.text == c.data.toList)) ∧ w' = w := by
  obtain ⟨oa, cap, hh, hc, hat, hne⟩ := h.ex
  have r2 := Rg.blk_cells hh 2
  have r0 := Rg.blk_cells hh 0
  simp only [List.getElem?_toArray, List.getElem?_cons_zero, List.getElem?_cons_succ] at r2 r0
  obtain ⟨b, off, hoa, hb, c0, c1, c2, c3⟩ := t_get hat 0 (by simp)
  simp only [List.getElem_cons_zero, Nat.zero_mul, Nat.add_zero] at c0 c1 c2 c3
  subst hoa
  obtain ⟨n, hn⟩ : ∃ n, (t :: r).length = n := ⟨_, rfl⟩
  have hn1 : 1 ≤ n := by rw [← hn]; simp
  rw [hn] at r0 hc
  have g2 : (0 : Int) < (n : Int) := by omega
  have HK := hid (kind_eq t.tk.kind k)
  have HT := hid (text_eq t.tk.text c)
  clear h hat hne hh hn
  generalize t.tk.kind = tk at *
  generalize txt t.tk.text = tx at *
  cases hB : ((tk : Int) == (k : Int)) with
  | false =>
    rw [← HK.out, hB]
    go_enter Tryz.func86, Tryz.ntmps86
    go_wp2
    go_ret
    exact ⟨rfl, rfl⟩
  | true =>
    rw [← HK.out, hB, ← HT.out]
    generalize hQ : (tx.toList == c.toList) = q at *
    go_enter Tryz.func86, Tryz.ntmps86
    go_wp2
    go_ret
    exact ⟨rfl, rfl⟩
theorem PR.nil {p : Nat} {w : World} {d e a : Int} (h : PR p w [] d e a) : False := by have := h.tok.pos; simp at this
theorem is_any (p : Nat) (k : Nat) (c : ByteArray) (s : Ps) (w : World) (h : PS p w s) : Calls Tryz.prog 86 #[.pointer (some ⟨p, 0, none⟩), .int .i64 (k : Int), .string c] w fun x w' => x = .returned (.bool (s.is k c)) ∧ w' = w := by
  match s, h with
  | .bad e a, h => obtain ⟨he, l, d, h⟩ := h; exact is_bad p k c l d e a w h he
  | .ok [] d, h => exact h.2.nil.elim
  | .ok (t :: r) d, h => exact is_ok p k c t r d 0 w h.2
theorem is1_any (p : Nat) (c : ByteArray) (s : Ps) (w : World) (h : PS p w s) : Calls Tryz.prog 86 #[.pointer (some ⟨p, 0, none⟩), .int .i64 1, .string c] w fun x w' => x = .returned (.bool (s.is 1 c)) ∧ w' = w := is_any p 1 c s w h
theorem is4_any (p : Nat) (c : ByteArray) (s : Ps) (w : World) (h : PS p w s) : Calls Tryz.prog 86 #[.pointer (some ⟨p, 0, none⟩), .int .i64 4, .string c] w fun x w' => x = .returned (.bool (s.is 4 c)) ∧ w' = w := is_any p 4 c s w h
theorem PR.set (k : Nat) (u : Value) {p : Nat} {w : World} {l : List Lx.Tok} {d e a : Int} (h : PR p w l d e a) : ∃ oa c, (w.setCell ⟨p, k, none⟩ u).heap[p]? = some (.cells ([.slice oa l.length c, .int .i64 d, .int .i64 e, .int .i64 a].set k u).toArray 69 (0, 0)) ∧ l.length ≤ c ∧ TAt (w.setCell ⟨p, k, none⟩ u) oa l ∧ (∀ b off q, oa = some ⟨b, off, q⟩ → b < p) ∧ ∃ m, (w.setCell ⟨p, k, none⟩ u).cell? ⟨0, 0, none⟩ = some (.int .i64 m) := by
  obtain ⟨oa, c, hh, hc, hat, hne⟩ := h.ex
  obtain ⟨m, hm⟩ := h.gl
  have hp0 := h.p0
  exact ⟨oa, c, cells_set k u hh, hc, at_go hat (Go1.set p k w u) (fun b off q e => Nat.ne_of_lt (hne b off q e)), hne, m, (Go1.set p k w u).keep hm (by omega)⟩
theorem PR.deep {p : Nat} {w : World} {l : List Lx.Tok} {d e a : Int} (h : PR p w l d e a) (d' : Int) : PR p (w.setCell ⟨p, 1, none⟩ (.int .i64 d')) l d' e a := by
  obtain ⟨oa, c, h1, h2, h3, h4, h5⟩ := h.set 1 (.int .i64 d')
  exact ⟨⟨oa, c, h1, h2, h3, h4⟩, h.tok, h5, h.p0⟩
theorem PR.err {p : Nat} {w : World} {l : List Lx.Tok} {d e a : Int} (h : PR p w l d e a) (e' a' : Int) : PR p ((w.setCell ⟨p, 2, none⟩ (.int .i64 e')).setCell ⟨p, 3, none⟩ (.int .i64 a')) l d e' a' := by
  have h0 : PR p (w.setCell ⟨p, 2, none⟩ (.int .i64 e')) l d e' a := by
    obtain ⟨oa, c, h1, h2, h3, h4, h5⟩ := h.set 2 (.int .i64 e')
    exact ⟨⟨oa, c, h1, h2, h3, h4⟩, h.tok, h5, h.p0⟩
  obtain ⟨oa, c, h1, h2, h3, h4, h5⟩ := h0.set 3 (.int .i64 a')
  exact ⟨⟨oa, c, h1, h2, h3, h4⟩, h.tok, h5, h.p0⟩
theorem PR.next {p b off c : Nat} {w : World} {t : Lx.Tok} {r : List Lx.Tok} {d e a : Int} (h : PR p w (t :: r) d e a) (hh : w.heap[p]? = some (.cells #[.slice (some ⟨b, off, none⟩) (t :: r).length c, .int .i64 d, .int .i64 e, .int .i64 a] 69 (0, 0)))
    (hk : t.tk.kind ≠ 5) : PR p (w.setCell ⟨p, 0, none⟩ (.slice (some ⟨b, off + 4, none⟩) ((t :: r).length - 1) (c - 1))) r d e a := by
  obtain ⟨oa, c', h1, h2, h3, h4, h5⟩ := h.set 0 (.slice (some ⟨b, off + 4, none⟩) ((t :: r).length - 1) (c - 1))
  obtain ⟨oa0, c0, hh0, hc0, hat0, hne0⟩ := h.ex
  rw [hh] at hh0
  simp only [Option.some.injEq, Obj.cells.injEq, Array.mk.injEq, List.cons.injEq, Value.slice.injEq, and_true, true_and] at hh0
  obtain ⟨⟨rfl, _⟩, rfl⟩ := hh0
  rw [cells_set (l := [_, _, _, _]) 0 _ hh] at h1
  refine ⟨⟨some ⟨b, off + 4, none⟩, c - 1, cells_set (l := [_, _, _, _]) 0 _ hh, by simp at hc0; omega, ?_, fun b' o' q' e' => by cases e'; exact hne0 b off none rfl⟩, h.tok.tail hk, h5, h.p0⟩
  rcases at_go hat0 (Go1.set p 0 w (.slice (some ⟨b, off + 4, none⟩) ((t :: r).length - 1) (c - 1))) (fun b off q e => Nat.ne_of_lt (hne0 b off q e)) with h6 | ⟨b', off', e', hbl, hrow⟩
  · cases h6
  · cases e'
    refine .inr ⟨b, off + 4, rfl, hbl, fun k hk' j u hu => ?_⟩
    have := hrow (k + 1) (by simp; omega) j u (by simpa using hu)
    rw [show off + 4 + k * 4 + j = off + (k + 1) * 4 + j by omega]
    exact this
set_option maxHeartbeats 4000000 in
set_option maxRecDepth 100000 in
theorem fail_bad (p : Nat) (k : Int) (l : List Lx.Tok) (d e a : Int) (w : World) (h : PR p w l d e a) (he : e ≠ 0) : Calls Tryz.prog 37 #[.pointer (some ⟨p, 0, none⟩), .int .i64 k] w fun x w' => x = .returned (.tuple #[]) ∧ w' = w := by
  obtain ⟨oa, cap, hh, hc, hat, hne⟩ := h.ex
  have r2 := Rg.blk_cells hh 2
  simp only [List.getElem?_toArray, List.getElem?_cons_zero, List.getElem?_cons_succ] at r2
  have q1 : (e == 0) = false := by simpa using he
  clear h hat hne hh
  go_enter Tryz.func37, Tryz.ntmps37
  go_wp2
  exact ⟨rfl, .tuple #[], by simp [results, Tryz.results37], rfl, rfl⟩
set_option maxHeartbeats 4000000 in
set_option maxRecDepth 100000 in
theorem fail_ok (p : Nat) (k : Int) (t : Lx.Tok) (r : List Lx.Tok) (d a : Int) (w : World) (h : PR p w (t :: r) d 0 a) : Calls Tryz.prog 37 #[.pointer (some ⟨p, 0, none⟩), .int .i64 k] w fun x w' => x = .returned (.tuple #[]) ∧ w' = (w.setCell ⟨p, 2, none⟩ (.int .i64 k)).setCell ⟨p, 3, none⟩ (.int .i64 (t.pos : Int)) := by
  obtain ⟨oa, cap, hh, hc, hat, hne⟩ := h.ex
  have r2 := Rg.blk_cells hh 2
  have r0 := Rg.blk_cells hh 0
  have r3 := Rg.blk_cells hh 3
  have f2 := Rg.blk_free hh 2
  have f3 := Rg.blk_free hh 3
  simp only [List.getElem?_toArray, List.getElem?_cons_zero, List.getElem?_cons_succ] at r2 r0 r3
  obtain ⟨b, off, hoa, hb, c0, c1, c2, c3⟩ := t_get hat 0 (by simp)
  simp only [List.getElem_cons_zero, Nat.zero_mul, Nat.add_zero] at c0 c1 c2 c3
  have hbp : b ≠ p := Nat.ne_of_lt (hne b off none hoa)
  subst hoa
  obtain ⟨n, hn⟩ : ∃ n, (t :: r).length = n := ⟨_, rfl⟩
  have hn1 : 1 ≤ n := by rw [← hn]; simp
  rw [hn] at r0 hc
  have g2 : (0 : Int) < (n : Int) := by omega
  clear h hat hne hh hn
  go_enter Tryz.func37, Tryz.ntmps37
  go_wp2
  exact ⟨rfl, .tuple #[], by simp [results, Tryz.results37], rfl, rfl⟩
theorem fail_any (p : Nat) (k : Int) (s : Ps) (w : World) (h : PS p w s) (hk : k ≠ 0) : Calls Tryz.prog 37 #[.pointer (some ⟨p, 0, none⟩), .int .i64 k] w (Pm p w (.tuple #[]) (s.fail k)) := by
  match s, h with
  | .bad e a, h =>
    have h0 := h
    obtain ⟨he, l, d, h⟩ := h
    exact (fail_bad p k l d e a w h he).mono fun x w' ⟨h1, h2⟩ => ⟨h1, by rw [h2]; exact h0, by rw [h2]; exact .refl _ _⟩
  | .ok [] d, h => exact h.2.nil.elim
  | .ok (t :: r) d, h => exact (fail_ok p k t r d 0 w h.2).mono fun x w' ⟨h1, h2⟩ => ⟨h1, by rw [h2]; exact ⟨hk, _, _, h.2.err k _⟩, by rw [h2]; exact (Go1.set _ _ _ _).trans (Go1.set _ _ _ _)⟩
set_option maxHeartbeats 4000000 in
set_option maxRecDepth 100000 in
theorem wrong_any (p : Nat) (s : Ps) (w : World) (h : PS p w s) : Calls Tryz.prog 22 #[.pointer (some ⟨p, 0, none⟩)] w (Pm p w (.tuple #[]) (s.fail 180)) := by
  have H := fail_any p 180 s w h (by decide)
  go_enter Tryz.func22, Tryz.ntmps22
  go_wp2_with fail
  refine H.mono ?_
  rintro e w1 ⟨rfl, h1, h2⟩
  have HP : Hid (Pm p w (.tuple #[]) (s.fail 180) (.returned (.tuple #[])) w1) := hid ⟨rfl, h1, h2⟩
  generalize Pm p w (.tuple #[]) (s.fail 180) = Q at *
  clear H h h1 h2
  go_wp2
  exact ⟨rfl, .tuple #[], by simp [results, Tryz.results22], HP.out⟩
end Go.Proofs.YtbeinfhgfflneaaGreat
end
section
namespace Go.Proofs.YtbeinfhgfflneaaGreat
open Go.RowKit
set_option linter.unusedSimpArgs false
set_option linter.unusedVariables false
attribute [local go_sem] Rg.leads_value Rg.leads_skip Rg.leads_enter Rg.brings_value Rg.brings_skip Rg.brings_enter Rg.bringsG_value Rg.bringsG_enter Rg.once_normal Rg.once_exit Rg.once_ret Rg.once_panic Rg.once_goto
set_option maxHeartbeats 4000000 in
set_option maxRecDepth 100000 in
theorem step_ok (p : Nat) (t : Lx.Tok) (r : List Lx.Tok) (d e a : Int) (w : World) (h : PR p w (t :: r) d e a) (hk : t.tk.kind ≠ 5) : Calls Tryz.prog 89 #[.pointer (some ⟨p, 0, none⟩)] w fun x w' => x = .returned (.tuple #[]) ∧ PR p w' r d e a ∧ Go1 p w w' := by
  obtain ⟨oa, cap, hh, hc, hat, hne⟩ := h.ex
  have r0 := Rg.blk_cells hh 0
  have f0 := Rg.blk_free hh 0
  simp only [List.getElem?_toArray, List.getElem?_cons_zero, List.getElem?_cons_succ] at r0
  obtain ⟨b, off, hoa, hb, c0, c1, c2, c3⟩ := t_get hat 0 (by simp)
  simp only [List.getElem_cons_zero, Nat.zero_mul, Nat.add_zero] at c0 c1 c2 c3
  have hbp : b ≠ p := Nat.ne_of_lt (hne b off none hoa)
  have hr : 0 < r.length := (h.tok.tail hk).pos
  subst hoa
  have NX := hid (h.next hh hk)
  obtain ⟨n, hn⟩ : ∃ n, (t :: r).length = n := ⟨_, rfl⟩
  have hn1 : 2 ≤ n := by rw [← hn]; simp; omega
  rw [hn] at r0 hc NX
  have g2 : (0 : Int) < (n : Int) := by omega
  have g3 : (1 : Int) ≤ (n : Int) := by omega
  have g4 : decide ((1 : Int) ≤ (n : Int)) = true := by rw [decide_eq_true_iff]; omega
  have g5 : (n : Int) ≤ (cap : Int) := by omega
  have hc1 : cap ≠ 1 := by omega
  have hc2 : ¬ cap - 1 = 0 := by omega
  have q1 : ((t.tk.kind : Int) != 5) = true := by simp; omega
  clear hat hne hh hn hr h hk
  generalize t.tk.kind = tk at *
  go_enter Tryz.func89, Tryz.ntmps89
  go_wp2
  exact ⟨rfl, .tuple #[], by simp [results, Tryz.results89], rfl, NX.out, Go1.set _ _ _ _⟩
theorem step_any (p : Nat) (s : Ps) (w : World) (h : PS p w s) (hk : s.headK ≠ 5) (hg : s.good = true) : Calls Tryz.prog 89 #[.pointer (some ⟨p, 0, none⟩)] w (Pm p w (.tuple #[]) s.step) := by
  match s, h with
  | .bad e a, h => cases hg
  | .ok [] d, h => exact h.2.nil.elim
  | .ok (t :: r) d, h =>
    have hk' : t.tk.kind ≠ 5 := hk
    exact (step_ok p t r d 0 0 w h.2 hk').mono fun x w' ⟨h1, h2, h3⟩ => ⟨h1, by simp only [Ps.step, hk', if_false]; exact ⟨h.1, h2⟩, h3⟩
theorem is_head {s : Ps} {k : Nat} {c : ByteArray} (h : s.is k c = true) : s.good = true ∧ s.headK = k ∧ s.headT = c.data.toList := by
  match s, h with
  | .ok (t :: r) d, h => simp [Ps.is] at h; exact ⟨rfl, h.1, h.2⟩
set_option maxHeartbeats 4000000 in
set_option maxRecDepth 100000 in
theorem may_any (p : Nat) (k : Nat) (hk : k ≠ 5) (c : ByteArray) (s : Ps) (w : World) (h : PS p w s) : Calls Tryz.prog 66 #[.pointer (some ⟨p, 0, none⟩), .int .i64 (k : Int), .string c] w (Pm p w (.bool (s.is k c)) (s.may k c).2) := by
  have H := is_any p k c s w h
  cases hB : s.is k c with
  | false =>
    have HP : Hid (Pm p w (.bool false) (s.may k c).2 (.returned (.bool false)) w) := hid ⟨rfl, by simp [Ps.may, hB]; exact h, .refl _ _⟩
    rw [hB] at H
    generalize Pm p w (.bool false) (s.may k c).2 = Q at *
    clear h hk hB
    go_enter Tryz.func66, Tryz.ntmps66
    go_wp2_with fail
    refine H.mono ?_
    rintro e w1 ⟨rfl, rfl⟩
    go_wp2
    exact HP.out
  | true =>
    obtain ⟨h1, h2, h3⟩ := is_head hB
    have H2 := step_any p s w h (by rw [h2]; exact hk) h1
    have HP : Hid (∀ w', PS p w' s.step → Go1 p w w' → Pm p w (.bool true) (s.may k c).2 (.returned (.bool true)) w') := hid (fun w' a b => ⟨rfl, by simp [Ps.may, hB]; exact a, b⟩)
    rw [hB] at H
    generalize Pm p w (.bool true) (s.may k c).2 = Q at *
    clear h hk hB h1 h2 h3
    go_enter Tryz.func66, Tryz.ntmps66
    go_wp2_with fail
    refine H.mono ?_
    rintro e w1 ⟨rfl, rfl⟩
    go_wp2_with fail
    refine H2.mono ?_
    rintro e w2 ⟨rfl, h4, h5⟩
    have HR := hid (HP.out w2 h4 h5)
    clear h4 h5 HP H H2
    go_wp2
    exact HR.out
set_option maxHeartbeats 4000000 in
set_option maxRecDepth 100000 in
theorem word_any (p : Nat) (c : ByteArray) (s : Ps) (w : World) (h : PS p w s) : Calls Tryz.prog 35 #[.pointer (some ⟨p, 0, none⟩), .string c] w (Pm p w (.bool (s.is 1 c)) (s.may 1 c).2) := by
  have H : Calls Tryz.prog 66 #[.pointer (some ⟨p, 0, none⟩), .int .i64 1, .string c] w (Pm p w (.bool (s.is 1 c)) (s.may 1 c).2) := may_any p 1 (by decide) c s w h
  have HP : Hid (∀ w' u, Pm p w (.bool (s.is 1 c)) (s.may 1 c).2 u w' → u = .returned (.bool (s.is 1 c))) := hid (fun w' u h => h.1)
  generalize Pm p w (.bool (s.is 1 c)) (s.may 1 c).2 = Q at *
  generalize s.is 1 c = b at *
  clear h
  go_enter Tryz.func35, Tryz.ntmps35
  go_wp2_with fail
  refine H.mono ?_
  intro e w1 hq
  have he := HP.out w1 e hq
  subst he
  have HR := hid hq
  clear hq HP H
  go_wp2
  exact HR.out
set_option maxHeartbeats 4000000 in
set_option maxRecDepth 100000 in
theorem sign_any' (p : Nat) (c : ByteArray) (s : Ps) (w : World) (h : PS p w s) : Calls Tryz.prog 103 #[.pointer (some ⟨p, 0, none⟩), .string c] w (Pm p w (.bool (s.is 4 c)) (s.may 4 c).2) := by
  have H : Calls Tryz.prog 66 #[.pointer (some ⟨p, 0, none⟩), .int .i64 4, .string c] w (Pm p w (.bool (s.is 4 c)) (s.may 4 c).2) := may_any p 4 (by decide) c s w h
  have HP : Hid (∀ w' u, Pm p w (.bool (s.is 4 c)) (s.may 4 c).2 u w' → u = .returned (.bool (s.is 4 c))) := hid (fun w' u h => h.1)
  generalize Pm p w (.bool (s.is 4 c)) (s.may 4 c).2 = Q at *
  generalize s.is 4 c = b at *
  clear h
  go_enter Tryz.func103, Tryz.ntmps103
  go_wp2_with fail
  refine H.mono ?_
  intro e w1 hq
  have he := HP.out w1 e hq
  subst he
  have HR := hid hq
  clear hq HP H
  go_wp2
  exact HR.out
set_option maxHeartbeats 4000000 in
set_option maxRecDepth 100000 in
theorem must_any (p : Nat) (c : ByteArray) (s : Ps) (w : World) (h : PS p w s) : Calls Tryz.prog 123 #[.pointer (some ⟨p, 0, none⟩), .string c] w (Pm p w (.tuple #[]) (s.need 4 c)) := by
  have H := sign_any' p c s w h
  cases hB : s.is 4 c with
  | true =>
    have HP : Hid (∀ w', PS p w' (s.may 4 c).2 → Go1 p w w' → Pm p w (.tuple #[]) (s.need 4 c) (.returned (.tuple #[])) w') := hid (fun w' a b => ⟨rfl, by simp [Ps.may, Ps.need, hB] at a ⊢; exact a, b⟩)
    rw [hB] at H
    generalize Pm p w (.tuple #[]) (s.need 4 c) = Q at *
    go_enter Tryz.func123, Tryz.ntmps123
    go_wp2_with fail
    refine H.mono ?_
    rintro e w1 ⟨rfl, h4, h5⟩
    have HR := hid (HP.out w1 h4 h5)
    clear h4 h5 HP H h hB
    go_wp2
    exact ⟨rfl, .tuple #[], by simp [results, Tryz.results123], HR.out⟩
  | false =>
    have HP : Hid (∀ w' w2, PS p w2 (s.fail 180) → Go1 p w w' → Go1 p w' w2 → Pm p w (.tuple #[]) (s.need 4 c) (.returned (.tuple #[])) w2) := hid (fun w' w2 a b c => ⟨rfl, by simp [Ps.may, Ps.need, hB] at a ⊢; exact a, b.trans c⟩)
    have H2 := fun w h => wrong_any p s w h
    have e2 : (s.may 4 c).2 = s := by simp [Ps.may, hB]
    rw [hB, e2] at H
    generalize Pm p w (.tuple #[]) (s.need 4 c) = Q at *
    go_enter Tryz.func123, Tryz.ntmps123
    go_wp2_with fail
    refine H.mono ?_
    rintro e w1 ⟨rfl, h4, h5⟩
    go_wp2_with fail
    refine (H2 _ h4).mono ?_
    rintro e w2 ⟨rfl, h6, h7⟩
    have HR := hid (HP.out w1 w2 h6 h5 h7)
    clear h4 h5 h6 h7 HP H H2 h hB e2
    go_wp2
    exact ⟨rfl, .tuple #[], by simp [results, Tryz.results123], HR.out⟩
end Go.Proofs.YtbeinfhgfflneaaGreat
end
section
namespace Go.Proofs.YtbeinfhgfflneaaGreat
open Go.RowKit
set_option linter.unusedSimpArgs false
set_option linter.unusedVariables false
attribute [local go_sem] Rg.leads_value Rg.leads_skip Rg.leads_enter Rg.brings_value Rg.brings_skip Rg.brings_enter Rg.bringsG_value Rg.bringsG_enter Rg.once_normal Rg.once_exit Rg.once_ret Rg.once_panic Rg.once_goto
set_option maxHeartbeats 4000000 in
set_option maxRecDepth 100000 in
theorem words_one (p g : Nat) (c : ByteArray) (s : Ps) (w : World) (h : PS p w s) (hc : w.cell? ⟨g, 0, none⟩ = some (.string c)) : Calls Tryz.prog 104 #[.pointer (some ⟨p, 0, none⟩), .slice (some ⟨g, 0, none⟩) 1 1] w (Pm p w (.tuple #[]) (s.need 1 c)) := by
  have H := word_any p c s w h
  cases hB : s.is 1 c with
  | true =>
    have HP : Hid (∀ w', PS p w' (s.may 1 c).2 → Go1 p w w' → Pm p w (.tuple #[]) (s.need 1 c) (.returned (.tuple #[])) w') := hid (fun w' a b => ⟨rfl, by simp [Ps.may, Ps.need, hB] at a ⊢; exact a, b⟩)
    rw [hB] at H
    generalize Pm p w (.tuple #[]) (s.need 1 c) = Q at *
    go_enter Tryz.func104, Tryz.ntmps104
    go_wp2_with fail
    refine wp_loop_rounds 2 ?_
    rw [rounds_succ]
    go_wp2_with fail
    refine H.mono ?_
    rintro e w1 ⟨rfl, h4, h5⟩
    have HR := hid (HP.out w1 h4 h5)
    clear h4 h5 HP H h hB
    go_wp2
    rw [rounds_succ]
    go_wp2
    exact ⟨rfl, .tuple #[], by simp [results, Tryz.results104], HR.out⟩
  | false =>
    have HP : Hid (∀ w' w2, PS p w2 (s.fail 180) → Go1 p w w' → Go1 p w' w2 → Pm p w (.tuple #[]) (s.need 1 c) (.returned (.tuple #[])) w2) := hid (fun w' w2 a b c => ⟨rfl, by simp [Ps.may, Ps.need, hB] at a ⊢; exact a, b.trans c⟩)
    have H2 := fun w h => wrong_any p s w h
    have e2 : (s.may 1 c).2 = s := by simp [Ps.may, hB]
    rw [hB, e2] at H
    generalize Pm p w (.tuple #[]) (s.need 1 c) = Q at *
    go_enter Tryz.func104, Tryz.ntmps104
    go_wp2_with fail
    refine wp_loop_rounds 2 ?_
    rw [rounds_succ]
    go_wp2_with fail
    refine H.mono ?_
    rintro e w1 ⟨rfl, h4, h5⟩
    go_wp2_with fail
    refine (H2 _ h4).mono ?_
    rintro e w2 ⟨rfl, h6, h7⟩
    have HR := hid (HP.out w1 w2 h6 h5 h7)
    clear h4 h5 h6 h7 HP H H2 h hB e2
    go_wp2
    rw [rounds_succ]
    go_wp2
    exact ⟨rfl, .tuple #[], by simp [results, Tryz.results104], HR.out⟩
set_option maxHeartbeats 4000000 in
set_option maxRecDepth 100000 in
theorem up_raw (p : Nat) (l : List Lx.Tok) (d e a : Int) (w : World) (h : PR p w l d e a) : Calls Tryz.prog 90 #[.pointer (some ⟨p, 0, none⟩)] w fun x w' => x = .returned (.tuple #[]) ∧ w' = w.setCell ⟨p, 1, none⟩ (.int .i64 (wrap64 (d - 1))) := by
  obtain ⟨oa, cap, hh, hc, hat, hne⟩ := h.ex
  have r1 := Rg.blk_cells hh 1
  have f1 := Rg.blk_free hh 1
  simp only [List.getElem?_toArray, List.getElem?_cons_zero, List.getElem?_cons_succ] at r1
  clear h hat hne hh
  go_enter Tryz.func90, Tryz.ntmps90
  go_wp2
  exact ⟨rfl, .tuple #[], by simp [results, Tryz.results90], rfl, rfl⟩
theorem up_any (p : Nat) (s : Ps) (w : World) (h : PS p w s) (hd : ∀ l d, s = .ok l d → 1 ≤ d) : Calls Tryz.prog 90 #[.pointer (some ⟨p, 0, none⟩)] w (Pm p w (.tuple #[]) s.up) := by
  match s, h with
  | .bad e a, h =>
    obtain ⟨he, l, d, h⟩ := h
    exact (up_raw p l d e a w h).mono fun x w' ⟨h1, h2⟩ => ⟨h1, by rw [h2]; exact ⟨he, l, _, h.deep _⟩, by rw [h2]; exact .set _ _ _ _⟩
  | .ok l d, h =>
    have hd := hd l d rfl
    refine (up_raw p l d 0 0 w h.2).mono fun x w' ⟨h1, h2⟩ => ⟨h1, ?_, by rw [h2]; exact .set _ _ _ _⟩
    rw [h2, show wrap64 ((d : Int) - 1) = ((d - 1 : Nat) : Int) by have := h.1; unfold wrap64; omega]
    exact ⟨by have := h.1; omega, h.2.deep _⟩
set_option maxHeartbeats 4000000 in
set_option maxRecDepth 100000 in
theorem down_raw (p : Nat) (l : List Lx.Tok) (d : Nat) (w : World) (h : PR p w l d 0 0) (hd : d < 24) : Calls Tryz.prog 88 #[.pointer (some ⟨p, 0, none⟩)] w fun x w' => x = .returned (.bool true) ∧ w' = w.setCell ⟨p, 1, none⟩ (.int .i64 ((d : Int) + 1)) := by
  obtain ⟨oa, cap, hh, hc, hat, hne⟩ := h.ex
  have r1 := Rg.blk_cells hh 1
  have f1 := Rg.blk_free hh 1
  simp only [List.getElem?_toArray, List.getElem?_cons_zero, List.getElem?_cons_succ] at r1
  have q1 : ((d : Int) == 24) = false := by rw [beq_eq_false_iff_ne]; omega
  clear h hat hne hh
  go_enter Tryz.func88, Tryz.ntmps88
  go_wp2
  go_ret
  exact ⟨rfl, rfl⟩
set_option maxHeartbeats 4000000 in
set_option maxRecDepth 100000 in
theorem down_full (p : Nat) (s : Ps) (l : List Lx.Tok) (w : World) (h : PR p w l 24 0 0) (hs : s = .ok l 24) : Calls Tryz.prog 88 #[.pointer (some ⟨p, 0, none⟩)] w (Pm p w (.bool false) (s.fail 181)) := by
  have hS : PS p w s := by rw [hs]; exact ⟨by omega, h⟩
  obtain ⟨oa, cap, hh, hc, hat, hne⟩ := h.ex
  have r1 := Rg.blk_cells hh 1
  simp only [List.getElem?_toArray, List.getElem?_cons_zero, List.getElem?_cons_succ] at r1
  have H := fail_any p 181 s w hS (by decide)
  have HP : Hid (∀ w', PS p w' (s.fail 181) → Go1 p w w' → Pm p w (.bool false) (s.fail 181) (.returned (.bool false)) w') := hid (fun w' a b => ⟨rfl, a, b⟩)
  generalize Pm p w (.bool false) (s.fail 181) = Q at *
  clear h hat hne hh hS hs
  go_enter Tryz.func88, Tryz.ntmps88
  go_wp2_with fail
  refine H.mono ?_
  rintro e w1 ⟨rfl, h4, h5⟩
  have HR := hid (HP.out w1 h4 h5)
  clear h4 h5 HP H
  go_wp2
  exact HR.out
theorem down_any (p : Nat) (s : Ps) (w : World) (h : PS p w s) (hg : s.good = true) : Calls Tryz.prog 88 #[.pointer (some ⟨p, 0, none⟩)] w (Pm p w (.bool s.down.good) s.down) := by
  match s, h with
  | .bad e a, h => cases hg
  | .ok [] d, h => exact h.2.nil.elim
  | .ok (t :: r) d, h =>
    by_cases hd : d = 24
    · subst hd
      have := down_full p (.ok (t :: r) 24) (t :: r) w h.2 rfl
      exact this
    · have hd' : d < 24 := by have := h.1; omega
      refine (down_raw p (t :: r) d w h.2 hd').mono fun x w' ⟨h1, h2⟩ => ?_
      simp only [Ps.down, hd, if_false]
      exact ⟨h1, by rw [h2]; exact ⟨by omega, by rw [show ((d + 1 : Nat) : Int) = (d : Int) + 1 by omega]; exact h.2.deep _⟩, by rw [h2]; exact .set _ _ _ _⟩
end Go.Proofs.YtbeinfhgfflneaaGreat
end
section
namespace Go.Proofs.YtbeinfhgfflneaaGreat
open Go.RowKit
set_option linter.unusedSimpArgs false
set_option linter.unusedVariables false
attribute [local go_sem] Rg.leads_value Rg.leads_skip Rg.leads_enter Rg.brings_value Rg.brings_skip Rg.brings_enter Rg.bringsG_value Rg.bringsG_enter Rg.once_normal Rg.once_exit Rg.once_ret Rg.once_panic Rg.once_goto
set_option maxHeartbeats 4000000 in
set_option maxRecDepth 100000 in
theorem pname_bad (p : Nat) (e : Int) (a : Nat) (w : World) (h : PS p w (.bad e a)) : Calls Tryz.prog 135 #[.pointer (some ⟨p, 0, none⟩)] w (Pm p w (.string ⟨#[]⟩) (.bad e a)) := by
  have hS := h
  have hpw := hS.lt
  obtain ⟨he, l, d, h⟩ := h
  obtain ⟨oa, cap, hh, hc, hat, hne⟩ := h.ex
  have hpos := h.tok.pos
  have r0 := Rg.blk_cells hh 0
  have r2 := Rg.blk_cells hh 2
  simp only [List.getElem?_toArray, List.getElem?_cons_zero, List.getElem?_cons_succ] at r0 r2
  obtain ⟨b, off, hoa, hb, c0, c1, c2, c3⟩ := t_get hat 0 hpos
  simp only [Nat.zero_mul, Nat.add_zero] at c0 c1 c2 c3
  subst hoa
  have q1 : (e != 0) = true := by simpa using he
  have hS1 := fun o => hS.keep ((Gr.refl w).alloc o)
  have H2 := fun w h => wrong_any p (.bad e a) w h
  have HP : Hid (∀ o w', PS p w' (.bad e a) → Go1 p (w.alloc o) w' → Pm p w (.string ⟨#[]⟩) (.bad e a) (.returned (.string ⟨#[]⟩)) w') := hid (fun o w' a b => ⟨rfl, a, (Go1.of ((Gr.refl w).alloc o)).trans b⟩)
  generalize Pm p w (.string ⟨#[]⟩) (.bad e a) = Q at *
  generalize l[0].tk.kind = tk at *
  generalize l[0].tk.num = tn at *
  generalize l[0].pos = tp at *
  generalize txt l[0].tk.text = tx at *
  generalize l.length = n at *
  have g2 : (0 : Int) < (n : Int) := by omega
  clear h hat hne hh hS he
  go_enter Tryz.func135, Tryz.ntmps135
  go_wp2_with fail
  refine (H2 _ (hS1 _)).mono ?_
  rintro e w2 ⟨rfl, h6, h7⟩
  have HR := hid (HP.out _ w2 h6 h7)
  clear h6 h7 HP H2 hS1
  go_wp2
  exact HR.out
set_option maxHeartbeats 4000000 in
set_option maxRecDepth 100000 in
theorem pname_kind (p : Nat) (t : Lx.Tok) (r : List Lx.Tok) (d : Nat) (w : World) (h : PS p w (.ok (t :: r) d)) (hk : t.tk.kind ≠ 1) : Calls Tryz.prog 135 #[.pointer (some ⟨p, 0, none⟩)] w (Pm p w (.string ⟨#[]⟩) (Ps.fail 180 (.ok (t :: r) d))) := by
  have hS := h
  have hpw := hS.lt
  obtain ⟨hd, h⟩ := h
  obtain ⟨oa, cap, hh, hc, hat, hne⟩ := h.ex
  have r0 := Rg.blk_cells hh 0
  have r2 := Rg.blk_cells hh 2
  simp only [List.getElem?_toArray, List.getElem?_cons_zero, List.getElem?_cons_succ] at r0 r2
  obtain ⟨b, off, hoa, hb, c0, c1, c2, c3⟩ := t_get hat 0 (by simp)
  simp only [List.getElem_cons_zero, Nat.zero_mul, Nat.add_zero] at c0 c1 c2 c3
  subst hoa
  obtain ⟨n, hn⟩ : ∃ n, (t :: r).length = n := ⟨_, rfl⟩
  have hn1 : 1 ≤ n := by rw [← hn]; simp
  rw [hn] at r0 hc
  have g2 : (0 : Int) < (n : Int) := by omega
  have q1 : ((t.tk.kind : Int) != 1) = true := by simp; omega
  have hS1 := fun o => hS.keep ((Gr.refl w).alloc o)
  have H2 := fun w h => wrong_any p (.ok (t :: r) d) w h
  have HP : Hid (∀ o w', PS p w' (Ps.fail 180 (.ok (t :: r) d)) → Go1 p (w.alloc o) w' → Pm p w (.string ⟨#[]⟩) (Ps.fail 180 (.ok (t :: r) d)) (.returned (.string ⟨#[]⟩)) w') := hid (fun o w' a b => ⟨rfl, a, (Go1.of ((Gr.refl w).alloc o)).trans b⟩)
  generalize Pm p w (.string ⟨#[]⟩) (Ps.fail 180 (.ok (t :: r) d)) = Q at *
  generalize t.tk.kind = tk at *
  generalize t.tk.num = tn at *
  generalize t.pos = tp at *
  generalize txt t.tk.text = tx at *
  clear h hat hne hh hS hn
  go_enter Tryz.func135, Tryz.ntmps135
  go_wp2_with fail
  refine (H2 _ (hS1 _)).mono ?_
  rintro e w2 ⟨rfl, h6, h7⟩
  have HR := hid (HP.out _ w2 h6 h7)
  clear h6 h7 HP H2 hS1
  go_wp2
  exact HR.out
theorem txt_list (l : List UInt8) : (txt l).data.toList = l := by simp [txt]
theorem txt_size (l : List UInt8) : (txt l).size = l.length := by simp [txt, ByteArray.size]
set_option maxHeartbeats 4000000 in
set_option maxRecDepth 100000 in
theorem pname_word (p : Nat) (t : Lx.Tok) (r : List Lx.Tok) (d : Nat) (w : World) (h : PS p w (.ok (t :: r) d)) (hk : t.tk.kind = 1) : Calls Tryz.prog 135 #[.pointer (some ⟨p, 0, none⟩)] w (Pm p w (.string (Ps.name (.ok (t :: r) d)).1) (Ps.name (.ok (t :: r) d)).2) := by
  have hS := h
  have hpw := hS.lt
  obtain ⟨hd, h⟩ := h
  obtain ⟨oa, cap, hh, hc, hat, hne⟩ := h.ex
  obtain ⟨m, hm⟩ := h.gl
  have hsz : (txt t.tk.text).size ≤ 140737488355328 := by rw [txt_size]; have := h.tok.text t (by simp); omega
  have r0 := Rg.blk_cells hh 0
  have r2 := Rg.blk_cells hh 2
  simp only [List.getElem?_toArray, List.getElem?_cons_zero, List.getElem?_cons_succ] at r0 r2
  obtain ⟨b, off, hoa, hb, c0, c1, c2, c3⟩ := t_get hat 0 (by simp)
  simp only [List.getElem_cons_zero, Nat.zero_mul, Nat.add_zero] at c0 c1 c2 c3
  subst hoa
  obtain ⟨n, hn⟩ : ∃ n, (t :: r).length = n := ⟨_, rfl⟩
  have hn1 : 1 ≤ n := by rw [← hn]; simp
  rw [hn] at r0 hc
  have g2 : (0 : Int) < (n : Int) := by omega
  have q1 : ((t.tk.kind : Int) != 1) = false := by rw [hk]; rfl
  have H1 := fun o : Obj => name_any (txt t.tk.text) m (w.alloc o) hsz (by exact ((Gr.refl w).alloc o).keep hm)
  rw [txt_list] at H1
  cases hB : nameB t.tk.text with
  | false =>
    have e1 : Ps.name (.ok (t :: r) d) = (⟨#[]⟩, Ps.fail 180 (.ok (t :: r) d)) := by simp [Ps.name, Ps.isName, Ps.headK, Ps.headT, hk, hB]
    rw [e1]
    rw [hB] at H1
    have hS1 : Hid (∀ o w', Below (w.alloc o).heap.size (w.alloc o) w' → PS p w' (.ok (t :: r) d)) := hid (fun o w' hg => hS.keep (((Gr.refl w).alloc o).trans hg))
    have H2 := fun w h => wrong_any p (.ok (t :: r) d) w h
    have HP : Hid (∀ o w1 w', PS p w' (Ps.fail 180 (.ok (t :: r) d)) → Below (w.alloc o).heap.size (w.alloc o) w1 → Go1 p w1 w' → Pm p w (.string ⟨#[]⟩) (Ps.fail 180 (.ok (t :: r) d)) (.returned (.string ⟨#[]⟩)) w') := hid (fun o w1 w' a g b => ⟨rfl, a, (Go1.of (((Gr.refl w).alloc o).trans g)).trans b⟩)
    generalize Pm p w (.string ⟨#[]⟩) (Ps.fail 180 (.ok (t :: r) d)) = Q at *
    generalize t.tk.kind = tk at *
    generalize t.tk.num = tn at *
    generalize t.pos = tp at *
    generalize txt t.tk.text = tx at *
    clear h hat hne hh hS hn e1 hk hB hsz
    go_enter Tryz.func135, Tryz.ntmps135
    go_wp2_with fail
    refine (H1 _).mono ?_
    rintro e w1 ⟨rfl, hg⟩
    go_wp2_with fail
    refine (H2 _ (hS1.out _ _ hg)).mono ?_
    rintro e w2 ⟨rfl, h6, h7⟩
    have HR := hid (HP.out _ w1 w2 h6 hg h7)
    clear h6 h7 HP H2 hS1 hg H1
    go_wp2
    exact HR.out
  | true =>
    have hk5 : t.tk.kind ≠ 5 := by omega
    have e1 : Ps.name (.ok (t :: r) d) = (txt t.tk.text, Ps.step (.ok (t :: r) d)) := by simp [Ps.name, Ps.isName, Ps.headK, Ps.headT, hk, hB]
    rw [e1]
    rw [hB] at H1
    have hS1 : Hid (∀ o w', Below (w.alloc o).heap.size (w.alloc o) w' → PS p w' (.ok (t :: r) d)) := hid (fun o w' hg => hS.keep (((Gr.refl w).alloc o).trans hg))
    have H2 := fun w h => step_any p (.ok (t :: r) d) w h hk5 rfl
    have HC : Hid (∀ o w1 w', Below (w.alloc o).heap.size (w.alloc o) w1 → Go1 p w1 w' → ∀ i, w'.cell? ⟨w.heap.size, i, none⟩ = (w.alloc o).cell? ⟨w.heap.size, i, none⟩) := hid (fun o w1 w' g b i => by
      have hz := Below.size g
      simp only [World.size_alloc] at hz
      rw [b.cell (by omega) (by omega)]
      exact Gr.cells (w := w.alloc o) g _ _ (by simp))
    have HP : Hid (∀ o w1 w', PS p w' (Ps.step (.ok (t :: r) d)) → Below (w.alloc o).heap.size (w.alloc o) w1 → Go1 p w1 w' → Pm p w (.string (txt t.tk.text)) (Ps.step (.ok (t :: r) d)) (.returned (.string (txt t.tk.text))) w') := hid (fun o w1 w' a g b => ⟨rfl, a, (Go1.of (((Gr.refl w).alloc o).trans g)).trans b⟩)
    generalize Pm p w (.string (txt t.tk.text)) (Ps.step (.ok (t :: r) d)) = Q at *
    generalize t.tk.kind = tk at *
    generalize t.tk.num = tn at *
    generalize t.pos = tp at *
    generalize txt t.tk.text = tx at *
    clear h hat hne hh hS hn e1 hk hB hsz hk5
    go_enter Tryz.func135, Tryz.ntmps135
    go_wp2_with fail
    refine (H1 _).mono ?_
    rintro e w1 ⟨rfl, hg⟩
    go_wp2_with fail
    refine (H2 _ (hS1.out _ _ hg)).mono ?_
    rintro e w2 ⟨rfl, h6, h7⟩
    have HR := hid (HP.out _ w1 w2 h6 hg h7)
    have hcc := HC.out _ w1 w2 hg h7
    clear h6 h7 HP H2 hS1 hg H1 HC
    go_wp2
    exact HR.out
theorem pname_any (p : Nat) (s : Ps) (w : World) (h : PS p w s) : Calls Tryz.prog 135 #[.pointer (some ⟨p, 0, none⟩)] w (Pm p w (.string s.name.1) s.name.2) := by
  match s, h with
  | .bad e a, h => exact pname_bad p e a w h
  | .ok [] d, h => exact h.2.nil.elim
  | .ok (t :: r) d, h =>
    by_cases hk : t.tk.kind = 1
    · exact pname_word p t r d w h hk
    · have e1 : Ps.name (.ok (t :: r) d) = (⟨#[]⟩, Ps.fail 180 (.ok (t :: r) d)) := by simp [Ps.name, Ps.isName, Ps.headK, Ps.headT, hk]
      rw [e1]
      exact pname_kind p t r d w h hk
end Go.Proofs.YtbeinfhgfflneaaGreat
end
section
namespace Go.Proofs.YtbeinfhgfflneaaGreat
set_option linter.unusedVariables false
theorem size_step (s : Ps) : s.step.size ≤ s.size := by
  match s with
  | .ok (t :: r) d => simp only [Ps.step]; split <;> simp [Ps.size]
  | .ok [] d => exact Nat.le_refl _
  | .bad e a => exact Nat.le_refl _
theorem is_step {s : Ps} {k : Nat} {c : ByteArray} (h : s.is k c = true) (hk : k ≠ 5) : s.step.size + 1 = s.size ∧ s.step.good = true ∧ s.good = true := by
  match s, h with
  | .ok (t :: r) d, h =>
    simp [Ps.is] at h
    have h5 : t.tk.kind ≠ 5 := by rw [h.1]; exact hk
    simp [Ps.step, h5, Ps.size, Ps.good]
theorem head_step {s : Ps} {k : Nat} (h : s.headK = k) (hk : k ≠ 5) (h0 : k ≠ 0) : s.step.size + 1 = s.size ∧ s.step.good = true ∧ s.good = true := by
  match s, h with
  | .ok (t :: r) d, h =>
    have h5 : t.tk.kind ≠ 5 := by have : t.tk.kind = k := h; omega
    simp [Ps.step, h5, Ps.size, Ps.good]
  | .ok [] d, h => exact absurd h.symm h0
  | .bad e a, h => exact absurd h.symm h0
theorem size_fail (e : Int) (s : Ps) : (s.fail e).size ≤ s.size := by
  match s with
  | .ok (t :: r) d => simp [Ps.fail, Ps.size]
  | .ok [] d => simp [Ps.fail, Ps.size]
  | .bad e a => exact Nat.le_refl _
theorem size_may (k : Nat) (c : ByteArray) (s : Ps) : (s.may k c).2.size ≤ s.size := by
  unfold Ps.may
  split
  · exact size_step s
  · exact Nat.le_refl _
theorem size_need (k : Nat) (c : ByteArray) (s : Ps) : (s.need k c).size ≤ s.size := by
  unfold Ps.need
  split
  · exact size_step s
  · exact size_fail _ s
theorem size_down (s : Ps) : s.down.size ≤ s.size := by
  match s with
  | .ok l d => simp only [Ps.down]; split; exact size_fail _ _; exact Nat.le_refl _
  | .bad e a => exact Nat.le_refl _
theorem down_good {s : Ps} (h : s.down.good = true) : s.down.size = s.size ∧ s.good = true ∧ s.down.headK = s.headK ∧ ∀ k c, s.down.is k c = s.is k c := by
  match s, h with
  | .ok l d, h =>
    simp only [Ps.down] at h ⊢
    split at h
    · cases l <;> cases h
    · rename_i hd
      rw [if_neg hd]
      refine ⟨rfl, rfl, ?_, fun k c => ?_⟩ <;> cases l <;> rfl
theorem size_up (s : Ps) : s.up.size = s.size := by cases s <;> rfl
theorem size_name (s : Ps) : s.name.2.size ≤ s.size := by
  unfold Ps.name
  split
  · exact size_step s
  · exact size_fail _ s
def NI {α : Type} (p : Pa α) : Prop := ∀ s, (p s).2.size ≤ s.size
theorem ni_lefts {ops : List (ByteArray × Int)} {k : Nat} {p : Pa Ex} (h : NI p) : ∀ n e s, (lefts ops k p n e s).2.size ≤ s.size
  | 0, e, s => Nat.le_refl _
  | n + 1, e, s => by
    unfold lefts
    split
    · exact Nat.le_trans (ni_lefts h n _ _) (Nat.le_trans (h _) (size_step s))
    · exact Nat.le_refl _
theorem ni_left {ops : List (ByteArray × Int)} {k : Nat} {p : Pa Ex} (h : NI p) : NI (left ops k p) := fun s => Nat.le_trans (ni_lefts h _ _ _) (h s)
theorem ni_ahead {k : Nat} {c : ByteArray} {op : Int} {p : Pa Ex} (h : NI p) : ∀ n s, (ahead k c op p n s).2.size ≤ s.size
  | 0, s => h s
  | n + 1, s => by
    unfold ahead
    split
    · split
      · simp only [size_up]
        exact Nat.le_trans (ni_ahead h n _) (Nat.le_trans (size_step _) (size_down s))
      · exact size_down s
    · exact h s
theorem ni_seps {α : Type} {p : Pa α} (h : NI p) : ∀ n l s, (seps p n l s).2.size ≤ s.size
  | 0, l, s => Nat.le_refl _
  | n + 1, l, s => by
    simp only [seps]
    split
    · exact Nat.le_trans (ni_seps h n _ _) (Nat.le_trans (size_step _) (h s))
    · exact h s
theorem ni_sep {α : Type} {p : Pa α} (h : NI p) : NI (sep p) := fun s => ni_seps h _ _ s
theorem ni_list {E : Pa Ex} (h : NI E) : NI (listS E) := fun s => by
  unfold listS
  split
  · split
    · simp only [size_up]
      exact Nat.le_trans (size_need _ _ _) (Nat.le_trans (ni_sep h _) (Nat.le_trans (size_step _) (size_down s)))
    · exact size_down s
  · exact size_fail _ s
theorem ni_compareT {p E : Pa Ex} (hp : NI p) (hE : NI E) (a : Ex) (s : Ps) : (compareT p E a s).2.size ≤ s.size := by
  unfold compareT
  split
  · exact Nat.le_trans (hp _) (size_step s)
  · split
    · exact Nat.le_trans (size_need _ _ _) (Nat.le_trans (size_may _ _ _) (size_step s))
    · simp only
      split
      · exact Nat.le_trans (ni_list hE _) (Nat.le_trans (size_step _) (size_may _ _ s))
      · split
        · simp only [betweens]
          exact Nat.le_trans (hp _) (Nat.le_trans (size_need _ _ _) (Nat.le_trans (hp _) (Nat.le_trans (size_step _) (size_may _ _ s))))
        · split
          · exact Nat.le_trans (size_fail _ _) (size_may _ _ s)
          · exact size_may _ _ s
theorem ni_compares {p E : Pa Ex} (hp : NI p) (hE : NI E) : NI (compares p E) := fun s => Nat.le_trans (ni_compareT hp hE _ _) (hp s)
theorem ni_call {E : Pa Ex} (hE : NI E) (nm : List UInt8) (s : Ps) : (callS E nm s).2.size ≤ s.size := by
  unfold callS
  split
  · simp only
    have h0 := Nat.le_trans (size_need 4 ⟨#[40]⟩ s.down.step) (Nat.le_trans (size_step _) (size_down s))
    split
    · simp only [size_up]
      exact Nat.le_trans (size_need _ _ _) (Nat.le_trans (size_step _) h0)
    · split
      · simp only [size_up]
        exact Nat.le_trans (size_need _ _ _) (Nat.le_trans (hE _) h0)
      · simp only [size_up]
        exact Nat.le_trans (size_need _ _ _) (Nat.le_trans (ni_sep hE _) h0)
  · exact size_down s
theorem ni_nameS : NI nameS := fun s => by
  unfold nameS
  simp only
  split
  · exact Nat.le_trans (size_name _) (Nat.le_trans (size_step _) (size_name s))
  · exact size_name s
theorem ni_single {E : Pa Ex} (hE : NI E) : NI (single E) := fun s => by
  unfold single
  split
  · exact size_step s
  split
  · exact size_step s
  split
  · exact size_step s
  split
  · exact size_step s
  split
  · exact size_step s
  split
  · split
    · simp only [size_up]
      exact Nat.le_trans (size_need _ _ _) (Nat.le_trans (hE _) (Nat.le_trans (size_step _) (size_down s)))
    · exact size_down s
  split
  · exact ni_call hE _ s
  · exact ni_nameS s
theorem ni_lvl {E : Pa Ex} (hE : NI E) : NI (lvl E) :=
  ni_left (ni_left (fun s => ni_ahead (ni_compares (ni_left (ni_left (fun s => ni_ahead (ni_single hE) _ s))) hE) _ s))
theorem ni_expr : ∀ n, NI (expr n)
  | 0 => ni_lvl (fun s => Nat.le_refl _)
  | n + 1 => ni_lvl (ni_expr n)
end Go.Proofs.YtbeinfhgfflneaaGreat
end
section
namespace Go.Proofs.YtbeinfhgfflneaaGreat
open Go.RowKit
set_option linter.unusedSimpArgs false
set_option linter.unusedVariables false
attribute [local go_sem] Rg.leads_value Rg.leads_skip Rg.leads_enter Rg.brings_value Rg.brings_skip Rg.brings_enter Rg.bringsG_value Rg.bringsG_enter Rg.once_normal Rg.once_exit Rg.once_ret Rg.once_panic Rg.once_goto Rg.bringsS_value Rg.bringsS_skip Rg.bringsS_enter Rg.still_value Rg.still_skip Rg.still_enter
section
variable {P : Program} {ops : Array Oper} {Cs : List Nat} {Ws : List (Nat × Nat)} {St : Nat → (Nat → Value) → World → Prop} {v : Nat → Value} {i s : Nat} {o : Oper} {a : Act}
theorem sc_still {c : Value} (hC : Cs.contains i = false) (hw : Region.wanted o (yielded ops a.tmps) = true) (h : ∀ s w, Rg.limC Cs Ws i s → St s v w → Rg.Still w c ((execOp a.eval o).run P w)) : Rg.StepC P ops Cs Ws St v (some c) i s o a := by
  unfold Rg.StepC
  rw [hC]
  simp only [Bool.false_eq_true, if_false]
  exact .inl ⟨hw, h⟩
theorem sc_call {c : Value} (hC : Cs.contains i = true) (hw : Region.wanted o (yielded ops a.tmps) = true) (h : ∀ w, St s v w → Rg.BringsS P (fun u w' => u = c ∧ St (s + 1) v w') ((execOp a.eval o).run P w)) : Rg.StepC P ops Cs Ws St v (some c) i s o a := by
  unfold Rg.StepC
  rw [hC]
  simp only [if_true]
  exact ⟨hw, h⟩
theorem sc_new (hC : Cs.contains i = true) (hw : Region.wanted o (yielded ops a.tmps) = true) (h : ∀ w, St s v w → Rg.BringsS P (fun u w' => St (s + 1) (Rg.upd v i u) w') ((execOp a.eval o).run P w)) : Rg.StepC P ops Cs Ws St v none i s o a := by
  unfold Rg.StepC
  rw [hC]
  simp only [if_true]
  exact ⟨hw, h⟩
end
theorem upd_same (v : Nat → Value) (i : Nat) (u : Value) : Rg.upd v i u i = u := by simp [Rg.upd]
def Late (idx : Nat) (w : World) (RX : World → Value → World → Prop) (s : Nat) (v : Nat → Value) (W : World) : Prop := if s = 0 then Gr w W else ∃ W0, Gr w W0 ∧ RX W0 (v idx) W
theorem late0 {idx : Nat} {w W : World} {RX : World → Value → World → Prop} {v : Nat → Value} (h : Gr w W) : Late idx w RX 0 v W := by unfold Late; rw [if_pos rfl]; exact h
theorem late_0 {idx : Nat} {w W : World} {RX : World → Value → World → Prop} {v : Nat → Value} (h : Late idx w RX 0 v W) : Gr w W := by unfold Late at h; rw [if_pos rfl] at h; exact h
theorem late1 {idx : Nat} {w W : World} {RX : World → Value → World → Prop} {v : Nat → Value} (h : ∃ W0, Gr w W0 ∧ RX W0 (v idx) W) : Late idx w RX 1 v W := by unfold Late; rw [if_neg (by decide)]; exact h
theorem late_1 {idx : Nat} {w W : World} {RX : World → Value → World → Prop} {v : Nat → Value} (h : Late idx w RX 1 v W) : ∃ W0, Gr w W0 ∧ RX W0 (v idx) W := by unfold Late at h; rw [if_neg (by decide)] at h; exact h
theorem late_any {idx s p : Nat} {w W : World} {RX : World → Value → World → Prop} {v : Nat → Value} (hR : ∀ W0 u W, RX W0 u W → Go1 p W0 W) (h : Late idx w RX s v W) : Go1 p w W := by
  unfold Late at h
  split at h
  · exact .of h
  · obtain ⟨W0, h1, h2⟩ := h; exact (Go1.of h1).trans (hR _ _ _ h2)
theorem Rx.go {p : Nat} {q : Ex × Ps} {W0 : World} {u : Value} {W : World} (h : Rx p W0 q u W) : Go1 p W0 W := by obtain ⟨_, _, _, _, _, h, _⟩ := h; exact h
set_option maxHeartbeats 4000000 in
set_option maxRecDepth 100000 in
theorem tree_any (op : Int) (oa : Option Addr) (n cap : Nat) (w : World) : Calls Tryz.prog 36 #[.int .i64 op, .slice oa n cap] w fun e w' => e = .returned (XR.val ⟨{ op := op }, oa, n, cap⟩) ∧ Gr w w' := by
  go_enter Tryz.func36, Tryz.ntmps36
  go_wp2
  refine bodyPost_ret (by simp [results, Tryz.results36, go_sem]; try rfl) rfl ?_
  exact ⟨rfl, (Gr.refl w).alloc _⟩
set_option maxHeartbeats 4000000 in
set_option maxRecDepth 100000 in
theorem lit_any (v : V) (w : World) : Calls Tryz.prog 131 #[v.val] w fun e w' => e = .returned (XR.val ⟨{ op := 1, v := v }, none, 0, 0⟩) ∧ Gr w w' := by
  unfold V.val
  go_enter Tryz.func131, Tryz.ntmps131
  go_wp2
  refine bodyPost_ret (by simp [results, Tryz.results131, go_sem]; try rfl) rfl ?_
  exact ⟨rfl, ((Gr.refl w).alloc _).alloc _⟩
def LfRel (ops : List (ByteArray × Int)) (k : Nat) (q : Pa Ex) (p N : Nat) (w : World) (R0 E : Nat) (R : Ex × Ps) (wr : World) : Prop := ∃ r x x0 s n, wr.heap[E]? = some (.cells (XR.cells r) 26 (0, 0)) ∧ wr.heap[R0]? = some (.cells (XR.cells ⟨{ op := 0 }, none, 0, 0⟩) 26 (0, 0)) ∧
  Ex.At (fun b => w.heap.size ≤ b ∧ b ≠ E ∧ b ≠ R0) wr x r ∧ (s.good = true → x = x0) ∧ lefts ops k q n x0 s = R ∧ s.size ≤ n ∧ s.size ≤ N ∧ PS p wr s ∧ Go1 p w wr
theorem row2 (w : World) (r1 r2 : XR) {g : Nat} (h : w.heap[g]? = some (.cells (r1.cells ++ r2.cells) 26 (0, 0))) : RowF xF 12 w g 0 [r1, r2] := by
  intro k hk j u hu
  have hj : j < 12 := by rw [← xE.len [r1, r2][k]]; exact (List.getElem?_eq_some_iff.1 hu).1
  rw [Rg.blk_cells h]
  rcases k with _ | _ | k
  · rw [Array.getElem?_append_left (by show 0 + 0 * 12 + j < 12; omega)]
    simpa [xF, XR.cells] using hu
  · rw [Array.getElem?_append_right (by show 12 ≤ _; omega)]
    rw [show 0 + (0 + 1) * 12 + j - (XR.cells r1).size = j by show 0 + (0 + 1) * 12 + j - 12 = j; omega]
    simpa [xF, XR.cells] using hu
  · simp at hk; omega
abbrev zeroX : Array Value := #[.int .i64 0, .int .i64 0, .int .i64 0, .string ⟨#[]⟩, .bool false, .string ⟨#[]⟩, .string ⟨#[]⟩, .int .i64 0, .int .i64 0, .bool false, .bool false, .slice none 0 0]
theorem Go1.own {p E : Nat} {a b c : World} (h : Go1 p a b) (k : Go1 E b c) (hE : a.heap.size ≤ E) : Go1 p a c :=
  ⟨k.os.trans h.os, k.tape.trans h.tape, k.output.trans h.output, Nat.le_trans h.size k.size, fun i hi hne => (k.block i (Nat.lt_of_lt_of_le hi h.size) (fun e => by cases e; omega)).trans (h.block i hi hne)⟩
theorem Go1.block2 {p : Nat} {a b c : World} (h : Go1 p a b) (k : Gr b c) : Go1 p a c := h.trans (.of k)
theorem alloc_at (w : World) (o : Obj) : (w.alloc o).heap[w.heap.size]? = some o := Rg.heap_new w o
theorem LfRel.start {ops : List (ByteArray × Int)} {k p N : Nat} {q : Pa Ex} {w w1 : World} {s : Ps} {R : Ex × Ps} {r : XR} {x : Ex} (hpw : p < w.heap.size)
    (hx : Ex.At (Nw (w.alloc (.cells zeroX 26))) w1 x r) (hps : PS p w1 (q s).2) (hgo : Go1 p (w.alloc (.cells zeroX 26)) w1) (hgd : (q s).2.good = true → x = (q s).1) (hn : NI q) (hsN : s.size ≤ N) (hR : left ops k q s = R) :
    LfRel ops k q p N w w.heap.size w1.heap.size R (w1.alloc (.cells r.cells 26)) := by
  have hz := hgo.size
  simp only [World.size_alloc] at hz
  have hG := (Gr.refl w1).alloc (.cells r.cells 26)
  refine ⟨r, x, (q s).1, (q s).2, (q s).2.size, alloc_at _ _, ?_, ?_, hgd, hR, Nat.le_refl _, Nat.le_trans (hn s) hsN, hps.keep hG, ((Go1.of ((Gr.refl w).alloc _)).trans hgo).block2 hG⟩
  · rw [hG.block _ (by omega), hgo.get (by simp) (by omega)]
    exact alloc_at _ _
  · refine (hx.mono (fun b hb hs => ?_)).of hG.size (fun b _ hb => hG.block b hb)
    simp only [Nw, World.size_alloc] at hs
    exact ⟨by omega, by omega, by omega⟩
theorem LfRel.next {ops : List (ByteArray × Int)} {k p N : Nat} {q : Pa Ex} {w : World} {R0 E : Nat} {R : Ex × Ps} {wr w2 W0 W W4 : World} {r ry : XR} {x y x0 : Ex} {s : Ps} {n : Nat} {o : ByteArray × Int}
    (hk5 : k ≠ 5) (hpw : p < w.heap.size) (hR0 : R0 = w.heap.size) (hE : R0 < E)
    (hbE : wr.heap[E]? = some (.cells r.cells 26 (0, 0))) (hb0 : wr.heap[R0]? = some (.cells (XR.cells ⟨{ op := 0 }, none, 0, 0⟩) 26 (0, 0)))
    (hx : Ex.At (fun b => w.heap.size ≤ b ∧ b ≠ E ∧ b ≠ R0) wr x r) (hxs : s.good = true → x = x0) (hR : lefts ops k q n x0 s = R) (hsn : s.size ≤ n) (hsN : s.size ≤ N) (hgo : Go1 p w wr)
    (hf : ops.find? (fun o => s.is k o.1) = some o) (hn : NI q)
    (hg2 : Go1 p wr w2) (hW0 : Gr w2 W0) (hy : Ex.At (Nw W0) W y ry) (hps : PS p W (q s.step).2) (hgW : Go1 p W0 W) (hyg : (q s.step).2.good = true → y = (q s.step).1)
    {cs : Array Value} (hcat : cs = r.cells ++ ry.cells) (h4 : Gr (W.alloc (.cells cs 26)) W4) {b0 b1 b2 b3 b4 b5 b6 b7 b8 b9 b10 b11 : Value} (hcs : XR.cells ⟨{ op := o.2 }, some ⟨W.heap.size, 0, none⟩, 2, 2⟩ = #[b0, b1, b2, b3, b4, b5, b6, b7, b8, b9, b10, b11]) :
    LfRel ops k q p N w R0 E R ((((((((((((W4.setCell ⟨E, 0, none⟩ b0).setCell ⟨E, 1, none⟩ b1).setCell ⟨E, 2, none⟩ b2).setCell ⟨E, 3, none⟩ b3).setCell ⟨E, 4, none⟩ b4).setCell ⟨E, 5, none⟩ b5).setCell ⟨E, 6, none⟩ b6).setCell ⟨E, 7, none⟩ b7).setCell ⟨E, 8, none⟩ b8).setCell ⟨E, 9, none⟩ b9).setCell ⟨E, 10, none⟩ b10).setCell ⟨E, 11, none⟩ b11) ∧ lenAt p ((((((((((((W4.setCell ⟨E, 0, none⟩ b0).setCell ⟨E, 1, none⟩ b1).setCell ⟨E, 2, none⟩ b2).setCell ⟨E, 3, none⟩ b3).setCell ⟨E, 4, none⟩ b4).setCell ⟨E, 5, none⟩ b5).setCell ⟨E, 6, none⟩ b6).setCell ⟨E, 7, none⟩ b7).setCell ⟨E, 8, none⟩ b8).setCell ⟨E, 9, none⟩ b9).setCell ⟨E, 10, none⟩ b10).setCell ⟨E, 11, none⟩ b11) < s.size := by
  subst hcat
  have his : s.is k o.1 = true := by have := List.find?_some hf; exact this
  obtain ⟨hs1, hs2, hs3⟩ := is_step his hk5
  have hgr : Gr W W4 := ((Gr.refl W).alloc _).trans h4
  have hG : Go1 p wr W4 := ((hg2.trans (.of hW0)).trans hgW).block2 hgr
  have hEl : E < wr.heap.size := (Array.getElem?_eq_some_iff.1 hbE).1
  have hz2 := hg2.size
  have hzW := hgW.size
  have hz0 := hW0.size
  have hz4 := hgr.size
  have hW : W4.heap[E]? = some (.cells r.cells 26 (0, 0)) := by rw [hG.get hEl (by omega)]; exact hbE
  have hS := Go1.set12 E W4 b0 b1 b2 b3 b4 b5 b6 b7 b8 b9 b10 b11
  have hT := set12 hW b0 b1 b2 b3 b4 b5 b6 b7 b8 b9 b10 b11
  generalize ((((((((((((W4.setCell ⟨E, 0, none⟩ b0).setCell ⟨E, 1, none⟩ b1).setCell ⟨E, 2, none⟩ b2).setCell ⟨E, 3, none⟩ b3).setCell ⟨E, 4, none⟩ b4).setCell ⟨E, 5, none⟩ b5).setCell ⟨E, 6, none⟩ b6).setCell ⟨E, 7, none⟩ b7).setCell ⟨E, 8, none⟩ b8).setCell ⟨E, 9, none⟩ b9).setCell ⟨E, 10, none⟩ b10).setCell ⟨E, 11, none⟩ b11) = W5 at *
  have hlt : (q s.step).2.size < s.size := by have := hn s.step; omega
  have hzS := hS.size
  have hrow : W4.heap[W.heap.size]? = some (.cells (r.cells ++ ry.cells) 26 (0, 0)) := by rw [h4.block _ (by simp)]; exact alloc_at _ _
  have hrl : W.heap.size < W4.heap.size := (Array.getElem?_eq_some_iff.1 hrow).1
  have hPS : PS p W5 (q s.step).2 := (hps.keep hgr).go hS (by omega)
  refine ⟨?_, by rw [lenAt_ps hPS]; exact hlt⟩
  cases n with
  | zero => omega
  | succ n =>
    have hR' : lefts ops k q n (tre o.2 [x0, (q s.step).1]) (q s.step).2 = R := by
      rw [← hR]
      conv => rhs; unfold lefts
      rw [hf]
    refine ⟨_, tre o.2 [x, y], tre o.2 [x0, (q s.step).1], (q s.step).2, n, by rw [hcs]; exact hT, ?_, ?_, ?_, hR', by omega, by omega, ?_, ?_⟩
    · rw [hS.get (by omega) (by omega), hG.get (by omega) (by omega)]; exact hb0
    · unfold tre
      rw [Ex.At.list]
      refine ⟨rfl, rfl, fit_le 2 (by decide), [r, ry], rfl, .inr ⟨W.heap.size, 0, rfl, by omega, ⟨?_, by omega, by omega⟩, Rg.blk_free ((hS.get hrl (by omega)).trans hrow), ?_⟩, Exs.At.cons ?_ (Exs.At.cons ?_ Exs.At.nil)⟩
      · have := hgo.size; omega
      · exact row2 _ _ _ (by rw [hS.get hrl (by omega)]; exact hrow)
      · refine hx.of (by omega) (fun b hb hl => ?_)
        rw [hS.get (by omega) hb.2.1, hG.get hl (by omega)]
      · refine (hy.mono (S' := fun b => w.heap.size ≤ b ∧ b ≠ E ∧ b ≠ R0) (fun b hl hb => ?_)).of (by omega) (fun b hb hl => ?_)
        · have h1 := hgo.size
          have h2 : W0.heap.size ≤ b := hb
          exact ⟨by omega, by omega, by omega⟩
        · rw [hS.get (by omega) hb.2.1, hgr.block _ hl]
    · intro hg
      rw [hxs hs3, hyg hg]
    · exact hPS
    · exact (hgo.trans hG).own hS (by omega)
theorem give {p : Nat} {w w2 : World} {R0 : Nat} {R : Ex × Ps} {r : XR} {x : Ex} (hpw : p < w.heap.size) (hR0 : R0 = w.heap.size) (hx : Ex.At (fun b => w.heap.size ≤ b ∧ b ≠ R0) w2 x r) (hps : PS p w2 R.2) (hgo : Go1 p w w2) (hxs : R.2.good = true → x = R.1) (b0 b1 b2 b3 b4 b5 b6 b7 b8 b9 b10 b11 : Value) :
    Rx p w R r.val (((((((((((((w2.setCell ⟨R0, 0, none⟩ b0).setCell ⟨R0, 1, none⟩ b1).setCell ⟨R0, 2, none⟩ b2).setCell ⟨R0, 3, none⟩ b3).setCell ⟨R0, 4, none⟩ b4).setCell ⟨R0, 5, none⟩ b5).setCell ⟨R0, 6, none⟩ b6).setCell ⟨R0, 7, none⟩ b7).setCell ⟨R0, 8, none⟩ b8).setCell ⟨R0, 9, none⟩ b9).setCell ⟨R0, 10, none⟩ b10).setCell ⟨R0, 11, none⟩ b11)) := by
  have hS := Go1.set12 R0 w2 b0 b1 b2 b3 b4 b5 b6 b7 b8 b9 b10 b11
  generalize ((((((((((((w2.setCell ⟨R0, 0, none⟩ b0).setCell ⟨R0, 1, none⟩ b1).setCell ⟨R0, 2, none⟩ b2).setCell ⟨R0, 3, none⟩ b3).setCell ⟨R0, 4, none⟩ b4).setCell ⟨R0, 5, none⟩ b5).setCell ⟨R0, 6, none⟩ b6).setCell ⟨R0, 7, none⟩ b7).setCell ⟨R0, 8, none⟩ b8).setCell ⟨R0, 9, none⟩ b9).setCell ⟨R0, 10, none⟩ b10).setCell ⟨R0, 11, none⟩ b11) = W5 at *
  refine ⟨r, x, rfl, ?_, hps.go hS (by omega), hgo.own hS (by omega), hxs⟩
  exact (hx.of hS.size (fun b hb hl => hS.get hl hb.2)).mono (fun b _ hb => hb.1)
theorem Rx.at12 {p : Nat} {w w2 W5 : World} {R0 : Nat} {R : Ex × Ps} {u : Value} {b0 b1 b2 b3 b4 b5 b6 b7 b8 b9 b10 b11 : Value} (h : ∀ b0 b1 b2 b3 b4 b5 b6 b7 b8 b9 b10 b11 : Value, Rx p w R u (((((((((((((w2.setCell ⟨R0, 0, none⟩ b0).setCell ⟨R0, 1, none⟩ b1).setCell ⟨R0, 2, none⟩ b2).setCell ⟨R0, 3, none⟩ b3).setCell ⟨R0, 4, none⟩ b4).setCell ⟨R0, 5, none⟩ b5).setCell ⟨R0, 6, none⟩ b6).setCell ⟨R0, 7, none⟩ b7).setCell ⟨R0, 8, none⟩ b8).setCell ⟨R0, 9, none⟩ b9).setCell ⟨R0, 10, none⟩ b10).setCell ⟨R0, 11, none⟩ b11))) (e : ((((((((((((w2.setCell ⟨R0, 0, none⟩ b0).setCell ⟨R0, 1, none⟩ b1).setCell ⟨R0, 2, none⟩ b2).setCell ⟨R0, 3, none⟩ b3).setCell ⟨R0, 4, none⟩ b4).setCell ⟨R0, 5, none⟩ b5).setCell ⟨R0, 6, none⟩ b6).setCell ⟨R0, 7, none⟩ b7).setCell ⟨R0, 8, none⟩ b8).setCell ⟨R0, 9, none⟩ b9).setCell ⟨R0, 10, none⟩ b10).setCell ⟨R0, 11, none⟩ b11) = W5) : Rx p w R u W5 := e ▸ h _ _ _ _ _ _ _ _ _ _ _ _
theorem cells12 {w2 W5 : World} {R0 : Nat} {T : TypeId} {a0 a1 a2 a3 a4 a5 a6 a7 a8 a9 a10 a11 b0 b1 b2 b3 b4 b5 b6 b7 b8 b9 b10 b11 : Value} (h : w2.heap[R0]? = some (.cells #[a0, a1, a2, a3, a4, a5, a6, a7, a8, a9, a10, a11] T (0, 0))) (e : ((((((((((((w2.setCell ⟨R0, 0, none⟩ b0).setCell ⟨R0, 1, none⟩ b1).setCell ⟨R0, 2, none⟩ b2).setCell ⟨R0, 3, none⟩ b3).setCell ⟨R0, 4, none⟩ b4).setCell ⟨R0, 5, none⟩ b5).setCell ⟨R0, 6, none⟩ b6).setCell ⟨R0, 7, none⟩ b7).setCell ⟨R0, 8, none⟩ b8).setCell ⟨R0, 9, none⟩ b9).setCell ⟨R0, 10, none⟩ b10).setCell ⟨R0, 11, none⟩ b11) = W5) : ∀ i, W5.cell? ⟨R0, i, none⟩ = (#[b0, b1, b2, b3, b4, b5, b6, b7, b8, b9, b10, b11] : Array Value)[i]? := by rw [← e]; exact Rg.blk_cells (set12 h _ _ _ _ _ _ _ _ _ _ _ _)
theorem LfRel.done {ops : List (ByteArray × Int)} {k p : Nat} {q : Pa Ex} {w : World} {R0 E : Nat} {R : Ex × Ps} {wr w2 : World} {r : XR} {x x0 : Ex} {s : Ps} {n : Nat}
    (hpw : p < w.heap.size) (hR0 : R0 = w.heap.size)
    (hx : Ex.At (fun b => w.heap.size ≤ b ∧ b ≠ E ∧ b ≠ R0) wr x r) (hxs : s.good = true → x = x0) (hR : lefts ops k q n x0 s = R) (hgo : Go1 p w wr)
    (hf : ops.find? (fun o => s.is k o.1) = none) (hg2 : Go1 p wr w2) (hps : PS p w2 s) (b0 b1 b2 b3 b4 b5 b6 b7 b8 b9 b10 b11 : Value) :
    Rx p w R r.val (((((((((((((w2.setCell ⟨R0, 0, none⟩ b0).setCell ⟨R0, 1, none⟩ b1).setCell ⟨R0, 2, none⟩ b2).setCell ⟨R0, 3, none⟩ b3).setCell ⟨R0, 4, none⟩ b4).setCell ⟨R0, 5, none⟩ b5).setCell ⟨R0, 6, none⟩ b6).setCell ⟨R0, 7, none⟩ b7).setCell ⟨R0, 8, none⟩ b8).setCell ⟨R0, 9, none⟩ b9).setCell ⟨R0, 10, none⟩ b10).setCell ⟨R0, 11, none⟩ b11)) := by
  have hR' : R = (x0, s) := by
    rw [← hR]
    cases n with
    | zero => rfl
    | succ n => unfold lefts; rw [hf]
  subst hR'
  exact give hpw hR0 ((hx.of hg2.size (fun b hb hl => hg2.get hl (by have := hb.1; omega))).mono (fun b _ hb => ⟨hb.1, hb.2.2⟩)) hps (hgo.trans hg2) hxs _ _ _ _ _ _ _ _ _ _ _ _
end Go.Proofs.YtbeinfhgfflneaaGreat
end
section
namespace Go.Proofs.YtbeinfhgfflneaaGreat
set_option linter.unusedVariables false
def Ps.deep : Ps → Option Nat
  | .ok _ d => some d
  | .bad _ _ => none
def As (s t : Ps) : Prop := t.deep = none ∨ t.deep = s.deep
theorem As.refl (s : Ps) : As s s := .inr rfl
theorem As.trans {s t u : Ps} (h : As t u) (k : As s t) : As s u := by
  rcases h with h | h
  · exact .inl h
  · rcases k with k | k
    · exact .inl (h.trans k)
    · exact .inr (h.trans k)
theorem as_step (s : Ps) : As s s.step := by
  match s with
  | .ok (t :: r) d => simp only [Ps.step]; split <;> exact .inr rfl
  | .ok [] d => exact .refl _
  | .bad e a => exact .refl _
theorem as_fail (e : Int) (s : Ps) : As s (s.fail e) := by
  match s with
  | .ok (t :: r) d => exact .inl rfl
  | .ok [] d => exact .inl rfl
  | .bad e a => exact .refl _
theorem as_may (k : Nat) (c : ByteArray) (s : Ps) : As s (s.may k c).2 := by
  unfold Ps.may
  split
  · exact as_step s
  · exact .refl _
theorem as_need (k : Nat) (c : ByteArray) (s : Ps) : As s (s.need k c) := by
  unfold Ps.need
  split
  · exact as_step s
  · exact as_fail _ s
theorem as_name (s : Ps) : As s s.name.2 := by
  unfold Ps.name
  split
  · exact as_step s
  · exact as_fail _ s
theorem as_down {s : Ps} (h : s.down.good = false) : As s s.down := by
  match s, h with
  | .ok l d, h =>
    simp only [Ps.down] at h ⊢
    split
    · exact as_fail _ _
    · rename_i hd; rw [if_neg hd] at h; cases h
  | .bad e a, h => exact .refl _
theorem down_deep {s t : Ps} (h : s.down.good = true) (k : As s.down t) : (∀ l d, t = .ok l d → 1 ≤ d) ∧ As s t.up := by
  match s, h with
  | .ok l d, h =>
    simp only [Ps.down] at h k
    split at h
    · cases l <;> cases h
    · rename_i hd
      rw [if_neg hd] at k
      match t, k with
      | .ok l' d', k =>
        rcases k with k | k
        · cases k
        · have e : d' = d + 1 := by simpa [Ps.deep] using k
          subst e
          refine ⟨fun l2 d2 e2 => by cases e2; omega, .inr rfl⟩
      | .bad e a, k => exact ⟨fun l2 d2 e2 => (by cases e2), .inl rfl⟩
def DP {α : Type} (p : Pa α) : Prop := ∀ s, As s (p s).2
theorem dp_lefts {ops : List (ByteArray × Int)} {k : Nat} {p : Pa Ex} (h : DP p) : ∀ n e s, As s (lefts ops k p n e s).2
  | 0, e, s => .refl _
  | n + 1, e, s => by
    unfold lefts
    split
    · exact As.trans (dp_lefts h n _ _) (As.trans (h _) (as_step s))
    · exact .refl _
theorem dp_left {ops : List (ByteArray × Int)} {k : Nat} {p : Pa Ex} (h : DP p) : DP (left ops k p) := fun s => As.trans (dp_lefts h _ _ _) (h s)
theorem dp_ahead {k : Nat} {c : ByteArray} {op : Int} {p : Pa Ex} (h : DP p) : ∀ n s, As s (ahead k c op p n s).2
  | 0, s => h s
  | n + 1, s => by
    unfold ahead
    split
    · split
      · rename_i hd
        exact (down_deep hd (As.trans (dp_ahead h n _) (as_step _))).2
      · rename_i hd
        exact as_down (by simpa using hd)
    · exact h s
theorem dp_seps {α : Type} {p : Pa α} (h : DP p) : ∀ n l s, As s (seps p n l s).2
  | 0, l, s => .refl _
  | n + 1, l, s => by
    simp only [seps]
    split
    · exact As.trans (dp_seps h n _ _) (As.trans (as_step _) (h s))
    · exact h s
theorem dp_sep {α : Type} {p : Pa α} (h : DP p) : DP (sep p) := fun s => dp_seps h _ _ s
theorem dp_list {E : Pa Ex} (h : DP E) : DP (listS E) := fun s => by
  unfold listS
  split
  · split
    · rename_i hd
      exact (down_deep hd (As.trans (as_need _ _ _) (As.trans (dp_sep h _) (as_step _)))).2
    · rename_i hd
      exact as_down (by simpa using hd)
  · exact as_fail _ s
theorem dp_compareT {p E : Pa Ex} (hp : DP p) (hE : DP E) (a : Ex) (s : Ps) : As s (compareT p E a s).2 := by
  unfold compareT
  split
  · exact As.trans (hp _) (as_step s)
  · split
    · exact As.trans (as_need _ _ _) (As.trans (as_may _ _ _) (as_step s))
    · simp only
      split
      · exact As.trans (dp_list hE _) (As.trans (as_step _) (as_may _ _ s))
      · split
        · simp only [betweens]
          exact As.trans (hp _) (As.trans (as_need _ _ _) (As.trans (hp _) (As.trans (as_step _) (as_may _ _ s))))
        · split
          · exact As.trans (as_fail _ _) (as_may _ _ s)
          · exact as_may _ _ s
theorem dp_compares {p E : Pa Ex} (hp : DP p) (hE : DP E) : DP (compares p E) := fun s => As.trans (dp_compareT hp hE _ _) (hp s)
theorem dp_call {E : Pa Ex} (hE : DP E) (nm : List UInt8) (s : Ps) : As s (callS E nm s).2 := by
  unfold callS
  split
  · rename_i hd
    simp only
    have h0 := As.trans (as_need 4 ⟨#[40]⟩ s.down.step) (as_step _)
    split
    · exact (down_deep hd (As.trans (as_need _ _ _) (As.trans (as_step _) h0))).2
    · split
      · exact (down_deep hd (As.trans (as_need _ _ _) (As.trans (hE _) h0))).2
      · exact (down_deep hd (As.trans (as_need _ _ _) (As.trans (dp_sep hE _) h0))).2
  · rename_i hd
    exact as_down (by simpa using hd)
theorem dp_nameS : DP nameS := fun s => by
  unfold nameS
  simp only
  split
  · exact As.trans (as_name _) (As.trans (as_step _) (as_name s))
  · exact as_name s
theorem dp_single {E : Pa Ex} (hE : DP E) : DP (single E) := fun s => by
  unfold single
  split
  · exact as_step s
  split
  · exact as_step s
  split
  · exact as_step s
  split
  · exact as_step s
  split
  · exact as_step s
  split
  · split
    · rename_i hd
      exact (down_deep hd (As.trans (as_need _ _ _) (As.trans (hE _) (as_step _)))).2
    · rename_i hd
      exact as_down (by simpa using hd)
  split
  · exact dp_call hE _ s
  · exact dp_nameS s
theorem dp_lvl {E : Pa Ex} (hE : DP E) : DP (lvl E) :=
  dp_left (dp_left (fun s => dp_ahead (dp_compares (dp_left (dp_left (fun s => dp_ahead (dp_single hE) _ s))) hE) _ s))
theorem dp_expr : ∀ n, DP (expr n)
  | 0 => dp_lvl (fun s => .refl _)
  | n + 1 => dp_lvl (dp_expr n)
theorem ahead_fuel {k : Nat} {c : ByteArray} {op : Int} {p : Pa Ex} (hk : k ≠ 5) : ∀ (n : Nat) (s : Ps), s.size ≤ n → ahead k c op p n s = ahead k c op p s.size s
  | 0, s, h => by have : s.size = 0 := by omega
                  rw [this]
  | n + 1, s, h => by
    cases hB : s.is k c with
    | false =>
      cases hz : s.size with
      | zero => simp [ahead, hB]
      | succ j => simp [ahead, hB]
    | true =>
      obtain ⟨h1, h2, h3⟩ := is_step hB hk
      cases hz : s.size with
      | zero => omega
      | succ j =>
        unfold ahead
        rw [hB]
        simp only [if_true]
        split
        · rename_i hd
          obtain ⟨d1, d2, d3, d4⟩ := down_good hd
          have hs' : s.down.step.size = j := by
            have := (is_step (s := s.down) (k := k) (c := c) (by rw [d4]; exact hB) hk).1
            omega
          rw [ahead_fuel hk n s.down.step (by omega), ahead_fuel hk j s.down.step (by omega)]
        · rfl
end Go.Proofs.YtbeinfhgfflneaaGreat
end
