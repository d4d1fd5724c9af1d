/- The document's comparisons and connectives. -/
import Derived.Test.YtefdkpfndjlpgaaDoorW11
import Derived.Test.YtefdkpfndjlpgaaDoorW9
namespace Go.Proofs.YtefdkpfndjlpgaaDoor
open Go.RowKit
set_option linter.unusedSimpArgs false
set_option linter.unusedVariables false
attribute [local go_sem] Rg.once_normal Rg.once_exit Rg.once_ret Rg.once_panic Rg.once_goto Rg.leads_value Rg.leads_skip Rg.leads_enter
def cmpR (less same : Bool) : Int := if same then 0 else if less then -1 else 1
theorem rcmp_low (less same : Bool) (w : World) : Calls Tryd.prog 63 #[.bool less, .bool same] w fun e w' => e = .returned (.int .i64 (cmpR less same)) ∧ w' = w := by
  cases less <;> cases same
  all_goals
    go_enter Tryd.func63, Tryd.ntmps63
    go_wp2
    go_returns
    exact ⟨rfl, rfl⟩
theorem cmpR_int (x y : Int) : cmpR (decide (x < y)) (x == y) = Lib.compareInt x y := by
  unfold cmpR Lib.compareInt
  by_cases h1 : x = y
  · subst h1; simp
  · by_cases h2 : x < y
    · simp [h1, h2]
    · have h3 : y < x := by omega
      simp [h1, h2, h3]
theorem cmpR_ne (x y : Int) (h : (x != y) = true) : cmpR (decide (x < y)) false = Lib.compareInt x y := by
  rw [← cmpR_int]
  have : (x == y) = false := by simpa using h
  rw [this]
theorem bytes_irr : ∀ l : List UInt8, Op.bytesLess l l = false
  | [] => rfl
  | a :: l => by unfold Op.bytesLess; rw [bytes_irr l]; simp [UInt8.lt_irrefl]
theorem cmpR_bytes : ∀ l1 l2 : List UInt8, cmpR (Op.bytesLess l1 l2) (l1 == l2) = Lib.compareBytes l1 l2
  | [], [] => rfl
  | [], _ :: _ => rfl
  | _ :: _, [] => rfl
  | a :: x, b :: y => by
    unfold Lib.compareBytes
    by_cases h1 : a < b
    · have h2 : ¬ a = b := by intro h; subst h; exact UInt8.lt_irrefl _ h1
      have h3 : (a :: x == b :: y) = false := by simp [h2]
      rw [if_pos h1, h3]
      unfold Op.bytesLess
      simp [cmpR, h1]
    · rw [if_neg h1]
      by_cases h2 : b < a
      · have h3 : ¬ a = b := by intro h; subst h; exact UInt8.lt_irrefl _ h2
        have h4 : (a :: x == b :: y) = false := by simp [h3]
        rw [if_pos h2, h4]
        unfold Op.bytesLess
        simp [cmpR, h1, h3]
      · have h3 : a = b := by
          have h4 := UInt8.not_lt.1 h1
          have h5 := UInt8.not_lt.1 h2
          exact UInt8.le_antisymm h5 h4
        subst h3
        rw [if_neg h2, ← cmpR_bytes x y]
        have h4 : (a :: x == a :: y) = (x == y) := by simp
        rw [h4]
        have h5 : Op.bytesLess (a :: x) (a :: y) = Op.bytesLess x y := by
          conv => lhs; unfold Op.bytesLess
          simp [UInt8.lt_irrefl]
        rw [h5]
theorem cmpR_truth (a b : Bool) : cmpR (!a) (a == b) = cmpT a b := by cases a <;> cases b <;> rfl
set_option maxHeartbeats 2000000 in
set_option maxRecDepth 100000 in
theorem rcmp_any (a b : V) (w : World) : Calls Tryd.prog 49 #[a.val, b.val] w fun e w' => e = .returned (.int .i64 (cmpV a b)) ∧ Gr w w' := by
  obtain ⟨t, n, s, b'⟩ := a
  obtain ⟨t2, n2, s2, b2'⟩ := b
  generalize hr : cmpV ⟨t, n, s, b'⟩ ⟨t2, n2, s2, b2'⟩ = R
  unfold cmpV at hr
  simp only at hr
  rw [← cmpR_int n n2, ← cmpR_bytes, ← cmpR_truth, ← ByteArray.toList_eq, ← ByteArray.toList_eq] at hr
  have Hr := hid hr
  clear hr
  unfold V.val
  by_cases hne : (t != t2) = true
  · have Hn := hid (cmpR_ne t t2 hne)
    go_enter Tryd.func49, Tryd.ntmps49
    go_wp2_with (first | (go_at_call 63; ((with_reducible refine (rcmp_low _ _ _).mono ?_)); rintro e w' ⟨rfl, hw⟩; subst hw))
    all_goals
      (try (go_step3; (try simp only [Exit.then]); (try change Rg.once _ _ _ _ _ _); rw [Rg.once_goto]; go_wp2))
      (try rw [Rg.once_ret])
      (try rw [Exit.noGoto_ret])
      (try change bodyPost _ _ _ _ _ _)
      first
      | (go_returns; refine ⟨?_, ?_⟩)
      | (refine bodyPost_ret (by simp [results, Tryd.results49, go_sem, *]; try rfl) rfl ⟨?_, ?_⟩)
      rotate_left
      · repeat' (first | exact Gr.refl _ | exact Nat.le_refl _ | exact Nat.le_add_right _ _ | refine Gr.setCell ?_ ?_ _ | refine Gr.alloc ?_ _ | refine Gr.drew ?_ | refine Gr.trans ?_ (by assumption) | omega | (dsimp only; omega))
    all_goals
      rw [← Hr.out]
      simp only [*, if_true]
      rw [← Hn.out]
      rfl
  · have hne' : (t != t2) = false := by simpa using hne
    clear hne
    go_enter Tryd.func49, Tryd.ntmps49
    go_wp2_with (first | (go_at_call 63; ((with_reducible refine (rcmp_low _ _ _).mono ?_)); rintro e w' ⟨rfl, hw⟩; subst hw))
    all_goals
      (try (go_step3; (try simp only [Exit.then]); (try change Rg.once _ _ _ _ _ _); rw [Rg.once_goto]; go_wp2))
      (try rw [Rg.once_ret])
      (try rw [Exit.noGoto_ret])
      (try change bodyPost _ _ _ _ _ _)
      first
      | (go_returns; refine ⟨?_, ?_⟩)
      | (refine bodyPost_ret (by simp [results, Tryd.results49, go_sem, *]; try rfl) rfl ⟨?_, ?_⟩)
      rotate_left
      · repeat' (first | exact Gr.refl _ | exact Nat.le_refl _ | exact Nat.le_add_right _ _ | refine Gr.setCell ?_ ?_ _ | refine Gr.alloc ?_ _ | refine Gr.drew ?_ | refine Gr.trans ?_ (by assumption) | omega | (dsimp only; omega))
    all_goals (rw [← Hr.out]; (try simp only [*, if_true, Bool.false_eq_true, if_false]); (try rfl))
set_option maxHeartbeats 2000000 in
set_option maxRecDepth 100000 in
theorem rless_any (op : Int) (a b : V) (w : World) : Calls Tryd.prog 28 #[.int .i64 op, a.val, b.val] w fun e w' => e = pairR (lessR op a b) ∧ Gr w w' := by
  obtain ⟨t, n, s, b'⟩ := a
  obtain ⟨t2, n2, s2, b2'⟩ := b
  have C := fun W => rcmp_any ⟨t, n, s, b'⟩ ⟨t2, n2, s2, b2'⟩ W
  generalize hr : pairR (lessR op ⟨t, n, s, b'⟩ ⟨t2, n2, s2, b2'⟩) = R
  unfold lessR at hr
  simp only at hr
  generalize cmpV ⟨t, n, s, b'⟩ ⟨t2, n2, s2, b2'⟩ = c at *
  unfold opB at hr
  have Hr := hid hr
  clear hr
  unfold V.val at *
  obtain ⟨b1, t1⟩ : ∃ b, decide (op < 9) = b := ⟨_, rfl⟩
  obtain ⟨b2, t2'⟩ : ∃ b, decide (14 < op) = b := ⟨_, rfl⟩
  obtain ⟨b3, t3⟩ : ∃ b, (t == 0) = b := ⟨_, rfl⟩
  obtain ⟨b4, t4⟩ : ∃ b, (t2 == 0) = b := ⟨_, rfl⟩
  cases b1
  · cases b2
    · cases b3
      · cases b4
        all_goals
          go_enter Tryd.func28, Tryd.ntmps28
          go_wp2_with (first | (go_at_call 49; ((with_reducible refine (C _).mono ?_)); rintro e w' ⟨rfl, hg⟩; have hc := hg.cells; have hf := hg.frees; have hz := hg.size; (try simp only [World.size_alloc, World.size_setCell, World.size_drew] at hz); (try have : w.heap.size < w'.heap.size := by omega); (try have : w.heap.size + 1 < w'.heap.size := by omega); (try have : w.heap.size + 1 + 1 < w'.heap.size := by omega); (try have : w.heap.size + 1 + 1 + 1 < w'.heap.size := by omega)) | (go_at_call 50; ((with_reducible refine (rtruth_any _ _).mono ?_)); rintro e w' ⟨rfl, hg⟩; have hc := hg.cells; have hf := hg.frees; have hz := hg.size; (try simp only [World.size_alloc, World.size_setCell, World.size_drew] at hz); (try have : w.heap.size < w'.heap.size := by omega); (try have : w.heap.size + 1 < w'.heap.size := by omega); (try have : w.heap.size + 1 + 1 < w'.heap.size := by omega); (try have : w.heap.size + 1 + 1 + 1 < w'.heap.size := by omega)) | (go_at_call 36; ((with_reducible refine (rnull_any _).mono ?_)); rintro e w' ⟨rfl, hg⟩; have hc := hg.cells; have hf := hg.frees; have hz := hg.size; (try simp only [World.size_alloc, World.size_setCell, World.size_drew] at hz); (try have : w.heap.size < w'.heap.size := by omega); (try have : w.heap.size + 1 < w'.heap.size := by omega); (try have : w.heap.size + 1 + 1 < w'.heap.size := by omega); (try have : w.heap.size + 1 + 1 + 1 < w'.heap.size := by omega)))
          all_goals
            (try (go_step3; (try simp only [Exit.then]); (try change Rg.once _ _ _ _ _ _); rw [Rg.once_goto]; go_wp2))
            (try rw [Rg.once_ret])
            (try rw [Exit.noGoto_ret])
            (try change bodyPost _ _ _ _ _ _)
            first
            | (go_returns; refine ⟨?_, ?_⟩)
            | (refine bodyPost_ret (by simp [results, Tryd.results28, go_sem, *]; try rfl) rfl ⟨?_, ?_⟩)
            rotate_left
            · repeat' (first | exact Gr.refl _ | exact Nat.le_refl _ | exact Nat.le_add_right _ _ | refine Gr.setCell ?_ ?_ _ | refine Gr.alloc ?_ _ | refine Gr.drew ?_ | refine Gr.trans ?_ (by assumption) | omega | (dsimp only; omega))
          all_goals (rw [← Hr.out]; (try simp only [*, if_true, Bool.false_eq_true, if_false]); (try rfl))
      · go_enter Tryd.func28, Tryd.ntmps28
        go_wp2_with (first | (go_at_call 36; ((with_reducible refine (rnull_any _).mono ?_)); rintro e w' ⟨rfl, hg⟩; have hc := hg.cells; have hf := hg.frees; have hz := hg.size; (try simp only [World.size_alloc, World.size_setCell, World.size_drew] at hz); (try have : w.heap.size < w'.heap.size := by omega); (try have : w.heap.size + 1 < w'.heap.size := by omega); (try have : w.heap.size + 1 + 1 < w'.heap.size := by omega); (try have : w.heap.size + 1 + 1 + 1 < w'.heap.size := by omega)))
        all_goals
          (try (go_step3; (try simp only [Exit.then]); (try change Rg.once _ _ _ _ _ _); rw [Rg.once_goto]; go_wp2))
          (try rw [Rg.once_ret])
          (try rw [Exit.noGoto_ret])
          (try change bodyPost _ _ _ _ _ _)
          first
          | (go_returns; refine ⟨?_, ?_⟩)
          | (refine bodyPost_ret (by simp [results, Tryd.results28, go_sem, *]; try rfl) rfl ⟨?_, ?_⟩)
          rotate_left
          · repeat' (first | exact Gr.refl _ | exact Nat.le_refl _ | exact Nat.le_add_right _ _ | refine Gr.setCell ?_ ?_ _ | refine Gr.alloc ?_ _ | refine Gr.drew ?_ | refine Gr.trans ?_ (by assumption) | omega | (dsimp only; omega))
        all_goals (rw [← Hr.out]; (try simp only [*, if_true, Bool.false_eq_true, if_false]); (try rfl))
    · go_enter Tryd.func28, Tryd.ntmps28
      go_wp2_with (first | (go_at_call 36; ((with_reducible refine (rnull_any _).mono ?_)); rintro e w' ⟨rfl, hg⟩; have hc := hg.cells; have hf := hg.frees; have hz := hg.size; (try simp only [World.size_alloc, World.size_setCell, World.size_drew] at hz); (try have : w.heap.size < w'.heap.size := by omega); (try have : w.heap.size + 1 < w'.heap.size := by omega); (try have : w.heap.size + 1 + 1 < w'.heap.size := by omega); (try have : w.heap.size + 1 + 1 + 1 < w'.heap.size := by omega)))
      all_goals
        (try (go_step3; (try simp only [Exit.then]); (try change Rg.once _ _ _ _ _ _); rw [Rg.once_goto]; go_wp2))
        (try rw [Rg.once_ret])
        (try rw [Exit.noGoto_ret])
        (try change bodyPost _ _ _ _ _ _)
        first
        | (go_returns; refine ⟨?_, ?_⟩)
        | (refine bodyPost_ret (by simp [results, Tryd.results28, go_sem, *]; try rfl) rfl ⟨?_, ?_⟩)
        rotate_left
        · repeat' (first | exact Gr.refl _ | exact Nat.le_refl _ | exact Nat.le_add_right _ _ | refine Gr.setCell ?_ ?_ _ | refine Gr.alloc ?_ _ | refine Gr.drew ?_ | refine Gr.trans ?_ (by assumption) | omega | (dsimp only; omega))
      all_goals (rw [← Hr.out]; (try simp only [*, if_true, Bool.false_eq_true, if_false]); (try rfl))
  · go_enter Tryd.func28, Tryd.ntmps28
    go_wp2_with (first | (go_at_call 36; ((with_reducible refine (rnull_any _).mono ?_)); rintro e w' ⟨rfl, hg⟩; have hc := hg.cells; have hf := hg.frees; have hz := hg.size; (try simp only [World.size_alloc, World.size_setCell, World.size_drew] at hz); (try have : w.heap.size < w'.heap.size := by omega); (try have : w.heap.size + 1 < w'.heap.size := by omega); (try have : w.heap.size + 1 + 1 < w'.heap.size := by omega); (try have : w.heap.size + 1 + 1 + 1 < w'.heap.size := by omega)))
    all_goals
      (try (go_step3; (try simp only [Exit.then]); (try change Rg.once _ _ _ _ _ _); rw [Rg.once_goto]; go_wp2))
      (try rw [Rg.once_ret])
      (try rw [Exit.noGoto_ret])
      (try change bodyPost _ _ _ _ _ _)
      first
      | (go_returns; refine ⟨?_, ?_⟩)
      | (refine bodyPost_ret (by simp [results, Tryd.results28, go_sem, *]; try rfl) rfl ⟨?_, ?_⟩)
      rotate_left
      · repeat' (first | exact Gr.refl _ | exact Nat.le_refl _ | exact Nat.le_add_right _ _ | refine Gr.setCell ?_ ?_ _ | refine Gr.alloc ?_ _ | refine Gr.drew ?_ | refine Gr.trans ?_ (by assumption) | omega | (dsimp only; omega))
    all_goals (rw [← Hr.out]; (try simp only [*, if_true, Bool.false_eq_true, if_false]); (try rfl))
/-- and (of false), or (of true) -/
def eitherR (a b : V) (d : Bool) : V × Int :=
  if isB a 3 then (if isB b 3 then (if (a.t == 3 && a.b == d) || (b.t == 3 && b.b == d) then (boolV d, 0) else if a.t == 0 then (nul, 0) else if b.t == 0 then (nul, 0) else (boolV (!d), 0)) else (nul, 160)) else (nul, 160)
theorem plain_is (a : V) : isB (plainV a) 3 = isB a 3 := rfl
theorem either_same (a b : V) (d : Bool) : sideR (plainV a) (plainV b) d = eitherR a b d := by
  unfold sideR eitherR
  rw [typed_ok, plain_is, plain_is]
  cases ha : isB a 3
  · rfl
  · cases hb : isB b 3
    · rfl
    · rw [typed_null 3 (plainV a) (plainV b) (by rw [typed_ok, plain_is, plain_is, ha, hb]; rfl)]
      have e1 : veqB (plainV a) (boolV d) = (a.t == 3 && a.b == d) := by
        unfold veqB plainV boolV
        simp only
        cases h : (a.t == 3)
        · rfl
        · cases a.b <;> cases d <;> simp
      have e2 : veqB (plainV b) (boolV d) = (b.t == 3 && b.b == d) := by
        unfold veqB plainV boolV
        simp only
        cases h : (b.t == 3)
        · rfl
        · cases b.b <;> cases d <;> simp
      rw [e1, e2]
      have e3 : (plainV a).t = a.t := rfl
      have e4 : (plainV b).t = b.t := rfl
      rw [e3, e4]
      cases (a.t == 3 && a.b == d) <;> cases (b.t == 3 && b.b == d) <;> cases (a.t == 0) <;> cases (b.t == 0) <;> rfl
set_option maxHeartbeats 2000000 in
set_option maxRecDepth 100000 in
theorem either_any (a b : V) (d : Bool) (w : World) : Calls Tryd.prog 51 #[a.val, b.val, .bool d] w fun e w' => e = pairR (eitherR a b d) ∧ Gr w w' := by
  have I1 := fun W => ris_any a 3 W
  have I2 := fun W => ris_any b 3 W
  obtain ⟨t, n, s, b'⟩ := a
  obtain ⟨t2, n2, s2, b2'⟩ := b
  generalize hr : pairR (eitherR ⟨t, n, s, b'⟩ ⟨t2, n2, s2, b2'⟩ d) = R
  unfold eitherR at hr
  simp only at I1 I2 hr
  generalize isB ⟨t, n, s, b'⟩ 3 = i1 at *
  generalize isB ⟨t2, n2, s2, b2'⟩ 3 = i2 at *
  obtain ⟨c1, t1⟩ : ∃ c, (t == 0) = c := ⟨_, rfl⟩
  obtain ⟨c2, t2'⟩ : ∃ c, (t2 == 0) = c := ⟨_, rfl⟩
  obtain ⟨c3, t3⟩ : ∃ c, (t == 3) = c := ⟨_, rfl⟩
  obtain ⟨c4, t4⟩ : ∃ c, (t2 == 3) = c := ⟨_, rfl⟩
  obtain ⟨c5, t5⟩ : ∃ c, (b' == d) = c := ⟨_, rfl⟩
  obtain ⟨c6, t6⟩ : ∃ c, (b2' == d) = c := ⟨_, rfl⟩
  rw [t1, t2', t3, t4, t5, t6] at hr
  unfold V.val
  cases i1
  · have Hr := hid hr
    clear hr
    go_enter Tryd.func51, Tryd.ntmps51
    go_wp2_with (first | (go_at_call 36; ((with_reducible refine (rnull_any _).mono ?_)); rintro e w' ⟨rfl, hg⟩; have hc := hg.cells; have hf := hg.frees; have hz := hg.size; (try simp only [World.size_alloc, World.size_setCell, World.size_drew] at hz); (try have : w.heap.size < w'.heap.size := by omega); (try have : w.heap.size + 1 < w'.heap.size := by omega); (try have : w.heap.size + 1 + 1 < w'.heap.size := by omega); (try have : w.heap.size + 1 + 1 + 1 < w'.heap.size := by omega)) | (go_at_call 37; ((with_reducible refine (I1 _).mono ?_)); rintro e w' ⟨rfl, hg⟩; have hc := hg.cells; have hf := hg.frees; have hz := hg.size; (try simp only [World.size_alloc, World.size_setCell, World.size_drew] at hz); (try have : w.heap.size < w'.heap.size := by omega); (try have : w.heap.size + 1 < w'.heap.size := by omega); (try have : w.heap.size + 1 + 1 < w'.heap.size := by omega); (try have : w.heap.size + 1 + 1 + 1 < w'.heap.size := by omega)))
    all_goals
      (try (go_step3; (try simp only [Exit.then]); (try change Rg.once _ _ _ _ _ _); rw [Rg.once_goto]; go_wp2))
      (try rw [Rg.once_ret])
      (try rw [Exit.noGoto_ret])
      (try change bodyPost _ _ _ _ _ _)
      first
      | (go_returns; refine ⟨?_, ?_⟩)
      | (refine bodyPost_ret (by simp [results, Tryd.results51, go_sem, *]; try rfl) rfl ⟨?_, ?_⟩)
      rotate_left
      · repeat' (first | exact Gr.refl _ | exact Nat.le_refl _ | exact Nat.le_add_right _ _ | refine Gr.setCell ?_ ?_ _ | refine Gr.alloc ?_ _ | refine Gr.drew ?_ | refine Gr.trans ?_ (by assumption) | omega | (dsimp only; omega))
    all_goals (rw [← Hr.out]; (try simp only [*, if_true, Bool.false_eq_true, if_false]); (try rfl))
  cases i2
  · have Hr := hid hr
    clear hr
    go_enter Tryd.func51, Tryd.ntmps51
    go_wp2_with (first | (go_at_call 36; ((with_reducible refine (rnull_any _).mono ?_)); rintro e w' ⟨rfl, hg⟩; have hc := hg.cells; have hf := hg.frees; have hz := hg.size; (try simp only [World.size_alloc, World.size_setCell, World.size_drew] at hz); (try have : w.heap.size < w'.heap.size := by omega); (try have : w.heap.size + 1 < w'.heap.size := by omega); (try have : w.heap.size + 1 + 1 < w'.heap.size := by omega); (try have : w.heap.size + 1 + 1 + 1 < w'.heap.size := by omega)) | (go_at_call 37; ((with_reducible refine (I1 _).mono ?_)); rintro e w' ⟨rfl, hg⟩; have hc := hg.cells; have hf := hg.frees; have hz := hg.size; (try simp only [World.size_alloc, World.size_setCell, World.size_drew] at hz); (try have : w.heap.size < w'.heap.size := by omega); (try have : w.heap.size + 1 < w'.heap.size := by omega); (try have : w.heap.size + 1 + 1 < w'.heap.size := by omega); (try have : w.heap.size + 1 + 1 + 1 < w'.heap.size := by omega)) | (go_at_call 37; ((with_reducible refine (I2 _).mono ?_)); rintro e w' ⟨rfl, hg⟩; have hc := hg.cells; have hf := hg.frees; have hz := hg.size; (try simp only [World.size_alloc, World.size_setCell, World.size_drew] at hz); (try have : w.heap.size < w'.heap.size := by omega); (try have : w.heap.size + 1 < w'.heap.size := by omega); (try have : w.heap.size + 1 + 1 < w'.heap.size := by omega); (try have : w.heap.size + 1 + 1 + 1 < w'.heap.size := by omega)))
    all_goals
      (try (go_step3; (try simp only [Exit.then]); (try change Rg.once _ _ _ _ _ _); rw [Rg.once_goto]; go_wp2))
      (try rw [Rg.once_ret])
      (try rw [Exit.noGoto_ret])
      (try change bodyPost _ _ _ _ _ _)
      first
      | (go_returns; refine ⟨?_, ?_⟩)
      | (refine bodyPost_ret (by simp [results, Tryd.results51, go_sem, *]; try rfl) rfl ⟨?_, ?_⟩)
      rotate_left
      · repeat' (first | exact Gr.refl _ | exact Nat.le_refl _ | exact Nat.le_add_right _ _ | refine Gr.setCell ?_ ?_ _ | refine Gr.alloc ?_ _ | refine Gr.drew ?_ | refine Gr.trans ?_ (by assumption) | omega | (dsimp only; omega))
    all_goals (rw [← Hr.out]; (try simp only [*, if_true, Bool.false_eq_true, if_false]); (try rfl))
  have fin0 : ∀ (x : Bool), ((c3 && c5) || (c4 && c6)) = x → Hid ((if x = true then pairR (boolV d, 0) else pairR (if c1 = true then (nul, 0) else if c2 = true then (nul, 0) else (boolV (!d), 0))) = R) := by
    intro x hx
    rw [hx] at hr
    refine hid ?_
    cases x <;> simpa using hr
  clear hr
  have F0 := hid fin0
  clear fin0
  have main : ∀ (x1 : Bool), (c3 && c5) = x1 → Calls Tryd.prog 51 #[.agg #[.int .i64 t, .int .i64 n, .string s, .bool b'], .agg #[.int .i64 t2, .int .i64 n2, .string s2, .bool b2'], .bool d] w fun e w' => e = R ∧ Gr w w' := by
    intro x1 h1
    cases x1
    · have second : ∀ (x2 : Bool), (c4 && c6) = x2 → Calls Tryd.prog 51 #[.agg #[.int .i64 t, .int .i64 n, .string s, .bool b'], .agg #[.int .i64 t2, .int .i64 n2, .string s2, .bool b2'], .bool d] w fun e w' => e = R ∧ Gr w w' := by
        intro x2 h2
        have Hr := F0.out (false || x2) (by rw [h1, h2])
        clear F0
        cases x2
        · cases c3
          · cases c4
            · cases c1
              · cases c2
                all_goals
                  go_enter Tryd.func51, Tryd.ntmps51
                  go_wp2_with (first | (go_at_call 36; ((with_reducible refine (rnull_any _).mono ?_)); rintro e w' ⟨rfl, hg⟩; have hc := hg.cells; have hf := hg.frees; have hz := hg.size; (try simp only [World.size_alloc, World.size_setCell, World.size_drew] at hz); (try have : w.heap.size < w'.heap.size := by omega); (try have : w.heap.size + 1 < w'.heap.size := by omega); (try have : w.heap.size + 1 + 1 < w'.heap.size := by omega); (try have : w.heap.size + 1 + 1 + 1 < w'.heap.size := by omega)) | (go_at_call 37; ((with_reducible refine (I1 _).mono ?_)); rintro e w' ⟨rfl, hg⟩; have hc := hg.cells; have hf := hg.frees; have hz := hg.size; (try simp only [World.size_alloc, World.size_setCell, World.size_drew] at hz); (try have : w.heap.size < w'.heap.size := by omega); (try have : w.heap.size + 1 < w'.heap.size := by omega); (try have : w.heap.size + 1 + 1 < w'.heap.size := by omega); (try have : w.heap.size + 1 + 1 + 1 < w'.heap.size := by omega)) | (go_at_call 37; ((with_reducible refine (I2 _).mono ?_)); rintro e w' ⟨rfl, hg⟩; have hc := hg.cells; have hf := hg.frees; have hz := hg.size; (try simp only [World.size_alloc, World.size_setCell, World.size_drew] at hz); (try have : w.heap.size < w'.heap.size := by omega); (try have : w.heap.size + 1 < w'.heap.size := by omega); (try have : w.heap.size + 1 + 1 < w'.heap.size := by omega); (try have : w.heap.size + 1 + 1 + 1 < w'.heap.size := by omega)) | (go_at_call 50; ((with_reducible refine (rtruth_any _ _).mono ?_)); rintro e w' ⟨rfl, hg⟩; have hc := hg.cells; have hf := hg.frees; have hz := hg.size; (try simp only [World.size_alloc, World.size_setCell, World.size_drew] at hz); (try have : w.heap.size < w'.heap.size := by omega); (try have : w.heap.size + 1 < w'.heap.size := by omega); (try have : w.heap.size + 1 + 1 < w'.heap.size := by omega); (try have : w.heap.size + 1 + 1 + 1 < w'.heap.size := by omega)))
                  all_goals
                    (try (go_step3; (try simp only [Exit.then]); (try change Rg.once _ _ _ _ _ _); rw [Rg.once_goto]; go_wp2))
                    (try rw [Rg.once_ret])
                    (try rw [Exit.noGoto_ret])
                    (try change bodyPost _ _ _ _ _ _)
                    first
                    | (go_returns; refine ⟨?_, ?_⟩)
                    | (refine bodyPost_ret (by simp [results, Tryd.results51, go_sem, *]; try rfl) rfl ⟨?_, ?_⟩)
                    rotate_left
                    · repeat' (first | exact Gr.refl _ | exact Nat.le_refl _ | exact Nat.le_add_right _ _ | refine Gr.setCell ?_ ?_ _ | refine Gr.alloc ?_ _ | refine Gr.drew ?_ | refine Gr.trans ?_ (by assumption) | omega | (dsimp only; omega))
                  all_goals (rw [← Hr.out]; (try simp only [*, if_true, Bool.false_eq_true, if_false]); (try rfl))
              · go_enter Tryd.func51, Tryd.ntmps51
                go_wp2_with (first | (go_at_call 36; ((with_reducible refine (rnull_any _).mono ?_)); rintro e w' ⟨rfl, hg⟩; have hc := hg.cells; have hf := hg.frees; have hz := hg.size; (try simp only [World.size_alloc, World.size_setCell, World.size_drew] at hz); (try have : w.heap.size < w'.heap.size := by omega); (try have : w.heap.size + 1 < w'.heap.size := by omega); (try have : w.heap.size + 1 + 1 < w'.heap.size := by omega); (try have : w.heap.size + 1 + 1 + 1 < w'.heap.size := by omega)) | (go_at_call 37; ((with_reducible refine (I1 _).mono ?_)); rintro e w' ⟨rfl, hg⟩; have hc := hg.cells; have hf := hg.frees; have hz := hg.size; (try simp only [World.size_alloc, World.size_setCell, World.size_drew] at hz); (try have : w.heap.size < w'.heap.size := by omega); (try have : w.heap.size + 1 < w'.heap.size := by omega); (try have : w.heap.size + 1 + 1 < w'.heap.size := by omega); (try have : w.heap.size + 1 + 1 + 1 < w'.heap.size := by omega)) | (go_at_call 37; ((with_reducible refine (I2 _).mono ?_)); rintro e w' ⟨rfl, hg⟩; have hc := hg.cells; have hf := hg.frees; have hz := hg.size; (try simp only [World.size_alloc, World.size_setCell, World.size_drew] at hz); (try have : w.heap.size < w'.heap.size := by omega); (try have : w.heap.size + 1 < w'.heap.size := by omega); (try have : w.heap.size + 1 + 1 < w'.heap.size := by omega); (try have : w.heap.size + 1 + 1 + 1 < w'.heap.size := by omega)) | (go_at_call 50; ((with_reducible refine (rtruth_any _ _).mono ?_)); rintro e w' ⟨rfl, hg⟩; have hc := hg.cells; have hf := hg.frees; have hz := hg.size; (try simp only [World.size_alloc, World.size_setCell, World.size_drew] at hz); (try have : w.heap.size < w'.heap.size := by omega); (try have : w.heap.size + 1 < w'.heap.size := by omega); (try have : w.heap.size + 1 + 1 < w'.heap.size := by omega); (try have : w.heap.size + 1 + 1 + 1 < w'.heap.size := by omega)))
                all_goals
                  (try (go_step3; (try simp only [Exit.then]); (try change Rg.once _ _ _ _ _ _); rw [Rg.once_goto]; go_wp2))
                  (try rw [Rg.once_ret])
                  (try rw [Exit.noGoto_ret])
                  (try change bodyPost _ _ _ _ _ _)
                  first
                  | (go_returns; refine ⟨?_, ?_⟩)
                  | (refine bodyPost_ret (by simp [results, Tryd.results51, go_sem, *]; try rfl) rfl ⟨?_, ?_⟩)
                  rotate_left
                  · repeat' (first | exact Gr.refl _ | exact Nat.le_refl _ | exact Nat.le_add_right _ _ | refine Gr.setCell ?_ ?_ _ | refine Gr.alloc ?_ _ | refine Gr.drew ?_ | refine Gr.trans ?_ (by assumption) | omega | (dsimp only; omega))
                all_goals (rw [← Hr.out]; (try simp only [*, if_true, Bool.false_eq_true, if_false]); (try rfl))
            · have h6 : c6 = false := by simpa using h2
              subst h6
              cases c1
              · cases c2
                all_goals
                  go_enter Tryd.func51, Tryd.ntmps51
                  go_wp2_with (first | (go_at_call 36; ((with_reducible refine (rnull_any _).mono ?_)); rintro e w' ⟨rfl, hg⟩; have hc := hg.cells; have hf := hg.frees; have hz := hg.size; (try simp only [World.size_alloc, World.size_setCell, World.size_drew] at hz); (try have : w.heap.size < w'.heap.size := by omega); (try have : w.heap.size + 1 < w'.heap.size := by omega); (try have : w.heap.size + 1 + 1 < w'.heap.size := by omega); (try have : w.heap.size + 1 + 1 + 1 < w'.heap.size := by omega)) | (go_at_call 37; ((with_reducible refine (I1 _).mono ?_)); rintro e w' ⟨rfl, hg⟩; have hc := hg.cells; have hf := hg.frees; have hz := hg.size; (try simp only [World.size_alloc, World.size_setCell, World.size_drew] at hz); (try have : w.heap.size < w'.heap.size := by omega); (try have : w.heap.size + 1 < w'.heap.size := by omega); (try have : w.heap.size + 1 + 1 < w'.heap.size := by omega); (try have : w.heap.size + 1 + 1 + 1 < w'.heap.size := by omega)) | (go_at_call 37; ((with_reducible refine (I2 _).mono ?_)); rintro e w' ⟨rfl, hg⟩; have hc := hg.cells; have hf := hg.frees; have hz := hg.size; (try simp only [World.size_alloc, World.size_setCell, World.size_drew] at hz); (try have : w.heap.size < w'.heap.size := by omega); (try have : w.heap.size + 1 < w'.heap.size := by omega); (try have : w.heap.size + 1 + 1 < w'.heap.size := by omega); (try have : w.heap.size + 1 + 1 + 1 < w'.heap.size := by omega)) | (go_at_call 50; ((with_reducible refine (rtruth_any _ _).mono ?_)); rintro e w' ⟨rfl, hg⟩; have hc := hg.cells; have hf := hg.frees; have hz := hg.size; (try simp only [World.size_alloc, World.size_setCell, World.size_drew] at hz); (try have : w.heap.size < w'.heap.size := by omega); (try have : w.heap.size + 1 < w'.heap.size := by omega); (try have : w.heap.size + 1 + 1 < w'.heap.size := by omega); (try have : w.heap.size + 1 + 1 + 1 < w'.heap.size := by omega)))
                  all_goals
                    (try (go_step3; (try simp only [Exit.then]); (try change Rg.once _ _ _ _ _ _); rw [Rg.once_goto]; go_wp2))
                    (try rw [Rg.once_ret])
                    (try rw [Exit.noGoto_ret])
                    (try change bodyPost _ _ _ _ _ _)
                    first
                    | (go_returns; refine ⟨?_, ?_⟩)
                    | (refine bodyPost_ret (by simp [results, Tryd.results51, go_sem, *]; try rfl) rfl ⟨?_, ?_⟩)
                    rotate_left
                    · repeat' (first | exact Gr.refl _ | exact Nat.le_refl _ | exact Nat.le_add_right _ _ | refine Gr.setCell ?_ ?_ _ | refine Gr.alloc ?_ _ | refine Gr.drew ?_ | refine Gr.trans ?_ (by assumption) | omega | (dsimp only; omega))
                  all_goals (rw [← Hr.out]; (try simp only [*, if_true, Bool.false_eq_true, if_false]); (try rfl))
              · go_enter Tryd.func51, Tryd.ntmps51
                go_wp2_with (first | (go_at_call 36; ((with_reducible refine (rnull_any _).mono ?_)); rintro e w' ⟨rfl, hg⟩; have hc := hg.cells; have hf := hg.frees; have hz := hg.size; (try simp only [World.size_alloc, World.size_setCell, World.size_drew] at hz); (try have : w.heap.size < w'.heap.size := by omega); (try have : w.heap.size + 1 < w'.heap.size := by omega); (try have : w.heap.size + 1 + 1 < w'.heap.size := by omega); (try have : w.heap.size + 1 + 1 + 1 < w'.heap.size := by omega)) | (go_at_call 37; ((with_reducible refine (I1 _).mono ?_)); rintro e w' ⟨rfl, hg⟩; have hc := hg.cells; have hf := hg.frees; have hz := hg.size; (try simp only [World.size_alloc, World.size_setCell, World.size_drew] at hz); (try have : w.heap.size < w'.heap.size := by omega); (try have : w.heap.size + 1 < w'.heap.size := by omega); (try have : w.heap.size + 1 + 1 < w'.heap.size := by omega); (try have : w.heap.size + 1 + 1 + 1 < w'.heap.size := by omega)) | (go_at_call 37; ((with_reducible refine (I2 _).mono ?_)); rintro e w' ⟨rfl, hg⟩; have hc := hg.cells; have hf := hg.frees; have hz := hg.size; (try simp only [World.size_alloc, World.size_setCell, World.size_drew] at hz); (try have : w.heap.size < w'.heap.size := by omega); (try have : w.heap.size + 1 < w'.heap.size := by omega); (try have : w.heap.size + 1 + 1 < w'.heap.size := by omega); (try have : w.heap.size + 1 + 1 + 1 < w'.heap.size := by omega)) | (go_at_call 50; ((with_reducible refine (rtruth_any _ _).mono ?_)); rintro e w' ⟨rfl, hg⟩; have hc := hg.cells; have hf := hg.frees; have hz := hg.size; (try simp only [World.size_alloc, World.size_setCell, World.size_drew] at hz); (try have : w.heap.size < w'.heap.size := by omega); (try have : w.heap.size + 1 < w'.heap.size := by omega); (try have : w.heap.size + 1 + 1 < w'.heap.size := by omega); (try have : w.heap.size + 1 + 1 + 1 < w'.heap.size := by omega)))
                all_goals
                  (try (go_step3; (try simp only [Exit.then]); (try change Rg.once _ _ _ _ _ _); rw [Rg.once_goto]; go_wp2))
                  (try rw [Rg.once_ret])
                  (try rw [Exit.noGoto_ret])
                  (try change bodyPost _ _ _ _ _ _)
                  first
                  | (go_returns; refine ⟨?_, ?_⟩)
                  | (refine bodyPost_ret (by simp [results, Tryd.results51, go_sem, *]; try rfl) rfl ⟨?_, ?_⟩)
                  rotate_left
                  · repeat' (first | exact Gr.refl _ | exact Nat.le_refl _ | exact Nat.le_add_right _ _ | refine Gr.setCell ?_ ?_ _ | refine Gr.alloc ?_ _ | refine Gr.drew ?_ | refine Gr.trans ?_ (by assumption) | omega | (dsimp only; omega))
                all_goals (rw [← Hr.out]; (try simp only [*, if_true, Bool.false_eq_true, if_false]); (try rfl))
          · have h5 : c5 = false := by simpa using h1
            subst h5
            cases c4
            · cases c1
              · cases c2
                all_goals
                  go_enter Tryd.func51, Tryd.ntmps51
                  go_wp2_with (first | (go_at_call 36; ((with_reducible refine (rnull_any _).mono ?_)); rintro e w' ⟨rfl, hg⟩; have hc := hg.cells; have hf := hg.frees; have hz := hg.size; (try simp only [World.size_alloc, World.size_setCell, World.size_drew] at hz); (try have : w.heap.size < w'.heap.size := by omega); (try have : w.heap.size + 1 < w'.heap.size := by omega); (try have : w.heap.size + 1 + 1 < w'.heap.size := by omega); (try have : w.heap.size + 1 + 1 + 1 < w'.heap.size := by omega)) | (go_at_call 37; ((with_reducible refine (I1 _).mono ?_)); rintro e w' ⟨rfl, hg⟩; have hc := hg.cells; have hf := hg.frees; have hz := hg.size; (try simp only [World.size_alloc, World.size_setCell, World.size_drew] at hz); (try have : w.heap.size < w'.heap.size := by omega); (try have : w.heap.size + 1 < w'.heap.size := by omega); (try have : w.heap.size + 1 + 1 < w'.heap.size := by omega); (try have : w.heap.size + 1 + 1 + 1 < w'.heap.size := by omega)) | (go_at_call 37; ((with_reducible refine (I2 _).mono ?_)); rintro e w' ⟨rfl, hg⟩; have hc := hg.cells; have hf := hg.frees; have hz := hg.size; (try simp only [World.size_alloc, World.size_setCell, World.size_drew] at hz); (try have : w.heap.size < w'.heap.size := by omega); (try have : w.heap.size + 1 < w'.heap.size := by omega); (try have : w.heap.size + 1 + 1 < w'.heap.size := by omega); (try have : w.heap.size + 1 + 1 + 1 < w'.heap.size := by omega)) | (go_at_call 50; ((with_reducible refine (rtruth_any _ _).mono ?_)); rintro e w' ⟨rfl, hg⟩; have hc := hg.cells; have hf := hg.frees; have hz := hg.size; (try simp only [World.size_alloc, World.size_setCell, World.size_drew] at hz); (try have : w.heap.size < w'.heap.size := by omega); (try have : w.heap.size + 1 < w'.heap.size := by omega); (try have : w.heap.size + 1 + 1 < w'.heap.size := by omega); (try have : w.heap.size + 1 + 1 + 1 < w'.heap.size := by omega)))
                  all_goals
                    (try (go_step3; (try simp only [Exit.then]); (try change Rg.once _ _ _ _ _ _); rw [Rg.once_goto]; go_wp2))
                    (try rw [Rg.once_ret])
                    (try rw [Exit.noGoto_ret])
                    (try change bodyPost _ _ _ _ _ _)
                    first
                    | (go_returns; refine ⟨?_, ?_⟩)
                    | (refine bodyPost_ret (by simp [results, Tryd.results51, go_sem, *]; try rfl) rfl ⟨?_, ?_⟩)
                    rotate_left
                    · repeat' (first | exact Gr.refl _ | exact Nat.le_refl _ | exact Nat.le_add_right _ _ | refine Gr.setCell ?_ ?_ _ | refine Gr.alloc ?_ _ | refine Gr.drew ?_ | refine Gr.trans ?_ (by assumption) | omega | (dsimp only; omega))
                  all_goals (rw [← Hr.out]; (try simp only [*, if_true, Bool.false_eq_true, if_false]); (try rfl))
              · go_enter Tryd.func51, Tryd.ntmps51
                go_wp2_with (first | (go_at_call 36; ((with_reducible refine (rnull_any _).mono ?_)); rintro e w' ⟨rfl, hg⟩; have hc := hg.cells; have hf := hg.frees; have hz := hg.size; (try simp only [World.size_alloc, World.size_setCell, World.size_drew] at hz); (try have : w.heap.size < w'.heap.size := by omega); (try have : w.heap.size + 1 < w'.heap.size := by omega); (try have : w.heap.size + 1 + 1 < w'.heap.size := by omega); (try have : w.heap.size + 1 + 1 + 1 < w'.heap.size := by omega)) | (go_at_call 37; ((with_reducible refine (I1 _).mono ?_)); rintro e w' ⟨rfl, hg⟩; have hc := hg.cells; have hf := hg.frees; have hz := hg.size; (try simp only [World.size_alloc, World.size_setCell, World.size_drew] at hz); (try have : w.heap.size < w'.heap.size := by omega); (try have : w.heap.size + 1 < w'.heap.size := by omega); (try have : w.heap.size + 1 + 1 < w'.heap.size := by omega); (try have : w.heap.size + 1 + 1 + 1 < w'.heap.size := by omega)) | (go_at_call 37; ((with_reducible refine (I2 _).mono ?_)); rintro e w' ⟨rfl, hg⟩; have hc := hg.cells; have hf := hg.frees; have hz := hg.size; (try simp only [World.size_alloc, World.size_setCell, World.size_drew] at hz); (try have : w.heap.size < w'.heap.size := by omega); (try have : w.heap.size + 1 < w'.heap.size := by omega); (try have : w.heap.size + 1 + 1 < w'.heap.size := by omega); (try have : w.heap.size + 1 + 1 + 1 < w'.heap.size := by omega)) | (go_at_call 50; ((with_reducible refine (rtruth_any _ _).mono ?_)); rintro e w' ⟨rfl, hg⟩; have hc := hg.cells; have hf := hg.frees; have hz := hg.size; (try simp only [World.size_alloc, World.size_setCell, World.size_drew] at hz); (try have : w.heap.size < w'.heap.size := by omega); (try have : w.heap.size + 1 < w'.heap.size := by omega); (try have : w.heap.size + 1 + 1 < w'.heap.size := by omega); (try have : w.heap.size + 1 + 1 + 1 < w'.heap.size := by omega)))
                all_goals
                  (try (go_step3; (try simp only [Exit.then]); (try change Rg.once _ _ _ _ _ _); rw [Rg.once_goto]; go_wp2))
                  (try rw [Rg.once_ret])
                  (try rw [Exit.noGoto_ret])
                  (try change bodyPost _ _ _ _ _ _)
                  first
                  | (go_returns; refine ⟨?_, ?_⟩)
                  | (refine bodyPost_ret (by simp [results, Tryd.results51, go_sem, *]; try rfl) rfl ⟨?_, ?_⟩)
                  rotate_left
                  · repeat' (first | exact Gr.refl _ | exact Nat.le_refl _ | exact Nat.le_add_right _ _ | refine Gr.setCell ?_ ?_ _ | refine Gr.alloc ?_ _ | refine Gr.drew ?_ | refine Gr.trans ?_ (by assumption) | omega | (dsimp only; omega))
                all_goals (rw [← Hr.out]; (try simp only [*, if_true, Bool.false_eq_true, if_false]); (try rfl))
            · have h6 : c6 = false := by simpa using h2
              subst h6
              cases c1
              · cases c2
                all_goals
                  go_enter Tryd.func51, Tryd.ntmps51
                  go_wp2_with (first | (go_at_call 36; ((with_reducible refine (rnull_any _).mono ?_)); rintro e w' ⟨rfl, hg⟩; have hc := hg.cells; have hf := hg.frees; have hz := hg.size; (try simp only [World.size_alloc, World.size_setCell, World.size_drew] at hz); (try have : w.heap.size < w'.heap.size := by omega); (try have : w.heap.size + 1 < w'.heap.size := by omega); (try have : w.heap.size + 1 + 1 < w'.heap.size := by omega); (try have : w.heap.size + 1 + 1 + 1 < w'.heap.size := by omega)) | (go_at_call 37; ((with_reducible refine (I1 _).mono ?_)); rintro e w' ⟨rfl, hg⟩; have hc := hg.cells; have hf := hg.frees; have hz := hg.size; (try simp only [World.size_alloc, World.size_setCell, World.size_drew] at hz); (try have : w.heap.size < w'.heap.size := by omega); (try have : w.heap.size + 1 < w'.heap.size := by omega); (try have : w.heap.size + 1 + 1 < w'.heap.size := by omega); (try have : w.heap.size + 1 + 1 + 1 < w'.heap.size := by omega)) | (go_at_call 37; ((with_reducible refine (I2 _).mono ?_)); rintro e w' ⟨rfl, hg⟩; have hc := hg.cells; have hf := hg.frees; have hz := hg.size; (try simp only [World.size_alloc, World.size_setCell, World.size_drew] at hz); (try have : w.heap.size < w'.heap.size := by omega); (try have : w.heap.size + 1 < w'.heap.size := by omega); (try have : w.heap.size + 1 + 1 < w'.heap.size := by omega); (try have : w.heap.size + 1 + 1 + 1 < w'.heap.size := by omega)) | (go_at_call 50; ((with_reducible refine (rtruth_any _ _).mono ?_)); rintro e w' ⟨rfl, hg⟩; have hc := hg.cells; have hf := hg.frees; have hz := hg.size; (try simp only [World.size_alloc, World.size_setCell, World.size_drew] at hz); (try have : w.heap.size < w'.heap.size := by omega); (try have : w.heap.size + 1 < w'.heap.size := by omega); (try have : w.heap.size + 1 + 1 < w'.heap.size := by omega); (try have : w.heap.size + 1 + 1 + 1 < w'.heap.size := by omega)))
                  all_goals
                    (try (go_step3; (try simp only [Exit.then]); (try change Rg.once _ _ _ _ _ _); rw [Rg.once_goto]; go_wp2))
                    (try rw [Rg.once_ret])
                    (try rw [Exit.noGoto_ret])
                    (try change bodyPost _ _ _ _ _ _)
                    first
                    | (go_returns; refine ⟨?_, ?_⟩)
                    | (refine bodyPost_ret (by simp [results, Tryd.results51, go_sem, *]; try rfl) rfl ⟨?_, ?_⟩)
                    rotate_left
                    · repeat' (first | exact Gr.refl _ | exact Nat.le_refl _ | exact Nat.le_add_right _ _ | refine Gr.setCell ?_ ?_ _ | refine Gr.alloc ?_ _ | refine Gr.drew ?_ | refine Gr.trans ?_ (by assumption) | omega | (dsimp only; omega))
                  all_goals (rw [← Hr.out]; (try simp only [*, if_true, Bool.false_eq_true, if_false]); (try rfl))
              · go_enter Tryd.func51, Tryd.ntmps51
                go_wp2_with (first | (go_at_call 36; ((with_reducible refine (rnull_any _).mono ?_)); rintro e w' ⟨rfl, hg⟩; have hc := hg.cells; have hf := hg.frees; have hz := hg.size; (try simp only [World.size_alloc, World.size_setCell, World.size_drew] at hz); (try have : w.heap.size < w'.heap.size := by omega); (try have : w.heap.size + 1 < w'.heap.size := by omega); (try have : w.heap.size + 1 + 1 < w'.heap.size := by omega); (try have : w.heap.size + 1 + 1 + 1 < w'.heap.size := by omega)) | (go_at_call 37; ((with_reducible refine (I1 _).mono ?_)); rintro e w' ⟨rfl, hg⟩; have hc := hg.cells; have hf := hg.frees; have hz := hg.size; (try simp only [World.size_alloc, World.size_setCell, World.size_drew] at hz); (try have : w.heap.size < w'.heap.size := by omega); (try have : w.heap.size + 1 < w'.heap.size := by omega); (try have : w.heap.size + 1 + 1 < w'.heap.size := by omega); (try have : w.heap.size + 1 + 1 + 1 < w'.heap.size := by omega)) | (go_at_call 37; ((with_reducible refine (I2 _).mono ?_)); rintro e w' ⟨rfl, hg⟩; have hc := hg.cells; have hf := hg.frees; have hz := hg.size; (try simp only [World.size_alloc, World.size_setCell, World.size_drew] at hz); (try have : w.heap.size < w'.heap.size := by omega); (try have : w.heap.size + 1 < w'.heap.size := by omega); (try have : w.heap.size + 1 + 1 < w'.heap.size := by omega); (try have : w.heap.size + 1 + 1 + 1 < w'.heap.size := by omega)) | (go_at_call 50; ((with_reducible refine (rtruth_any _ _).mono ?_)); rintro e w' ⟨rfl, hg⟩; have hc := hg.cells; have hf := hg.frees; have hz := hg.size; (try simp only [World.size_alloc, World.size_setCell, World.size_drew] at hz); (try have : w.heap.size < w'.heap.size := by omega); (try have : w.heap.size + 1 < w'.heap.size := by omega); (try have : w.heap.size + 1 + 1 < w'.heap.size := by omega); (try have : w.heap.size + 1 + 1 + 1 < w'.heap.size := by omega)))
                all_goals
                  (try (go_step3; (try simp only [Exit.then]); (try change Rg.once _ _ _ _ _ _); rw [Rg.once_goto]; go_wp2))
                  (try rw [Rg.once_ret])
                  (try rw [Exit.noGoto_ret])
                  (try change bodyPost _ _ _ _ _ _)
                  first
                  | (go_returns; refine ⟨?_, ?_⟩)
                  | (refine bodyPost_ret (by simp [results, Tryd.results51, go_sem, *]; try rfl) rfl ⟨?_, ?_⟩)
                  rotate_left
                  · repeat' (first | exact Gr.refl _ | exact Nat.le_refl _ | exact Nat.le_add_right _ _ | refine Gr.setCell ?_ ?_ _ | refine Gr.alloc ?_ _ | refine Gr.drew ?_ | refine Gr.trans ?_ (by assumption) | omega | (dsimp only; omega))
                all_goals (rw [← Hr.out]; (try simp only [*, if_true, Bool.false_eq_true, if_false]); (try rfl))
        · simp only [Bool.and_eq_true] at h2
          obtain ⟨rfl, rfl⟩ := h2
          cases c3
          · go_enter Tryd.func51, Tryd.ntmps51
            go_wp2_with (first | (go_at_call 36; ((with_reducible refine (rnull_any _).mono ?_)); rintro e w' ⟨rfl, hg⟩; have hc := hg.cells; have hf := hg.frees; have hz := hg.size; (try simp only [World.size_alloc, World.size_setCell, World.size_drew] at hz); (try have : w.heap.size < w'.heap.size := by omega); (try have : w.heap.size + 1 < w'.heap.size := by omega); (try have : w.heap.size + 1 + 1 < w'.heap.size := by omega); (try have : w.heap.size + 1 + 1 + 1 < w'.heap.size := by omega)) | (go_at_call 37; ((with_reducible refine (I1 _).mono ?_)); rintro e w' ⟨rfl, hg⟩; have hc := hg.cells; have hf := hg.frees; have hz := hg.size; (try simp only [World.size_alloc, World.size_setCell, World.size_drew] at hz); (try have : w.heap.size < w'.heap.size := by omega); (try have : w.heap.size + 1 < w'.heap.size := by omega); (try have : w.heap.size + 1 + 1 < w'.heap.size := by omega); (try have : w.heap.size + 1 + 1 + 1 < w'.heap.size := by omega)) | (go_at_call 37; ((with_reducible refine (I2 _).mono ?_)); rintro e w' ⟨rfl, hg⟩; have hc := hg.cells; have hf := hg.frees; have hz := hg.size; (try simp only [World.size_alloc, World.size_setCell, World.size_drew] at hz); (try have : w.heap.size < w'.heap.size := by omega); (try have : w.heap.size + 1 < w'.heap.size := by omega); (try have : w.heap.size + 1 + 1 < w'.heap.size := by omega); (try have : w.heap.size + 1 + 1 + 1 < w'.heap.size := by omega)) | (go_at_call 50; ((with_reducible refine (rtruth_any _ _).mono ?_)); rintro e w' ⟨rfl, hg⟩; have hc := hg.cells; have hf := hg.frees; have hz := hg.size; (try simp only [World.size_alloc, World.size_setCell, World.size_drew] at hz); (try have : w.heap.size < w'.heap.size := by omega); (try have : w.heap.size + 1 < w'.heap.size := by omega); (try have : w.heap.size + 1 + 1 < w'.heap.size := by omega); (try have : w.heap.size + 1 + 1 + 1 < w'.heap.size := by omega)))
            all_goals
              (try (go_step3; (try simp only [Exit.then]); (try change Rg.once _ _ _ _ _ _); rw [Rg.once_goto]; go_wp2))
              (try rw [Rg.once_ret])
              (try rw [Exit.noGoto_ret])
              (try change bodyPost _ _ _ _ _ _)
              first
              | (go_returns; refine ⟨?_, ?_⟩)
              | (refine bodyPost_ret (by simp [results, Tryd.results51, go_sem, *]; try rfl) rfl ⟨?_, ?_⟩)
              rotate_left
              · repeat' (first | exact Gr.refl _ | exact Nat.le_refl _ | exact Nat.le_add_right _ _ | refine Gr.setCell ?_ ?_ _ | refine Gr.alloc ?_ _ | refine Gr.drew ?_ | refine Gr.trans ?_ (by assumption) | omega | (dsimp only; omega))
            all_goals (rw [← Hr.out]; (try simp only [*, if_true, Bool.false_eq_true, if_false]); (try rfl))
          · have h5 : c5 = false := by simpa using h1
            subst h5
            go_enter Tryd.func51, Tryd.ntmps51
            go_wp2_with (first | (go_at_call 36; ((with_reducible refine (rnull_any _).mono ?_)); rintro e w' ⟨rfl, hg⟩; have hc := hg.cells; have hf := hg.frees; have hz := hg.size; (try simp only [World.size_alloc, World.size_setCell, World.size_drew] at hz); (try have : w.heap.size < w'.heap.size := by omega); (try have : w.heap.size + 1 < w'.heap.size := by omega); (try have : w.heap.size + 1 + 1 < w'.heap.size := by omega); (try have : w.heap.size + 1 + 1 + 1 < w'.heap.size := by omega)) | (go_at_call 37; ((with_reducible refine (I1 _).mono ?_)); rintro e w' ⟨rfl, hg⟩; have hc := hg.cells; have hf := hg.frees; have hz := hg.size; (try simp only [World.size_alloc, World.size_setCell, World.size_drew] at hz); (try have : w.heap.size < w'.heap.size := by omega); (try have : w.heap.size + 1 < w'.heap.size := by omega); (try have : w.heap.size + 1 + 1 < w'.heap.size := by omega); (try have : w.heap.size + 1 + 1 + 1 < w'.heap.size := by omega)) | (go_at_call 37; ((with_reducible refine (I2 _).mono ?_)); rintro e w' ⟨rfl, hg⟩; have hc := hg.cells; have hf := hg.frees; have hz := hg.size; (try simp only [World.size_alloc, World.size_setCell, World.size_drew] at hz); (try have : w.heap.size < w'.heap.size := by omega); (try have : w.heap.size + 1 < w'.heap.size := by omega); (try have : w.heap.size + 1 + 1 < w'.heap.size := by omega); (try have : w.heap.size + 1 + 1 + 1 < w'.heap.size := by omega)) | (go_at_call 50; ((with_reducible refine (rtruth_any _ _).mono ?_)); rintro e w' ⟨rfl, hg⟩; have hc := hg.cells; have hf := hg.frees; have hz := hg.size; (try simp only [World.size_alloc, World.size_setCell, World.size_drew] at hz); (try have : w.heap.size < w'.heap.size := by omega); (try have : w.heap.size + 1 < w'.heap.size := by omega); (try have : w.heap.size + 1 + 1 < w'.heap.size := by omega); (try have : w.heap.size + 1 + 1 + 1 < w'.heap.size := by omega)))
            all_goals
              (try (go_step3; (try simp only [Exit.then]); (try change Rg.once _ _ _ _ _ _); rw [Rg.once_goto]; go_wp2))
              (try rw [Rg.once_ret])
              (try rw [Exit.noGoto_ret])
              (try change bodyPost _ _ _ _ _ _)
              first
              | (go_returns; refine ⟨?_, ?_⟩)
              | (refine bodyPost_ret (by simp [results, Tryd.results51, go_sem, *]; try rfl) rfl ⟨?_, ?_⟩)
              rotate_left
              · repeat' (first | exact Gr.refl _ | exact Nat.le_refl _ | exact Nat.le_add_right _ _ | refine Gr.setCell ?_ ?_ _ | refine Gr.alloc ?_ _ | refine Gr.drew ?_ | refine Gr.trans ?_ (by assumption) | omega | (dsimp only; omega))
            all_goals (rw [← Hr.out]; (try simp only [*, if_true, Bool.false_eq_true, if_false]); (try rfl))
      exact second _ rfl
    · simp only [Bool.and_eq_true] at h1
      obtain ⟨rfl, rfl⟩ := h1
      have Hr := F0.out true (by simp)
      clear F0
      go_enter Tryd.func51, Tryd.ntmps51
      go_wp2_with (first | (go_at_call 36; ((with_reducible refine (rnull_any _).mono ?_)); rintro e w' ⟨rfl, hg⟩; have hc := hg.cells; have hf := hg.frees; have hz := hg.size; (try simp only [World.size_alloc, World.size_setCell, World.size_drew] at hz); (try have : w.heap.size < w'.heap.size := by omega); (try have : w.heap.size + 1 < w'.heap.size := by omega); (try have : w.heap.size + 1 + 1 < w'.heap.size := by omega); (try have : w.heap.size + 1 + 1 + 1 < w'.heap.size := by omega)) | (go_at_call 37; ((with_reducible refine (I1 _).mono ?_)); rintro e w' ⟨rfl, hg⟩; have hc := hg.cells; have hf := hg.frees; have hz := hg.size; (try simp only [World.size_alloc, World.size_setCell, World.size_drew] at hz); (try have : w.heap.size < w'.heap.size := by omega); (try have : w.heap.size + 1 < w'.heap.size := by omega); (try have : w.heap.size + 1 + 1 < w'.heap.size := by omega); (try have : w.heap.size + 1 + 1 + 1 < w'.heap.size := by omega)) | (go_at_call 37; ((with_reducible refine (I2 _).mono ?_)); rintro e w' ⟨rfl, hg⟩; have hc := hg.cells; have hf := hg.frees; have hz := hg.size; (try simp only [World.size_alloc, World.size_setCell, World.size_drew] at hz); (try have : w.heap.size < w'.heap.size := by omega); (try have : w.heap.size + 1 < w'.heap.size := by omega); (try have : w.heap.size + 1 + 1 < w'.heap.size := by omega); (try have : w.heap.size + 1 + 1 + 1 < w'.heap.size := by omega)) | (go_at_call 50; ((with_reducible refine (rtruth_any _ _).mono ?_)); rintro e w' ⟨rfl, hg⟩; have hc := hg.cells; have hf := hg.frees; have hz := hg.size; (try simp only [World.size_alloc, World.size_setCell, World.size_drew] at hz); (try have : w.heap.size < w'.heap.size := by omega); (try have : w.heap.size + 1 < w'.heap.size := by omega); (try have : w.heap.size + 1 + 1 < w'.heap.size := by omega); (try have : w.heap.size + 1 + 1 + 1 < w'.heap.size := by omega)))
      all_goals
        (try (go_step3; (try simp only [Exit.then]); (try change Rg.once _ _ _ _ _ _); rw [Rg.once_goto]; go_wp2))
        (try rw [Rg.once_ret])
        (try rw [Exit.noGoto_ret])
        (try change bodyPost _ _ _ _ _ _)
        first
        | (go_returns; refine ⟨?_, ?_⟩)
        | (refine bodyPost_ret (by simp [results, Tryd.results51, go_sem, *]; try rfl) rfl ⟨?_, ?_⟩)
        rotate_left
        · repeat' (first | exact Gr.refl _ | exact Nat.le_refl _ | exact Nat.le_add_right _ _ | refine Gr.setCell ?_ ?_ _ | refine Gr.alloc ?_ _ | refine Gr.drew ?_ | refine Gr.trans ?_ (by assumption) | omega | (dsimp only; omega))
      all_goals (rw [← Hr.out]; (try simp only [*, if_true, Bool.false_eq_true, if_false]); (try rfl))
  exact main _ rfl
def rnotR (a : V) : V × Int := if isB a 3 then (if a.t == 0 then (nul, 0) else (boolV (!a.b), 0)) else (nul, 160)
theorem not_same (a : V) : notR a = rnotR a := by
  unfold notR rnotR isB
  cases (a.t == 0) <;> cases (a.t == 3) <;> rfl
set_option maxHeartbeats 1000000 in
set_option maxRecDepth 100000 in
theorem rnot_any (a : V) (w : World) : Calls Tryd.prog 31 #[a.val] w fun e w' => e = pairR (notR a) ∧ Gr w w' := by
  have I1 := fun W => ris_any a 3 W
  rw [not_same]
  obtain ⟨t, n, s, b⟩ := a
  generalize hr : pairR (rnotR ⟨t, n, s, b⟩) = R
  unfold rnotR at hr
  simp only at I1 hr
  generalize isB ⟨t, n, s, b⟩ 3 = i1 at *
  have Hr := hid hr
  clear hr
  unfold V.val
  cases i1
  all_goals
    go_enter Tryd.func31, Tryd.ntmps31
    go_wp2_with (first | (go_at_call 36; ((with_reducible refine (rnull_any _).mono ?_)); rintro e w' ⟨rfl, hg⟩; have hc := hg.cells; have hf := hg.frees; have hz := hg.size; (try simp only [World.size_alloc, World.size_setCell, World.size_drew] at hz); (try have : w.heap.size < w'.heap.size := by omega); (try have : w.heap.size + 1 < w'.heap.size := by omega); (try have : w.heap.size + 1 + 1 < w'.heap.size := by omega); (try have : w.heap.size + 1 + 1 + 1 < w'.heap.size := by omega)) | (go_at_call 37; ((with_reducible refine (I1 _).mono ?_)); rintro e w' ⟨rfl, hg⟩; have hc := hg.cells; have hf := hg.frees; have hz := hg.size; (try simp only [World.size_alloc, World.size_setCell, World.size_drew] at hz); (try have : w.heap.size < w'.heap.size := by omega); (try have : w.heap.size + 1 < w'.heap.size := by omega); (try have : w.heap.size + 1 + 1 < w'.heap.size := by omega); (try have : w.heap.size + 1 + 1 + 1 < w'.heap.size := by omega)) | (go_at_call 50; ((with_reducible refine (rtruth_any _ _).mono ?_)); rintro e w' ⟨rfl, hg⟩; have hc := hg.cells; have hf := hg.frees; have hz := hg.size; (try simp only [World.size_alloc, World.size_setCell, World.size_drew] at hz); (try have : w.heap.size < w'.heap.size := by omega); (try have : w.heap.size + 1 < w'.heap.size := by omega); (try have : w.heap.size + 1 + 1 < w'.heap.size := by omega); (try have : w.heap.size + 1 + 1 + 1 < w'.heap.size := by omega)))
    all_goals
      (try (go_step3; (try simp only [Exit.then]); (try change Rg.once _ _ _ _ _ _); rw [Rg.once_goto]; go_wp2))
      (try rw [Rg.once_ret])
      (try rw [Exit.noGoto_ret])
      (try change bodyPost _ _ _ _ _ _)
      first
      | (go_returns; refine ⟨?_, ?_⟩)
      | (refine bodyPost_ret (by simp [results, Tryd.results31, go_sem, *]; try rfl) rfl ⟨?_, ?_⟩)
      rotate_left
      · repeat' (first | exact Gr.refl _ | exact Nat.le_refl _ | exact Nat.le_add_right _ _ | refine Gr.setCell ?_ ?_ _ | refine Gr.alloc ?_ _ | refine Gr.drew ?_ | refine Gr.trans ?_ (by assumption) | omega | (dsimp only; omega))
    all_goals (rw [← Hr.out]; (try simp only [*, if_true, Bool.false_eq_true, if_false]); (try rfl))
set_option maxHeartbeats 1000000 in
set_option maxRecDepth 100000 in
theorem rand_any (a b : V) (w : World) : Calls Tryd.prog 29 #[a.val, b.val] w fun e w' => e = pairR (andR a b) ∧ Gr w w' := by
  have S := fun W => either_any a b false W
  unfold andR
  rw [either_same]
  generalize eitherR a b false = R at *
  obtain ⟨t, n, s, b'⟩ := a
  obtain ⟨t2, n2, s2, b2'⟩ := b
  obtain ⟨⟨rt, rn, rs, rb⟩, re⟩ := R
  unfold V.val at *
  unfold pairR at *
  go_enter Tryd.func29, Tryd.ntmps29
  go_wp2_with (first | (go_at_call 51; ((with_reducible refine (S _).mono ?_)); rintro e w' ⟨rfl, hg⟩; have hc := hg.cells; have hf := hg.frees; have hz := hg.size; (try simp only [World.size_alloc, World.size_setCell, World.size_drew] at hz); (try have : w.heap.size < w'.heap.size := by omega); (try have : w.heap.size + 1 < w'.heap.size := by omega); (try have : w.heap.size + 1 + 1 < w'.heap.size := by omega); (try have : w.heap.size + 1 + 1 + 1 < w'.heap.size := by omega)))
  all_goals
    (try (go_step3; (try simp only [Exit.then]); (try change Rg.once _ _ _ _ _ _); rw [Rg.once_goto]; go_wp2))
    (try rw [Rg.once_ret])
    (try rw [Exit.noGoto_ret])
    (try change bodyPost _ _ _ _ _ _)
    first
    | (go_returns; refine ⟨?_, ?_⟩)
    | (refine bodyPost_ret (by simp [results, Tryd.results29, go_sem, *]; try rfl) rfl ⟨?_, ?_⟩)
    rotate_left
    · repeat' (first | exact Gr.refl _ | exact Nat.le_refl _ | exact Nat.le_add_right _ _ | refine Gr.setCell ?_ ?_ _ | refine Gr.alloc ?_ _ | refine Gr.drew ?_ | refine Gr.trans ?_ (by assumption) | omega | (dsimp only; omega))
  all_goals rfl
set_option maxHeartbeats 1000000 in
set_option maxRecDepth 100000 in
theorem ror_any (a b : V) (w : World) : Calls Tryd.prog 30 #[a.val, b.val] w fun e w' => e = pairR (orR a b) ∧ Gr w w' := by
  have S := fun W => either_any a b true W
  unfold orR
  rw [either_same]
  generalize eitherR a b true = R at *
  obtain ⟨t, n, s, b'⟩ := a
  obtain ⟨t2, n2, s2, b2'⟩ := b
  obtain ⟨⟨rt, rn, rs, rb⟩, re⟩ := R
  unfold V.val at *
  unfold pairR at *
  go_enter Tryd.func30, Tryd.ntmps30
  go_wp2_with (first | (go_at_call 51; ((with_reducible refine (S _).mono ?_)); rintro e w' ⟨rfl, hg⟩; have hc := hg.cells; have hf := hg.frees; have hz := hg.size; (try simp only [World.size_alloc, World.size_setCell, World.size_drew] at hz); (try have : w.heap.size < w'.heap.size := by omega); (try have : w.heap.size + 1 < w'.heap.size := by omega); (try have : w.heap.size + 1 + 1 < w'.heap.size := by omega); (try have : w.heap.size + 1 + 1 + 1 < w'.heap.size := by omega)))
  all_goals
    (try (go_step3; (try simp only [Exit.then]); (try change Rg.once _ _ _ _ _ _); rw [Rg.once_goto]; go_wp2))
    (try rw [Rg.once_ret])
    (try rw [Exit.noGoto_ret])
    (try change bodyPost _ _ _ _ _ _)
    first
    | (go_returns; refine ⟨?_, ?_⟩)
    | (refine bodyPost_ret (by simp [results, Tryd.results30, go_sem, *]; try rfl) rfl ⟨?_, ?_⟩)
    rotate_left
    · repeat' (first | exact Gr.refl _ | exact Nat.le_refl _ | exact Nat.le_add_right _ _ | refine Gr.setCell ?_ ?_ _ | refine Gr.alloc ?_ _ | refine Gr.drew ?_ | refine Gr.trans ?_ (by assumption) | omega | (dsimp only; omega))
  all_goals rfl
end Go.Proofs.YtefdkpfndjlpgaaDoor
