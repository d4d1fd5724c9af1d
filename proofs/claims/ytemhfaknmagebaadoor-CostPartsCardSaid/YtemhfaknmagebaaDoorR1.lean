/- the reference: bound, Of, Scan, Make, Less, times, Loop, told. -/
import Derived.Test.YtemhfaknmagebaaDoorT2
import Derived.Test.YtemhfaknmagebaaDoorAw
import Derived.Laws.StructEq
namespace Go.Proofs.YtemhfaknmagebaaDoor
open Go.RowKit
set_option linter.unusedSimpArgs false
set_option linter.unusedVariables false
attribute [local go_sem] Rg.once_normal Rg.once_exit Rg.once_ret Rg.once_panic Rg.once_goto Rg.leads_value Rg.leads_skip Rg.leads_enter Rg.brings_value Rg.brings_skip Rg.brings_enter
theorem bnd_int (x : Int) : min (max x 0) 1099511627776 = (bnd x : Int) := by unfold bnd; omega
theorem bound_any (n : Int) (w : World) : Calls Tryd.prog 25 #[.int .i64 n] w fun e w' => e = .returned (.int .i64 (bnd n)) ∧ w = w' := by
  have e1 : ∀ x : Int, (if x < 0 then 0 else x) = max x 0 := fun x => by omega
  have e2 : ∀ x : Int, (if 1099511627776 < x then 1099511627776 else x) = min x 1099511627776 := fun x => by omega
  have e3 := bnd_int
  go_enter Tryd.func25, Tryd.ntmps25
  go_wp2
  go_ret
  exact ⟨rfl, rfl⟩
theorem rof_any (p r : Int) (w : World) : Calls Tryd.prog 15 #[.int .i64 p, .int .i64 r] w fun e w' => e = .returned (.agg #[.int .i64 (bnd p), .int .i64 (bnd r)]) ∧ Gr w w' := by
  have B := fun n W => bound_any n W
  go_enter Tryd.func15, Tryd.ntmps15
  go_wp2_with (first | (go_at_call 25; ((with_reducible refine (B _ _).mono ?_)); rintro e w' ⟨rfl, rfl⟩))
  all_goals
    (try (go_step3; (try simp only [Exit.then]); (try change Rg.once _ _ _ _ _ _); rw [Rg.once_goto]; go_wp2))
    (try rw [Rg.once_ret])
    (try rw [Exit.noGoto_ret])
    (try change bodyPost _ _ _ _ _ _)
    first
    | (go_returns; refine ⟨?_, ?_⟩)
    | (refine bodyPost_ret (by simp [results, Tryd.results15, go_sem, *]; try rfl) rfl ⟨?_, ?_⟩)
    rotate_left
    · repeat' (first | exact Gr.refl _ | exact Nat.le_refl _ | exact Nat.le_add_right _ _ | refine Gr.setCell ?_ ?_ _ | refine Gr.alloc ?_ _ | refine Gr.drew ?_ | refine Gr.trans ?_ (by assumption) | omega | (dsimp only; omega))
  rfl
theorem scan_any (rows pages : Int) (sl : Value) (w : World) : Calls Tryd.prog 16 #[.agg #[.int .i64 rows, .int .i64 pages, sl]] w fun e w' => e = .returned (.complex .f64 (Fl.fw (bnd pages)) (Fl.fw (bnd rows))) ∧ Gr w w' := by
  have B := fun p r W => of_any p r W
  go_enter Tryd.func16, Tryd.ntmps16
  go_wp2_with (first | (go_at_call 9; ((with_reducible refine (B _ _ _).mono ?_)); rintro e w' ⟨rfl, rfl⟩))
  all_goals
    (try (go_step3; (try simp only [Exit.then]); (try change Rg.once _ _ _ _ _ _); rw [Rg.once_goto]; go_wp2))
    (try rw [Rg.once_ret])
    (try rw [Exit.noGoto_ret])
    (try change bodyPost _ _ _ _ _ _)
    first
    | (go_returns; refine ⟨?_, ?_⟩)
    | (refine bodyPost_ret (by simp [results, Tryd.results16, go_sem, *]; try rfl) rfl ⟨?_, ?_⟩)
    rotate_left
    · repeat' (first | exact Gr.refl _ | exact Nat.le_refl _ | exact Nat.le_add_right _ _ | refine Gr.setCell ?_ ?_ _ | refine Gr.alloc ?_ _ | refine Gr.drew ?_ | refine Gr.trans ?_ (by assumption) | omega | (dsimp only; omega))
  rfl
theorem rscan_any (rows pages : Int) (sl : Value) (w : World) : Calls Tryd.prog 17 #[.agg #[.int .i64 rows, .int .i64 pages, sl]] w fun e w' => e = .returned (.agg #[.int .i64 (bnd pages), .int .i64 (bnd rows)]) ∧ Gr w w' := by
  have B := fun p r W => rof_any p r W
  go_enter Tryd.func17, Tryd.ntmps17
  go_wp2_with (first | (go_at_call 15; ((with_reducible refine (B _ _ _).mono ?_)); rintro e w' ⟨rfl, hg⟩; have hc := hg.cells; have hf := hg.frees; have hz := hg.size; (try simp only [World.size_alloc, World.size_setCell, World.size_drew] at hz); (try have : 0 < w'.heap.size := by omega); (try have : w.heap.size < w'.heap.size := by omega); (try have : w.heap.size + 1 < w'.heap.size := by omega); (try have : w.heap.size + 1 + 1 < w'.heap.size := by omega); (try have : w.heap.size + 1 + 1 + 1 < w'.heap.size := by omega)))
  all_goals
    (try (go_step3; (try simp only [Exit.then]); (try change Rg.once _ _ _ _ _ _); rw [Rg.once_goto]; go_wp2))
    (try rw [Rg.once_ret])
    (try rw [Exit.noGoto_ret])
    (try change bodyPost _ _ _ _ _ _)
    first
    | (go_returns; refine ⟨?_, ?_⟩)
    | (refine bodyPost_ret (by simp [results, Tryd.results17, go_sem, *]; try rfl) rfl ⟨?_, ?_⟩)
    rotate_left
    · repeat' (first | exact Gr.refl _ | exact Nat.le_refl _ | exact Nat.le_add_right _ _ | refine Gr.setCell ?_ ?_ _ | refine Gr.alloc ?_ _ | refine Gr.drew ?_ | refine Gr.trans ?_ (by assumption) | omega | (dsimp only; omega))
  rfl
theorem make_any (a b : Nat) (w : World) : Calls Tryd.prog 18 #[.agg #[.int .i64 a, .int .i64 b]] w fun e w' => e = .returned (.complex .f64 (Fl.fw a) (Fl.fw b)) ∧ Gr w w' := by
  have f1 := fw_int a
  have f2 := fw_int b
  go_enter Tryd.func18, Tryd.ntmps18
  go_wp2
  all_goals
    (try (go_step3; (try simp only [Exit.then]); (try change Rg.once _ _ _ _ _ _); rw [Rg.once_goto]; go_wp2))
    (try rw [Rg.once_ret])
    (try rw [Exit.noGoto_ret])
    (try change bodyPost _ _ _ _ _ _)
    first
    | (go_returns; refine ⟨?_, ?_⟩)
    | (refine bodyPost_ret (by simp [results, Tryd.results18, go_sem, *]; try rfl) rfl ⟨?_, ?_⟩)
    rotate_left
    · repeat' (first | exact Gr.refl _ | exact Nat.le_refl _ | exact Nat.le_add_right _ _ | refine Gr.setCell ?_ ?_ _ | refine Gr.alloc ?_ _ | refine Gr.drew ?_ | refine Gr.trans ?_ (by assumption) | omega | (dsimp only; omega))
  rfl
theorem rless_any (a b c d : Nat) (w : World) : Calls Tryd.prog 20 #[.agg #[.int .i64 a, .int .i64 b], .agg #[.int .i64 c, .int .i64 d]] w fun e w' => e = .returned (.bool (lessB a b c d)) ∧ Gr w w' := by
  obtain ⟨t1, h1⟩ : ∃ t, decide (a < c) = t := ⟨_, rfl⟩
  obtain ⟨t2, h2⟩ : ∃ t, decide (a = c) = t := ⟨_, rfl⟩
  obtain ⟨t3, h3⟩ : ∃ t, decide (b < d) = t := ⟨_, rfl⟩
  have hR : lessB a b c d = (t1 || (t2 && t3)) := by unfold lessB; rw [h1, h2, h3]
  rw [hR]
  have q1 : decide ((a : Int) < c) = t1 := by rw [← h1]; simp
  have q2 : ((a : Int) == c) = t2 := by rw [← h2, Bool.eq_iff_iff]; simp; omega
  have q3 : decide ((b : Int) < d) = t3 := by rw [← h3]; simp
  clear hR
  generalize (a : Int) = ia at *
  generalize (b : Int) = ib at *
  generalize (c : Int) = ic at *
  generalize (d : Int) = id at *
  clear h1 h2 h3
  cases t1 <;> cases t2 <;> cases t3
  all_goals
    go_enter Tryd.func20, Tryd.ntmps20
    go_wp2
    all_goals
      (try (go_step3; (try simp only [Exit.then]); (try change Rg.once _ _ _ _ _ _); rw [Rg.once_goto]; go_wp2))
      (try rw [Rg.once_ret])
      (try rw [Exit.noGoto_ret])
      (try change bodyPost _ _ _ _ _ _)
      first
      | (go_returns; refine ⟨?_, ?_⟩)
      | (refine bodyPost_ret (by simp [results, Tryd.results20, go_sem, *]; try rfl) rfl ⟨?_, ?_⟩)
      rotate_left
      · repeat' (first | exact Gr.refl _ | exact Nat.le_refl _ | exact Nat.le_add_right _ _ | refine Gr.setCell ?_ ?_ _ | refine Gr.alloc ?_ _ | refine Gr.drew ?_ | refine Gr.trans ?_ (by assumption) | omega | (dsimp only; omega))
    rfl
set_option maxHeartbeats 1000000 in
theorem times_any (a n b : Nat) (w : World) (ha : a ≤ 9007199254740992) (hn : n ≤ 9223372036854775807) (hb : b ≤ 9007199254740992) :
    Calls Tryd.prog 26 #[.int .i64 a, .int .i64 n, .int .i64 b] w fun e w' => e = .returned (.int .i64 (min (a + n * b) 9007199254740992 : Nat)) ∧ w = w' := by
  obtain ⟨R, hR⟩ : ∃ R, R = min (a + n * b) 9007199254740992 := ⟨_, rfl⟩
  rw [← hR]
  by_cases h0 : n = 0
  · subst h0
    obtain rfl : R = a := by rw [hR]; omega
    clear hR
    go_enter Tryd.func26, Tryd.ntmps26
    go_wp2
    go_ret
    exact ⟨rfl, rfl⟩
  by_cases h1 : b = 0
  · subst h1
    obtain rfl : R = a := by rw [hR]; omega
    have t1 : decide ((0 : Int) < n) = true := by simp; omega
    clear hR
    go_enter Tryd.func26, Tryd.ntmps26
    go_wp2
    go_ret
    exact ⟨rfl, rfl⟩
  have t1 : decide ((0 : Int) < n) = true := by simp; omega
  have t2 : decide ((0 : Int) < b) = true := by simp; omega
  have hq : ((9007199254740992 : Int) - a) / n = (((9007199254740992 - a) / n : Nat) : Int) := by
    rw [Int.natCast_ediv, Int.ofNat_sub ha]; rfl
  have hdm := Nat.div_add_mod (9007199254740992 - a) n
  have hml := Nat.mod_lt (9007199254740992 - a) (show 0 < n by omega)
  by_cases h2 : (9007199254740992 - a) / n < b
  · have t3 : decide (((9007199254740992 : Int) - a) / n < b) = true := by rw [hq]; simp; omega
    have hge : n * ((9007199254740992 - a) / n + 1) ≤ n * b := Nat.mul_le_mul_left _ h2
    rw [Nat.mul_add, Nat.mul_one] at hge
    obtain rfl : R = 9007199254740992 := by rw [hR]; omega
    have hn0 : ¬ ((n : Int) = 0) := by omega
    clear hR hge hdm hml hq h2
    go_enter Tryd.func26, Tryd.ntmps26
    go_wp2
    go_ret
    exact ⟨rfl, rfl⟩
  · have t3 : decide (((9007199254740992 : Int) - a) / n < b) = false := by rw [hq]; simp; omega
    have hle : n * b ≤ n * ((9007199254740992 - a) / n) := Nat.mul_le_mul_left _ (by omega)
    have hR' : R = a + n * b := by rw [hR]; omega
    have hm1 : ((n : Int) * b) = ((n * b : Nat) : Int) := by rw [Int.natCast_mul]
    have hbd : n * b ≤ 9007199254740992 := by omega
    have hn0 : ¬ ((n : Int) = 0) := by omega
    generalize n * b = nb at *
    clear hR hle hdm hml hq h2
    subst hR'
    have w1 : wrap64 (nb : Int) = nb := by unfold wrap64; omega
    have w2 : wrap64 ((a : Int) + nb) = ((a + nb : Nat) : Int) := by unfold wrap64; omega
    go_enter Tryd.func26, Tryd.ntmps26
    go_wp2
    go_ret
    exact ⟨rfl, rfl⟩
set_option maxHeartbeats 2000000 in
set_option maxRecDepth 100000 in
theorem rloop_any (a b c d : Nat) (rows : Int) (w : World) (ha : a ≤ 9007199254740992) (hb : b ≤ 9007199254740992) (hc : c ≤ 9007199254740992) (hd : d ≤ 9007199254740992) (hr : rows ≤ 9223372036854775807) :
    Calls Tryd.prog 19 #[.agg #[.int .i64 a, .int .i64 b], .int .i64 rows, .agg #[.int .i64 c, .int .i64 d]] w fun e w' =>
      e = .returned (.agg #[.int .i64 (min (a + rows.toNat * c) 9007199254740992 : Nat), .int .i64 (min (b + rows.toNat * d) 9007199254740992 : Nat)]) ∧ Gr w w' := by
  have e1 : max 0 rows = (rows.toNat : Int) := by omega
  have T1 : ∀ W, Calls Tryd.prog 26 #[.int .i64 a, .int .i64 rows.toNat, .int .i64 c] W fun e w' => e = .returned (.int .i64 (min (a + rows.toNat * c) 9007199254740992 : Nat)) ∧ Gr W w' := fun W => (times_any a rows.toNat c W ha (by omega) hc).mono fun e w' ⟨h, h'⟩ => ⟨h, h' ▸ Gr.refl _⟩
  have T2 : ∀ W, Calls Tryd.prog 26 #[.int .i64 b, .int .i64 rows.toNat, .int .i64 d] W fun e w' => e = .returned (.int .i64 (min (b + rows.toNat * d) 9007199254740992 : Nat)) ∧ Gr W w' := fun W => (times_any b rows.toNat d W hb (by omega) hd).mono fun e w' ⟨h, h'⟩ => ⟨h, h' ▸ Gr.refl _⟩
  generalize min (a + rows.toNat * c) 9007199254740992 = x at *
  generalize min (b + rows.toNat * d) 9007199254740992 = y at *
  generalize rows.toNat = n at *
  clear ha hb hc hd hr
  go_enter Tryd.func19, Tryd.ntmps19
  go_wp2_with fail
  refine Rg.region_text 13 (Below.drew (Below.refl _ _)) (by kernel_rfl) (by kernel_rfl) (fun _ _ d _ _ h => by cases d <;> exact h) ?_
  simp only [List.append_eq, List.cons_append, List.nil_append, List.take_succ_cons, List.take_zero, List.drop_succ_cons, List.drop_zero]
  repeat (first
      | (refine Rg.wpDets_skip (by rfl) ?_; simp only [Act.put, List.setIfInBounds_toArray, List.set_cons_zero, List.set_cons_succ])
      | (refine Rg.wpDets_step ?_ (by rfl) (fun w hS => ?_) ?_
         rotate_left
         · have hc := Gr.cells hS
           have hf := Gr.frees hS
           go_simp
           first
           | (refine ⟨?_, Below.refl _ _⟩; with_reducible rfl)
           | ((with_reducible refine (T1 _).mono ?_); rintro e w' ⟨rfl, hg⟩; refine ⟨?_, hg⟩; with_reducible rfl)
           | ((with_reducible refine (T2 _).mono ?_); rintro e w' ⟨rfl, hg⟩; refine ⟨?_, hg⟩; with_reducible rfl)
         simp only [Act.put, List.setIfInBounds_toArray, List.set_cons_zero, List.set_cons_succ]))
  refine Rg.wpDets_nil ?_
  refine Rg.wpFlts_nil ?_
  refine Rg.wpLays_nil ?_
  intro w' hK
  have hg : Gr _ w' := hK.up
  have hc := hg.cells
  have hf := hg.frees
  have hz := hg.size
  try simp only [World.size_alloc, World.size_setCell, World.size_drew] at hz
  try have : 0 < w'.heap.size := by omega
  try have : w.heap.size < w'.heap.size := by omega
  try have : w.heap.size + 1 < w'.heap.size := by omega
  try have : w.heap.size + 1 + 1 < w'.heap.size := by omega
  try have : w.heap.size + 1 + 1 + 1 < w'.heap.size := by omega
  go_wp2
  all_goals
    (try (go_step3; (try simp only [Exit.then]); (try change Rg.once _ _ _ _ _ _); rw [Rg.once_goto]; go_wp2))
    (try rw [Rg.once_ret])
    (try rw [Exit.noGoto_ret])
    (try change bodyPost _ _ _ _ _ _)
    first
    | (go_returns; refine ⟨?_, ?_⟩)
    | (refine bodyPost_ret (by simp [results, Tryd.results19, go_sem, *]; try rfl) rfl ⟨?_, ?_⟩)
    rotate_left
    · repeat' (first | exact Gr.refl _ | exact Nat.le_refl _ | exact Nat.le_add_right _ _ | refine Gr.setCell ?_ ?_ _ | refine Gr.alloc ?_ _ | refine Gr.drew ?_ | refine Gr.trans ?_ (by assumption) | omega | (dsimp only; omega))
  rfl
theorem c_struct : Tryd.prog.underlying 38 = some (.struct (Tryd.prog.fieldsOf 38)) := by kernel_rfl
theorem c_plain : Tryd.prog.stoodInHeld 38 = false := by kernel_rfl
theorem c_guard : Tryd.prog.eqGuardType Tryd.prog.depth 38 = false := by kernel_rfl
theorem c_same (x0 x1 : Int) (W : World) : (Op.equalIn 10000 38 (.agg #[.int .i64 x0, .int .i64 x1]) (.agg #[.int .i64 x0, .int .i64 x1])).run Tryd.prog W = .ok true W := by
  rw [run_equalIn_agg W 9999 38 _ _ c_struct c_plain]
  go_simp
set_option maxHeartbeats 2000000 in
set_option maxRecDepth 100000 in
theorem told_any (a b : Nat) (ha : a ≤ 9007199254740992) (hb : b ≤ 9007199254740992) (w : World) : Calls Tryd.prog 14 #[.complex .f64 (Fl.fw a) (Fl.fw b), .agg #[.int .i64 a, .int .i64 b]] w fun e w' => e = .returned (.bool true) ∧ Gr w w' := by
  have T := fun W => to_any (Fl.fw a) (Fl.fw b) W
  obtain ⟨p1, p2, p3⟩ := whole_fw a ha
  obtain ⟨q1, q2, q3⟩ := whole_fw b hb
  simp only [toV, p1, p2, p3, q1, q2, q3, Bool.and_self, if_true] at T
  have cg := c_guard
  have cs := c_same a b
  generalize Fl.fw a = fa at *
  generalize Fl.fw b = fb at *
  generalize (a : Int) = ia at *
  generalize (b : Int) = ib at *
  clear p1 p2 p3 q1 q2 q3
  go_enter Tryd.func14, Tryd.ntmps14
  go_wp2_with (first | (go_at_call 22; ((with_reducible refine (T _).mono ?_)); rintro e w' ⟨rfl, hg⟩; have hc := hg.cells; have hf := hg.frees; have hz := hg.size; (try simp only [World.size_alloc, World.size_setCell, World.size_drew] at hz); (try have : 0 < w'.heap.size := by omega); (try have : w.heap.size < w'.heap.size := by omega); (try have : w.heap.size + 1 < w'.heap.size := by omega); (try have : w.heap.size + 1 + 1 < w'.heap.size := by omega); (try have : w.heap.size + 1 + 1 + 1 < w'.heap.size := by omega)))
  all_goals
    (try (go_step3; (try simp only [Exit.then]); (try change Rg.once _ _ _ _ _ _); rw [Rg.once_goto]; go_wp2))
    (try rw [Rg.once_ret])
    (try rw [Exit.noGoto_ret])
    (try change bodyPost _ _ _ _ _ _)
    first
    | (go_returns; refine ⟨?_, ?_⟩)
    | (refine bodyPost_ret (by simp [results, Tryd.results14, go_sem, *]; try rfl) rfl ⟨?_, ?_⟩)
    rotate_left
    · repeat' (first | exact Gr.refl _ | exact Nat.le_refl _ | exact Nat.le_add_right _ _ | refine Gr.setCell ?_ ?_ _ | refine Gr.alloc ?_ _ | refine Gr.drew ?_ | refine Gr.trans ?_ (by assumption) | omega | (dsimp only; omega))
  rfl
end Go.Proofs.YtemhfaknmagebaaDoor
