/- plan: what the laws ask of the best plan, plain. -/
import Derived.Test.YtemhfaknmagebaaCo
namespace Go.Proofs.Ytemhfaknmagebaa
open Go.RowKit
set_option linter.unusedSimpArgs false
set_option linter.unusedVariables false
def q0 : Pr := ⟨0, 0, -1, 0⟩
def q1 : Pr := ⟨0, 0, 1, 0⟩
theorem probe_one (rows d : Int) : probeL rows 0 [(0, d)] = some (cdiv (max rows 0) (max d 1)) := by simp [probeL]
theorem bnd_le9 (x : Int) : bnd x ≤ 9007199254740992 := by unfold bnd; omega
theorem add0 (p : Int × Int) (c d : Nat) (r : Int) (hc : c ≤ 9007199254740992) (hd : d ≤ 9007199254740992) : (addR st0 p c d r).l = [p] ∧ (addR st0 p c d r).a = c ∧ (addR st0 p c d r).b = d := by
  refine ⟨rfl, ?_, ?_⟩ <;> simp [addR, st0] <;> omega
theorem best_one (t : Tb) (r : Int) (h : probeL t.rows 0 t.ix = some r) : bestR aheadR [t] [q0] =
    if lessB (bnd (2 + min r 1099511627776)) (bnd r) (bnd t.pages) (bnd t.rows) = true then addR st0 (0, 0) (bnd (2 + min r 1099511627776)) (bnd r) r else addR st0 (0, -1) (bnd t.pages) (bnd t.rows) t.rows := by
  have e1 : withR st0 (0, -1) [t] [q0] = some (addR st0 (0, -1) (bnd t.pages) (bnd t.rows) t.rows) := by
    simp [withR, withIn, st0, hasP]
  have e2 : withR st0 (0, 0) [t] [q0] = some (addR st0 (0, 0) (bnd (2 + min r 1099511627776)) (bnd r) r) := by
    simp [withR, withIn, st0, hasP, q0, h]
  have ew : waysR [t] [q0] st0 0 = [addR st0 (0, -1) (bnd t.pages) (bnd t.rows) t.rows, addR st0 (0, 0) (bnd (2 + min r 1099511627776)) (bnd r) r] := by
    unfold waysR probesR
    rw [e1]
    simp only [q0, if_true]
    rw [show ((0, ((0 : Nat) : Int)) : Int × Int) = (0, 0) from rfl]
    rw [show ({ t := 0, c := 0, f := -1, g := 0 } : Pr) = q0 from rfl, e2]
    simp [probesR]
  obtain ⟨l1, a1, b1⟩ := add0 (0, -1) (bnd t.pages) (bnd t.rows) t.rows (bnd_le9 _) (bnd_le9 _)
  obtain ⟨l2, a2, b2⟩ := add0 (0, 0) (bnd (2 + min r 1099511627776)) (bnd r) r (bnd_le9 _) (bnd_le9 _)
  unfold bestR
  simp only [List.length_cons, List.length_nil, Nat.zero_add]
  unfold walkR
  have h0 : hasP ((0 : Nat) : Int) st0.l = false := rfl
  simp only [List.range_succ, List.range_zero, List.nil_append, List.foldl_cons, List.foldl_nil, List.length_cons, List.length_nil]
  rw [h0]
  rw [show ((0 : Nat) : Int) = 0 from rfl, ew]
  simp only [List.foldl_cons, List.foldl_nil]
  generalize addR st0 (0, -1) (bnd t.pages) (bnd t.rows) t.rows = y0 at *
  generalize addR st0 (0, 0) (bnd (2 + min r 1099511627776)) (bnd r) r = y1 at *
  rw [← a1, ← b1, ← a2, ← b2]
  have f1 : walkR aheadR [t] [q0] 0 y0 none0 = y0 := by
    unfold walkR
    simp [none0, l1, winsR]
  have f2 : walkR aheadR [t] [q0] 0 y1 y0 = if lessB y1.a y1.b y0.a y0.b = true then y1 else y0 := by
    have eah : aheadR [(0, 0)] [(0, -1)] = false := by decide
    unfold walkR
    simp only [l1, l2, winsR, lessS, List.length_cons, List.length_nil, List.isEmpty_cons, Bool.not_false, Bool.true_and, Bool.false_or, eah, Bool.and_false, Bool.or_false, Nat.zero_add, if_true]
    by_cases hl : lessB y1.a y1.b y0.a y0.b = true
    · rw [if_pos hl]
      have : ¬ lessB y0.a y0.b y1.a y1.b = true := by
        unfold lessB at *; simp at *; omega
      rw [if_neg this]
    · rw [if_neg hl]
      split <;> rfl
  rw [f1, f2]
  simp [none0, st0]
theorem cost_a (t u : Tb) (r : Int) (h : probeL t.rows 0 t.ix = some r) : ∃ s, runR [t, u] [q1] st0 [(1, -1), (0, 0)] = some s := by
  have e1 : withR st0 (1, -1) [t, u] [q1] = some (addR st0 (1, -1) (bnd u.pages) (bnd u.rows) u.rows) := by
    simp [withR, withIn, st0, hasP]
  have e2 : withR (addR st0 (1, -1) (bnd u.pages) (bnd u.rows) u.rows) (0, 0) [t, u] [q1] = some (addR (addR st0 (1, -1) (bnd u.pages) (bnd u.rows) u.rows) (0, 0) (bnd (2 + min r 1099511627776)) (bnd r) r) := by
    simp [withR, withIn, addR, st0, hasP, q1, h]
  unfold runR
  rw [e1]
  simp only
  unfold runR
  rw [e2]
  exact ⟨_, rfl⟩
theorem cost_b (t u : Tb) : ∃ s, runR [t, u] [] st0 [(0, -1), (1, -1)] = some s := by
  have e1 : withR st0 (0, -1) [t, u] [] = some (addR st0 (0, -1) (bnd t.pages) (bnd t.rows) t.rows) := by
    simp [withR, withIn, st0, hasP]
  have e2 : withR (addR st0 (0, -1) (bnd t.pages) (bnd t.rows) t.rows) (1, -1) [t, u] [] = some (addR (addR st0 (0, -1) (bnd t.pages) (bnd t.rows) t.rows) (1, -1) (bnd u.pages) (bnd u.rows) u.rows) := by
    simp [withR, withIn, addR, st0, hasP]
  unfold runR
  rw [e1]
  simp only
  unfold runR
  rw [e2]
  exact ⟨_, rfl⟩
theorem cost_z (t u : Tb) : runR [t, u] [q1] st0 [(0, 0), (1, -1)] = none := by
  have e1 : withR st0 (0, 0) [t, u] [q1] = none := by
    simp [withR, withIn, st0, hasP, q1]
  unfold runR
  rw [e1]
theorem best_sm {stats : List Tb} {preds : List Pr} (h : 1 ≤ stats.length) : Sm (bestR aheadR stats preds) := by
  obtain ⟨_, h2, _⟩ := best_spec (ah := aheadR) (preds := preds) h
  exact (run_sm ⟨by simp [st0], by simp [st0]⟩ h2).1
theorem run0_sm {stats : List Tb} {preds : List Pr} {l : List (Int × Int)} {s : St} (h : runR stats preds st0 l = some s) : Sm s := (run_sm ⟨by simp [st0], by simp [st0]⟩ h).1
/-- no plan costs less, whatever preds are left out -/
theorem best_least {stats : List Tb} {preds e : List Pr} {l : List (Int × Int)} {s : St} (hn : 1 ≤ stats.length) (h : runR stats preds st0 l = some s) (hl : l.length = stats.length) : lessB s.a s.b (bestR aheadR stats (preds ++ e)).a (bestR aheadR stats (preds ++ e)).b = false :=
  (best_spec (ah := aheadR) hn).2.2 l s (run_more e h) hl
end Go.Proofs.Ytemhfaknmagebaa
