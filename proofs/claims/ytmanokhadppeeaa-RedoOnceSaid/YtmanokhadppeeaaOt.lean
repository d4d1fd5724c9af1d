/- redo: the plain law of RedoOnce: the commits counted. -/
import Derived.Test.YtmanokhadppeeaaOs
namespace Go.Proofs.Ytmanokhadppeeaa
open Go.RowKit
set_option linter.unusedSimpArgs false
set_option linter.unusedVariables false
theorem n_step {P : List Ln} {a : An} {x : Ln} (h : a.n = (cmtC P : Int)) (hP : P.length ≤ 1000) (g : GL x) : (stepA a x).n = (cmtC (P ++ [x]) : Int) := by
  have hcl : cmtC P ≤ 1000 := Nat.le_trans (List.length_filter_le _ _) hP
  have hs : cmtC (P ++ [x]) = cmtC P + if x.kind = 4 then 1 else 0 := by
    unfold cmtC
    rw [List.filter_append, List.length_append]
    by_cases e : x.kind = 4
    · simp [e]
    · simp [e]
  unfold stepA
  rw [if_neg g.k7]
  simp only
  rw [hs]
  by_cases e : x.kind = 4
  · rw [if_pos e, if_pos e, h]
    simp only [wrap64]
    omega
  · rw [if_neg e, if_neg e, h]
    omega
theorem n_fold : ∀ (R P : List Ln) (a : An), a.n = (cmtC P : Int) → (P ++ R).length ≤ 1000 → (∀ x ∈ R, GL x) → (R.foldl stepA a).n = (cmtC (P ++ R) : Int)
  | [], P, a, h, _, _ => by rw [List.append_nil]; exact h
  | x :: r, P, a, h, hl, hg => by
    have := n_fold r (P ++ [x]) (stepA a x) (n_step h (by simp at hl; omega) (hg x (by simp))) (by simpa using hl) (fun y hy => hg y (by simp [hy]))
    rw [List.append_assoc] at this
    exact this
theorem n_all {L : List Ln} (hl : L.length ≤ 1000) (hg : ∀ x ∈ L, GL x) : (anR L).n = (cmtC L : Int) := n_fold L [] an0 rfl hl hg
end Go.Proofs.Ytmanokhadppeeaa
